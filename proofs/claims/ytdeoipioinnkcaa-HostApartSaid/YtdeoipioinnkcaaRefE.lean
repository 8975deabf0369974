/-
  layer 9: the reference's Do, whatever is asked.
-/
import Derived.Test.YtdeoipioinnkcaaRefC
import Derived.Test.YtdeoipioinnkcaaRefD
namespace Go.Proofs.Ytdeoipioinnkcaa
open Go.RowKit Go.Maps
variable {R : REnv}

theorem ref_do {w : World} {x : Nat} {s : Stk} (h : RefAt R w x s) (hG : s.Good) (o : POp) (now : Int) :
    Calls Try.prog 26 #[.pointer (some ⟨x, 0, none⟩), o.val, .int .i64 now] w fun e w' => e = .returned (.int .i64 (s.act o now).1) ∧ RefAt R w' x (s.act o now).2 ∧ Chg (fun i => i = x) w w' := by
  by_cases hno : mayOp o = false ∨ 3 < o.kd ∨ timeB now = false
  · have e : s.act o now = (2, s) := by
      unfold Stk.act
      by_cases hm : mayOp o = false ∨ now < 0 ∨ 1099511627776 < now
      · rw [if_pos hm]
      · rw [if_neg hm]
        have h3 : 3 < o.kd := by
          rcases hno with h | h | h
          · exact absurd (.inl h) hm
          · exact h
          · unfold timeB at h; simp at h; omega
        rw [if_neg (by omega), if_neg (by omega), if_neg (by omega)]
    rw [e]
    exact ref_do_no h o now hno
  · have hm : mayOp o = true := by cases e : mayOp o <;> simp_all
    have h3 : o.kd ≤ 3 := by omega
    have ht : timeB now = true := by cases e : timeB now <;> simp_all
    have ht2 : 0 ≤ now ∧ now ≤ 1099511627776 := by unfold timeB at ht; simpa using ht
    have hk1 : 1 ≤ o.kd := by
      have h := hm
      unfold mayOp at h
      simp at h
      omega
    have hst : (s.en o.bk).st = 0 ∨ (s.en o.bk).st = 1 ∨ (s.en o.bk).st = 2 ∨ (s.en o.bk).st = 3 := by
      rcases hG.sts o.bk with e | e | e | e
      · omega
      · rw [e]; decide
      · omega
      · omega
    by_cases k3 : o.kd = 3
    · exact ref_do_3 h hG o now hm h3 ht2.1 ht2.2 k3
    have hk : o.kd = 1 ∨ o.kd = 2 := by omega
    rcases hk with hk | hk <;> rcases hst with hst | hst | hst | hst
    · exact ref_do_10 h hG o now hm h3 ht2.1 ht2.2 ⟨hk, hst⟩
    · exact ref_do_11 h hG o now hm h3 ht2.1 ht2.2 ⟨hk, hst⟩
    · exact ref_do_12 h hG o now hm h3 ht2.1 ht2.2 ⟨hk, hst⟩
    · exact ref_do_g h hG o now hm h3 ht2.1 ht2.2 ⟨k3, hst⟩
    · exact ref_do_20 h hG o now hm h3 ht2.1 ht2.2 ⟨hk, hst⟩
    · exact ref_do_21 h hG o now hm h3 ht2.1 ht2.2 ⟨hk, hst⟩
    · exact ref_do_22 h hG o now hm h3 ht2.1 ht2.2 ⟨hk, hst⟩
    · exact ref_do_g h hG o now hm h3 ht2.1 ht2.2 ⟨k3, hst⟩
end Go.Proofs.Ytdeoipioinnkcaa
