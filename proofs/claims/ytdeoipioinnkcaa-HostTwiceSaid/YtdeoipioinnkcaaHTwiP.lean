/-
  layer 12: what comes again is answered as it was.
-/
import Derived.Test.YtdeoipioinnkcaaHostG
namespace Go.Proofs.Ytdeoipioinnkcaa
open Go.RowKit Go.Maps

/-- Times that may be. -/
def okT (t : Int) : Prop := 0 ≤ t ∧ t ≤ 1099511627776
theorem noT {o : POp} {t : Int} (ht : okT t) : (mayOp o = false ∨ 3 < o.kd ∨ t < 0 ∨ 1099511627776 < t) ↔ (mayOp o = false ∨ 3 < o.kd) := by
  unfold okT at ht
  constructor
  · rintro (h | h | h | h)
    · exact .inl h
    · exact .inr h
    · omega
    · omega
  · rintro (h | h)
    · exact .inl h
    · exact .inr (.inl h)
theorem hrep_self {s s' : Stk} {f f' : Tab} {o : POp} {r t t' : Int} {n : Bool} (ht : okT t) (ht' : okT t') (h : hAsk s f o t = (r, n, s', f')) : hAsk s' f' o t' = (r, false, s', f') := by
  by_cases hno : mayOp o = false ∨ 3 < o.kd
  · rw [hAsk_no ((noT ht).2 hno)] at h
    cases h
    exact hAsk_no ((noT ht').2 hno)
  · have hm : mayOp o = true := by
      cases hm : mayOp o with
      | true => rfl
      | false => exact absurd (.inl hm) hno
    have h3 : o.kd ≤ 3 := by omega
    by_cases hf : f (o.bk, o.kd) = 0
    · rw [hAsk_new hm h3 ht.1 ht.2 hf] at h
      cases h
      have hr := s.act_res2 o t
      have hu : upd f (o.bk, o.kd) (s.act o t).1 (o.bk, o.kd) = (s.act o t).1 := upd_same _ _ _
      rw [hAsk_old hm h3 ht'.1 ht'.2 (by rw [hu]; omega), hu]
    · rw [hAsk_old hm h3 ht.1 ht.2 hf] at h
      cases h
      exact hAsk_old hm h3 ht'.1 ht'.2 hf
theorem hrep_keep {s s' : Stk} {f f' : Tab} {o o' : POp} {r a t t' : Int} {n : Bool} (ht : okT t) (ht' : okT t') (h : hAsk s f o t = (r, n, s', f')) (h' : hAsk s f o' t' = (a, false, s, f)) : hAsk s' f' o' t' = (a, false, s', f') := by
  by_cases hno' : mayOp o' = false ∨ 3 < o'.kd
  · rw [hAsk_no ((noT ht').2 hno')] at h' ⊢
    cases h'
    rfl
  · have hm' : mayOp o' = true := by
      cases hm : mayOp o' with
      | true => rfl
      | false => exact absurd (.inl hm) hno'
    have h3' : o'.kd ≤ 3 := by omega
    by_cases hf' : f (o'.bk, o'.kd) = 0
    · rw [hAsk_new hm' h3' ht'.1 ht'.2 hf'] at h'
      cases h'
    · rw [hAsk_old hm' h3' ht'.1 ht'.2 hf'] at h'
      have ha : f (o'.bk, o'.kd) = a := by simpa using congrArg Prod.fst h'
      by_cases hno : mayOp o = false ∨ 3 < o.kd
      · rw [hAsk_no ((noT ht).2 hno)] at h
        cases h
        rw [hAsk_old hm' h3' ht'.1 ht'.2 hf', ha]
      · have hm : mayOp o = true := by
          cases hm : mayOp o with
          | true => rfl
          | false => exact absurd (.inl hm) hno
        have h3 : o.kd ≤ 3 := by omega
        by_cases hf : f (o.bk, o.kd) = 0
        · rw [hAsk_new hm h3 ht.1 ht.2 hf] at h
          cases h
          have hne : (o'.bk, o'.kd) ≠ (o.bk, o.kd) := fun e => hf' (by rw [e]; exact hf)
          have hu : upd f (o.bk, o.kd) (s.act o t).1 (o'.bk, o'.kd) = f (o'.bk, o'.kd) := upd_other _ _ _ _ hne
          rw [hAsk_old hm' h3' ht'.1 ht'.2 (by rw [hu]; exact hf'), hu, ha]
        · rw [hAsk_old hm h3 ht.1 ht.2 hf] at h
          cases h
          rw [hAsk_old hm' h3' ht'.1 ht'.2 hf', ha]
theorem hans_ask {s s' : Stk} {f f' : Tab} {o : POp} {r t : Int} {n : Bool} (h : hAsk s f o t = (r, n, s', f')) (hA : Ans f) : Ans f' := by
  unfold hAsk at h
  split at h
  · cases h; exact hA
  split at h
  · cases h; exact hA
  · cases h
    intro q
    unfold upd
    split
    · exact .inr (s.act_res2 o t)
    · exact hA q

theorem hostB_ne (s : Stk) (f : Tab) : hostB s f ≠ [] := by
  have := nb_ne s.cap
  unfold hostB Stk.bytes
  simp [this]
theorem host_bytesG {S : Nat → Prop} {w : World} {b : Nat} {s : Stk} {f : Tab} (hW : HostW S w b s f) (hG : s.Good) (hA : Ans f) :
    Calls Try.prog 12 #[.pointer (some ⟨b, 0, none⟩)] w fun e w' => ∃ g n cap, e = .returned (.slice (some ⟨g, 0, none⟩) n cap) ∧ g < w'.heap.size ∧
      (∀ w9 : World, w9.heap[g]? = w'.heap[g]? → (convert 55 9 (.slice (some ⟨g, 0, none⟩) n cap)).run Try.prog w9 = .ok (.string (bstr (hostB s f))) w9) ∧ Chg (fun _ => False) w w' := by
  refine (host_bytes hW hG hA).mono ?_
  rintro e w' ⟨v, rfl, hown, hc⟩
  obtain ⟨g, cap, rfl, _, hlt, hcell⟩ := bytes_cells hown (hostB_ne s f)
  refine ⟨g, _, cap, rfl, hlt, fun w9 h9 => bytes_str (fun j u hj => ?_), hc⟩
  have h1 := hcell j u hj
  have hb : ((⟨g, 0, none⟩ : Addr).add j).block = g := by unfold Addr.add; split <;> rfl
  exact (World.cell?_of_block (by rw [hb]; exact h9)).trans h1

set_option maxRecDepth 100000 in
theorem hask_nil (w : World) (o : POp) (t : Int) : Calls Try.prog 7 #[.pointer none, o.val, .int .i64 t] w fun e w' => e = .returned (.tuple #[.int .i64 2, .bool false]) ∧ Chg (fun _ => False) w w' := by
  go_enter Try.func7, Try.ntmps7
  unfold POp.val
  go_wp2_with fail
  go_ret2
  exact ⟨rfl, (((Chg.refl _ w).alloc _).alloc _).alloc _⟩
theorem hbytes_nil (w : World) : Calls Try.prog 12 #[.pointer none] w fun e w' => e = .returned (.slice none 0 0) ∧ w' = w := by
  go_enter Try.func12, Try.ntmps12
  go_wp2
  go_ret
  exact ⟨rfl, rfl⟩
theorem hanswers_nil (w : World) : Calls Try.prog 13 #[.pointer none] w fun e w' => e = .returned (.int .i64 0) ∧ w' = w := by
  go_enter Try.func13, Try.ntmps13
  go_wp2
  go_ret
  exact ⟨rfl, rfl⟩
theorem hsweep_nil (w : World) (t : Int) : Calls Try.prog 14 #[.pointer none, .int .i64 t] w fun e w' => e = .returned (.slice none 0 0) ∧ w' = w := by
  go_enter Try.func14, Try.ntmps14
  go_wp2
  go_ret
  exact ⟨rfl, rfl⟩
theorem hstock_nil (w : World) : Calls Try.prog 8 #[.pointer none] w fun e w' => e = .returned (.pointer none) ∧ w' = w := by
  go_enter Try.func8, Try.ntmps8
  go_wp2
  go_ret
  exact ⟨rfl, rfl⟩
end Go.Proofs.Ytdeoipioinnkcaa
