/-
  The reference's purse: Do, whatever is asked.
-/
import Derived.Test.YtddnpjlcmokbiaaZRTabA
import Derived.Test.YtddnpjlcmokbiaaRPurB4
import Derived.Test.YtddnpjlcmokbiaaRPurB7
namespace Go.Proofs.Ytddnpjlcmokbiaa
open Go.RowKit Go.Maps
variable {R : QEnv}

set_option maxRecDepth 100000 in
set_option maxHeartbeats 1000000 in
theorem rq_do_no {w : World} {x : Nat} {lv : Value} {p : Pur} (h : QAt R w x lv p) (o : POp) (hno : mayOp o = false ∨ o.kd < 4) :
    Calls Try.prog 10 #[.pointer (some ⟨x, 0, none⟩), o.val] w fun e w' => e = .returned (.int .i64 2) ∧ QAt R w' x lv p ∧ Chg (fun _ => False) w w' := by
  have hcA := (Chg.refl (fun _ => False) w).alloc (.cells o.row 33)
  have hO := Blk.new w 33 o.row
  unfold POp.row at hcA
  have hnh := Lib.hid hno
  obtain ⟨kd, bk, un, cu, am⟩ := o
  clear hno
  go_enter Try.func10, Try.ntmps10
  unfold POp.val
  go_wp2_with fail
  refine (mayRef_any ⟨kd, bk, un, cu, am⟩ _).mono ?_
  rintro e w1 ⟨rfl, hc1⟩
  have hO1 := hO.chg hc1 id
  have c0 : w1.cell? ⟨w.heap.size, 0, none⟩ = some (.int .i64 kd) := by rw [hO1.cell]; rfl
  have hck := hcA.trans hc1 (fun _ _ h => h)
  cases hm : mayOp ⟨kd, bk, un, cu, am⟩ with
  | false =>
    go_wp2_with fail
    go_ret
    exact ⟨rfl, h.chg hck id (fun _ _ => id), hck⟩
  | true =>
    have h4 : kd < 4 := by
      rcases hnh.out with h | h
      · rw [hm] at h; cases h
      · exact h
    go_wp2_with fail
    go_ret
    exact ⟨rfl, h.chg hck id (fun _ _ => id), hck⟩

theorem Pur.act_low {p : Pur} {o : POp} (h : mayOp o = false ∨ o.kd < 4) : p.act o = (2, p) := by
  unfold Pur.act
  by_cases hm : mayOp o = false
  · rw [if_pos hm]
  · rw [if_neg hm]
    have h4 : o.kd < 4 := by
      rcases h with h | h
      · exact absurd h hm
      · exact h
    dsimp only
    rw [if_neg (by omega), if_neg (by omega), if_neg (by omega), if_neg (by omega), if_neg (by omega), if_neg (by omega), if_neg (by omega)]

theorem rq_do {w : World} {x : Nat} {lv : Value} {p : Pur} {T : Int} (h : QAt R w x lv p) (hG : p.Good T) (hT : T ≤ 1125899906842624) (hlen : p.ln.length ≤ 1000000) (o : POp) :
    Calls Try.prog 10 #[.pointer (some ⟨x, 0, none⟩), o.val] w fun e w' => e = .returned (.int .i64 (p.act o).1) ∧ ∃ lv', QAt R w' x lv' (p.act o).2 ∧ Chg (fun i => i = x ∨ lv.ownBlock = some i) w w' ∧ (lv'.ownBlock = lv.ownBlock ∨ ∃ k, lv'.ownBlock = some k ∧ w.heap.size ≤ k) := by
  by_cases hno : mayOp o = false ∨ o.kd < 4
  · rw [Pur.act_low hno]
    refine (rq_do_no h o hno).mono ?_
    rintro e w' ⟨rfl, h1, h2⟩
    exact ⟨rfl, lv, h1, h2.mono (fun _ _ h => h.elim), .inl rfl⟩
  · have hm : mayOp o = true := by cases e : mayOp o <;> simp_all
    have hk := mayOp_kd hm
    have hk : o.kd = 4 ∨ o.kd = 5 ∨ o.kd = 6 := by omega
    rcases hk with hk | hk | hk <;> rcases hG.sts o.bk with s | s | s | s
    · by_cases hlt : p.ac o.cu < o.am
      · exact rq_do_40a h hG hT hlen o hm hk s hlt
      · exact rq_do_40b h hG hT hlen o hm hk s hlt
    · exact rq_do_43 h hG hT hlen o hm hk s
    · exact rq_do_44 h hG hT hlen o hm hk s
    · exact rq_do_45 h hG hT hlen o hm hk s
    · exact rq_do_50 h hG hT hlen o hm hk s
    · exact rq_do_53 h hG hT hlen o hm hk s
    · exact rq_do_54 h hG hT hlen o hm hk s
    · exact rq_do_55 h hG hT hlen o hm hk s
    · exact rq_do_60 h hG hT hlen o hm hk s
    · exact rq_do_63 h hG hT hlen o hm hk s
    · exact rq_do_64 h hG hT hlen o hm hk s
    · exact rq_do_65 h hG hT hlen o hm hk s
end Go.Proofs.Ytddnpjlcmokbiaa
