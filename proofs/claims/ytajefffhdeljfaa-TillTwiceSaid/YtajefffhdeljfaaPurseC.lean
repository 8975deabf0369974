/-
  purse: Do by its contract, all cases together.
-/
import Derived.Test.YtajefffhdeljfaaPurseC4a
import Derived.Test.YtajefffhdeljfaaPurseC4b
import Derived.Test.YtajefffhdeljfaaPurseC5
import Derived.Test.YtajefffhdeljfaaPurseC5x
import Derived.Test.YtajefffhdeljfaaPurseC6
import Derived.Test.YtajefffhdeljfaaPurseC6x
import Derived.Test.YtajefffhdeljfaaPurseCo
namespace Go.Proofs.Ytajefffhdeljfaa
open Go.RowKit Go.Maps

set_option maxRecDepth 100000 in
theorem do_no (w : World) (b mb : Nat) (lv : Value) (p : Pur) (o : POp) (hP : PurAt w b mb lv p) (hm : mayOp o = false) :
    Calls Try.prog 33 #[.pointer (some ⟨b, 0, none⟩), o.val] w fun e w' => e = .returned (.int .i64 (p.act o).1) ∧
      ∃ lv', PurAt w' b mb lv' (p.act o).2 ∧ Chg (fun i => i = b ∨ i = mb ∨ lv.ownBlock = some i) w w' ∧ (lv'.ownBlock = lv.ownBlock ∨ ∃ k, lv'.ownBlock = some k ∧ w.heap.size ≤ k) := by
  have hmh := Lib.hid hm
  go_enter Try.func33, Try.ntmps33
  unfold POp.val
  go_wp2_with (go_at_call 35; refine (mayOp_any o _).mono ?_; rintro e w' ⟨rfl, hw'⟩)
  have hc : Chg (fun _ => False) w w' := (((Chg.refl _ w).alloc _).alloc _).trans hw' (fun _ _ h => h.elim)
  go_ret
  have ha : p.act o = (2, p) := by unfold Pur.act; rw [if_pos hmh.out]
  rw [ha]
  exact ⟨rfl, lv, hP.chg hc id id (fun _ _ => id), hc.mono (fun _ _ h => h.elim), .inl rfl⟩

theorem do_any (w : World) (b mb : Nat) (lv : Value) (p : Pur) (o : POp) (T : Int) (hP : PurAt w b mb lv p) (hG : p.Good T) (hT : T ≤ 1125899906842624) (hlen : p.ln.length ≤ 1000000) :
    Calls Try.prog 33 #[.pointer (some ⟨b, 0, none⟩), o.val] w fun e w' => e = .returned (.int .i64 (p.act o).1) ∧
      ∃ lv', PurAt w' b mb lv' (p.act o).2 ∧ Chg (fun i => i = b ∨ i = mb ∨ lv.ownBlock = some i) w w' ∧ (lv'.ownBlock = lv.ownBlock ∨ ∃ k, lv'.ownBlock = some k ∧ w.heap.size ≤ k) := by
  rcases Bool.eq_false_or_eq_true (mayOp o) with hm | hm
  · have hk := mayOp_kd hm
    have hs := hG.sts o.bk
    have : o.kd = 1 ∨ o.kd = 2 ∨ o.kd = 3 ∨ o.kd = 4 ∨ o.kd = 5 ∨ o.kd = 6 := by omega
    rcases this with k | k | k | k | k | k
    · exact do_o1 w b mb lv p o T hP hG hT hlen k
    · exact do_o2 w b mb lv p o T hP hG hT hlen k
    · exact do_o3 w b mb lv p o T hP hG hT hlen k
    · by_cases s0 : (p.en o.bk).st = 0
      · exact do_4a w b mb lv p o T hP hG hT hlen k s0
      · exact do_4b w b mb lv p o T hP hG hT hlen k s0
    · rcases hs with s | s | s | s
      · exact do_5n0 w b mb lv p o T hP hG hT hlen k s
      · exact do_5n3 w b mb lv p o T hP hG hT hlen k s
      · exact do_5 w b mb lv p o T hP hG hT hlen k s
      · exact do_5n5 w b mb lv p o T hP hG hT hlen k s
    · rcases hs with s | s | s | s
      · exact do_6n0 w b mb lv p o T hP hG hT hlen k s
      · exact do_6n3 w b mb lv p o T hP hG hT hlen k s
      · exact do_6a w b mb lv p o T hP hG hT hlen k s
      · exact do_6b w b mb lv p o T hP hG hT hlen k s
  · exact do_no w b mb lv p o hP hm

end Go.Proofs.Ytajefffhdeljfaa
