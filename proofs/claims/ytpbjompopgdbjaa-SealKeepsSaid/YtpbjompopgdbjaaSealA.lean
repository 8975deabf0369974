/-
  the log: generation, aged, read by their contracts.
-/
import Derived.Test.YtpbjompopgdbjaaFrmR
import Derived.Test.YtpbjompopgdbjaaPackR
import Derived.Test.YtpbjompopgdbjaaPackD
import Derived.Lib.SliceRun
namespace Go.Proofs.Ytpbjompopgdbjaa
open Go.RowKit Go.Maps

theorem nb_small {v : Int} (h0 : 0 ≤ v) (h1 : v < 4611686018427387904) : okR (nb v) := by
  have := nb_len (v := v) (by omega)
  have h2 := List.length_pos_iff.2 (nb_ne v)
  exact ⟨h2, by omega⟩
theorem bytes_byt {w : World} {base : Nat} {v : Value} {xs : List UInt8} (h : w.ownsRow base 5 1 v xs.length (xs.map encB)) (hne : xs ≠ []) : ∃ ad cap, v = .slice ad xs.length cap ∧ BytIn w ad xs ∧ xs.length ≤ cap ∧ cap ≤ maxLen := by
  rcases h.2 with ⟨_, h0⟩ | ⟨g, cap, cur, rfl, hb, hh, hnc, hcm, _⟩
  · exact absurd (List.length_eq_zero_iff.1 h0) hne
  · obtain ⟨g', cap', e, _, hlt, hc⟩ := bytes_cells h hne
    cases e
    refine ⟨_, cap, rfl, fun j b hj => ⟨_, rfl, hlt, ?_⟩, hnc, hcm⟩
    refine hc j _ ?_
    rw [List.getElem?_map, hj]
    rfl

set_option maxRecDepth 100000 in
set_option maxHeartbeats 1000000 in
theorem gen_any (w : World) (v : Int) (h0 : 0 ≤ v) (h1 : v < 4611686018427387904) :
    Calls Try.prog 35 #[.int .i64 v] w fun e w' => ∃ ao off cap rb, e = .returned (.slice ao (frm (nb v)).length cap) ∧ RowB w' ao off cap rb (frm (nb v)) ∧ Chg (fun _ => False) w w' ∧ w.heap.size ≤ rb ∧ rb < w'.heap.size := by
  have hW := Wr.new (w := w) (P := fun i => i < w.heap.size) (fun _ h => h)
  have hc0 : Chg (fun _ => False) w (w.alloc (.cells #[.slice none 0 0] 101)) := (Chg.refl _ w).alloc _
  have HW := Lib.hid hW
  clear hW
  go_enter Try.func35, Try.ntmps35
  go_wp2_with fail
  refine (HW.out.int (fun i h => by rw [size_al]; omega) (by rw [size_al]; omega) v h0 (by omega) (by decide)).mono ?_
  rintro e w1 ⟨rfl, hW1, hc1⟩
  rw [List.nil_append] at hW1
  have hc1 := ((hc0.mono (fun _ _ h => h.elim) : Chg (fun i => ¬ i < w.heap.size) w _).trans hc1 (fun i _ h => h.2)).mono (T := fun _ => False) (fun i hi h => h hi)
  go_wp2_with fail
  have hnl := nb_small h0 h1
  refine (hW1.bytes (nb_ne v) (by have := hnl.2; omega)).mono ?_
  rintro e w2 ⟨u, rfl, hown, hc2⟩
  obtain ⟨ad, cap, rfl, hby, hcp, hcm⟩ := bytes_byt hown (nb_ne v)
  have hc2 := hc1.trans hc2 (fun _ _ h => h)
  go_wp2_with fail
  refine (put_any hby cap hnl).mono ?_
  rintro e w3 ⟨ao, off, cap3, rb, rfl, hR, hc3, hr1, hr2⟩
  have hz := hc2.size
  go_wp2_with fail
  go_ret
  exact ⟨ao, off, cap3, rb, rfl, hR, hc2.trans hc3 (fun _ _ h => h), by omega, hr2⟩

set_option maxRecDepth 100000 in
set_option maxHeartbeats 1000000 in
theorem aged_any {w : World} {ad : Option Addr} (v : Int) (h : BytIn w ad (nb v)) (c : Nat) (h0 : 0 ≤ v) (h1 : v < 4611686018427387904) :
    Calls Try.prog 52 #[.slice ad (nb v).length c] w fun e w' => e = .returned (.int .i64 v) ∧ Chg (fun _ => False) w w' := by
  have hnl := (nb_small h0 h1).2
  go_enter Try.func52, Try.ntmps52
  go_wp2_with fail
  refine (rd_new h c (by omega)).mono ?_
  rintro e w1 ⟨r, rfl, hR, hc1⟩
  go_wp2_with fail
  refine (rd_int (rest := []) (by rw [List.append_nil]; exact hR) h0 h1 h0 (by omega) (by rw [List.append_nil]; omega)).mono ?_
  rintro e w2 ⟨rfl, hR2, hc2⟩
  have hb := hR.1
  have hc2 := ((hc1.mono (fun _ _ h => h.elim) : Chg (fun i => ¬ i < w.heap.size) w _).trans hc2 (fun i _ h => by omega)).mono (T := fun _ => False) (fun i hi h => h hi)
  go_wp2_with fail
  refine (rd_end hR2).mono ?_
  rintro e w3 ⟨rfl, rfl⟩
  go_wp2_with fail
  go_ret
  exact ⟨rfl, hc2⟩
end Go.Proofs.Ytpbjompopgdbjaa
