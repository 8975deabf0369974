/-
  layer 6: told.
-/
import Derived.Test.YtpbjompopgdbjaaZSealD
namespace Go.Proofs.Ytpbjompopgdbjaa
open Go.RowKit Go.Maps

set_option maxRecDepth 100000 in
theorem open_nil (w : World) : Calls Try.prog 9 #[.pointer none] w fun e w' => e = .returned (.tuple #[.pointer none, .slice none 0 0, .slice none 0 0, .int .i64 1]) ∧ w' = w := by
  go_enter Try.func9, Try.ntmps9
  go_wp2_with fail
  refine bodyPost_ret (v := .tuple #[.pointer none, .slice none 0 0, .slice none 0 0, .int .i64 1]) (by simp [results, Try.results9, go_sem]) rfl ⟨rfl, rfl⟩

namespace T6
theorem nb0 : nb 0 = [0] := by unfold nb zig; rw [vb_lo (by decide)]; rfl
theorem nb1 : nb 1 = [2] := by unfold nb zig; rw [vb_lo (by decide)]; rfl
def D0 : Dsk := Dsk.new 1000
def D1 : Dsk := D0.opened none none
def D2 : Dsk := (D1.append nLog (frm [0] ++ frm [97])).2
def D3 : Dsk := (D2.sync nLog).2
def D4 : Dsk := (D3.append nLog (frm [98])).2
def D5 : Dsk := D4.crash 0
def D6 : Dsk := ((D5.remove nNext).2.cut nLog 14).2
def D7 : Dsk := (((((D6.remove nNext).2.append nNext (frm [2] ++ frm [83])).2.sync nNext).2.rename nNext nSnap).2.cut nLog 0).2
theorem k1 : D1.ks.length ≤ 1000000 := by decide +kernel
theorem k3 : D3.ks.length ≤ 1000000 := by decide +kernel
theorem k4 : D4.ks.length ≤ 1000000 := by decide +kernel
theorem k6 : D6.ks.length ≤ 1000000 := by decide +kernel
theorem p2 : D1.putRec 0 [97] = (0, D2) := by
  unfold Dsk.putRec
  rw [nb0]
  kernel_rfl
theorem p4 : D3.putRec 0 [98] = (0, D4) := by
  unfold Dsk.putRec
  rw [nb0]
  kernel_rfl
abbrev lo5 : Kept := some (0, [[97]])
theorem ok5 : lo5.ok := fun a l h => by cases h; exact ⟨by decide, by decide⟩
theorem f5 : File (bsF (D5.fl nLog)) lo5.rows [] := ⟨by
  show _ = flat [nb 0, [97]] ++ []
  rw [nb0]
  kernel_rfl, fun b hb => by
  have hb : b ∈ [nb 0, [97]] := hb
  rw [nb0] at hb
  simp at hb
  rcases hb with rfl | rfl <;> exact ⟨by decide, by decide⟩, .inl rfl⟩
theorem s5 : File (bsF (D5.fl nSnap)) (Kept.rows none) [] := ⟨by kernel_rfl, fun b hb => (by cases hb), .inl rfl⟩
theorem o5 : D5.opened none lo5 = D6 := by
  unfold Dsk.opened
  rw [show logEnd none lo5 = 14 by
    show (if (0 : Int) = 0 then (flat [nb 0, [97]]).length else 0) = 14
    rw [nb0]
    kernel_rfl]
  rfl
theorem s7 : D6.saved 0 [[83]] = (0, D7) := by
  unfold Dsk.saved
  rw [show (0 : Int) + 1 = 1 from rfl, nb1]
  kernel_rfl
abbrev so7 : Kept := some (1, [[83]])
theorem ok7 : so7.ok := fun a l h => by cases h; exact ⟨by decide, by decide⟩
theorem f7 : File (bsF (D7.fl nSnap)) so7.rows [] := ⟨by
  show _ = flat [nb 1, [83]] ++ []
  rw [nb1]
  kernel_rfl, fun b hb => by
  have hb : b ∈ [nb 1, [83]] := hb
  rw [nb1] at hb
  simp at hb
  rcases hb with rfl | rfl <;> exact ⟨by decide, by decide⟩, .inl rfl⟩
theorem l7 : File (bsF (D7.fl nLog)) (Kept.rows none) [] := ⟨by kernel_rfl, fun b hb => (by cases hb), .inl rfl⟩
theorem l0 (D : Dsk) (n : Nam) (h : D.fl n = none) : File (bsF (D.fl n)) (Kept.rows none) [] := ⟨by rw [h]; rfl, fun b hb => (by cases hb), .inl rfl⟩
theorem r5 : logRecs none lo5 = [[97]] := by
  show (if (0 : Int) = (0 : Int) then ([[97]] : List Rec) else []) = [[97]]
  rw [if_pos rfl]
theorem okn : Kept.ok none := fun _ _ h => by cases h
end T6

set_option maxRecDepth 100000 in
set_option maxHeartbeats 4000000 in
theorem told6 (w : World) : Calls Try.prog 11 #[] w fun e w' => e = .returned (.bool true) ∧ Chg (fun _ => False) w w' := by
  go_enter Try.func11, Try.ntmps11
  go_wp2_with fail
  refine (x_new w 1000 (by omega)).mono ?_
  rintro e w0 ⟨d, rfl, hD0, hc0⟩
  have hc0 : Chg (fun i => ¬ i < w.heap.size) w w0 := hc0.mono (fun _ _ h => h.elim)
  go_wp2_with fail
  refine (open_any hD0 none none T6.okn T6.okn (T6.l0 _ _ rfl) (T6.l0 _ _ rfl)).mono ?_
  rintro e w1 ⟨g1, ad1, cp1, ad2, cp2, rfl, B1, hB1, hg1B, hg1, _, _, hD1, hc1⟩
  have hb1 : ∀ i, B1 i → ¬ i < w.heap.size := fun i hi h => (hB1 i hi).1 h
  have hc1 := hc0.trans hc1 (fun i hi hs => fun h => hs h)
  have hcv : (convert 31 31 (.slice (some ⟨w1.heap.size, 0, none⟩) 1 1)).run Try.prog (w1.alloc (.cells #[.int .u8 97] 5)) = .ok (.slice (some ⟨w1.heap.size, 0, none⟩) 1 1) (w1.alloc (.cells #[.int .u8 97] 5 (1, 2))) :=
    Lib.run_convert_bytes_const w1 _ _ _ 1 1 Try.underlying31 Try.underlying5
  have hcA : Chg (fun _ => False) w1 (w1.alloc (.cells #[.int .u8 97] 5 (1, 2))) := (Chg.refl _ w1).alloc _
  have hRA := (rowB_const w1 [97] (by decide) #[.int .u8 97] (1, 2) rfl).byt
  have hD1 : DiskX (fun i => i < w.heap.size ∨ B1 i) _ d T6.D1 := hD1.keep hcA
  have hg1 : LogAt _ g1 d 0 0 := Blk.chg hg1 hcA id
  have hc1A := hc1.trans hcA (fun _ _ h => h.elim)
  rw [show (Kept.st none).length = 0 from rfl, show (logRecs none none).length = 0 from rfl]
  go_wp2_with fail
  generalize w1.alloc (.cells #[.int .u8 97] 5 (1, 2)) = wA at *
  refine (sput_any (P := fun i => i < w.heap.size ∨ B1 i) hD1 T6.k1 hg1 (.inr hg1B) (by decide) (by decide) (by decide) hRA _ ⟨by decide, by decide⟩).mono ?_
  rw [T6.p2]
  rintro e w2 ⟨rfl, hg2, hD2, hc2⟩
  have hcw2 := hc1A.trans hc2 (fun i hi hs h => by
    rcases hs with hs | rfl
    · exact hs (.inl h)
    · exact hb1 _ hg1B h)
  have hg2 : LogAt w2 g1 d 0 1 := hg2
  clear hcv hcA hRA hD1 hg1 hc2 hc1A
  go_wp2_with fail
  refine (ssync_any (P := fun i => i < w.heap.size ∨ B1 i) hD2 hg2 (.inr hg1B)).mono ?_
  rintro e w3 ⟨rfl, hg3, hD3, hc3⟩
  have hcw3 := hcw2.trans hc3 (fun i hi hs h => hs (.inl h))
  clear hg2 hD2 hc3 hcw2
  have hcv : (convert 31 31 (.slice (some ⟨w3.heap.size, 0, none⟩) 1 1)).run Try.prog (w3.alloc (.cells #[.int .u8 98] 5)) = .ok (.slice (some ⟨w3.heap.size, 0, none⟩) 1 1) (w3.alloc (.cells #[.int .u8 98] 5 (1, 2))) :=
    Lib.run_convert_bytes_const w3 _ _ _ 1 1 Try.underlying31 Try.underlying5
  have hcA : Chg (fun _ => False) w3 (w3.alloc (.cells #[.int .u8 98] 5 (1, 2))) := (Chg.refl _ w3).alloc _
  have hRA := (rowB_const w3 [98] (by decide) #[.int .u8 98] (1, 2) rfl).byt
  have hD3 : DiskX (fun i => i < w.heap.size ∨ B1 i) _ d T6.D3 := hD3.keep hcA
  have hg3 : LogAt _ g1 d 0 1 := Blk.chg hg3 hcA id
  have hcw3A := hcw3.trans hcA (fun _ _ h => h.elim)
  go_wp2_with fail
  generalize w3.alloc (.cells #[.int .u8 98] 5 (1, 2)) = wB at *
  refine (sput_any (P := fun i => i < w.heap.size ∨ B1 i) hD3 T6.k3 hg3 (.inr hg1B) (by decide) (by decide) (by decide) hRA _ ⟨by decide, by decide⟩).mono ?_
  rw [T6.p4]
  rintro e w4 ⟨rfl, hg4, hD4, hc4⟩
  have hcw4 := hcw3A.trans hc4 (fun i hi hs h => by
    rcases hs with hs | rfl
    · exact hs (.inl h)
    · exact hb1 _ hg1B h)
  have hg4 : LogAt w4 g1 d 0 2 := hg4
  clear hcv hcA hRA hD3 hg3 hc4 hcw3A hcw3
  go_wp2_with fail
  refine (x_crash (P := fun i => i < w.heap.size ∨ B1 i) hD4 T6.k4 0 (by omega)).mono ?_
  rw [show (((0 : Int), T6.D4).2).crash 0 = T6.D5 from rfl]
  rintro e w5 ⟨rfl, hD5, hc5⟩
  have hg5 : LogAt w5 g1 d 0 2 := Blk.chg hg4 hc5 (fun hs => hs (.inr hg1B))
  have hcw5 := hcw4.trans hc5 (fun i hi hs h => hs (.inl h))
  clear hg4 hD4 hc5 hcw4
  go_wp2_with fail
  refine (open_any (P := fun i => i < w.heap.size ∨ B1 i) hD5 none T6.lo5 T6.okn T6.ok5 T6.s5 T6.f5).mono ?_
  rw [T6.o5, T6.r5]
  rintro e w6 ⟨g2, ad3, cp3, ad4, cp4, rfl, B2, hB2, hg2B, hg6, _, hr6, hD6, hc6⟩
  have hg16 : LogAt w6 g1 d 0 2 := Blk.chg hg5 hc6 (fun hs => hs (.inr hg1B))
  have hcw6 := hcw5.trans hc6 (fun i hi hs h => hs (.inl h))
  have hb2 : ∀ i, B2 i → ¬ i < w.heap.size := fun i hi h => (hB2 i hi).1 (.inl h)
  rw [show (Kept.st none).length = 0 from rfl]
  clear hg5 hD5 hc6 hcw5
  have hcv : (convert 31 31 (.slice (some ⟨w6.heap.size, 0, none⟩) 1 1)).run Try.prog (w6.alloc (.cells #[.int .u8 83] 5)) = .ok (.slice (some ⟨w6.heap.size, 0, none⟩) 1 1) (w6.alloc (.cells #[.int .u8 83] 5 (1, 2))) :=
    Lib.run_convert_bytes_const w6 _ _ _ 1 1 Try.underlying31 Try.underlying5
  have hcC : Chg (fun _ => False) w6 ((w6.alloc (.cells #[.int .u8 83] 5 (1, 2))).alloc (.cells #[.slice (some ⟨w6.heap.size, 0, none⟩) 1 1] 31)) := ((Chg.refl _ w6).alloc _).alloc _
  have hRC := (rowB_const w6 [83] (by decide) #[.int .u8 83] (1, 2) rfl).byt.chg ((Chg.refl (fun _ => False) _).alloc (.cells #[.slice (some ⟨w6.heap.size, 0, none⟩) 1 1] 31)) (fun _ _ => id)
  have hRows : RowsB ((w6.alloc (.cells #[.int .u8 83] 5 (1, 2))).alloc (.cells #[.slice (some ⟨w6.heap.size, 0, none⟩) 1 1] 31)) (some ⟨w6.heap.size + 1, 0, none⟩) [[83]] := by
    intro i b hi
    match i, hi with
    | 0, hi =>
      cases hi
      have hB := Blk.new (w6.alloc (.cells #[.int .u8 83] 5 (1, 2))) 31 #[.slice (some ⟨w6.heap.size, 0, none⟩) 1 1]
      rw [size_al] at hB
      exact ⟨by decide, ⟨w6.heap.size + 1, 0, none⟩, some ⟨w6.heap.size, 0, none⟩, 1, rfl, hB.lt, hB.cell 0, hRC⟩
    | i + 1, hi => simp at hi
  have hD6 : DiskX (fun i => (i < w.heap.size ∨ B1 i) ∨ B2 i) _ d T6.D6 := hD6.keep hcC
  have hg6 : LogAt _ g2 d 0 1 := Blk.chg hg6 hcC id
  have hg16 := Blk.chg hg16 hcC id
  have hr6 := hr6.chg hcC (fun _ _ => id)
  have hcw6 := hcw6.trans hcC (fun _ _ h => h.elim)
  go_wp2_with fail
  generalize (w6.alloc (.cells #[.int .u8 83] 5 (1, 2))).alloc (.cells #[.slice (some ⟨w6.heap.size, 0, none⟩) 1 1] 31) = wC at *
  refine (ssave_any (P := fun i => (i < w.heap.size ∨ B1 i) ∨ B2 i) hD6 T6.k6 hg6 (.inr hg2B) (by decide) (by decide) hRows _ (by decide) (fun b hb => by simp at hb; subst hb; exact ⟨by decide, by decide⟩)).mono ?_
  rw [T6.s7]
  rintro e w7 ⟨rfl, _, hD7, hc7⟩
  have hg17 : LogAt w7 g1 d 0 2 := Blk.chg hg16 hc7 (fun hs => by
    rcases hs with hs | rfl
    · exact hs (.inl (.inr hg1B))
    · exact (hB2 _ hg2B).1 (.inr hg1B))
  have hr7 := hr6.chg hc7 (fun i hB hs => by
    rcases hs with hs | rfl
    · exact hs (.inr hB.1)
    · exact hB.2 rfl)
  have hcw7 := hcw6.trans hc7 (fun i hi hs h => by
    rcases hs with hs | rfl
    · exact hs (.inl (.inl h))
    · exact hb2 _ hg2B h)
  clear hcv hcC hRC hRows hD6 hg6 hg16 hr6 hcw6 hc7
  go_wp2_with fail
  refine (open_any (P := fun i => (i < w.heap.size ∨ B1 i) ∨ B2 i) hD7 T6.so7 none T6.ok7 T6.okn T6.f7 T6.l7).mono ?_
  rintro e w8 ⟨g3, ad5, cp5, ad6, cp6, rfl, B3, hB3, hg3B, _, hr8, _, hD8, hc8⟩
  have hg18 : LogAt w8 g1 d 0 2 := Blk.chg hg17 hc8 (fun hs => hs (.inl (.inr hg1B)))
  have hr78 := hr7.chg hc8 (fun i hB hs => hs (.inr hB.1))
  have hcw8 := hcw7.trans hc8 (fun i hi hs h => hs (.inl (.inl h)))
  rw [show (Kept.st T6.so7).length = 1 from rfl, show (logRecs T6.so7 none).length = 0 from rfl]
  obtain ⟨aa, ao, oa, ca, ra, rfl, _, _, m0, hRa, _, _⟩ := hr78 0 [97] rfl
  obtain ⟨bb, bo, ob, cb, rb, rfl, _, _, n0, hRb, _, _⟩ := hr8 0 [83] rfl
  have v1 : (convert 31 9 (.slice ao 1 ca)).run Try.prog w8 = .ok (.string ⟨#[97]⟩) w8 := conv_str hRa
  have v2 : (convert 31 9 (.slice bo 1 cb)).run Try.prog w8 = .ok (.string ⟨#[83]⟩) w8 := conv_str hRb
  have m0 : w8.cell? aa = some (.slice ao 1 ca) := m0
  have n0 : w8.cell? bb = some (.slice bo 1 cb) := n0
  clear hg17 hr7 hc8 hr78 hr8 hcw7
  go_wp2_with fail
  refine (open_nil w8).mono ?_
  rintro e w9 ⟨rfl, rfl⟩
  go_wp2_with fail
  refine (sput_bad hg18 none 0 0 (.inl (by decide)) (by decide)).mono ?_
  rintro e w9 ⟨rfl, rfl⟩
  go_wp2_with fail
  go_ret
  exact ⟨rfl, hcw8.mono (fun i hi h => h hi)⟩
end Go.Proofs.Ytpbjompopgdbjaa
