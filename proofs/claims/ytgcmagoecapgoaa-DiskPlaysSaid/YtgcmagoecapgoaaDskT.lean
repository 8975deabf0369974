/-
  layer 5: told.
-/
import Derived.Test.YtgcmagoecapgoaaDskY
import Derived.Test.YtgcmagoecapgoaaByt
import Derived.Lib.SlBytesConst
import Derived.Laws.OwnMore
import Derived.Laws.IdiomStrings
namespace Go.Proofs.Ytgcmagoecapgoaa
open Go.RowKit Go.Maps

namespace T5
def na : Nam := [97]
def nb : Nam := [98]
def D0 : Dsk := Dsk.new 20
def D1 : Dsk := D0.put na ⟨[97, 98, 99, 100, 101], 0⟩
def D2 : Dsk := D1.put na ⟨[97, 98, 99, 100, 101], 5⟩
def D3 : Dsk := D2.put na ⟨[97, 98, 99, 100, 101, 120, 121, 122], 5⟩
def D4 : Dsk := D3.crash 1
def D5 : Dsk := (D4.del na).put nb ⟨[97, 98, 99, 100, 101, 120], 6⟩
def D6 : Dsk := D5.del nb
theorem a1 : D0.append na [97, 98, 99, 100, 101] = (0, D1) := by kernel_rfl
theorem a2 : D1.sync na = (0, D2) := by kernel_rfl
theorem a3 : D2.append na [120, 121, 122] = (0, D3) := by kernel_rfl
theorem f4 : D4.fl na = some ⟨[97, 98, 99, 100, 101, 120], 6⟩ := by kernel_rfl
theorem a4 : D4.append na [0, 0, 0, 0, 0, 0, 0, 0, 0, 0, 0, 0, 0, 0, 0] = (4, D4) := by kernel_rfl
theorem a5 : D4.rename na nb = (0, D5) := by kernel_rfl
theorem a6 : D5.sync na = (5, D5) := by kernel_rfl
theorem a7 : D5.remove nb = (0, D6) := by kernel_rfl
theorem u3 : D3.used = 8 := by kernel_rfl
theorem u4 : D4.used = 6 := by kernel_rfl
theorem u6 : D6.used = 0 := by kernel_rfl
theorem l0 : D0.ks.length ≤ 1000000 := by decide +kernel
theorem l2 : D2.ks.length ≤ 1000000 := by decide +kernel
theorem l3 : D3.ks.length ≤ 1000000 := by decide +kernel
theorem l4 : D4.ks.length ≤ 1000000 := by decide +kernel
theorem l5 : D5.ks.length = 1 := by decide +kernel
theorem l6 : D6.ks.length ≤ 1000000 := by decide +kernel
end T5

theorem x_append_full {P : Nat → Prop} {w : World} {d : Nat} {D : Dsk} (h : DiskX P w d D) (hmx : D.ks.length ≤ 1000000) (n : Nam) (hm : may n = true) (a : Option Addr) (l c : Nat) (hl : D.room - D.used < l) :
    Calls Try.prog 11 #[.pointer (some ⟨d, 0, none⟩), encStr n, .slice a l c] w fun e w' => e = .returned (.int .i64 4) ∧ DiskX P w' d D ∧ Chg (fun _ => False) w w' := by
  obtain ⟨S, ⟨md, pl, hD⟩, hP⟩ := id h
  refine (dsk_append_full hD hmx n hm a l c hl).mono ?_
  rintro e w' ⟨rfl, hc⟩
  exact ⟨rfl, h.keep hc, hc⟩
set_option maxRecDepth 100000 in
set_option maxHeartbeats 4000000 in
theorem told5 (w : World) : Calls Try.prog 10 #[] w fun e w' => e = .returned (.bool true) ∧ Chg (fun _ => False) w w' := by
  go_enter Try.func10, Try.ntmps10
  go_wp2_with fail
  refine (x_new w 20 (by omega)).mono ?_
  rintro e w0 ⟨d, rfl, hD, hc0⟩
  have hz0 := hc0.size
  have hcv : (convert 22 22 (.slice (some ⟨w0.heap.size, 0, none⟩) 5 5)).run Try.prog (w0.alloc (.cells #[.int .u8 97, .int .u8 98, .int .u8 99, .int .u8 100, .int .u8 101] 5)) = .ok (.slice (some ⟨w0.heap.size, 0, none⟩) 5 5) (w0.alloc (.cells #[.int .u8 97, .int .u8 98, .int .u8 99, .int .u8 100, .int .u8 101] 5 (5, 6))) :=
    Lib.run_convert_bytes_const w0 _ _ _ 5 5 Try.underlying22 Try.underlying5
  have hcA : Chg (fun _ => False) w0 (w0.alloc (.cells #[.int .u8 97, .int .u8 98, .int .u8 99, .int .u8 100, .int .u8 101] 5 (5, 6))) := (Chg.refl _ w0).alloc _
  have hRA := rowB_const w0 [97, 98, 99, 100, 101] (by decide) #[.int .u8 97, .int .u8 98, .int .u8 99, .int .u8 100, .int .u8 101] (5, 6) rfl
  have hDA : DiskX (fun i => i < w.heap.size ∨ i = w0.heap.size) _ d (Dsk.new 20) := hD.more hcA (fun i hi => hi.imp id (fun h => by rw [size_al]; omega))
  go_wp2_with fail
  generalize w0.alloc (.cells #[.int .u8 97, .int .u8 98, .int .u8 99, .int .u8 100, .int .u8 101] 5 (5, 6)) = wA at *
  have hcA0 : Chg (fun i => ¬ i < w.heap.size) w wA := (hc0.trans hcA (fun _ _ h => h)).mono (fun _ _ h => h.elim)
  clear hcA hD hcv
  refine (x_append hDA T5.l0 T5.na _ [97, 98, 99, 100, 101] _ (rowB_src hRA (fun _ => .inr rfl))).mono ?_
  rw [show (Dsk.new 20).append T5.na [97, 98, 99, 100, 101] = (0, T5.D1) from T5.a1]
  rintro e w1 ⟨rfl, hD1, hc1⟩
  have hc01 : Chg (fun i => ¬ i < w.heap.size) w w1 := hcA0.trans hc1 (fun i _ h1 h2 => h1 (.inl h2))
  clear hDA hRA hc1 hcA0
  go_wp2_with fail
  refine (x_sync hD1 T5.na (by decide)).mono ?_
  rw [T5.a2]
  rintro e w2 ⟨rfl, hD2, hc2⟩
  have hc02 : Chg (fun i => ¬ i < w.heap.size) w w2 := hc01.trans hc2 (fun i _ h1 h2 => h1 (.inl h2))
  clear hD1 hc2 hc01
  have hcv : (convert 22 22 (.slice (some ⟨w2.heap.size, 0, none⟩) 3 3)).run Try.prog (w2.alloc (.cells #[.int .u8 120, .int .u8 121, .int .u8 122] 5)) = .ok (.slice (some ⟨w2.heap.size, 0, none⟩) 3 3) (w2.alloc (.cells #[.int .u8 120, .int .u8 121, .int .u8 122] 5 (3, 4))) :=
    Lib.run_convert_bytes_const w2 _ _ _ 3 3 Try.underlying22 Try.underlying5
  have hcA : Chg (fun _ => False) w2 (w2.alloc (.cells #[.int .u8 120, .int .u8 121, .int .u8 122] 5 (3, 4))) := (Chg.refl _ w2).alloc _
  have hRA := rowB_const w2 [120, 121, 122] (by decide) #[.int .u8 120, .int .u8 121, .int .u8 122] (3, 4) rfl
  have hDA : DiskX (fun i => i < w.heap.size ∨ i = w2.heap.size) _ d T5.D2 := hD2.more hcA (fun i hi => by
    rcases hi with h | h
    · exact .inl (.inl h)
    · right; rw [size_al]; omega)
  go_wp2_with fail
  generalize w2.alloc (.cells #[.int .u8 120, .int .u8 121, .int .u8 122] 5 (3, 4)) = wB at *
  have hcB0 : Chg (fun i => ¬ i < w.heap.size) w wB := hc02.trans hcA (fun _ _ h => h.elim)
  clear hcA hD2 hcv hc02
  refine (x_append hDA T5.l2 T5.na _ [120, 121, 122] _ (rowB_src hRA (fun _ => .inr rfl))).mono ?_
  rw [T5.a3]
  rintro e w3 ⟨rfl, hD3, hc3⟩
  have hc03 : Chg (fun i => ¬ i < w.heap.size) w w3 := hcB0.trans hc3 (fun i _ h1 h2 => h1 (.inl h2))
  have hD3 : DiskX (fun i => i < w.heap.size) w3 d T5.D3 := hD3.more (Chg.refl _ _) (fun i hi => .inl (.inl hi))
  clear hDA hRA hc3 hcB0
  go_wp2_with fail
  refine (x_copy hD3 T5.l3).mono ?_
  rintro e w4 ⟨c, rfl, _, hD4, hC4, hc4⟩
  have hc04 : Chg (fun i => ¬ i < w.heap.size) w w4 := hc03.trans hc4 (fun _ _ h => h.elim)
  clear hD3 hc4 hc03
  go_wp2_with fail
  refine (x_crash hD4 T5.l3 1 (by omega)).mono ?_
  rw [show T5.D3.crash 1 = T5.D4 from rfl]
  rintro e w5 ⟨rfl, hD5, hc5⟩
  have hc05 : Chg (fun i => ¬ i < w.heap.size) w w5 := hc04.trans hc5 (fun i _ h1 h2 => h1 (.inl h2))
  have hC5 : DiskW (fun i => w3.heap.size ≤ i ∧ i < w4.heap.size) w5 c T5.D3 := by
    obtain ⟨mc, pc, h⟩ := hC4
    exact ⟨mc, pc, h.chg hc5 (fun i hi h2 => h2 (.inr hi))⟩
  clear hD4 hc5 hc04 hC4
  go_wp2_with fail
  refine (x_read hD5 T5.na T5.f4).mono ?_
  rintro e w6 ⟨ao, off, cap, rb, rfl, hR, hrb, hD6, hc6⟩
  have hc06 : Chg (fun i => ¬ i < w.heap.size) w w6 := hc05.trans hc6 (fun _ _ h => h.elim)
  have hcs : (convert 22 9 (.slice ao 6 cap)).run Try.prog w6 = .ok (.string ⟨#[97, 98, 99, 100, 101, 120]⟩) w6 := conv_str hR
  have hC6 : DiskW (fun i => w3.heap.size ≤ i ∧ i < w4.heap.size) w6 c T5.D3 := by
    obtain ⟨mc, pc, h⟩ := hC5
    exact ⟨mc, pc, h.chg hc6 (fun i hi h2 => h2)⟩
  clear hD5 hc6 hc05 hC5 hR hrb
  go_wp2_with fail
  refine (x_synced hD6 T5.na (by decide)).mono ?_
  rw [T5.f4]
  rintro e w7 ⟨rfl, rfl⟩
  clear hcs
  unfold syF
  go_wp2_with fail
  obtain ⟨mc, pc, hcc⟩ := hC6
  refine (dsk_used hcc T5.l3).mono ?_
  rw [T5.u3]
  rintro e w8 ⟨rfl, hc8⟩
  have hc08 : Chg (fun i => ¬ i < w.heap.size) w w8 := hc06.trans hc8 (fun _ _ h => h.elim)
  have hD8 := hD6.keep hc8
  clear hD6 hc06 hc8
  obtain ⟨i0, hi0, hz0', hi1, hi2⟩ := infoB_parts
  obtain ⟨w9, hmk, _, hg9⟩ := run_makeSlice_full (P := Try.prog) w8 0 22 5 i0 _ 1 Try.underlying22 hi0 hz0' hi1 .i64 .i64 15 (by decide) (by rw [hi2]; decide) (by unfold maxLen; omega) (Nat.zero_le _)
  have hmk : (Instr.makeSlice 22 (.int .i64 15) (.int .i64 15)).run Try.prog w8 = .ok (.slice (some ⟨w8.heap.size, 0, none⟩) 15 15) w9 := hmk
  have hc9 : Chg (fun _ => False) w8 w9 := (own_grown hg9).mono (fun i _ e => by cases e)
  have hc09 : Chg (fun i => ¬ i < w.heap.size) w w9 := hc08.trans hc9 (fun _ _ h => h.elim)
  have hD9 := hD8.keep hc9
  clear hD8 hc9 hg9 hc08 hi0 hz0' hi1 hi2
  go_wp2_with fail
  refine (x_append_full hD9 T5.l4 T5.na rfl _ 15 15 (by show (20 : Int) - ((T5.D4.used : Nat) : Int) < 15; rw [T5.u4]; decide)).mono ?_
  rintro e w10 ⟨rfl, hD10, hc10⟩
  have hc010 : Chg (fun i => ¬ i < w.heap.size) w w10 := hc09.trans hc10 (fun _ _ h => h.elim)
  clear hD9 hc10 hc09 hmk
  go_wp2_with fail
  refine (x_rename hD10 T5.na T5.nb (by decide) (by decide)).mono ?_
  rw [T5.a5]
  rintro e w11 ⟨rfl, hD11, hc11⟩
  have hc011 : Chg (fun i => ¬ i < w.heap.size) w w11 := hc010.trans hc11 (fun i _ h1 h2 => h1 (.inl h2))
  clear hD10 hc11 hc010
  go_wp2_with fail
  refine (x_sync hD11 T5.na (by decide)).mono ?_
  rw [T5.a6]
  rintro e w12 ⟨rfl, hD12, hc12⟩
  have hc012 : Chg (fun i => ¬ i < w.heap.size) w w12 := hc011.trans hc12 (fun i _ h1 h2 => h1 (.inl h2))
  clear hD11 hc12 hc011
  go_wp2_with fail
  refine (x_names hD12 (by rw [T5.l5]; decide)).mono ?_
  rw [T5.l5]
  rintro e w13 ⟨ad, cp, rfl, _, _, hD13, hc13⟩
  have hc013 : Chg (fun i => ¬ i < w.heap.size) w w13 := hc012.trans hc13 (fun _ _ h => h.elim)
  clear hD12 hc13 hc012
  go_wp2_with fail
  refine (x_remove hD13 T5.nb (by decide)).mono ?_
  rw [T5.a7]
  rintro e w14 ⟨rfl, hD14, hc14⟩
  have hc014 : Chg (fun i => ¬ i < w.heap.size) w w14 := hc013.trans hc14 (fun i _ h1 h2 => h1 (.inl h2))
  clear hD13 hc14 hc013
  go_wp2_with fail
  refine (x_used hD14 T5.l6).mono ?_
  rw [T5.u6]
  rintro e w15 ⟨rfl, _, hc15⟩
  have hc015 : Chg (fun i => ¬ i < w.heap.size) w w15 := hc014.trans hc15 (fun _ _ h => h.elim)
  go_wp2_with fail
  go_ret
  exact ⟨rfl, hc015.mono (fun i hi h => h hi)⟩
end Go.Proofs.Ytgcmagoecapgoaa
