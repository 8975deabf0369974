/-
  table: Put by its contract. (Printed by wip/tools/gentab.py.)
-/
import Derived.Test.YtdeoipioinnkcaaTabB
namespace Go.Proofs.Ytdeoipioinnkcaa
open Go.RowKit Go.Maps

set_option maxRecDepth 100000 in
set_option maxHeartbeats 1000000 in
theorem tput_no (w : World) (t mt : Nat) (f : Tab) (o : POp) (a : Int) (hT : TabAt w t mt f) (hm : mayOp o = false) :
    Calls Try.prog 37 #[.pointer (some ⟨t, 0, none⟩), o.val, .int .i64 a] w fun e w' => e = .returned (.bool false) ∧ Chg (fun _ => False) w w' := by
  have hmh := Lib.hid hm
  clear hm
  go_enter Try.func37, Try.ntmps37
  unfold POp.val
  go_wp2
  have hc1 : Chg (fun _ => False) w (w.alloc (.cells #[.int .i64 o.kd, .int .i64 o.bk, .int .i64 o.un, .int .i64 o.cu, .int .i64 o.am] 31)) := (Chg.refl _ w).alloc _
  have hT1 := hT.chg hc1 id id
  have hO := Blk.new w 31 o.row
  unfold POp.row at hO
  generalize w.alloc (.cells #[.int .i64 o.kd, .int .i64 o.bk, .int .i64 o.un, .int .i64 o.cu, .int .i64 o.am] 31) = w1 at *
  have o0 : w1.cell? ⟨w.heap.size, 0, none⟩ = some (.int .i64 o.kd) := by rw [hO.cell]; rfl
  have o1 : w1.cell? ⟨w.heap.size, 1, none⟩ = some (.int .i64 o.bk) := by rw [hO.cell]; rfl
  have o2 : w1.cell? ⟨w.heap.size, 2, none⟩ = some (.int .i64 o.un) := by rw [hO.cell]; rfl
  have o3 : w1.cell? ⟨w.heap.size, 3, none⟩ = some (.int .i64 o.cu) := by rw [hO.cell]; rfl
  have o4 : w1.cell? ⟨w.heap.size, 4, none⟩ = some (.int .i64 o.am) := by rw [hO.cell]; rfl
  refine wp_region_plan (by kernel_rfl) [{ fl := [0, 1, 2, 3], ef := 4 }, { fl := [5, 6, 7, 8, 9, 10, 11, 12, 13, 14, 15, 16, 17, 18, 20], ef := 19 }, { fl := [], ef := 21 }] [22, 23] (by kernel_rfl) (fun _ _ => True) ?_
  simp only [wpPlan, longOK, keepOK, opsAt_cons, opsAt_nil, consO_some, List.getElem?_toArray, List.getElem?_cons_succ, List.getElem?_cons_zero, true_and]
  go_wp2_with fail
  refine ⟨by kernel_rfl, ?_⟩
  go_wp2_with fail
  refine (mayOp_any o _).mono ?_
  rintro e w2 ⟨rfl, hc2⟩
  rw [hmh.out]
  have hT2 := (hT1.chg (Chg.refl (fun _ => False) w1).drew id id).chg hc2 id id
  have hO2 := (show Blk w1.drew _ _ _ from hO).chg hc2 id
  have hcF : Chg (fun _ => False) w w2 := hc1.drew.trans hc2 (fun _ _ h => h)
  clear o0 o1 o2 o3 o4
  have o0 : w2.cell? ⟨w.heap.size, 0, none⟩ = some (.int .i64 o.kd) := by rw [hO2.cell]; rfl
  have o1 : w2.cell? ⟨w.heap.size, 1, none⟩ = some (.int .i64 o.bk) := by rw [hO2.cell]; rfl
  have o2 : w2.cell? ⟨w.heap.size, 2, none⟩ = some (.int .i64 o.un) := by rw [hO2.cell]; rfl
  have o3 : w2.cell? ⟨w.heap.size, 3, none⟩ = some (.int .i64 o.cu) := by rw [hO2.cell]; rfl
  have o4 : w2.cell? ⟨w.heap.size, 4, none⟩ = some (.int .i64 o.am) := by rw [hO2.cell]; rfl
  go_wp2_with fail
  refine ⟨by kernel_rfl, ?_⟩
  go_wp2_with fail
  refine ⟨by kernel_rfl, ?_⟩
  go_wp2_with fail
  refine ⟨by kernel_rfl, ?_⟩
  go_wp2_with fail
  go_ret
  exact ⟨rfl, hcF⟩

set_option maxRecDepth 100000 in
set_option maxHeartbeats 1000000 in
theorem tput_bad (w : World) (t mt : Nat) (f : Tab) (o : POp) (a : Int) (hT : TabAt w t mt f) (hm : mayOp o = true) (h1 : a ≠ 1) (h2 : a ≠ 2) :
    Calls Try.prog 37 #[.pointer (some ⟨t, 0, none⟩), o.val, .int .i64 a] w fun e w' => e = .returned (.bool false) ∧ Chg (fun _ => False) w w' := by
  have hmh := Lib.hid hm
  clear hm
  have b1 : (a == 1) = false := by simp [h1]
  have b2 : (a == 2) = false := by simp [h2]
  clear h1 h2
  go_enter Try.func37, Try.ntmps37
  unfold POp.val
  go_wp2
  have hc1 : Chg (fun _ => False) w (w.alloc (.cells #[.int .i64 o.kd, .int .i64 o.bk, .int .i64 o.un, .int .i64 o.cu, .int .i64 o.am] 31)) := (Chg.refl _ w).alloc _
  have hT1 := hT.chg hc1 id id
  have hO := Blk.new w 31 o.row
  unfold POp.row at hO
  generalize w.alloc (.cells #[.int .i64 o.kd, .int .i64 o.bk, .int .i64 o.un, .int .i64 o.cu, .int .i64 o.am] 31) = w1 at *
  have o0 : w1.cell? ⟨w.heap.size, 0, none⟩ = some (.int .i64 o.kd) := by rw [hO.cell]; rfl
  have o1 : w1.cell? ⟨w.heap.size, 1, none⟩ = some (.int .i64 o.bk) := by rw [hO.cell]; rfl
  have o2 : w1.cell? ⟨w.heap.size, 2, none⟩ = some (.int .i64 o.un) := by rw [hO.cell]; rfl
  have o3 : w1.cell? ⟨w.heap.size, 3, none⟩ = some (.int .i64 o.cu) := by rw [hO.cell]; rfl
  have o4 : w1.cell? ⟨w.heap.size, 4, none⟩ = some (.int .i64 o.am) := by rw [hO.cell]; rfl
  refine wp_region_plan (by kernel_rfl) [{ fl := [0, 1, 2, 3], ef := 4 }, { fl := [5, 6, 7, 8, 9, 10, 11, 12, 13, 14, 15, 16, 17, 18, 20], ef := 19 }, { fl := [], ef := 21 }] [22, 23] (by kernel_rfl) (fun _ _ => True) ?_
  simp only [wpPlan, longOK, keepOK, opsAt_cons, opsAt_nil, consO_some, List.getElem?_toArray, List.getElem?_cons_succ, List.getElem?_cons_zero, true_and]
  go_wp2_with fail
  refine ⟨by kernel_rfl, ?_⟩
  go_wp2_with fail
  refine (mayOp_any o _).mono ?_
  rintro e w2 ⟨rfl, hc2⟩
  rw [hmh.out]
  have hT2 := (hT1.chg (Chg.refl (fun _ => False) w1).drew id id).chg hc2 id id
  have hO2 := (show Blk w1.drew _ _ _ from hO).chg hc2 id
  have hcF : Chg (fun _ => False) w w2 := hc1.drew.trans hc2 (fun _ _ h => h)
  clear o0 o1 o2 o3 o4
  have o0 : w2.cell? ⟨w.heap.size, 0, none⟩ = some (.int .i64 o.kd) := by rw [hO2.cell]; rfl
  have o1 : w2.cell? ⟨w.heap.size, 1, none⟩ = some (.int .i64 o.bk) := by rw [hO2.cell]; rfl
  have o2 : w2.cell? ⟨w.heap.size, 2, none⟩ = some (.int .i64 o.un) := by rw [hO2.cell]; rfl
  have o3 : w2.cell? ⟨w.heap.size, 3, none⟩ = some (.int .i64 o.cu) := by rw [hO2.cell]; rfl
  have o4 : w2.cell? ⟨w.heap.size, 4, none⟩ = some (.int .i64 o.am) := by rw [hO2.cell]; rfl
  go_wp2_with fail
  refine ⟨by kernel_rfl, ?_⟩
  go_wp2_with fail
  refine ⟨by kernel_rfl, ?_⟩
  go_wp2_with fail
  refine ⟨by kernel_rfl, ?_⟩
  go_wp2_with fail
  go_ret
  exact ⟨rfl, hcF⟩

set_option maxRecDepth 100000 in
set_option maxHeartbeats 1000000 in
theorem tput_old1 (w : World) (t mt : Nat) (f : Tab) (o : POp) (hT : TabAt w t mt f) (hm : mayOp o = true) (hf : f (o.bk, o.kd) ≠ 0) :
    Calls Try.prog 37 #[.pointer (some ⟨t, 0, none⟩), o.val, .int .i64 1] w fun e w' => e = .returned (.bool false) ∧ Chg (fun _ => False) w w' := by
  have hb := mayOp_bk hm
  have hk := mayOp_kd hm
  have hmh := Lib.hid hm
  have hfh := Lib.hid hf
  clear hm hf
  go_enter Try.func37, Try.ntmps37
  unfold POp.val
  go_wp2
  have hc1 : Chg (fun _ => False) w (w.alloc (.cells #[.int .i64 o.kd, .int .i64 o.bk, .int .i64 o.un, .int .i64 o.cu, .int .i64 o.am] 31)) := (Chg.refl _ w).alloc _
  have hT1 := hT.chg hc1 id id
  have hO := Blk.new w 31 o.row
  unfold POp.row at hO
  generalize w.alloc (.cells #[.int .i64 o.kd, .int .i64 o.bk, .int .i64 o.un, .int .i64 o.cu, .int .i64 o.am] 31) = w1 at *
  have o0 : w1.cell? ⟨w.heap.size, 0, none⟩ = some (.int .i64 o.kd) := by rw [hO.cell]; rfl
  have o1 : w1.cell? ⟨w.heap.size, 1, none⟩ = some (.int .i64 o.bk) := by rw [hO.cell]; rfl
  have o2 : w1.cell? ⟨w.heap.size, 2, none⟩ = some (.int .i64 o.un) := by rw [hO.cell]; rfl
  have o3 : w1.cell? ⟨w.heap.size, 3, none⟩ = some (.int .i64 o.cu) := by rw [hO.cell]; rfl
  have o4 : w1.cell? ⟨w.heap.size, 4, none⟩ = some (.int .i64 o.am) := by rw [hO.cell]; rfl
  refine wp_region_plan (by kernel_rfl) [{ fl := [0, 1, 2, 3], ef := 4 }, { fl := [5, 6, 7, 8, 9, 10, 11, 12, 13, 14, 15, 16, 17, 18, 20], ef := 19 }, { fl := [], ef := 21 }] [22, 23] (by kernel_rfl) (fun _ _ => True) ?_
  simp only [wpPlan, longOK, keepOK, opsAt_cons, opsAt_nil, consO_some, List.getElem?_toArray, List.getElem?_cons_succ, List.getElem?_cons_zero, true_and]
  go_wp2_with fail
  refine ⟨by kernel_rfl, ?_⟩
  go_wp2_with fail
  refine (mayOp_any o _).mono ?_
  rintro e w2 ⟨rfl, hc2⟩
  rw [hmh.out]
  have hT2 := (hT1.chg (Chg.refl (fun _ => False) w1).drew id id).chg hc2 id id
  have hO2 := (show Blk w1.drew _ _ _ from hO).chg hc2 id
  have hcF : Chg (fun _ => False) w w2 := hc1.drew.trans hc2 (fun _ _ h => h)
  clear o0 o1 o2 o3 o4
  have o0 : w2.cell? ⟨w.heap.size, 0, none⟩ = some (.int .i64 o.kd) := by rw [hO2.cell]; rfl
  have o1 : w2.cell? ⟨w.heap.size, 1, none⟩ = some (.int .i64 o.bk) := by rw [hO2.cell]; rfl
  have o2 : w2.cell? ⟨w.heap.size, 2, none⟩ = some (.int .i64 o.un) := by rw [hO2.cell]; rfl
  have o3 : w2.cell? ⟨w.heap.size, 3, none⟩ = some (.int .i64 o.cu) := by rw [hO2.cell]; rfl
  have o4 : w2.cell? ⟨w.heap.size, 4, none⟩ = some (.int .i64 o.am) := by rw [hO2.cell]; rfl
  go_wp2_with fail
  refine ⟨by kernel_rfl, ?_⟩
  go_wp2_with fail
  refine (key_any _ o).mono ?_
  rintro e w3 ⟨rfl, hc3⟩
  have hT3 := hT2.chg hc3 id id
  have hcG : Chg (fun _ => False) w w3 := hcF.trans hc3 (fun _ _ h => h)
  clear o0 o1 o2 o3 o4
  go_wp2_with fail
  refine ⟨by kernel_rfl, ?_⟩
  go_wp2_with fail
  refine (put_old w3 t mt f o.bk o.kd 1 hT3 ⟨by omega, by omega⟩ ⟨by omega, by omega⟩ hfh.out).mono ?_
  rintro e w4 ⟨rfl, hc4⟩
  have hcH : Chg (fun _ => False) w w4 := hcG.trans hc4 (fun _ _ h => h)
  go_wp2_with fail
  refine ⟨by kernel_rfl, ?_⟩
  go_wp2_with fail
  go_ret
  exact ⟨rfl, hcH⟩

set_option maxRecDepth 100000 in
set_option maxHeartbeats 1000000 in
theorem tput_new1 (w : World) (t mt : Nat) (f : Tab) (o : POp) (hT : TabAt w t mt f) (hm : mayOp o = true) (hf : f (o.bk, o.kd) = 0) :
    Calls Try.prog 37 #[.pointer (some ⟨t, 0, none⟩), o.val, .int .i64 1] w fun e w' => e = .returned (.bool true) ∧ TabAt w' t mt (upd f (o.bk, o.kd) 1) ∧ Chg (fun i => i = mt) w w' := by
  have hb := mayOp_bk hm
  have hk := mayOp_kd hm
  have hmh := Lib.hid hm
  have hfh := Lib.hid hf
  clear hm hf
  go_enter Try.func37, Try.ntmps37
  unfold POp.val
  go_wp2
  have hc1 : Chg (fun _ => False) w (w.alloc (.cells #[.int .i64 o.kd, .int .i64 o.bk, .int .i64 o.un, .int .i64 o.cu, .int .i64 o.am] 31)) := (Chg.refl _ w).alloc _
  have hT1 := hT.chg hc1 id id
  have hO := Blk.new w 31 o.row
  unfold POp.row at hO
  generalize w.alloc (.cells #[.int .i64 o.kd, .int .i64 o.bk, .int .i64 o.un, .int .i64 o.cu, .int .i64 o.am] 31) = w1 at *
  have o0 : w1.cell? ⟨w.heap.size, 0, none⟩ = some (.int .i64 o.kd) := by rw [hO.cell]; rfl
  have o1 : w1.cell? ⟨w.heap.size, 1, none⟩ = some (.int .i64 o.bk) := by rw [hO.cell]; rfl
  have o2 : w1.cell? ⟨w.heap.size, 2, none⟩ = some (.int .i64 o.un) := by rw [hO.cell]; rfl
  have o3 : w1.cell? ⟨w.heap.size, 3, none⟩ = some (.int .i64 o.cu) := by rw [hO.cell]; rfl
  have o4 : w1.cell? ⟨w.heap.size, 4, none⟩ = some (.int .i64 o.am) := by rw [hO.cell]; rfl
  refine wp_region_plan (by kernel_rfl) [{ fl := [0, 1, 2, 3], ef := 4 }, { fl := [5, 6, 7, 8, 9, 10, 11, 12, 13, 14, 15, 16, 17, 18, 20], ef := 19 }, { fl := [], ef := 21 }] [22, 23] (by kernel_rfl) (fun _ _ => True) ?_
  simp only [wpPlan, longOK, keepOK, opsAt_cons, opsAt_nil, consO_some, List.getElem?_toArray, List.getElem?_cons_succ, List.getElem?_cons_zero, true_and]
  go_wp2_with fail
  refine ⟨by kernel_rfl, ?_⟩
  go_wp2_with fail
  refine (mayOp_any o _).mono ?_
  rintro e w2 ⟨rfl, hc2⟩
  rw [hmh.out]
  have hT2 := (hT1.chg (Chg.refl (fun _ => False) w1).drew id id).chg hc2 id id
  have hO2 := (show Blk w1.drew _ _ _ from hO).chg hc2 id
  have hcF : Chg (fun _ => False) w w2 := hc1.drew.trans hc2 (fun _ _ h => h)
  clear o0 o1 o2 o3 o4
  have o0 : w2.cell? ⟨w.heap.size, 0, none⟩ = some (.int .i64 o.kd) := by rw [hO2.cell]; rfl
  have o1 : w2.cell? ⟨w.heap.size, 1, none⟩ = some (.int .i64 o.bk) := by rw [hO2.cell]; rfl
  have o2 : w2.cell? ⟨w.heap.size, 2, none⟩ = some (.int .i64 o.un) := by rw [hO2.cell]; rfl
  have o3 : w2.cell? ⟨w.heap.size, 3, none⟩ = some (.int .i64 o.cu) := by rw [hO2.cell]; rfl
  have o4 : w2.cell? ⟨w.heap.size, 4, none⟩ = some (.int .i64 o.am) := by rw [hO2.cell]; rfl
  go_wp2_with fail
  refine ⟨by kernel_rfl, ?_⟩
  go_wp2_with fail
  refine (key_any _ o).mono ?_
  rintro e w3 ⟨rfl, hc3⟩
  have hT3 := hT2.chg hc3 id id
  have hcG : Chg (fun _ => False) w w3 := hcF.trans hc3 (fun _ _ h => h)
  clear o0 o1 o2 o3 o4
  go_wp2_with fail
  refine ⟨by kernel_rfl, ?_⟩
  go_wp2_with fail
  refine (put_new w3 t mt f o.bk o.kd 1 hT3 hb hk (by omega) hfh.out).mono ?_
  rintro e w4 ⟨rfl, hT4, hc4⟩
  have hcH : Chg (fun i => i = mt) w w4 := (hcG.mono (fun _ _ h => h.elim)).trans hc4 (fun _ _ h => h)
  go_wp2_with fail
  refine ⟨by kernel_rfl, ?_⟩
  go_wp2_with fail
  go_ret
  exact ⟨rfl, hT4, hcH⟩

set_option maxRecDepth 100000 in
set_option maxHeartbeats 1000000 in
theorem tput_old2 (w : World) (t mt : Nat) (f : Tab) (o : POp) (hT : TabAt w t mt f) (hm : mayOp o = true) (hf : f (o.bk, o.kd) ≠ 0) :
    Calls Try.prog 37 #[.pointer (some ⟨t, 0, none⟩), o.val, .int .i64 2] w fun e w' => e = .returned (.bool false) ∧ Chg (fun _ => False) w w' := by
  have hb := mayOp_bk hm
  have hk := mayOp_kd hm
  have hmh := Lib.hid hm
  have hfh := Lib.hid hf
  clear hm hf
  go_enter Try.func37, Try.ntmps37
  unfold POp.val
  go_wp2
  have hc1 : Chg (fun _ => False) w (w.alloc (.cells #[.int .i64 o.kd, .int .i64 o.bk, .int .i64 o.un, .int .i64 o.cu, .int .i64 o.am] 31)) := (Chg.refl _ w).alloc _
  have hT1 := hT.chg hc1 id id
  have hO := Blk.new w 31 o.row
  unfold POp.row at hO
  generalize w.alloc (.cells #[.int .i64 o.kd, .int .i64 o.bk, .int .i64 o.un, .int .i64 o.cu, .int .i64 o.am] 31) = w1 at *
  have o0 : w1.cell? ⟨w.heap.size, 0, none⟩ = some (.int .i64 o.kd) := by rw [hO.cell]; rfl
  have o1 : w1.cell? ⟨w.heap.size, 1, none⟩ = some (.int .i64 o.bk) := by rw [hO.cell]; rfl
  have o2 : w1.cell? ⟨w.heap.size, 2, none⟩ = some (.int .i64 o.un) := by rw [hO.cell]; rfl
  have o3 : w1.cell? ⟨w.heap.size, 3, none⟩ = some (.int .i64 o.cu) := by rw [hO.cell]; rfl
  have o4 : w1.cell? ⟨w.heap.size, 4, none⟩ = some (.int .i64 o.am) := by rw [hO.cell]; rfl
  refine wp_region_plan (by kernel_rfl) [{ fl := [0, 1, 2, 3], ef := 4 }, { fl := [5, 6, 7, 8, 9, 10, 11, 12, 13, 14, 15, 16, 17, 18, 20], ef := 19 }, { fl := [], ef := 21 }] [22, 23] (by kernel_rfl) (fun _ _ => True) ?_
  simp only [wpPlan, longOK, keepOK, opsAt_cons, opsAt_nil, consO_some, List.getElem?_toArray, List.getElem?_cons_succ, List.getElem?_cons_zero, true_and]
  go_wp2_with fail
  refine ⟨by kernel_rfl, ?_⟩
  go_wp2_with fail
  refine (mayOp_any o _).mono ?_
  rintro e w2 ⟨rfl, hc2⟩
  rw [hmh.out]
  have hT2 := (hT1.chg (Chg.refl (fun _ => False) w1).drew id id).chg hc2 id id
  have hO2 := (show Blk w1.drew _ _ _ from hO).chg hc2 id
  have hcF : Chg (fun _ => False) w w2 := hc1.drew.trans hc2 (fun _ _ h => h)
  clear o0 o1 o2 o3 o4
  have o0 : w2.cell? ⟨w.heap.size, 0, none⟩ = some (.int .i64 o.kd) := by rw [hO2.cell]; rfl
  have o1 : w2.cell? ⟨w.heap.size, 1, none⟩ = some (.int .i64 o.bk) := by rw [hO2.cell]; rfl
  have o2 : w2.cell? ⟨w.heap.size, 2, none⟩ = some (.int .i64 o.un) := by rw [hO2.cell]; rfl
  have o3 : w2.cell? ⟨w.heap.size, 3, none⟩ = some (.int .i64 o.cu) := by rw [hO2.cell]; rfl
  have o4 : w2.cell? ⟨w.heap.size, 4, none⟩ = some (.int .i64 o.am) := by rw [hO2.cell]; rfl
  go_wp2_with fail
  refine ⟨by kernel_rfl, ?_⟩
  go_wp2_with fail
  refine (key_any _ o).mono ?_
  rintro e w3 ⟨rfl, hc3⟩
  have hT3 := hT2.chg hc3 id id
  have hcG : Chg (fun _ => False) w w3 := hcF.trans hc3 (fun _ _ h => h)
  clear o0 o1 o2 o3 o4
  go_wp2_with fail
  refine ⟨by kernel_rfl, ?_⟩
  go_wp2_with fail
  refine (put_old w3 t mt f o.bk o.kd 2 hT3 ⟨by omega, by omega⟩ ⟨by omega, by omega⟩ hfh.out).mono ?_
  rintro e w4 ⟨rfl, hc4⟩
  have hcH : Chg (fun _ => False) w w4 := hcG.trans hc4 (fun _ _ h => h)
  go_wp2_with fail
  refine ⟨by kernel_rfl, ?_⟩
  go_wp2_with fail
  go_ret
  exact ⟨rfl, hcH⟩

set_option maxRecDepth 100000 in
set_option maxHeartbeats 1000000 in
theorem tput_new2 (w : World) (t mt : Nat) (f : Tab) (o : POp) (hT : TabAt w t mt f) (hm : mayOp o = true) (hf : f (o.bk, o.kd) = 0) :
    Calls Try.prog 37 #[.pointer (some ⟨t, 0, none⟩), o.val, .int .i64 2] w fun e w' => e = .returned (.bool true) ∧ TabAt w' t mt (upd f (o.bk, o.kd) 2) ∧ Chg (fun i => i = mt) w w' := by
  have hb := mayOp_bk hm
  have hk := mayOp_kd hm
  have hmh := Lib.hid hm
  have hfh := Lib.hid hf
  clear hm hf
  go_enter Try.func37, Try.ntmps37
  unfold POp.val
  go_wp2
  have hc1 : Chg (fun _ => False) w (w.alloc (.cells #[.int .i64 o.kd, .int .i64 o.bk, .int .i64 o.un, .int .i64 o.cu, .int .i64 o.am] 31)) := (Chg.refl _ w).alloc _
  have hT1 := hT.chg hc1 id id
  have hO := Blk.new w 31 o.row
  unfold POp.row at hO
  generalize w.alloc (.cells #[.int .i64 o.kd, .int .i64 o.bk, .int .i64 o.un, .int .i64 o.cu, .int .i64 o.am] 31) = w1 at *
  have o0 : w1.cell? ⟨w.heap.size, 0, none⟩ = some (.int .i64 o.kd) := by rw [hO.cell]; rfl
  have o1 : w1.cell? ⟨w.heap.size, 1, none⟩ = some (.int .i64 o.bk) := by rw [hO.cell]; rfl
  have o2 : w1.cell? ⟨w.heap.size, 2, none⟩ = some (.int .i64 o.un) := by rw [hO.cell]; rfl
  have o3 : w1.cell? ⟨w.heap.size, 3, none⟩ = some (.int .i64 o.cu) := by rw [hO.cell]; rfl
  have o4 : w1.cell? ⟨w.heap.size, 4, none⟩ = some (.int .i64 o.am) := by rw [hO.cell]; rfl
  refine wp_region_plan (by kernel_rfl) [{ fl := [0, 1, 2, 3], ef := 4 }, { fl := [5, 6, 7, 8, 9, 10, 11, 12, 13, 14, 15, 16, 17, 18, 20], ef := 19 }, { fl := [], ef := 21 }] [22, 23] (by kernel_rfl) (fun _ _ => True) ?_
  simp only [wpPlan, longOK, keepOK, opsAt_cons, opsAt_nil, consO_some, List.getElem?_toArray, List.getElem?_cons_succ, List.getElem?_cons_zero, true_and]
  go_wp2_with fail
  refine ⟨by kernel_rfl, ?_⟩
  go_wp2_with fail
  refine (mayOp_any o _).mono ?_
  rintro e w2 ⟨rfl, hc2⟩
  rw [hmh.out]
  have hT2 := (hT1.chg (Chg.refl (fun _ => False) w1).drew id id).chg hc2 id id
  have hO2 := (show Blk w1.drew _ _ _ from hO).chg hc2 id
  have hcF : Chg (fun _ => False) w w2 := hc1.drew.trans hc2 (fun _ _ h => h)
  clear o0 o1 o2 o3 o4
  have o0 : w2.cell? ⟨w.heap.size, 0, none⟩ = some (.int .i64 o.kd) := by rw [hO2.cell]; rfl
  have o1 : w2.cell? ⟨w.heap.size, 1, none⟩ = some (.int .i64 o.bk) := by rw [hO2.cell]; rfl
  have o2 : w2.cell? ⟨w.heap.size, 2, none⟩ = some (.int .i64 o.un) := by rw [hO2.cell]; rfl
  have o3 : w2.cell? ⟨w.heap.size, 3, none⟩ = some (.int .i64 o.cu) := by rw [hO2.cell]; rfl
  have o4 : w2.cell? ⟨w.heap.size, 4, none⟩ = some (.int .i64 o.am) := by rw [hO2.cell]; rfl
  go_wp2_with fail
  refine ⟨by kernel_rfl, ?_⟩
  go_wp2_with fail
  refine (key_any _ o).mono ?_
  rintro e w3 ⟨rfl, hc3⟩
  have hT3 := hT2.chg hc3 id id
  have hcG : Chg (fun _ => False) w w3 := hcF.trans hc3 (fun _ _ h => h)
  clear o0 o1 o2 o3 o4
  go_wp2_with fail
  refine ⟨by kernel_rfl, ?_⟩
  go_wp2_with fail
  refine (put_new w3 t mt f o.bk o.kd 2 hT3 hb hk (by omega) hfh.out).mono ?_
  rintro e w4 ⟨rfl, hT4, hc4⟩
  have hcH : Chg (fun i => i = mt) w w4 := (hcG.mono (fun _ _ h => h.elim)).trans hc4 (fun _ _ h => h)
  go_wp2_with fail
  refine ⟨by kernel_rfl, ?_⟩
  go_wp2_with fail
  go_ret
  exact ⟨rfl, hT4, hcH⟩

end Go.Proofs.Ytdeoipioinnkcaa
