/-
  table: Find, put, Put by their contracts.
-/
import Derived.Test.YtddnpjlcmokbiaaTabA
import Derived.Test.YtddnpjlcmokbiaaPurseN
namespace Go.Proofs.Ytddnpjlcmokbiaa
open Go.RowKit Go.Maps

set_option maxRecDepth 100000 in
set_option maxHeartbeats 1000000 in
theorem find_any (w : World) (t mt : Nat) (f : Tab) (o : POp) (hT : TabAt w t mt f) (hb : isI o.bk) (hk : isI o.kd) :
    Calls Try.prog 52 #[.pointer (some ⟨t, 0, none⟩), o.val] w fun e w' => e = .returned (.tuple #[.int .i64 (f (o.bk, o.kd)), .bool (!(f (o.bk, o.kd) == 0))]) ∧ Chg (fun _ => False) w w' := by
  have hbh := Lib.hid hb
  have hkh := Lib.hid hk
  clear hb hk
  obtain ⟨a, ha⟩ : ∃ a, f (o.bk, o.kd) = a := ⟨_, rfl⟩
  rw [ha]
  have hah := Lib.hid ha
  clear ha
  go_enter Try.func52, Try.ntmps52
  unfold POp.val
  go_wp2
  have hc1 : Chg (fun _ => False) w (w.alloc (.cells #[.int .i64 o.kd, .int .i64 o.bk, .int .i64 o.un, .int .i64 o.cu, .int .i64 o.am] 33)) := (Chg.refl _ w).alloc _
  have hT1 := hT.chg hc1 id id
  have hO := Blk.new w 33 o.row
  unfold POp.row at hO
  generalize w.alloc (.cells #[.int .i64 o.kd, .int .i64 o.bk, .int .i64 o.un, .int .i64 o.cu, .int .i64 o.am] 33) = w1 at *
  have c0 : w1.cell? ⟨t, 0, none⟩ = some (.map (some mt)) := by rw [hT1.blk.cell]; rfl
  have o0 : w1.cell? ⟨w.heap.size, 0, none⟩ = some (.int .i64 o.kd) := by rw [hO.cell]; rfl
  have o1 : w1.cell? ⟨w.heap.size, 1, none⟩ = some (.int .i64 o.bk) := by rw [hO.cell]; rfl
  have o2 : w1.cell? ⟨w.heap.size, 2, none⟩ = some (.int .i64 o.un) := by rw [hO.cell]; rfl
  have o3 : w1.cell? ⟨w.heap.size, 3, none⟩ = some (.int .i64 o.cu) := by rw [hO.cell]; rfl
  have o4 : w1.cell? ⟨w.heap.size, 4, none⟩ = some (.int .i64 o.am) := by rw [hO.cell]; rfl
  refine wp_region_plan (by kernel_rfl) [{ fl := [0, 1, 2, 3, 4, 5], long := [4], ef := 6, keep := [4] }, { fl := [], ef := 7 }] [8, 9, 10, 11, 12] (by kernel_rfl) (fun _ w9 => w9.cell? ⟨t, 0, none⟩ = some (.map (some mt))) ?_
  simp only [wpPlan, longOK, keepOK, opsAt_cons, opsAt_nil, consO_some, List.getElem?_toArray, List.getElem?_cons_succ, List.getElem?_cons_zero, and_true, true_and]
  refine ⟨c0, ?_⟩
  go_wp2_with fail
  refine ⟨by kernel_rfl, ?_, ?_⟩
  · intro _ w9 h
    have h : w9.cell? ⟨t, 0, none⟩ = some (.map (some mt)) := h
    go_simp
  go_wp2_with fail
  refine (key_any _ o).mono ?_
  rintro e w2 ⟨rfl, hc2⟩
  have hT2 := (hT1.chg (Chg.refl (fun _ => False) w1).drew id id).chg hc2 id id
  have hcF : Chg (fun _ => False) w w2 := hc1.drew.trans hc2 (fun _ _ h => h)
  have c2 : w2.cell? ⟨t, 0, none⟩ = some (.map (some mt)) := by rw [hT2.blk.cell]; rfl
  have k0 := hT2.look (w1 := w2) rfl o.bk o.kd hbh.out hkh.out
  have k1 := hT2.look (w1 := w2.drew) rfl o.bk o.kd hbh.out hkh.out
  rw [hah.out] at k0 k1
  go_wp2_with fail
  refine ⟨c2, ?_⟩
  go_wp2_with fail
  refine ⟨by kernel_rfl, ?_⟩
  go_wp2_with fail
  refine ⟨by kernel_rfl, ?_⟩
  go_wp2_with fail
  go_ret2
  exact ⟨rfl, hcF⟩

set_option maxRecDepth 100000 in
theorem put_old (w : World) (t mt : Nat) (f : Tab) (b k v : Int) (hT : TabAt w t mt f) (hb : isI b) (hk : isI k) (hf : f (b, k) ≠ 0) :
    Calls Try.prog 59 #[.pointer (some ⟨t, 0, none⟩), .agg #[.int .i64 b, .int .i64 k], .int .i64 v] w fun e w' => e = .returned (.bool false) ∧ Chg (fun _ => False) w w' := by
  have hbh := Lib.hid hb
  have hkh := Lib.hid hk
  have hfb := Lib.hid (show (!(f (b, k) == 0)) = true by simp [hf])
  clear hb hk hf
  go_enter Try.func59, Try.ntmps59
  go_wp2
  have hc1 : Chg (fun _ => False) w (w.alloc (.cells #[.int .i64 b, .int .i64 k] 108)) := (Chg.refl _ w).alloc _
  have hT1 := hT.chg hc1 id id
  have hO := Blk.new w 108 #[.int .i64 b, .int .i64 k]
  generalize w.alloc (.cells #[.int .i64 b, .int .i64 k] 108) = w1 at *
  have c0 : w1.cell? ⟨t, 0, none⟩ = some (.map (some mt)) := by rw [hT1.blk.cell]; rfl
  have o0 : w1.cell? ⟨w.heap.size, 0, none⟩ = some (.int .i64 b) := by rw [hO.cell]; rfl
  have o1 : w1.cell? ⟨w.heap.size, 1, none⟩ = some (.int .i64 k) := by rw [hO.cell]; rfl
  have k0 := hT1.look (w1 := w1) rfl b k hbh.out hkh.out
  have k1 := hT1.look (w1 := w1.drew) rfl b k hbh.out hkh.out
  rw [hfb.out] at k0 k1
  refine wp_region_plan (by kernel_rfl) [{ fl := [0, 1, 2, 3, 4], ef := 5 }] [6, 7, 8, 9, 10] (by kernel_rfl) (fun _ _ => True) ?_
  simp only [wpPlan, longOK, keepOK, opsAt_cons, opsAt_nil, consO_some, List.getElem?_toArray, List.getElem?_cons_succ, List.getElem?_cons_zero, true_and]
  go_wp2_with fail
  refine ⟨by kernel_rfl, ?_⟩
  go_wp2_with fail
  refine ⟨by kernel_rfl, ?_⟩
  go_wp2_with fail
  go_ret
  exact ⟨rfl, hc1.drew⟩

set_option maxRecDepth 100000 in
set_option maxHeartbeats 1000000 in
theorem put_new (w : World) (t mt : Nat) (f : Tab) (b k v : Int) (hT : TabAt w t mt f) (hb : 1 ≤ b ∧ b ≤ 200) (hk : 1 ≤ k ∧ k ≤ 6) (hv : v ≠ 0) (hf : f (b, k) = 0) :
    Calls Try.prog 59 #[.pointer (some ⟨t, 0, none⟩), .agg #[.int .i64 b, .int .i64 k], .int .i64 v] w fun e w' => e = .returned (.bool true) ∧ TabAt w' t mt (upd f (b, k) v) ∧ Chg (fun i => i = mt) w w' := by
  have hbi : isI b := ⟨by omega, by omega⟩
  have hki : isI k := ⟨by omega, by omega⟩
  have hbh := Lib.hid hbi
  have hkh := Lib.hid hki
  have hvh := Lib.hid hv
  have hfb := Lib.hid (show (!(f (b, k) == 0)) = false by simp [hf])
  clear hbi hki hv hf
  go_enter Try.func59, Try.ntmps59
  go_wp2
  have hc1 : Chg (fun i => i = mt) w (w.alloc (.cells #[.int .i64 b, .int .i64 k] 108)) := (Chg.refl _ w).alloc _
  have hT1 := hT.chg ((Chg.refl (fun _ => False) w).alloc (.cells #[.int .i64 b, .int .i64 k] 108)) id id
  have hO := Blk.new w 108 #[.int .i64 b, .int .i64 k]
  generalize w.alloc (.cells #[.int .i64 b, .int .i64 k] 108) = w1 at *
  have c0 : w1.cell? ⟨t, 0, none⟩ = some (.map (some mt)) := by rw [hT1.blk.cell]; rfl
  have o0 : w1.cell? ⟨w.heap.size, 0, none⟩ = some (.int .i64 b) := by rw [hO.cell]; rfl
  have o1 : w1.cell? ⟨w.heap.size, 1, none⟩ = some (.int .i64 k) := by rw [hO.cell]; rfl
  have k0 := hT1.look (w1 := w1) rfl b k hbh.out hkh.out
  have k1 := hT1.look (w1 := w1.drew) rfl b k hbh.out hkh.out
  rw [hfb.out] at k0 k1
  refine wp_region_plan (by kernel_rfl) [{ fl := [0, 1, 2, 3, 4], ef := 5 }] [6, 7, 8, 9, 10] (by kernel_rfl) (fun _ _ => True) ?_
  simp only [wpPlan, longOK, keepOK, opsAt_cons, opsAt_nil, consO_some, List.getElem?_toArray, List.getElem?_cons_succ, List.getElem?_cons_zero, true_and]
  go_wp2_with fail
  refine ⟨by kernel_rfl, ?_⟩
  go_wp2_with fail
  refine ⟨by kernel_rfl, ?_⟩
  go_wp2_with fail
  refine wp_region_plan (by kernel_rfl) [{ fl := [0, 1, 2, 3, 4, 5], ef := 6 }] [] (by kernel_rfl) (fun _ _ => True) ?_
  simp only [wpPlan, longOK, keepOK, opsAt_cons, opsAt_nil, consO_some, List.getElem?_toArray, List.getElem?_cons_succ, List.getElem?_cons_zero, true_and]
  go_wp2_with fail
  refine ⟨by kernel_rfl, ?_⟩
  refine wpList_mapStore (enc := encP) (e := 3) rfl _ _ _ 98 rfl law2 Try.underlying98 encP_inj (b := mt) (f := tabMap f) (hT1.map.keep rfl) (tabMap_keys hT1.keys) rfl (b, k) rfl (keyP hbh.out hkh.out) (.int .i64 v) rfl ?_
  intro w' hm hc hsz hdr
  have hne : ¬ t = mt := fun e => (hT1.map.ne hT1.blk) e.symm
  have hfin : TabAt w' t mt (upd f (b, k) v) := by
    rw [tabMap_upd _ _ _ hvh.out] at hm
    refine ⟨(show Blk w1.drew.drew t _ _ from hT1.blk).chg hc hne, hm, fun p hp => ?_⟩
    by_cases e : p = (b, k)
    · subst e; exact ⟨hb, hk⟩
    · rw [upd_other _ _ _ _ e] at hp; exact hT1.keys p hp
  have hch : Chg (fun i => i = mt) w w' := (hc1.drew.drew).trans hc (fun _ _ h => h)
  clear hm hc hsz hdr
  go_wp2_with fail
  refine ⟨by kernel_rfl, ?_⟩
  go_wp2_with fail
  go_ret
  exact ⟨rfl, hfin, hch⟩
end Go.Proofs.Ytddnpjlcmokbiaa

namespace Go.Proofs.Ytddnpjlcmokbiaa
open Go.RowKit Go.Maps

set_option maxRecDepth 100000 in
set_option maxHeartbeats 1000000 in
theorem tput_no (w : World) (t mt : Nat) (f : Tab) (o : POp) (a : Int) (hT : TabAt w t mt f) (hm : mayOp o = false) :
    Calls Try.prog 53 #[.pointer (some ⟨t, 0, none⟩), o.val, .int .i64 a] w fun e w' => e = .returned (.bool false) ∧ Chg (fun _ => False) w w' := by
  have hmh := Lib.hid hm
  clear hm
  go_enter Try.func53, Try.ntmps53
  unfold POp.val
  go_wp2
  have hc1 : Chg (fun _ => False) w (w.alloc (.cells #[.int .i64 o.kd, .int .i64 o.bk, .int .i64 o.un, .int .i64 o.cu, .int .i64 o.am] 33)) := (Chg.refl _ w).alloc _
  have hT1 := hT.chg hc1 id id
  have hO := Blk.new w 33 o.row
  unfold POp.row at hO
  generalize w.alloc (.cells #[.int .i64 o.kd, .int .i64 o.bk, .int .i64 o.un, .int .i64 o.cu, .int .i64 o.am] 33) = w1 at *
  have o0 : w1.cell? ⟨w.heap.size, 0, none⟩ = some (.int .i64 o.kd) := by rw [hO.cell]; rfl
  have o1 : w1.cell? ⟨w.heap.size, 1, none⟩ = some (.int .i64 o.bk) := by rw [hO.cell]; rfl
  have o2 : w1.cell? ⟨w.heap.size, 2, none⟩ = some (.int .i64 o.un) := by rw [hO.cell]; rfl
  have o3 : w1.cell? ⟨w.heap.size, 3, none⟩ = some (.int .i64 o.cu) := by rw [hO.cell]; rfl
  have o4 : w1.cell? ⟨w.heap.size, 4, none⟩ = some (.int .i64 o.am) := by rw [hO.cell]; rfl
  refine wp_region_plan (by kernel_rfl) [{ fl := [0, 1, 2, 3], ef := 4 }, { fl := [5, 6, 7, 8, 9, 10, 11, 12, 13, 14, 15, 16, 17, 18, 20], ef := 19 }, { fl := [], ef := 21 }] [22, 23] (by kernel_rfl) (fun _ _ => True) ?_
  simp only [wpPlan, longOK, keepOK, opsAt_cons, opsAt_nil, consO_some, List.getElem?_toArray, List.getElem?_cons_succ, List.getElem?_cons_zero, true_and]
  go_wp2_with fail
  refine ⟨by kernel_rfl, ?_⟩
  go_wp2_with fail
  refine (mayOp_any o _).mono ?_
  rintro e w2 ⟨rfl, hc2⟩
  rw [hmh.out]
  have hT2 := (hT1.chg (Chg.refl (fun _ => False) w1).drew id id).chg hc2 id id
  have hO2 := (show Blk w1.drew _ _ _ from hO).chg hc2 id
  have hcF : Chg (fun _ => False) w w2 := hc1.drew.trans hc2 (fun _ _ h => h)
  clear o0 o1 o2 o3 o4
  have o0 : w2.cell? ⟨w.heap.size, 0, none⟩ = some (.int .i64 o.kd) := by rw [hO2.cell]; rfl
  have o1 : w2.cell? ⟨w.heap.size, 1, none⟩ = some (.int .i64 o.bk) := by rw [hO2.cell]; rfl
  have o2 : w2.cell? ⟨w.heap.size, 2, none⟩ = some (.int .i64 o.un) := by rw [hO2.cell]; rfl
  have o3 : w2.cell? ⟨w.heap.size, 3, none⟩ = some (.int .i64 o.cu) := by rw [hO2.cell]; rfl
  have o4 : w2.cell? ⟨w.heap.size, 4, none⟩ = some (.int .i64 o.am) := by rw [hO2.cell]; rfl
  go_wp2_with fail
  refine ⟨by kernel_rfl, ?_⟩
  go_wp2_with fail
  refine ⟨by kernel_rfl, ?_⟩
  go_wp2_with fail
  refine ⟨by kernel_rfl, ?_⟩
  go_wp2_with fail
  go_ret
  exact ⟨rfl, hcF⟩

set_option maxRecDepth 100000 in
set_option maxHeartbeats 1000000 in
theorem tput_bad (w : World) (t mt : Nat) (f : Tab) (o : POp) (a : Int) (hT : TabAt w t mt f) (hm : mayOp o = true) (h1 : a ≠ 1) (h2 : a ≠ 2) :
    Calls Try.prog 53 #[.pointer (some ⟨t, 0, none⟩), o.val, .int .i64 a] w fun e w' => e = .returned (.bool false) ∧ Chg (fun _ => False) w w' := by
  have hmh := Lib.hid hm
  clear hm
  have b1 : (a == 1) = false := by simp [h1]
  have b2 : (a == 2) = false := by simp [h2]
  clear h1 h2
  go_enter Try.func53, Try.ntmps53
  unfold POp.val
  go_wp2
  have hc1 : Chg (fun _ => False) w (w.alloc (.cells #[.int .i64 o.kd, .int .i64 o.bk, .int .i64 o.un, .int .i64 o.cu, .int .i64 o.am] 33)) := (Chg.refl _ w).alloc _
  have hT1 := hT.chg hc1 id id
  have hO := Blk.new w 33 o.row
  unfold POp.row at hO
  generalize w.alloc (.cells #[.int .i64 o.kd, .int .i64 o.bk, .int .i64 o.un, .int .i64 o.cu, .int .i64 o.am] 33) = w1 at *
  have o0 : w1.cell? ⟨w.heap.size, 0, none⟩ = some (.int .i64 o.kd) := by rw [hO.cell]; rfl
  have o1 : w1.cell? ⟨w.heap.size, 1, none⟩ = some (.int .i64 o.bk) := by rw [hO.cell]; rfl
  have o2 : w1.cell? ⟨w.heap.size, 2, none⟩ = some (.int .i64 o.un) := by rw [hO.cell]; rfl
  have o3 : w1.cell? ⟨w.heap.size, 3, none⟩ = some (.int .i64 o.cu) := by rw [hO.cell]; rfl
  have o4 : w1.cell? ⟨w.heap.size, 4, none⟩ = some (.int .i64 o.am) := by rw [hO.cell]; rfl
  refine wp_region_plan (by kernel_rfl) [{ fl := [0, 1, 2, 3], ef := 4 }, { fl := [5, 6, 7, 8, 9, 10, 11, 12, 13, 14, 15, 16, 17, 18, 20], ef := 19 }, { fl := [], ef := 21 }] [22, 23] (by kernel_rfl) (fun _ _ => True) ?_
  simp only [wpPlan, longOK, keepOK, opsAt_cons, opsAt_nil, consO_some, List.getElem?_toArray, List.getElem?_cons_succ, List.getElem?_cons_zero, true_and]
  go_wp2_with fail
  refine ⟨by kernel_rfl, ?_⟩
  go_wp2_with fail
  refine (mayOp_any o _).mono ?_
  rintro e w2 ⟨rfl, hc2⟩
  rw [hmh.out]
  have hT2 := (hT1.chg (Chg.refl (fun _ => False) w1).drew id id).chg hc2 id id
  have hO2 := (show Blk w1.drew _ _ _ from hO).chg hc2 id
  have hcF : Chg (fun _ => False) w w2 := hc1.drew.trans hc2 (fun _ _ h => h)
  clear o0 o1 o2 o3 o4
  have o0 : w2.cell? ⟨w.heap.size, 0, none⟩ = some (.int .i64 o.kd) := by rw [hO2.cell]; rfl
  have o1 : w2.cell? ⟨w.heap.size, 1, none⟩ = some (.int .i64 o.bk) := by rw [hO2.cell]; rfl
  have o2 : w2.cell? ⟨w.heap.size, 2, none⟩ = some (.int .i64 o.un) := by rw [hO2.cell]; rfl
  have o3 : w2.cell? ⟨w.heap.size, 3, none⟩ = some (.int .i64 o.cu) := by rw [hO2.cell]; rfl
  have o4 : w2.cell? ⟨w.heap.size, 4, none⟩ = some (.int .i64 o.am) := by rw [hO2.cell]; rfl
  go_wp2_with fail
  refine ⟨by kernel_rfl, ?_⟩
  go_wp2_with fail
  refine ⟨by kernel_rfl, ?_⟩
  go_wp2_with fail
  refine ⟨by kernel_rfl, ?_⟩
  go_wp2_with fail
  go_ret
  exact ⟨rfl, hcF⟩

set_option maxRecDepth 100000 in
set_option maxHeartbeats 1000000 in
theorem tput_old1 (w : World) (t mt : Nat) (f : Tab) (o : POp) (hT : TabAt w t mt f) (hm : mayOp o = true) (hf : f (o.bk, o.kd) ≠ 0) :
    Calls Try.prog 53 #[.pointer (some ⟨t, 0, none⟩), o.val, .int .i64 1] w fun e w' => e = .returned (.bool false) ∧ Chg (fun _ => False) w w' := by
  have hb := mayOp_bk hm
  have hk := mayOp_kd hm
  have hmh := Lib.hid hm
  have hfh := Lib.hid hf
  clear hm hf
  go_enter Try.func53, Try.ntmps53
  unfold POp.val
  go_wp2
  have hc1 : Chg (fun _ => False) w (w.alloc (.cells #[.int .i64 o.kd, .int .i64 o.bk, .int .i64 o.un, .int .i64 o.cu, .int .i64 o.am] 33)) := (Chg.refl _ w).alloc _
  have hT1 := hT.chg hc1 id id
  have hO := Blk.new w 33 o.row
  unfold POp.row at hO
  generalize w.alloc (.cells #[.int .i64 o.kd, .int .i64 o.bk, .int .i64 o.un, .int .i64 o.cu, .int .i64 o.am] 33) = w1 at *
  have o0 : w1.cell? ⟨w.heap.size, 0, none⟩ = some (.int .i64 o.kd) := by rw [hO.cell]; rfl
  have o1 : w1.cell? ⟨w.heap.size, 1, none⟩ = some (.int .i64 o.bk) := by rw [hO.cell]; rfl
  have o2 : w1.cell? ⟨w.heap.size, 2, none⟩ = some (.int .i64 o.un) := by rw [hO.cell]; rfl
  have o3 : w1.cell? ⟨w.heap.size, 3, none⟩ = some (.int .i64 o.cu) := by rw [hO.cell]; rfl
  have o4 : w1.cell? ⟨w.heap.size, 4, none⟩ = some (.int .i64 o.am) := by rw [hO.cell]; rfl
  refine wp_region_plan (by kernel_rfl) [{ fl := [0, 1, 2, 3], ef := 4 }, { fl := [5, 6, 7, 8, 9, 10, 11, 12, 13, 14, 15, 16, 17, 18, 20], ef := 19 }, { fl := [], ef := 21 }] [22, 23] (by kernel_rfl) (fun _ _ => True) ?_
  simp only [wpPlan, longOK, keepOK, opsAt_cons, opsAt_nil, consO_some, List.getElem?_toArray, List.getElem?_cons_succ, List.getElem?_cons_zero, true_and]
  go_wp2_with fail
  refine ⟨by kernel_rfl, ?_⟩
  go_wp2_with fail
  refine (mayOp_any o _).mono ?_
  rintro e w2 ⟨rfl, hc2⟩
  rw [hmh.out]
  have hT2 := (hT1.chg (Chg.refl (fun _ => False) w1).drew id id).chg hc2 id id
  have hO2 := (show Blk w1.drew _ _ _ from hO).chg hc2 id
  have hcF : Chg (fun _ => False) w w2 := hc1.drew.trans hc2 (fun _ _ h => h)
  clear o0 o1 o2 o3 o4
  have o0 : w2.cell? ⟨w.heap.size, 0, none⟩ = some (.int .i64 o.kd) := by rw [hO2.cell]; rfl
  have o1 : w2.cell? ⟨w.heap.size, 1, none⟩ = some (.int .i64 o.bk) := by rw [hO2.cell]; rfl
  have o2 : w2.cell? ⟨w.heap.size, 2, none⟩ = some (.int .i64 o.un) := by rw [hO2.cell]; rfl
  have o3 : w2.cell? ⟨w.heap.size, 3, none⟩ = some (.int .i64 o.cu) := by rw [hO2.cell]; rfl
  have o4 : w2.cell? ⟨w.heap.size, 4, none⟩ = some (.int .i64 o.am) := by rw [hO2.cell]; rfl
  go_wp2_with fail
  refine ⟨by kernel_rfl, ?_⟩
  go_wp2_with fail
  refine (key_any _ o).mono ?_
  rintro e w3 ⟨rfl, hc3⟩
  have hT3 := hT2.chg hc3 id id
  have hcG : Chg (fun _ => False) w w3 := hcF.trans hc3 (fun _ _ h => h)
  clear o0 o1 o2 o3 o4
  go_wp2_with fail
  refine ⟨by kernel_rfl, ?_⟩
  go_wp2_with fail
  refine (put_old w3 t mt f o.bk o.kd 1 hT3 ⟨by omega, by omega⟩ ⟨by omega, by omega⟩ hfh.out).mono ?_
  rintro e w4 ⟨rfl, hc4⟩
  have hcH : Chg (fun _ => False) w w4 := hcG.trans hc4 (fun _ _ h => h)
  go_wp2_with fail
  refine ⟨by kernel_rfl, ?_⟩
  go_wp2_with fail
  go_ret
  exact ⟨rfl, hcH⟩

set_option maxRecDepth 100000 in
set_option maxHeartbeats 1000000 in
theorem tput_new1 (w : World) (t mt : Nat) (f : Tab) (o : POp) (hT : TabAt w t mt f) (hm : mayOp o = true) (hf : f (o.bk, o.kd) = 0) :
    Calls Try.prog 53 #[.pointer (some ⟨t, 0, none⟩), o.val, .int .i64 1] w fun e w' => e = .returned (.bool true) ∧ TabAt w' t mt (upd f (o.bk, o.kd) 1) ∧ Chg (fun i => i = mt) w w' := by
  have hb := mayOp_bk hm
  have hk := mayOp_kd hm
  have hmh := Lib.hid hm
  have hfh := Lib.hid hf
  clear hm hf
  go_enter Try.func53, Try.ntmps53
  unfold POp.val
  go_wp2
  have hc1 : Chg (fun _ => False) w (w.alloc (.cells #[.int .i64 o.kd, .int .i64 o.bk, .int .i64 o.un, .int .i64 o.cu, .int .i64 o.am] 33)) := (Chg.refl _ w).alloc _
  have hT1 := hT.chg hc1 id id
  have hO := Blk.new w 33 o.row
  unfold POp.row at hO
  generalize w.alloc (.cells #[.int .i64 o.kd, .int .i64 o.bk, .int .i64 o.un, .int .i64 o.cu, .int .i64 o.am] 33) = w1 at *
  have o0 : w1.cell? ⟨w.heap.size, 0, none⟩ = some (.int .i64 o.kd) := by rw [hO.cell]; rfl
  have o1 : w1.cell? ⟨w.heap.size, 1, none⟩ = some (.int .i64 o.bk) := by rw [hO.cell]; rfl
  have o2 : w1.cell? ⟨w.heap.size, 2, none⟩ = some (.int .i64 o.un) := by rw [hO.cell]; rfl
  have o3 : w1.cell? ⟨w.heap.size, 3, none⟩ = some (.int .i64 o.cu) := by rw [hO.cell]; rfl
  have o4 : w1.cell? ⟨w.heap.size, 4, none⟩ = some (.int .i64 o.am) := by rw [hO.cell]; rfl
  refine wp_region_plan (by kernel_rfl) [{ fl := [0, 1, 2, 3], ef := 4 }, { fl := [5, 6, 7, 8, 9, 10, 11, 12, 13, 14, 15, 16, 17, 18, 20], ef := 19 }, { fl := [], ef := 21 }] [22, 23] (by kernel_rfl) (fun _ _ => True) ?_
  simp only [wpPlan, longOK, keepOK, opsAt_cons, opsAt_nil, consO_some, List.getElem?_toArray, List.getElem?_cons_succ, List.getElem?_cons_zero, true_and]
  go_wp2_with fail
  refine ⟨by kernel_rfl, ?_⟩
  go_wp2_with fail
  refine (mayOp_any o _).mono ?_
  rintro e w2 ⟨rfl, hc2⟩
  rw [hmh.out]
  have hT2 := (hT1.chg (Chg.refl (fun _ => False) w1).drew id id).chg hc2 id id
  have hO2 := (show Blk w1.drew _ _ _ from hO).chg hc2 id
  have hcF : Chg (fun _ => False) w w2 := hc1.drew.trans hc2 (fun _ _ h => h)
  clear o0 o1 o2 o3 o4
  have o0 : w2.cell? ⟨w.heap.size, 0, none⟩ = some (.int .i64 o.kd) := by rw [hO2.cell]; rfl
  have o1 : w2.cell? ⟨w.heap.size, 1, none⟩ = some (.int .i64 o.bk) := by rw [hO2.cell]; rfl
  have o2 : w2.cell? ⟨w.heap.size, 2, none⟩ = some (.int .i64 o.un) := by rw [hO2.cell]; rfl
  have o3 : w2.cell? ⟨w.heap.size, 3, none⟩ = some (.int .i64 o.cu) := by rw [hO2.cell]; rfl
  have o4 : w2.cell? ⟨w.heap.size, 4, none⟩ = some (.int .i64 o.am) := by rw [hO2.cell]; rfl
  go_wp2_with fail
  refine ⟨by kernel_rfl, ?_⟩
  go_wp2_with fail
  refine (key_any _ o).mono ?_
  rintro e w3 ⟨rfl, hc3⟩
  have hT3 := hT2.chg hc3 id id
  have hcG : Chg (fun _ => False) w w3 := hcF.trans hc3 (fun _ _ h => h)
  clear o0 o1 o2 o3 o4
  go_wp2_with fail
  refine ⟨by kernel_rfl, ?_⟩
  go_wp2_with fail
  refine (put_new w3 t mt f o.bk o.kd 1 hT3 hb hk (by omega) hfh.out).mono ?_
  rintro e w4 ⟨rfl, hT4, hc4⟩
  have hcH : Chg (fun i => i = mt) w w4 := (hcG.mono (fun _ _ h => h.elim)).trans hc4 (fun _ _ h => h)
  go_wp2_with fail
  refine ⟨by kernel_rfl, ?_⟩
  go_wp2_with fail
  go_ret
  exact ⟨rfl, hT4, hcH⟩

set_option maxRecDepth 100000 in
set_option maxHeartbeats 1000000 in
theorem tput_old2 (w : World) (t mt : Nat) (f : Tab) (o : POp) (hT : TabAt w t mt f) (hm : mayOp o = true) (hf : f (o.bk, o.kd) ≠ 0) :
    Calls Try.prog 53 #[.pointer (some ⟨t, 0, none⟩), o.val, .int .i64 2] w fun e w' => e = .returned (.bool false) ∧ Chg (fun _ => False) w w' := by
  have hb := mayOp_bk hm
  have hk := mayOp_kd hm
  have hmh := Lib.hid hm
  have hfh := Lib.hid hf
  clear hm hf
  go_enter Try.func53, Try.ntmps53
  unfold POp.val
  go_wp2
  have hc1 : Chg (fun _ => False) w (w.alloc (.cells #[.int .i64 o.kd, .int .i64 o.bk, .int .i64 o.un, .int .i64 o.cu, .int .i64 o.am] 33)) := (Chg.refl _ w).alloc _
  have hT1 := hT.chg hc1 id id
  have hO := Blk.new w 33 o.row
  unfold POp.row at hO
  generalize w.alloc (.cells #[.int .i64 o.kd, .int .i64 o.bk, .int .i64 o.un, .int .i64 o.cu, .int .i64 o.am] 33) = w1 at *
  have o0 : w1.cell? ⟨w.heap.size, 0, none⟩ = some (.int .i64 o.kd) := by rw [hO.cell]; rfl
  have o1 : w1.cell? ⟨w.heap.size, 1, none⟩ = some (.int .i64 o.bk) := by rw [hO.cell]; rfl
  have o2 : w1.cell? ⟨w.heap.size, 2, none⟩ = some (.int .i64 o.un) := by rw [hO.cell]; rfl
  have o3 : w1.cell? ⟨w.heap.size, 3, none⟩ = some (.int .i64 o.cu) := by rw [hO.cell]; rfl
  have o4 : w1.cell? ⟨w.heap.size, 4, none⟩ = some (.int .i64 o.am) := by rw [hO.cell]; rfl
  refine wp_region_plan (by kernel_rfl) [{ fl := [0, 1, 2, 3], ef := 4 }, { fl := [5, 6, 7, 8, 9, 10, 11, 12, 13, 14, 15, 16, 17, 18, 20], ef := 19 }, { fl := [], ef := 21 }] [22, 23] (by kernel_rfl) (fun _ _ => True) ?_
  simp only [wpPlan, longOK, keepOK, opsAt_cons, opsAt_nil, consO_some, List.getElem?_toArray, List.getElem?_cons_succ, List.getElem?_cons_zero, true_and]
  go_wp2_with fail
  refine ⟨by kernel_rfl, ?_⟩
  go_wp2_with fail
  refine (mayOp_any o _).mono ?_
  rintro e w2 ⟨rfl, hc2⟩
  rw [hmh.out]
  have hT2 := (hT1.chg (Chg.refl (fun _ => False) w1).drew id id).chg hc2 id id
  have hO2 := (show Blk w1.drew _ _ _ from hO).chg hc2 id
  have hcF : Chg (fun _ => False) w w2 := hc1.drew.trans hc2 (fun _ _ h => h)
  clear o0 o1 o2 o3 o4
  have o0 : w2.cell? ⟨w.heap.size, 0, none⟩ = some (.int .i64 o.kd) := by rw [hO2.cell]; rfl
  have o1 : w2.cell? ⟨w.heap.size, 1, none⟩ = some (.int .i64 o.bk) := by rw [hO2.cell]; rfl
  have o2 : w2.cell? ⟨w.heap.size, 2, none⟩ = some (.int .i64 o.un) := by rw [hO2.cell]; rfl
  have o3 : w2.cell? ⟨w.heap.size, 3, none⟩ = some (.int .i64 o.cu) := by rw [hO2.cell]; rfl
  have o4 : w2.cell? ⟨w.heap.size, 4, none⟩ = some (.int .i64 o.am) := by rw [hO2.cell]; rfl
  go_wp2_with fail
  refine ⟨by kernel_rfl, ?_⟩
  go_wp2_with fail
  refine (key_any _ o).mono ?_
  rintro e w3 ⟨rfl, hc3⟩
  have hT3 := hT2.chg hc3 id id
  have hcG : Chg (fun _ => False) w w3 := hcF.trans hc3 (fun _ _ h => h)
  clear o0 o1 o2 o3 o4
  go_wp2_with fail
  refine ⟨by kernel_rfl, ?_⟩
  go_wp2_with fail
  refine (put_old w3 t mt f o.bk o.kd 2 hT3 ⟨by omega, by omega⟩ ⟨by omega, by omega⟩ hfh.out).mono ?_
  rintro e w4 ⟨rfl, hc4⟩
  have hcH : Chg (fun _ => False) w w4 := hcG.trans hc4 (fun _ _ h => h)
  go_wp2_with fail
  refine ⟨by kernel_rfl, ?_⟩
  go_wp2_with fail
  go_ret
  exact ⟨rfl, hcH⟩

set_option maxRecDepth 100000 in
set_option maxHeartbeats 1000000 in
theorem tput_new2 (w : World) (t mt : Nat) (f : Tab) (o : POp) (hT : TabAt w t mt f) (hm : mayOp o = true) (hf : f (o.bk, o.kd) = 0) :
    Calls Try.prog 53 #[.pointer (some ⟨t, 0, none⟩), o.val, .int .i64 2] w fun e w' => e = .returned (.bool true) ∧ TabAt w' t mt (upd f (o.bk, o.kd) 2) ∧ Chg (fun i => i = mt) w w' := by
  have hb := mayOp_bk hm
  have hk := mayOp_kd hm
  have hmh := Lib.hid hm
  have hfh := Lib.hid hf
  clear hm hf
  go_enter Try.func53, Try.ntmps53
  unfold POp.val
  go_wp2
  have hc1 : Chg (fun _ => False) w (w.alloc (.cells #[.int .i64 o.kd, .int .i64 o.bk, .int .i64 o.un, .int .i64 o.cu, .int .i64 o.am] 33)) := (Chg.refl _ w).alloc _
  have hT1 := hT.chg hc1 id id
  have hO := Blk.new w 33 o.row
  unfold POp.row at hO
  generalize w.alloc (.cells #[.int .i64 o.kd, .int .i64 o.bk, .int .i64 o.un, .int .i64 o.cu, .int .i64 o.am] 33) = w1 at *
  have o0 : w1.cell? ⟨w.heap.size, 0, none⟩ = some (.int .i64 o.kd) := by rw [hO.cell]; rfl
  have o1 : w1.cell? ⟨w.heap.size, 1, none⟩ = some (.int .i64 o.bk) := by rw [hO.cell]; rfl
  have o2 : w1.cell? ⟨w.heap.size, 2, none⟩ = some (.int .i64 o.un) := by rw [hO.cell]; rfl
  have o3 : w1.cell? ⟨w.heap.size, 3, none⟩ = some (.int .i64 o.cu) := by rw [hO.cell]; rfl
  have o4 : w1.cell? ⟨w.heap.size, 4, none⟩ = some (.int .i64 o.am) := by rw [hO.cell]; rfl
  refine wp_region_plan (by kernel_rfl) [{ fl := [0, 1, 2, 3], ef := 4 }, { fl := [5, 6, 7, 8, 9, 10, 11, 12, 13, 14, 15, 16, 17, 18, 20], ef := 19 }, { fl := [], ef := 21 }] [22, 23] (by kernel_rfl) (fun _ _ => True) ?_
  simp only [wpPlan, longOK, keepOK, opsAt_cons, opsAt_nil, consO_some, List.getElem?_toArray, List.getElem?_cons_succ, List.getElem?_cons_zero, true_and]
  go_wp2_with fail
  refine ⟨by kernel_rfl, ?_⟩
  go_wp2_with fail
  refine (mayOp_any o _).mono ?_
  rintro e w2 ⟨rfl, hc2⟩
  rw [hmh.out]
  have hT2 := (hT1.chg (Chg.refl (fun _ => False) w1).drew id id).chg hc2 id id
  have hO2 := (show Blk w1.drew _ _ _ from hO).chg hc2 id
  have hcF : Chg (fun _ => False) w w2 := hc1.drew.trans hc2 (fun _ _ h => h)
  clear o0 o1 o2 o3 o4
  have o0 : w2.cell? ⟨w.heap.size, 0, none⟩ = some (.int .i64 o.kd) := by rw [hO2.cell]; rfl
  have o1 : w2.cell? ⟨w.heap.size, 1, none⟩ = some (.int .i64 o.bk) := by rw [hO2.cell]; rfl
  have o2 : w2.cell? ⟨w.heap.size, 2, none⟩ = some (.int .i64 o.un) := by rw [hO2.cell]; rfl
  have o3 : w2.cell? ⟨w.heap.size, 3, none⟩ = some (.int .i64 o.cu) := by rw [hO2.cell]; rfl
  have o4 : w2.cell? ⟨w.heap.size, 4, none⟩ = some (.int .i64 o.am) := by rw [hO2.cell]; rfl
  go_wp2_with fail
  refine ⟨by kernel_rfl, ?_⟩
  go_wp2_with fail
  refine (key_any _ o).mono ?_
  rintro e w3 ⟨rfl, hc3⟩
  have hT3 := hT2.chg hc3 id id
  have hcG : Chg (fun _ => False) w w3 := hcF.trans hc3 (fun _ _ h => h)
  clear o0 o1 o2 o3 o4
  go_wp2_with fail
  refine ⟨by kernel_rfl, ?_⟩
  go_wp2_with fail
  refine (put_new w3 t mt f o.bk o.kd 2 hT3 hb hk (by omega) hfh.out).mono ?_
  rintro e w4 ⟨rfl, hT4, hc4⟩
  have hcH : Chg (fun i => i = mt) w w4 := (hcG.mono (fun _ _ h => h.elim)).trans hc4 (fun _ _ h => h)
  go_wp2_with fail
  refine ⟨by kernel_rfl, ?_⟩
  go_wp2_with fail
  go_ret
  exact ⟨rfl, hT4, hcH⟩

end Go.Proofs.Ytddnpjlcmokbiaa

namespace Go.Proofs.Ytddnpjlcmokbiaa
open Go.RowKit Go.Maps

set_option maxRecDepth 100000 in
set_option maxHeartbeats 1000000 in
theorem answer_old (w : World) (t mt : Nat) (f : Tab) (o : POp) (cx co : Value) (hT : TabAt w t mt f) (hm : mayOp o = true) (hf : f (o.bk, o.kd) ≠ 0) :
    Calls Try.prog 36 #[.pointer (some ⟨t, 0, none⟩), o.val, .func (.func 37) #[] #[cx, co]] w fun e w' => e = .returned (.tuple #[.int .i64 (f (o.bk, o.kd)), .bool false]) ∧ Chg (fun _ => False) w w' := by
  have hb := mayOp_bk hm
  have hk := mayOp_kd hm
  have hfh := Lib.hid (show (!(f (o.bk, o.kd) == 0)) = true by simp [hf])
  clear hm hf
  go_enter Try.func36, Try.ntmps36
  unfold POp.val
  go_wp2_with fail
  refine (find_any _ t mt f o (by exact hT.chg ((Chg.refl (fun _ => False) w).alloc _) id id) ⟨by omega, by omega⟩ ⟨by omega, by omega⟩).mono ?_
  rintro e w2 ⟨rfl, hc2⟩
  rw [hfh.out]
  have hcF : Chg (fun _ => False) w w2 := ((Chg.refl _ w).alloc _).trans hc2 (fun _ _ h => h)
  go_wp2_with fail
  go_ret2
  exact ⟨rfl, hcF⟩

set_option maxRecDepth 100000 in
set_option maxHeartbeats 1000000 in
theorem answer_new (w : World) (t mt : Nat) (f : Tab) (o : POp) (cx co : Value) (hT : TabAt w t mt f) (hm : mayOp o = true) (hf : f (o.bk, o.kd) = 0) (r : Int) (hr : r = 1 ∨ r = 2) (S : Nat → Prop) (Post : World → Prop) (hS : ¬ S t ∧ ¬ S mt)
    (hdo : ∀ w1, Chg (fun _ => False) w w1 → Calls Try.prog 37 #[cx, co] w1 fun e w' => e = .returned (.int .i64 r) ∧ Post w' ∧ Chg S w1 w') (hSl : ∀ i, S i → i < w.heap.size) :
    Calls Try.prog 36 #[.pointer (some ⟨t, 0, none⟩), o.val, .func (.func 37) #[] #[cx, co]] w fun e w' => e = .returned (.tuple #[.int .i64 r, .bool true]) ∧ TabAt w' t mt (upd f (o.bk, o.kd) r) ∧ Chg (fun i => S i ∨ i = mt) w w' ∧ ∃ w3, Post w3 ∧ Chg (fun i => i = mt) w3 w' := by
  have hb := mayOp_bk hm
  have hk := mayOp_kd hm
  have hfz := Lib.hid hf
  have hmh := Lib.hid hm
  have hfh := Lib.hid (show (!(f (o.bk, o.kd) == 0)) = false by simp [hf])
  have hdoh := Lib.hid hdo
  clear hm hf hdo
  go_enter Try.func36, Try.ntmps36
  unfold POp.val
  go_wp2_with fail
  refine (find_any _ t mt f o (by exact hT.chg ((Chg.refl (fun _ => False) w).alloc _) id id) ⟨by omega, by omega⟩ ⟨by omega, by omega⟩).mono ?_
  rintro e w2 ⟨rfl, hc2⟩
  rw [hfh.out]
  have hO := (Blk.new w 33 o.row).chg hc2 id
  have hcF : Chg (fun _ => False) w w2 := ((Chg.refl _ w).alloc _).trans hc2 (fun _ _ h => h)
  have hT2 := hT.chg hcF id id
  go_wp2_with fail
  refine (hdoh.out w2 hcF).mono ?_
  rintro e w3 ⟨rfl, hpost, hc3⟩
  have hnO : ¬ S w.heap.size := fun h => by have := hSl _ h; omega
  have hO3 := hO.chg hc3 hnO
  have hT3 := hT2.chg hc3 hS.1 hS.2
  have hcG : Chg S w w3 := (hcF.mono (fun _ _ h => h.elim)).trans hc3 (fun _ _ h => h)
  have o0 : w3.cell? ⟨w.heap.size, 0, none⟩ = some (.int .i64 o.kd) := by rw [hO3.cell]; rfl
  have o1 : w3.cell? ⟨w.heap.size, 1, none⟩ = some (.int .i64 o.bk) := by rw [hO3.cell]; rfl
  have o2 : w3.cell? ⟨w.heap.size, 2, none⟩ = some (.int .i64 o.un) := by rw [hO3.cell]; rfl
  have o3 : w3.cell? ⟨w.heap.size, 3, none⟩ = some (.int .i64 o.cu) := by rw [hO3.cell]; rfl
  have o4 : w3.cell? ⟨w.heap.size, 4, none⟩ = some (.int .i64 o.am) := by rw [hO3.cell]; rfl
  rcases hr with rfl | rfl
  · go_wp2_with fail
    refine (tput_new1 w3 t mt f o hT3 hmh.out hfz.out).mono ?_
    rintro e w4 ⟨rfl, hT4, hc4⟩
    go_wp2_with fail
    go_ret2
    exact ⟨rfl, hT4, (hcG.mono (fun _ _ h => .inl h)).trans hc4 (fun _ _ h => .inr h), w3, hpost, hc4⟩
  · go_wp2_with fail
    refine (tput_new2 w3 t mt f o hT3 hmh.out hfz.out).mono ?_
    rintro e w4 ⟨rfl, hT4, hc4⟩
    go_wp2_with fail
    go_ret2
    exact ⟨rfl, hT4, (hcG.mono (fun _ _ h => .inl h)).trans hc4 (fun _ _ h => .inr h), w3, hpost, hc4⟩
end Go.Proofs.Ytddnpjlcmokbiaa
