/-
  table: Find, put, Put by their contracts.
-/
import Derived.Test.YtdeoipioinnkcaaTabA
import Derived.Test.YtdeoipioinnkcaaPurseN
namespace Go.Proofs.Ytdeoipioinnkcaa
open Go.RowKit Go.Maps

set_option maxRecDepth 100000 in
set_option maxHeartbeats 1000000 in
theorem find_any (w : World) (t mt : Nat) (f : Tab) (o : POp) (hT : TabAt w t mt f) (hb : isI o.bk) (hk : isI o.kd) :
    Calls Try.prog 36 #[.pointer (some ⟨t, 0, none⟩), o.val] w fun e w' => e = .returned (.tuple #[.int .i64 (f (o.bk, o.kd)), .bool (!(f (o.bk, o.kd) == 0))]) ∧ Chg (fun _ => False) w w' := by
  have hbh := Lib.hid hb
  have hkh := Lib.hid hk
  clear hb hk
  obtain ⟨a, ha⟩ : ∃ a, f (o.bk, o.kd) = a := ⟨_, rfl⟩
  rw [ha]
  have hah := Lib.hid ha
  clear ha
  go_enter Try.func36, Try.ntmps36
  unfold POp.val
  go_wp2
  have hc1 : Chg (fun _ => False) w (w.alloc (.cells #[.int .i64 o.kd, .int .i64 o.bk, .int .i64 o.un, .int .i64 o.cu, .int .i64 o.am] 31)) := (Chg.refl _ w).alloc _
  have hT1 := hT.chg hc1 id id
  have hO := Blk.new w 31 o.row
  unfold POp.row at hO
  generalize w.alloc (.cells #[.int .i64 o.kd, .int .i64 o.bk, .int .i64 o.un, .int .i64 o.cu, .int .i64 o.am] 31) = w1 at *
  have c0 : w1.cell? ⟨t, 0, none⟩ = some (.map (some mt)) := by rw [hT1.blk.cell]; rfl
  have o0 : w1.cell? ⟨w.heap.size, 0, none⟩ = some (.int .i64 o.kd) := by rw [hO.cell]; rfl
  have o1 : w1.cell? ⟨w.heap.size, 1, none⟩ = some (.int .i64 o.bk) := by rw [hO.cell]; rfl
  have o2 : w1.cell? ⟨w.heap.size, 2, none⟩ = some (.int .i64 o.un) := by rw [hO.cell]; rfl
  have o3 : w1.cell? ⟨w.heap.size, 3, none⟩ = some (.int .i64 o.cu) := by rw [hO.cell]; rfl
  have o4 : w1.cell? ⟨w.heap.size, 4, none⟩ = some (.int .i64 o.am) := by rw [hO.cell]; rfl
  refine wp_region_plan (by kernel_rfl) [{ fl := [0, 1, 2, 3, 4, 5], long := [4], ef := 6, keep := [4] }, { fl := [], ef := 7 }] [8, 9, 10, 11, 12] (by kernel_rfl) (fun _ w9 => w9.cell? ⟨t, 0, none⟩ = some (.map (some mt))) ?_
  simp only [wpPlan, longOK, keepOK, opsAt_cons, opsAt_nil, consO_some, List.getElem?_toArray, List.getElem?_cons_succ, List.getElem?_cons_zero, and_true, true_and]
  refine ⟨c0, ?_⟩
  go_wp2_with fail
  refine ⟨by kernel_rfl, ?_, ?_⟩
  · intro _ w9 h
    have h : w9.cell? ⟨t, 0, none⟩ = some (.map (some mt)) := h
    go_simp
  go_wp2_with fail
  refine (key_any _ o).mono ?_
  rintro e w2 ⟨rfl, hc2⟩
  have hT2 := (hT1.chg (Chg.refl (fun _ => False) w1).drew id id).chg hc2 id id
  have hcF : Chg (fun _ => False) w w2 := hc1.drew.trans hc2 (fun _ _ h => h)
  have c2 : w2.cell? ⟨t, 0, none⟩ = some (.map (some mt)) := by rw [hT2.blk.cell]; rfl
  have k0 := hT2.look (w1 := w2) rfl o.bk o.kd hbh.out hkh.out
  have k1 := hT2.look (w1 := w2.drew) rfl o.bk o.kd hbh.out hkh.out
  rw [hah.out] at k0 k1
  go_wp2_with fail
  refine ⟨c2, ?_⟩
  go_wp2_with fail
  refine ⟨by kernel_rfl, ?_⟩
  go_wp2_with fail
  refine ⟨by kernel_rfl, ?_⟩
  go_wp2_with fail
  go_ret2
  exact ⟨rfl, hcF⟩

set_option maxRecDepth 100000 in
theorem put_old (w : World) (t mt : Nat) (f : Tab) (b k v : Int) (hT : TabAt w t mt f) (hb : isI b) (hk : isI k) (hf : f (b, k) ≠ 0) :
    Calls Try.prog 46 #[.pointer (some ⟨t, 0, none⟩), .agg #[.int .i64 b, .int .i64 k], .int .i64 v] w fun e w' => e = .returned (.bool false) ∧ Chg (fun _ => False) w w' := by
  have hbh := Lib.hid hb
  have hkh := Lib.hid hk
  have hfb := Lib.hid (show (!(f (b, k) == 0)) = true by simp [hf])
  clear hb hk hf
  go_enter Try.func46, Try.ntmps46
  go_wp2
  have hc1 : Chg (fun _ => False) w (w.alloc (.cells #[.int .i64 b, .int .i64 k] 97)) := (Chg.refl _ w).alloc _
  have hT1 := hT.chg hc1 id id
  have hO := Blk.new w 97 #[.int .i64 b, .int .i64 k]
  generalize w.alloc (.cells #[.int .i64 b, .int .i64 k] 97) = w1 at *
  have c0 : w1.cell? ⟨t, 0, none⟩ = some (.map (some mt)) := by rw [hT1.blk.cell]; rfl
  have o0 : w1.cell? ⟨w.heap.size, 0, none⟩ = some (.int .i64 b) := by rw [hO.cell]; rfl
  have o1 : w1.cell? ⟨w.heap.size, 1, none⟩ = some (.int .i64 k) := by rw [hO.cell]; rfl
  have k0 := hT1.look (w1 := w1) rfl b k hbh.out hkh.out
  have k1 := hT1.look (w1 := w1.drew) rfl b k hbh.out hkh.out
  rw [hfb.out] at k0 k1
  refine wp_region_plan (by kernel_rfl) [{ fl := [0, 1, 2, 3, 4], ef := 5 }] [6, 7, 8, 9, 10] (by kernel_rfl) (fun _ _ => True) ?_
  simp only [wpPlan, longOK, keepOK, opsAt_cons, opsAt_nil, consO_some, List.getElem?_toArray, List.getElem?_cons_succ, List.getElem?_cons_zero, true_and]
  go_wp2_with fail
  refine ⟨by kernel_rfl, ?_⟩
  go_wp2_with fail
  refine ⟨by kernel_rfl, ?_⟩
  go_wp2_with fail
  go_ret
  exact ⟨rfl, hc1.drew⟩

set_option maxRecDepth 100000 in
set_option maxHeartbeats 1000000 in
theorem put_new (w : World) (t mt : Nat) (f : Tab) (b k v : Int) (hT : TabAt w t mt f) (hb : 1 ≤ b ∧ b ≤ 200) (hk : 1 ≤ k ∧ k ≤ 6) (hv : v ≠ 0) (hf : f (b, k) = 0) :
    Calls Try.prog 46 #[.pointer (some ⟨t, 0, none⟩), .agg #[.int .i64 b, .int .i64 k], .int .i64 v] w fun e w' => e = .returned (.bool true) ∧ TabAt w' t mt (upd f (b, k) v) ∧ Chg (fun i => i = mt) w w' := by
  have hbi : isI b := ⟨by omega, by omega⟩
  have hki : isI k := ⟨by omega, by omega⟩
  have hbh := Lib.hid hbi
  have hkh := Lib.hid hki
  have hvh := Lib.hid hv
  have hfb := Lib.hid (show (!(f (b, k) == 0)) = false by simp [hf])
  clear hbi hki hv hf
  go_enter Try.func46, Try.ntmps46
  go_wp2
  have hc1 : Chg (fun i => i = mt) w (w.alloc (.cells #[.int .i64 b, .int .i64 k] 97)) := (Chg.refl _ w).alloc _
  have hT1 := hT.chg ((Chg.refl (fun _ => False) w).alloc (.cells #[.int .i64 b, .int .i64 k] 97)) id id
  have hO := Blk.new w 97 #[.int .i64 b, .int .i64 k]
  generalize w.alloc (.cells #[.int .i64 b, .int .i64 k] 97) = w1 at *
  have c0 : w1.cell? ⟨t, 0, none⟩ = some (.map (some mt)) := by rw [hT1.blk.cell]; rfl
  have o0 : w1.cell? ⟨w.heap.size, 0, none⟩ = some (.int .i64 b) := by rw [hO.cell]; rfl
  have o1 : w1.cell? ⟨w.heap.size, 1, none⟩ = some (.int .i64 k) := by rw [hO.cell]; rfl
  have k0 := hT1.look (w1 := w1) rfl b k hbh.out hkh.out
  have k1 := hT1.look (w1 := w1.drew) rfl b k hbh.out hkh.out
  rw [hfb.out] at k0 k1
  refine wp_region_plan (by kernel_rfl) [{ fl := [0, 1, 2, 3, 4], ef := 5 }] [6, 7, 8, 9, 10] (by kernel_rfl) (fun _ _ => True) ?_
  simp only [wpPlan, longOK, keepOK, opsAt_cons, opsAt_nil, consO_some, List.getElem?_toArray, List.getElem?_cons_succ, List.getElem?_cons_zero, true_and]
  go_wp2_with fail
  refine ⟨by kernel_rfl, ?_⟩
  go_wp2_with fail
  refine ⟨by kernel_rfl, ?_⟩
  go_wp2_with fail
  refine wp_region_plan (by kernel_rfl) [{ fl := [0, 1, 2, 3, 4, 5], ef := 6 }] [] (by kernel_rfl) (fun _ _ => True) ?_
  simp only [wpPlan, longOK, keepOK, opsAt_cons, opsAt_nil, consO_some, List.getElem?_toArray, List.getElem?_cons_succ, List.getElem?_cons_zero, true_and]
  go_wp2_with fail
  refine ⟨by kernel_rfl, ?_⟩
  refine wpList_mapStore (enc := encP) (e := 3) rfl _ _ _ 81 rfl law2 Try.underlying81 encP_inj (b := mt) (f := tabMap f) (hT1.map.keep rfl) (tabMap_keys hT1.keys) rfl (b, k) rfl (keyP hbh.out hkh.out) (.int .i64 v) rfl ?_
  intro w' hm hc hsz hdr
  have hne : ¬ t = mt := fun e => (hT1.map.ne hT1.blk) e.symm
  have hfin : TabAt w' t mt (upd f (b, k) v) := by
    rw [tabMap_upd _ _ _ hvh.out] at hm
    refine ⟨(show Blk w1.drew.drew t _ _ from hT1.blk).chg hc hne, hm, fun p hp => ?_⟩
    by_cases e : p = (b, k)
    · subst e; exact ⟨hb, hk⟩
    · rw [upd_other _ _ _ _ e] at hp; exact hT1.keys p hp
  have hch : Chg (fun i => i = mt) w w' := (hc1.drew.drew).trans hc (fun _ _ h => h)
  clear hm hc hsz hdr
  go_wp2_with fail
  refine ⟨by kernel_rfl, ?_⟩
  go_wp2_with fail
  go_ret
  exact ⟨rfl, hfin, hch⟩
end Go.Proofs.Ytdeoipioinnkcaa
