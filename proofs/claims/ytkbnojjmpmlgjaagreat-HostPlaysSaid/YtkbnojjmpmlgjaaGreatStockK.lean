/-
  stock: Copy by its contract.
-/
import Derived.Test.YtkbnojjmpmlgjaaGreatStockA
import Derived.Test.YtkbnojjmpmlgjaaGreatRegionC
import Derived.Shelf.SlMaps.Clone
namespace Go.Proofs.YtkbnojjmpmlgjaaGreat
open Go.RowKit Go.Maps

set_option maxRecDepth 100000 in
set_option maxHeartbeats 1000000 in
theorem cloneM_any (w : World) (b : Nat) (es : Array MapEntry) (clock : Nat) (hb : w.heap[b]? = some (.map es clock)) :
    Calls Tryz.prog 50 #[.map (some b)] w fun e w' => e = .returned (.map (some w.heap.size)) ∧ w' = w.alloc (.map es clock) := by
  have hq := fun w => run_eql_map_nil_sl (P := Tryz.prog) w 81 _ _ (some b) Tryz.underlying81
  go_enter Tryz.func50, Tryz.ntmps50
  go_wp2
  rw [run_callFunc_extern Tryz.func59 (by kernel_rfl) (by kernel_rfl) (by kernel_rfl) (e := Extern.MapsClone.clone) (by kernel_rfl), run_maps_clone_sl w 81 hb]
  simp only [Result.andThen]
  rw [Oper.upon_value]
  go_wp2
  rw [run_typeAssert_map_sl _ 81 20 _ _ _ Tryz.underlying81]
  simp only [Result.andThen]
  rw [Oper.upon_value]
  go_wp2
  go_ret
  exact ⟨rfl, rfl⟩

theorem MapOf.cloned {α : Type} {enc : α → Value} {w : World} {b : Nat} {f : α → Option Value} (h : MapOf enc w b f) : ∃ es clock, w.heap[b]? = some (.map es clock) ∧ MapOf enc (w.alloc (.map es clock)) w.heap.size f := by
  obtain ⟨es, clock, h1, h2, h3, h4⟩ := h
  exact ⟨es, clock, h1, es, clock, (MapKept.heap_alloc w _).1, h2, h3, h4⟩

set_option maxRecDepth 100000 in
set_option maxHeartbeats 1000000 in
theorem stk_copy {w : World} {b mb : Nat} {s : Stk} (h : StkAt w b mb s) :
    Calls Tryz.prog 30 #[.pointer (some ⟨b, 0, none⟩)] w fun e w' => ∃ b2 mb2, e = .returned (.pointer (some ⟨b2, 0, none⟩)) ∧ StkAt w' b2 mb2 s ∧ Chg (fun _ => False) w w' ∧ w.heap.size ≤ b2 ∧ w.heap.size ≤ mb2 := by
  obtain ⟨es, clock, hes, hcl⟩ := h.map.cloned
  have cells : ∀ w9 : World, w9.heap[b]? = w.heap[b]? → w9.cell? ⟨b, 0, none⟩ = some (.int .i64 s.cap) ∧ w9.cell? ⟨b, 1, none⟩ = some (.int .i64 s.over) ∧ w9.cell? ⟨b, 2, none⟩ = some (.int .i64 s.free) ∧ w9.cell? ⟨b, 3, none⟩ = some (.map (some mb)) := by
    intro w9 h9
    have hB := h.blk.keep h9
    refine ⟨?_, ?_, ?_, ?_⟩ <;> rw [hB.cell] <;> rfl
  have hch := Lib.hid cells
  obtain ⟨a0, a1, a2, a3⟩ := cells w rfl
  clear cells
  go_enter Tryz.func30, Tryz.ntmps30
  go_wp2
  refine wp_region_plan (by kernel_rfl) [{ fl := [0, 1, 2, 3, 4, 5, 6, 7, 8, 9, 10, 11, 12], long := [3, 7], ef := 13, keep := [3, 7] }, { fl := [14, 15], ef := 16 }] [17] (by kernel_rfl) (fun _ w9 => w9.heap[b]? = w.heap[b]?) ?_
  simp only [wpPlan, longOK, keepOK, opsAt_cons, opsAt_nil, consO_some, List.getElem?_toArray, List.getElem?_cons_succ, List.getElem?_cons_zero, and_true, true_and]
  refine ⟨⟨rfl, rfl⟩, ?_⟩
  go_wp2_with fail
  refine ⟨by kernel_rfl, ⟨?_, ?_⟩, ?_⟩
  · intro _ w9 h
    obtain ⟨b0, b1, b2, b3⟩ := hch.out w9 h
    clear h
    go_simp
  · intro _ w9 h
    obtain ⟨b0, b1, b2, b3⟩ := hch.out w9 h
    clear h
    go_simp
  go_wp2_with fail
  refine (cloneM_any _ mb es clock (by exact hes)).mono ?_
  rintro e w2 ⟨rfl, hw2⟩
  have hc2 : Chg (fun _ => False) w w2 := by rw [hw2]; exact (Chg.refl (fun _ => False) w).drew.alloc _
  have hb2 : w2.heap[b]? = w.heap[b]? := hc2.block b h.blk.lt id
  have hM2 : MapOf encI w2 w.heap.size (entMap s.en) := by rw [hw2]; exact hcl
  have hsz2 : w.heap.size < w2.heap.size := hM2.lt
  clear hw2 hcl hes
  have hb2h := Lib.hid hb2
  have hkh := Lib.hid h.keys
  clear hb2
  go_wp2_with fail
  refine ⟨⟨hb2h.out, hb2h.out⟩, ?_⟩
  go_wp2_with fail
  refine ⟨by kernel_rfl, ?_⟩
  go_wp2_with fail
  refine ⟨by kernel_rfl, ?_⟩
  go_wp2_with fail
  go_ret
  have hB := Blk.new w2 85 (stkRow s w.heap.size)
  have hcA : Chg (fun _ => False) w2 (w2.alloc (.cells (stkRow s w.heap.size) 85)) := (Chg.refl _ w2).alloc _
  exact ⟨_, w.heap.size, rfl, ⟨hB, hM2.chg hcA id, hkh.out⟩, hc2.alloc _, hc2.size, Nat.le_refl _⟩
end Go.Proofs.YtkbnojjmpmlgjaaGreat
