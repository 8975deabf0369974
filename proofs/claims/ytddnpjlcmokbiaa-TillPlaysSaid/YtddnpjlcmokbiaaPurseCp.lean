/-
  purse: Copy, another ledger that reads the same.
-/
import Derived.Test.YtddnpjlcmokbiaaZPurseH
import Derived.Test.YtddnpjlcmokbiaaRegionC
import Derived.Shelf.SlMaps.Clone
namespace Go.Proofs.Ytddnpjlcmokbiaa
open Go.RowKit Go.Maps

set_option maxRecDepth 100000 in
set_option maxHeartbeats 1000000 in
theorem cloneM_any (w : World) (b : Nat) (es : Array MapEntry) (clock : Nat) (hb : w.heap[b]? = some (.map es clock)) :
    Calls Try.prog 33 #[.map (some b)] w fun e w' => e = .returned (.map (some w.heap.size)) ∧ w' = w.alloc (.map es clock) := by
  have hq := fun w => run_eql_map_nil_sl (P := Try.prog) w 64 _ _ (some b) Try.underlying64
  go_enter Try.func33, Try.ntmps33
  go_wp2
  rw [run_callFunc_extern Try.func51 (by kernel_rfl) (by kernel_rfl) (by kernel_rfl) (e := Extern.MapsClone.clone) (by kernel_rfl), run_maps_clone_sl w 64 hb]
  simp only [Result.andThen]
  rw [Oper.upon_value]
  go_wp2
  rw [run_typeAssert_map_sl _ 64 20 _ _ _ Try.underlying64]
  simp only [Result.andThen]
  rw [Oper.upon_value]
  go_wp2
  go_ret
  exact ⟨rfl, rfl⟩

theorem MapOf.cloned {α : Type} {enc : α → Value} {w : World} {b : Nat} {f : α → Option Value} (h : MapOf enc w b f) : ∃ es clock, w.heap[b]? = some (.map es clock) ∧ MapOf enc (w.alloc (.map es clock)) w.heap.size f := by
  obtain ⟨es, clock, h1, h2, h3, h4⟩ := h
  exact ⟨es, clock, h1, es, clock, (MapKept.heap_alloc w _).1, h2, h3, h4⟩

set_option maxRecDepth 100000 in
set_option maxHeartbeats 1000000 in
theorem copy_any (w : World) (b mb : Nat) (lv : Value) (p : Pur) (hP : PurAt w b mb lv p) (hlen : p.ln.length ≤ 1000001) :
    Calls Try.prog 11 #[.pointer (some ⟨b, 0, none⟩)] w fun e w' => ∃ b2 mb2 lv2, e = .returned (.pointer (some ⟨b2, 0, none⟩)) ∧ PurAt w' b2 mb2 lv2 p ∧ Chg (fun _ => False) w w' ∧ w.heap.size ≤ b2 ∧ w.heap.size ≤ mb2 ∧ ∀ k, lv2.ownBlock = some k → w.heap.size ≤ k := by
  obtain ⟨es, clock, hes, hcl⟩ := hP.map.cloned
  have cells : ∀ w9 : World, w9.heap[b]? = w.heap[b]? → (w9.cell? ⟨b, 0, none⟩ = some (.int .i64 (p.ac 0)) ∧ w9.cell? ⟨b, 1, none⟩ = some (.int .i64 (p.ac 1)) ∧ w9.cell? ⟨b, 2, none⟩ = some (.int .i64 (p.ac 2)) ∧ w9.cell? ⟨b, 3, none⟩ = some (.int .i64 (p.ac 3)) ∧ w9.cell? ⟨b, 4, none⟩ = some (.int .i64 (p.ac 4)) ∧ w9.cell? ⟨b, 5, none⟩ = some (.int .i64 (p.ac 5))) ∧ w9.cell? ⟨b, 6, none⟩ = some (.map (some mb)) ∧ w9.cell? ⟨b, 7, none⟩ = some lv := by
    intro w9 h
    have hB := hP.blk.keep h
    refine ⟨⟨?_, ?_, ?_, ?_, ?_, ?_⟩, ?_, ?_⟩ <;> rw [hB.cell] <;> rfl
  have hch := Lib.hid cells
  obtain ⟨⟨a0, a1, a2, a3, a4, a5⟩, a6, a7⟩ := cells w rfl
  clear cells
  go_enter Try.func11, Try.ntmps11
  go_wp2
  refine wp_region_plan (by kernel_rfl) [{ fl := [0, 1, 2, 3, 4, 5, 6, 7, 9, 10, 11, 12], long := [3, 12], ef := 8, keep := [3, 12] }, { fl := [], ef := 13, keep := [3] }, { fl := [14], ef := 15 }] [16] (by kernel_rfl) (fun _ w9 => w9.heap[b]? = w.heap[b]?) ?_
  simp only [wpPlan, longOK, keepOK, opsAt_cons, opsAt_nil, consO_some, List.getElem?_toArray, List.getElem?_cons_succ, List.getElem?_cons_zero, and_true, true_and]
  refine ⟨⟨rfl, rfl⟩, ?_⟩
  go_wp2_with fail
  refine ⟨by kernel_rfl, ⟨?_, ?_⟩, ?_⟩
  · intro _ w9 h
    obtain ⟨⟨b0, b1, b2, b3, b4, b5⟩, b6, b7⟩ := hch.out w9 h
    clear h
    go_simp
  · intro _ w9 h
    obtain ⟨⟨b0, b1, b2, b3, b4, b5⟩, b6, b7⟩ := hch.out w9 h
    clear h
    go_simp
  go_wp2_with fail
  refine (cloneM_any _ mb es clock (by exact hes)).mono ?_
  rintro e w2 ⟨rfl, hw2⟩
  have hc2 : Chg (fun _ => False) w w2 := by rw [hw2]; exact (Chg.refl (fun _ => False) w).drew.alloc _
  have hb2 : w2.heap[b]? = w.heap[b]? := hc2.block b hP.blk.lt id
  have hM2 : MapOf encI w2 w.heap.size (entMap p.en) := by rw [hw2]; exact hcl
  have hsz2 : w.heap.size < w2.heap.size := hM2.lt
  clear hw2 hcl hes
  go_wp2_with fail
  refine ⟨⟨hb2, hb2⟩, ?_⟩
  go_wp2_with fail
  refine ⟨by kernel_rfl, ?_⟩
  go_wp2_with fail
  refine (clone_any _ lv _ _ (by exact own_chg hP.own hc2 (fun _ _ h => h)) (mv_cells_ints _) hlen).mono ?_
  rintro e w3 ⟨lv2, rfl, hown, hc3, hnew⟩
  obtain ⟨ad2, n2, c2, rfl⟩ : ∃ ad2 n2 c2, lv2 = .slice ad2 n2 c2 := by
    rcases hown.2 with ⟨h, _⟩ | ⟨g, cp, _, h, _⟩
    · exact ⟨_, _, _, h⟩
    · exact ⟨_, _, _, h⟩
  have hcF : Chg (fun _ => False) w w3 := hc2.trans hc3 (fun _ _ h => h)
  have hM3 := hM2.chg hc3 id
  have hb3 : w3.heap[b]? = w.heap[b]? := hcF.block b hP.blk.lt id
  have hk := hP.keys
  have hb3 := Lib.hid hb3
  have hownh := Lib.hid hown
  have hnewh := Lib.hid hnew
  have hkh := Lib.hid hk
  clear hM2 hc3 hb2 hown hnew hk
  go_wp2_with fail
  refine ⟨hb3.out, ?_⟩
  go_wp2_with fail
  refine ⟨by kernel_rfl, ?_⟩
  go_wp2_with fail
  refine ⟨by kernel_rfl, ?_⟩
  go_wp2_with fail
  go_ret
  have hB := Blk.new w3 66 (purRow p.ac w.heap.size (.slice ad2 n2 c2))
  have hcA : Chg (fun _ => False) w3 (w3.alloc (.cells (purRow p.ac w.heap.size (.slice ad2 n2 c2)) 66)) := (Chg.refl _ w3).alloc _
  refine ⟨_, w.heap.size, .slice ad2 n2 c2, rfl, ⟨?_, ?_, ?_, hkh.out⟩, ?_, ?_, Nat.le_refl _, fun k hk => ?_⟩
  · exact hB
  · exact hM3.chg hcA id
  · exact own_chg hownh.out hcA (fun _ _ h => h)
  · exact hcF.alloc _
  · exact hcF.size
  · have := hnewh.out k hk; omega
end Go.Proofs.Ytddnpjlcmokbiaa
