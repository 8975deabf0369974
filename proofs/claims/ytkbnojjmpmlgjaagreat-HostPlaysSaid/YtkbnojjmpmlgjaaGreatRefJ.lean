/-
  layer 9: Same.
-/
import Derived.Test.YtkbnojjmpmlgjaaGreatZRefG
import Derived.Test.YtkbnojjmpmlgjaaGreatRegionE
import Derived.Test.YtkbnojjmpmlgjaaGreatZStockH
import Derived.Test.YtkbnojjmpmlgjaaGreatZStockJ
namespace Go.Proofs.YtkbnojjmpmlgjaaGreat
open Go.RowKit Go.Maps
variable {R : REnv}

theorem Stk.bytes_ne2 (s : Stk) : s.bytes ≠ [] := by
  have := nb_ne s.cap
  unfold Stk.bytes
  simp [this]
theorem stk_bytesG {w : World} {b mb : Nat} {s : Stk} (h : StkAt w b mb s) (hG : s.Good) :
    Calls Tryz.prog 33 #[.pointer (some ⟨b, 0, none⟩)] w fun e w' => ∃ g n cap, e = .returned (.slice (some ⟨g, 0, none⟩) n cap) ∧ g < w'.heap.size ∧
      (∀ w9 : World, w9.heap[g]? = w'.heap[g]? → (convert 54 9 (.slice (some ⟨g, 0, none⟩) n cap)).run Tryz.prog w9 = .ok (.string (bstr s.bytes)) w9) ∧ Chg (fun _ => False) w w' := by
  refine (stk_bytes h hG).mono ?_
  rintro e w' ⟨v, rfl, hown, hc⟩
  obtain ⟨g, cap, rfl, _, hlt, hcell⟩ := bytes_cells hown s.bytes_ne2
  refine ⟨g, _, cap, rfl, hlt, fun w9 h9 => bytes_str (fun j u hj => ?_), hc⟩
  have h1 := hcell j u hj
  have hb : ((⟨g, 0, none⟩ : Addr).add j).block = g := by unfold Addr.add; split <;> rfl
  exact (World.cell?_of_block (by rw [hb]; exact h9)).trans h1

set_option maxRecDepth 100000 in
set_option maxHeartbeats 1000000 in
theorem same_any {w : World} {b mb x : Nat} {s : Stk} (hS : StkAt w b mb s) (hX : RefAt R w x s) (hG : s.Good) :
    Calls Tryz.prog 15 #[.pointer (some ⟨b, 0, none⟩), .pointer (some ⟨x, 0, none⟩)] w fun e w' => e = .returned (.bool true) ∧ Chg (fun _ => False) w w' := by
  obtain ⟨H1, hH1⟩ : ∃ H1, s.of 1 = H1 := ⟨_, rfl⟩
  obtain ⟨H2, hH2⟩ : ∃ H2, s.of 2 = H2 := ⟨_, rfl⟩
  have cU := ref_units hX hG
  rw [hH1, hH2] at cU
  have hH1h := Lib.hid hH1
  have hH2h := Lib.hid hH2
  clear hH1 hH2
  go_enter Tryz.func15, Tryz.ntmps15
  go_wp2_with fail
  refine cU.mono ?_
  rintro e w1 ⟨rfl, rfl⟩
  go_wp2_with fail
  refine wp_region_plan2 (by kernel_rfl) [{ fl := [0, 2], ef := 1 }, { fl := [], ef := 3 }, { fl := [4, 5, 6, 8], ef := 7 }, { fl := [9, 10, 11, 12, 14], ef := 13 }, { fl := [15, 16, 17, 18, 21], ef := 19 }] [{ fl := [20], long := [20], ef := 22, keep := [20] }] [23, 24] (by kernel_rfl) (by simp) ?_
  simp only [wpPlanT, opsAt_cons, opsAt_nil, consO_some, List.getElem?_toArray, List.getElem?_cons_succ, List.getElem?_cons_zero, and_true, true_and]
  go_wp2_with fail
  refine ⟨by kernel_rfl, ?_⟩
  go_wp2_with fail
  refine (stk_free (show StkAt w1.drew b mb s from ⟨hS.blk, hS.map, hS.keys⟩)).mono ?_
  rintro e w2 ⟨rfl, rfl⟩
  go_wp2_with fail
  refine ⟨by kernel_rfl, ?_⟩
  go_wp2_with fail
  refine (ref_free (show RefAt R w1.drew x s from hX) hG).mono ?_
  rintro e w2 ⟨rfl, rfl⟩
  go_wp2_with fail
  refine ⟨by kernel_rfl, ?_⟩
  go_wp2_with fail
  have hc0 : Chg (fun _ => False) w1 w1.drew.drew := ((Chg.refl _ w1).drew).drew
  have hS2 := hS.chg hc0 id id
  refine (stk_held hS2 hG).mono ?_
  rintro e w3 ⟨rfl, hc3⟩
  rw [hH1h.out]
  have hc3 := hc0.trans hc3 (fun _ _ h => h)
  have hS3 := hS.chg hc3 id id
  go_wp2_with fail
  refine ⟨by kernel_rfl, ?_⟩
  go_wp2_with fail
  refine (stk_conf hS3 hG).mono ?_
  rintro e w4 ⟨rfl, hc4⟩
  rw [hH2h.out]
  have hc4 := hc3.trans hc4 (fun _ _ h => h)
  have hS4 := hS.chg hc4 id id
  clear hS2 hS3 hc3 hc0 cU
  go_wp2_with fail
  refine ⟨by kernel_rfl, ?_⟩
  go_wp2_with fail
  refine (stk_bytesG hS4 hG).mono ?_
  rintro e w5 ⟨g, n, cap, rfl, hgl, hcv, hc5⟩
  have hc5 := hc4.trans hc5 (fun _ _ h => h)
  have hX5 := hX.chg hc5 id
  have hcvh := Lib.hid hcv
  have hcv5 := hcv w5 rfl
  clear hcv hS4 hc4
  go_wp2_with fail
  refine ⟨fun _ (w9 : World) => w9.heap[g]? = w5.heap[g]?, ?_⟩
  simp only [wpPlan, longOK, keepOK, opsAt_cons, opsAt_nil, consO_some, List.getElem?_toArray, List.getElem?_cons_succ, List.getElem?_cons_zero, and_true, true_and]
  go_wp2_with fail
  refine ⟨by kernel_rfl, ?_, ?_⟩
  · intro _ w9 h9
    have hcv9 := hcvh.out w9 h9
    clear h9
    go_simp
  go_wp2_with fail
  refine (ref_bytes hX5 hG).mono ?_
  rintro e w6 ⟨rfl, hc6⟩
  have hgk := hc6.block g hgl id
  have hc6 := hc5.trans hc6 (fun _ _ h => h)
  have hX6 := hX.chg hc6 id
  have hS6 := hS.chg hc6 id id
  clear hc5 hX5 hcvh hcv5
  have hgkh := Lib.hid hgk
  clear hgk
  go_wp2_with fail
  refine ⟨hgkh.out, ?_⟩
  go_wp2_with fail
  refine ⟨by kernel_rfl, ?_⟩
  go_wp2_with fail
  go_loopw [7] (fun v7 wr => ∃ k : Nat, k ≤ 203 ∧ v7 = .int .i64 ((k : Int) - 1) ∧ Chg (fun _ => False) w1 wr) (fun v7 _ => (202 - RowKit.intOf v7).toNat)
  case atStart => exact ⟨0, by omega, rfl, hc6⟩
  case round =>
    clear hS6 hX6 hc6
    obtain ⟨k, hk, rfl, hck⟩ := hrel
    by_cases hlt : k < 203
    · obtain ⟨y, hy⟩ : ∃ y, s.en ((k : Int) - 1) = y := ⟨_, rfl⟩
      have hyh := Lib.hid hy
      by_cases hin : 2 ≤ k ∧ k ≤ 201
      · obtain ⟨j, rfl⟩ : ∃ j, k = j + 1 := ⟨k - 1, by omega⟩
        have hv : ((j + 1 : Nat) : Int) - 1 = (j : Int) := by omega
        rw [hv] at hy hyh ⊢
        have hj1 : 1 ≤ j := by omega
        have hj2 : j ≤ 200 := by omega
        clear hv hin
        have hXr := hX.chg hck id
        have hcal := (Chg.refl (fun _ => False) wr).alloc (.cells #[.int .i64 0, .int .i64 0, .int .i64 0, .int .i64 0, .int .i64 0] 32)
        have hXa := hXr.chg hcal id
        obtain ⟨a0, a1, a2, a3, a4⟩ := hXa.cells j (by omega) rfl hy
        clear hy
        go_wp2_with fail
        have hE : Blk (wr.alloc (.cells #[.int .i64 y.st, .int .i64 y.un, .int .i64 y.til, .int .i64 y.cu, .int .i64 y.am] 32)) wr.heap.size 32 y.row := Blk.new wr _ _
        have hcka : Chg (fun _ => False) w1 (wr.alloc (.cells #[.int .i64 y.st, .int .i64 y.un, .int .i64 y.til, .int .i64 y.cu, .int .i64 y.am] 32)) := hck.alloc _
        clear hcal hXa a0 a1 a2 a3 a4
        generalize (wr.alloc (.cells #[.int .i64 y.st, .int .i64 y.un, .int .i64 y.til, .int .i64 y.cu, .int .i64 y.am] 32)) = wa at *
        generalize wr.heap.size = E at *
        have hSa := hS.chg hcka id id
        refine wp_region_plan (by kernel_rfl) [{ fl := [0, 1, 3], long := [3], ef := 2, keep := [3] }, { fl := [], ef := 4 }] [] (by kernel_rfl) (fun _ (w9 : World) => w9.heap[E]? = wa.heap[E]?) ?_
        simp only [wpPlan, longOK, keepOK, opsAt_cons, opsAt_nil, consO_some, List.getElem?_toArray, List.getElem?_cons_succ, List.getElem?_cons_zero, and_true, true_and]
        have ecell : ∀ w9 : World, w9.heap[E]? = wa.heap[E]? → w9.cell? ⟨E, 0, none⟩ = some (.int .i64 y.st) ∧ w9.cell? ⟨E, 1, none⟩ = some (.int .i64 y.un) ∧ w9.cell? ⟨E, 2, none⟩ = some (.int .i64 y.til) ∧ w9.cell? ⟨E, 3, none⟩ = some (.int .i64 y.cu) ∧ w9.cell? ⟨E, 4, none⟩ = some (.int .i64 y.am) := fun w9 h9 => by
          have h2 := Blk.keep hE h9
          refine ⟨?_, ?_, ?_, ?_, ?_⟩ <;> rw [h2.cell] <;> rfl
        have ech := Lib.hid ecell
        obtain ⟨d0, d1, d2, d3, d4⟩ := ecell wa rfl
        clear ecell
        refine ⟨rfl, ?_⟩
        go_wp2_with fail
        refine ⟨by kernel_rfl, ?_, ?_⟩
        · intro _ w9 h9
          obtain ⟨d0, d1, d2, d3, d4⟩ := ech.out w9 h9
          clear h9
          go_simp
        go_wp2_with fail
        refine (stk_entryW (show StkAt wa.drew b mb s from ⟨hSa.blk, hSa.map, hSa.keys⟩) hG (j : Int) (by omega) y hyh.out).mono ?_
        rintro e w7 ⟨rfl, hc7⟩
        unfold Ent.val Ent.row
        have hc7 := ((Chg.refl (fun _ => False) wa).drew).trans hc7 (fun _ _ h => h)
        have hgk := Lib.hid (hc7.block E hE.lt id)
        obtain ⟨d0', d1', d2', d3', d4'⟩ := ech.out w7 hgk.out
        go_wp2_with fail
        refine ⟨hgk.out, ?_⟩
        go_wp2_with fail
        refine ⟨by kernel_rfl, ?_⟩
        go_wp2_with fail
        refine ⟨by kernel_rfl, ?_⟩
        go_wp2_with fail
        go_roundw
        case rel => exact ⟨(j + 1) + 1, by omega, by go_num, hcka.trans hc7 (fun _ _ h => h)⟩
        case measure => simp [RowKit.intOf]; omega
      · have hout : y = Ent.none := by
          rw [← hy]
          refine hG.non _ ?_
          apply Decidable.byContradiction
          intro h
          have := hG.key _ h
          omega
        subst hout
        clear hy
        have hcase : k < 2 ∨ 201 < k := by omega
        clear hin
        have hE : Blk (wr.alloc (.cells #[.int .i64 0, .int .i64 0, .int .i64 0, .int .i64 0, .int .i64 0] 32)) wr.heap.size 32 Ent.none.row := Blk.new wr _ _
        have hcka : Chg (fun _ => False) w1 (wr.alloc (.cells #[.int .i64 0, .int .i64 0, .int .i64 0, .int .i64 0, .int .i64 0] 32)) := hck.alloc _
        obtain ⟨y, hyy⟩ : ∃ y, Ent.none = y := ⟨_, rfl⟩
        rw [hyy] at hE hyh
        have hyyh := Lib.hid hyy
        clear hyy
        rcases hcase with hcase | hcase
        · go_wp2_with fail
          generalize (wr.alloc (.cells #[.int .i64 0, .int .i64 0, .int .i64 0, .int .i64 0, .int .i64 0] 32)) = wa at *
          generalize wr.heap.size = E at *
          have hSa := hS.chg hcka id id
          refine wp_region_plan (by kernel_rfl) [{ fl := [0, 1, 3], long := [3], ef := 2, keep := [3] }, { fl := [], ef := 4 }] [] (by kernel_rfl) (fun _ (w9 : World) => w9.heap[E]? = wa.heap[E]?) ?_
          simp only [wpPlan, longOK, keepOK, opsAt_cons, opsAt_nil, consO_some, List.getElem?_toArray, List.getElem?_cons_succ, List.getElem?_cons_zero, and_true, true_and]
          have ecell : ∀ w9 : World, w9.heap[E]? = wa.heap[E]? → w9.cell? ⟨E, 0, none⟩ = some (.int .i64 y.st) ∧ w9.cell? ⟨E, 1, none⟩ = some (.int .i64 y.un) ∧ w9.cell? ⟨E, 2, none⟩ = some (.int .i64 y.til) ∧ w9.cell? ⟨E, 3, none⟩ = some (.int .i64 y.cu) ∧ w9.cell? ⟨E, 4, none⟩ = some (.int .i64 y.am) := fun w9 h9 => by
            have h2 := Blk.keep hE h9
            refine ⟨?_, ?_, ?_, ?_, ?_⟩ <;> rw [h2.cell] <;> rfl
          have ech := Lib.hid ecell
          obtain ⟨d0, d1, d2, d3, d4⟩ := ecell wa rfl
          clear ecell
          refine ⟨rfl, ?_⟩
          go_wp2_with fail
          refine ⟨by kernel_rfl, ?_, ?_⟩
          · intro _ w9 h9
            obtain ⟨d0, d1, d2, d3, d4⟩ := ech.out w9 h9
            clear h9
            go_simp
          go_wp2_with fail
          refine (stk_entryW (show StkAt wa.drew b mb s from ⟨hSa.blk, hSa.map, hSa.keys⟩) hG ((k : Int) - 1) (by omega) y hyh.out).mono ?_
          rintro e w7 ⟨rfl, hc7⟩
          unfold Ent.val Ent.row
          have hc7 := ((Chg.refl (fun _ => False) wa).drew).trans hc7 (fun _ _ h => h)
          have hgk := Lib.hid (hc7.block E hE.lt id)
          obtain ⟨d0', d1', d2', d3', d4'⟩ := ech.out w7 hgk.out
          go_wp2_with fail
          refine ⟨hgk.out, ?_⟩
          go_wp2_with fail
          refine ⟨by kernel_rfl, ?_⟩
          go_wp2_with fail
          refine ⟨by kernel_rfl, ?_⟩
          go_wp2_with fail
          go_roundw
          case rel => exact ⟨k + 1, by omega, by go_num, hcka.trans hc7 (fun _ _ h => h)⟩
          case measure => simp [RowKit.intOf]; omega
        · go_wp2_with fail
          generalize (wr.alloc (.cells #[.int .i64 0, .int .i64 0, .int .i64 0, .int .i64 0, .int .i64 0] 32)) = wa at *
          generalize wr.heap.size = E at *
          have hSa := hS.chg hcka id id
          refine wp_region_plan (by kernel_rfl) [{ fl := [0, 1, 3], long := [3], ef := 2, keep := [3] }, { fl := [], ef := 4 }] [] (by kernel_rfl) (fun _ (w9 : World) => w9.heap[E]? = wa.heap[E]?) ?_
          simp only [wpPlan, longOK, keepOK, opsAt_cons, opsAt_nil, consO_some, List.getElem?_toArray, List.getElem?_cons_succ, List.getElem?_cons_zero, and_true, true_and]
          have ecell : ∀ w9 : World, w9.heap[E]? = wa.heap[E]? → w9.cell? ⟨E, 0, none⟩ = some (.int .i64 y.st) ∧ w9.cell? ⟨E, 1, none⟩ = some (.int .i64 y.un) ∧ w9.cell? ⟨E, 2, none⟩ = some (.int .i64 y.til) ∧ w9.cell? ⟨E, 3, none⟩ = some (.int .i64 y.cu) ∧ w9.cell? ⟨E, 4, none⟩ = some (.int .i64 y.am) := fun w9 h9 => by
            have h2 := Blk.keep hE h9
            refine ⟨?_, ?_, ?_, ?_, ?_⟩ <;> rw [h2.cell] <;> rfl
          have ech := Lib.hid ecell
          obtain ⟨d0, d1, d2, d3, d4⟩ := ecell wa rfl
          clear ecell
          refine ⟨rfl, ?_⟩
          go_wp2_with fail
          refine ⟨by kernel_rfl, ?_, ?_⟩
          · intro _ w9 h9
            obtain ⟨d0, d1, d2, d3, d4⟩ := ech.out w9 h9
            clear h9
            go_simp
          go_wp2_with fail
          refine (stk_entryW (show StkAt wa.drew b mb s from ⟨hSa.blk, hSa.map, hSa.keys⟩) hG ((k : Int) - 1) (by omega) y hyh.out).mono ?_
          rintro e w7 ⟨rfl, hc7⟩
          unfold Ent.val Ent.row
          have hc7 := ((Chg.refl (fun _ => False) wa).drew).trans hc7 (fun _ _ h => h)
          have hgk := Lib.hid (hc7.block E hE.lt id)
          obtain ⟨d0', d1', d2', d3', d4'⟩ := ech.out w7 hgk.out
          go_wp2_with fail
          refine ⟨hgk.out, ?_⟩
          go_wp2_with fail
          refine ⟨by kernel_rfl, ?_⟩
          go_wp2_with fail
          refine ⟨by kernel_rfl, ?_⟩
          go_wp2_with fail
          go_roundw
          case rel => exact ⟨k + 1, by omega, by go_num, hcka.trans hc7 (fun _ _ h => h)⟩
          case measure => simp [RowKit.intOf]; omega
    · go_wp2_with fail
      go_ret
      exact ⟨rfl, hck⟩
end Go.Proofs.YtkbnojjmpmlgjaaGreat
