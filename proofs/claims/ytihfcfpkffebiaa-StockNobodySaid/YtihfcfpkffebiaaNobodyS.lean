/-
  layer 9: StockNobody, its walk.
-/
import Derived.Test.YtihfcfpkffebiaaStockT
namespace Go.Proofs.Ytihfcfpkffebiaa
open Go.RowKit Go.Maps

set_option maxRecDepth 100000 in
set_option maxHeartbeats 4000000 in
theorem stockNobody_walk (w : World) (o : POp) (now : Int) : Calls Try.prog 10 #[o.val, .int .i64 now] w fun e w' => e = .returned (.bool true) ∧ Chg (fun _ => False) w w' := by
  go_enter Try.func10, Try.ntmps10
  unfold POp.val
  go_wp2_with fail
  refine (told9 _).mono ?_
  rintro e w1 ⟨rfl, hc1⟩
  have hX : Blk w1 w.heap.size 31 o.row := (Blk.new w _ _).chg hc1 id
  have hcA : Chg (fun _ => False) w w1 := ((Chg.refl _ w).alloc _).trans hc1 (fun _ _ h => h)
  have e0 : w1.cell? ⟨w.heap.size, 0, none⟩ = some (.int .i64 o.kd) := by rw [hX.cell]; rfl
  have e1 : w1.cell? ⟨w.heap.size, 1, none⟩ = some (.int .i64 o.bk) := by rw [hX.cell]; rfl
  have e2 : w1.cell? ⟨w.heap.size, 2, none⟩ = some (.int .i64 o.un) := by rw [hX.cell]; rfl
  have e3 : w1.cell? ⟨w.heap.size, 3, none⟩ = some (.int .i64 o.cu) := by rw [hX.cell]; rfl
  have e4 : w1.cell? ⟨w.heap.size, 4, none⟩ = some (.int .i64 o.am) := by rw [hX.cell]; rfl
  go_wp2_with fail
  refine (do_nil w1 o now).mono ?_
  rintro e w2 ⟨rfl, hc2⟩
  have hX2 := hX.chg hc2 id
  clear e0 e1 e2 e3 e4 hX hc1
  have e1 : w2.cell? ⟨w.heap.size, 1, none⟩ = some (.int .i64 o.bk) := by rw [hX2.cell]; rfl
  go_wp2_with fail
  refine (sweep_nil w2 now).mono ?_
  rintro e w' ⟨rfl, rfl⟩
  go_wp2_with fail
  refine (entry_nil _ _).mono ?_
  rintro e w3 ⟨rfl, hc3⟩
  have hX3 := hX2.chg hc3 id
  clear e1 hX2
  unfold Ent.val Ent.row Ent.none
  go_wp2_with (first
    | (go_at_call 16; refine (free_nil _).mono ?_; rintro e w' ⟨rfl, rfl⟩)
    | (go_at_call 17; refine (held_nil _).mono ?_; rintro e w' ⟨rfl, rfl⟩)
    | (go_at_call 18; refine (conf_nil _).mono ?_; rintro e w' ⟨rfl, rfl⟩)
    | (go_at_call 21; refine (bytes_nil _).mono ?_; rintro e w' ⟨rfl, rfl⟩)
    | (go_at_call 22; refine (copy_nil _).mono ?_; rintro e w' ⟨rfl, rfl⟩))
  go_ret
  exact ⟨rfl, (hcA.trans hc2 (fun _ _ h => h)).trans hc3 (fun _ _ h => h)⟩
end Go.Proofs.Ytihfcfpkffebiaa
