/-
  layer 10: PurseNobody, its walk.
-/
import Derived.Test.YtbmpjndagponoaaPurseZ
import Derived.Test.YtbmpjndagponoaaPurseL
namespace Go.Proofs.Ytbmpjndagponoaa
open Go.RowKit Go.Maps

set_option maxRecDepth 100000 in
set_option maxHeartbeats 4000000 in
theorem nobody_walk (w : World) (o : POp) : Calls Try.prog 8 #[o.val] w fun e w' => e = .returned (.bool true) ∧ Chg (fun _ => False) w w' := by
  go_enter Try.func8, Try.ntmps8
  unfold POp.val
  go_wp2_with fail
  refine (told10 _).mono ?_
  rintro e w1 ⟨rfl, hc1⟩
  have hX : Blk w1 w.heap.size 31 o.row := (Blk.new w _ _).chg hc1 id
  have hcA : Chg (fun _ => False) w w1 := ((Chg.refl _ w).alloc _).trans hc1 (fun _ _ h => h)
  have e0 : w1.cell? ⟨w.heap.size, 0, none⟩ = some (.int .i64 o.kd) := by rw [hX.cell]; rfl
  have e1 : w1.cell? ⟨w.heap.size, 1, none⟩ = some (.int .i64 o.bk) := by rw [hX.cell]; rfl
  have e2 : w1.cell? ⟨w.heap.size, 2, none⟩ = some (.int .i64 o.un) := by rw [hX.cell]; rfl
  have e3 : w1.cell? ⟨w.heap.size, 3, none⟩ = some (.int .i64 o.cu) := by rw [hX.cell]; rfl
  have e4 : w1.cell? ⟨w.heap.size, 4, none⟩ = some (.int .i64 o.am) := by rw [hX.cell]; rfl
  go_wp2_with fail
  refine (do_nil w1 o).mono ?_
  rintro e w2 ⟨rfl, hc2⟩
  have hX2 := hX.chg hc2 id
  clear e0 e1 e2 e3 e4 hX hc1
  have e1 : w2.cell? ⟨w.heap.size, 1, none⟩ = some (.int .i64 o.bk) := by rw [hX2.cell]; rfl
  go_wp2_with fail
  refine (entry_nil w2 _).mono ?_
  rintro e w3 ⟨rfl, hc3⟩
  have hX3 := hX2.chg hc3 id
  clear e1 hX2
  have e3 : w3.cell? ⟨w.heap.size, 3, none⟩ = some (.int .i64 o.cu) := by rw [hX3.cell]; rfl
  unfold Ent.val Ent.row Ent.none
  go_wp2_with (first
    | (go_at_call 15; refine (balance_nil _ _).mono ?_; rintro e w' ⟨rfl, rfl⟩)
    | (go_at_call 13; refine (reserved_nil _).mono ?_; rintro e w' ⟨rfl, rfl⟩)
    | (go_at_call 14; refine (takings_nil _).mono ?_; rintro e w' ⟨rfl, rfl⟩)
    | (go_at_call 16; refine (lines_nil _).mono ?_; rintro e w' ⟨rfl, rfl⟩)
    | (go_at_call 23; refine (bytes_nil _).mono ?_; rintro e w' ⟨rfl, rfl⟩)
    | (go_at_call 21; refine (copy_nil _).mono ?_; rintro e w' ⟨rfl, rfl⟩))
  go_ret
  exact ⟨rfl, (hcA.trans hc2 (fun _ _ h => h)).trans hc3 (fun _ _ h => h)⟩
end Go.Proofs.Ytbmpjndagponoaa
