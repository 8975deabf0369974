/-
  table: Len by its contract.
-/
import Derived.Test.YtkbnojjmpmlgjaaGreatTabA
namespace Go.Proofs.YtkbnojjmpmlgjaaGreat
open Go.RowKit Go.Maps

set_option maxRecDepth 100000 in
theorem len_any (w : World) (t mt : Nat) (f : Tab) (hT : TabAt w t mt f) (l : List (Int × Int)) (hn : l.Nodup) (hl : ∀ p, p ∈ l ↔ f p ≠ 0) :
    Calls Tryz.prog 29 #[.pointer (some ⟨t, 0, none⟩)] w fun e w' => e = .returned (.int .i64 l.length) ∧ w' = w := by
  obtain ⟨es, clock, hes, _, hsz, _⟩ := hT.map.count encP_inj l hn (fun p => by rw [hl]; unfold tabMap; by_cases h : f p = 0 <;> simp [h])
  have hu : Tryz.prog.underlying 86 = some (.map (Tryz.prog.mapKeyOf 86) (Tryz.prog.mapElemOf 86)) := by kernel_rfl
  have hlen : ∀ ty, (Builtin.len_ #[86] ty #[.map (some mt)]).run Tryz.prog w = .ok (.int .i64 l.length) w := fun ty => by
    have h := run_len_map (P := Tryz.prog) (w := w) 86 ty mt es clock hu hes
    rw [hsz] at h
    exact h
  clear hu hes
  have c0 : w.cell? ⟨t, 0, none⟩ = some (.map (some mt)) := by rw [hT.blk.cell]; rfl
  go_enter Tryz.func29, Tryz.ntmps29
  go_wp2
  go_ret
  exact ⟨rfl, rfl⟩
end Go.Proofs.YtkbnojjmpmlgjaaGreat
