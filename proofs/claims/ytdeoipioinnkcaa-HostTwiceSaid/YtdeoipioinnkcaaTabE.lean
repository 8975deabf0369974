/-
  table: Len by its contract.
-/
import Derived.Test.YtdeoipioinnkcaaTabA
namespace Go.Proofs.Ytdeoipioinnkcaa
open Go.RowKit Go.Maps

set_option maxRecDepth 100000 in
theorem len_any (w : World) (t mt : Nat) (f : Tab) (hT : TabAt w t mt f) (l : List (Int × Int)) (hn : l.Nodup) (hl : ∀ p, p ∈ l ↔ f p ≠ 0) :
    Calls Try.prog 32 #[.pointer (some ⟨t, 0, none⟩)] w fun e w' => e = .returned (.int .i64 l.length) ∧ w' = w := by
  obtain ⟨es, clock, hes, _, hsz, _⟩ := hT.map.count encP_inj l hn (fun p => by rw [hl]; unfold tabMap; by_cases h : f p = 0 <;> simp [h])
  have hu : Try.prog.underlying 81 = some (.map (Try.prog.mapKeyOf 81) (Try.prog.mapElemOf 81)) := by kernel_rfl
  have hlen : ∀ ty, (Builtin.len_ #[81] ty #[.map (some mt)]).run Try.prog w = .ok (.int .i64 l.length) w := fun ty => by
    have h := run_len_map (P := Try.prog) (w := w) 81 ty mt es clock hu hes
    rw [hsz] at h
    exact h
  clear hu hes
  have c0 : w.cell? ⟨t, 0, none⟩ = some (.map (some mt)) := by rw [hT.blk.cell]; rfl
  go_enter Try.func32, Try.ntmps32
  go_wp2
  go_ret
  exact ⟨rfl, rfl⟩
end Go.Proofs.Ytdeoipioinnkcaa
