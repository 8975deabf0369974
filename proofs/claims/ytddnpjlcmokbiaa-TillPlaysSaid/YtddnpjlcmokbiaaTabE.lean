/-
  table: Len by its contract.
-/
import Derived.Test.YtddnpjlcmokbiaaTabA
namespace Go.Proofs.Ytddnpjlcmokbiaa
open Go.RowKit Go.Maps

set_option maxRecDepth 100000 in
theorem len_any (w : World) (t mt : Nat) (f : Tab) (hT : TabAt w t mt f) (l : List (Int × Int)) (hn : l.Nodup) (hl : ∀ p, p ∈ l ↔ f p ≠ 0) :
    Calls Try.prog 40 #[.pointer (some ⟨t, 0, none⟩)] w fun e w' => e = .returned (.int .i64 l.length) ∧ w' = w := by
  obtain ⟨es, clock, hes, _, hsz, _⟩ := hT.map.count encP_inj l hn (fun p => by rw [hl]; unfold tabMap; by_cases h : f p = 0 <;> simp [h])
  have hu : Try.prog.underlying 98 = some (.map (Try.prog.mapKeyOf 98) (Try.prog.mapElemOf 98)) := by kernel_rfl
  have hlen : ∀ ty, (Builtin.len_ #[98] ty #[.map (some mt)]).run Try.prog w = .ok (.int .i64 l.length) w := fun ty => by
    have h := run_len_map (P := Try.prog) (w := w) 98 ty mt es clock hu hes
    rw [hsz] at h
    exact h
  clear hu hes
  have c0 : w.cell? ⟨t, 0, none⟩ = some (.map (some mt)) := by rw [hT.blk.cell]; rfl
  go_enter Try.func40, Try.ntmps40
  go_wp2
  go_ret
  exact ⟨rfl, rfl⟩
end Go.Proofs.Ytddnpjlcmokbiaa
