/-
  disk: Copy as the laws use it.
-/
import Derived.Test.YtgcmagoecapgoaaDskI
import Derived.Test.YtgcmagoecapgoaaDskX
namespace Go.Proofs.Ytgcmagoecapgoaa
open Go.RowKit Go.Maps

section
variable {P : Nat → Prop} {w : World} {d : Nat} {D : Dsk} (h : DiskX P w d D)
include h
/-- A copy: each disk beside the other's blocks. -/
theorem x_copy (hmx : D.ks.length ≤ 1000000) :
    Calls Try.prog 27 #[.pointer (some ⟨d, 0, none⟩)] w fun e w' => ∃ c, e = .returned (.pointer (some ⟨c, 0, none⟩)) ∧ DiskX (fun i => i < w.heap.size) w' c D ∧ DiskX (fun i => P i ∨ (w.heap.size ≤ i ∧ i < w'.heap.size)) w' d D ∧
      DiskW (fun i => w.heap.size ≤ i ∧ i < w'.heap.size) w' c D ∧ Chg (fun _ => False) w w' := by
  obtain ⟨S, ⟨md, pl, hD⟩, hP⟩ := id h
  refine (dsk_copy hD hmx).mono ?_
  rintro e w' ⟨c, rfl, hW, hc⟩
  refine ⟨c, rfl, ⟨_, hW, fun i hi => ⟨fun h2 => by omega, by have := hc.size; omega⟩⟩, h.more hc (fun i hi => hi), hW, hc⟩
end
end Go.Proofs.Ytgcmagoecapgoaa
