/-
  DiskCuts returns true for every input, and what came in reads as it did. (No condition.)
-/
import Derived.Test.YtgcmagoecapgoaaDCutProof
namespace Go.Proofs.Ytgcmagoecapgoaa
open Go.ChangeShapes Go.WideShapes Go.ChangeAt Go.RowKit Go.Deep

theorem diskCuts_proved : Rows.DiskCutsSaid :=
  OpenClaim.holds_of_wide 8 Try.f8 rfl rfl rfl rfl rfl rfl rfl ⟨rfl, rfl, rfl, rfl, rfl⟩ rfl rfl rfl rfl rfl (by kernel_rfl) Try.func8 (by kernel_rfl)
    (of_decide_eq_true (by kernel_rfl)) (by unfold Func.isWrapper; first | (rw [if_pos (by decide +kernel)]; kernel_rfl) | (rw [if_neg (by decide +kernel)]; exact ⟨rfl, rfl⟩))
    (fun os started H enc _ => diskCuts_lifted os started H enc)
#print axioms diskCuts_proved
end Go.Proofs.Ytgcmagoecapgoaa
