/-
  SealKeeps returns true for every input, and what came in reads as it did. (No condition.)
-/
import Derived.Test.YtpbjompopgdbjaaSKepProof
namespace Go.Proofs.Ytpbjompopgdbjaa
open Go.ChangeShapes Go.WideShapes Go.ChangeAt Go.RowKit Go.Deep

theorem sealKeeps_proved : Rows.SealKeepsSaid :=
  OpenClaim.holds_of_wide 3 Try.f3 rfl rfl rfl rfl rfl rfl rfl ⟨rfl, rfl, rfl, rfl, rfl⟩ rfl rfl rfl rfl rfl (by kernel_rfl) Try.func3 (by kernel_rfl)
    (of_decide_eq_true (by kernel_rfl)) (by unfold Func.isWrapper; first | (rw [if_pos (by decide +kernel)]; kernel_rfl) | (rw [if_neg (by decide +kernel)]; exact ⟨rfl, rfl⟩))
    (fun os started H enc _ => sealKeeps_lifted os started H enc)
#print axioms sealKeeps_proved
end Go.Proofs.Ytpbjompopgdbjaa
