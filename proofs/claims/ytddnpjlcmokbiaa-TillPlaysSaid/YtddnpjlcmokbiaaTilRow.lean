/-
  TillPlays returns true for every input, and what came in reads as it did. (No condition.)
-/
import Derived.Test.YtddnpjlcmokbiaaTilProof
namespace Go.Proofs.Ytddnpjlcmokbiaa
open Go.ChangeShapes Go.WideShapes Go.ChangeAt Go.RowKit Go.Deep

theorem tillPlays_proved : Rows.TillPlaysSaid :=
  OpenClaim.holds_of_wide 4 Try.f4 rfl rfl rfl rfl rfl rfl rfl ⟨rfl, rfl, rfl, rfl, rfl⟩ rfl rfl rfl rfl rfl (by kernel_rfl) Try.func4 (by kernel_rfl)
    (of_decide_eq_true (by kernel_rfl)) (by unfold Func.isWrapper; first | (rw [if_pos (by decide +kernel)]; kernel_rfl) | (rw [if_neg (by decide +kernel)]; exact ⟨rfl, rfl⟩))
    (fun os started H enc _ => tillPlays_lifted os started H enc)
#print axioms tillPlays_proved
end Go.Proofs.Ytddnpjlcmokbiaa
