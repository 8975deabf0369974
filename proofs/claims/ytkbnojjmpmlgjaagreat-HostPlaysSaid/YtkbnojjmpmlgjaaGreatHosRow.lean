/-
  HostPlays returns true for every input, and what came in reads as it did. (No condition.)
-/
import Derived.Test.YtkbnojjmpmlgjaaGreatHosProof
namespace Go.Proofs.YtkbnojjmpmlgjaaGreat
open Go.ChangeShapes Go.WideShapes Go.ChangeAt Go.RowKit Go.Deep

theorem hostPlays_proved : Rows.HostPlaysSaid :=
  OpenClaim.holds_of_wide 3 Tryz.f3 rfl rfl rfl rfl rfl rfl rfl ⟨rfl, rfl, rfl, rfl, rfl⟩ rfl rfl rfl rfl rfl (by kernel_rfl) Tryz.func3 (by kernel_rfl)
    (of_decide_eq_true (by kernel_rfl)) (by unfold Func.isWrapper; first | (rw [if_pos (by decide +kernel)]; kernel_rfl) | (rw [if_neg (by decide +kernel)]; exact ⟨rfl, rfl⟩))
    (fun os started H enc _ => hostPlays_lifted os started H enc)
#print axioms hostPlays_proved
end Go.Proofs.YtkbnojjmpmlgjaaGreat
