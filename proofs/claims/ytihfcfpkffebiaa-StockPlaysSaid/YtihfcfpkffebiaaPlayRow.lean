/-
  StockPlays returns true for every input, and what came in reads as it did. (No condition.)
-/
import Derived.Test.YtihfcfpkffebiaaPlayProof
namespace Go.Proofs.Ytihfcfpkffebiaa
open Go.ChangeShapes Go.WideShapes Go.ChangeAt Go.RowKit Go.Deep

theorem stockPlays_proved : Rows.StockPlaysSaid :=
  OpenClaim.holds_of_wide 9 Try.f9 rfl rfl rfl rfl rfl rfl rfl ⟨rfl, rfl, rfl, rfl, rfl⟩ rfl rfl rfl rfl rfl (by kernel_rfl) Try.func9 (by kernel_rfl)
    (of_decide_eq_true (by kernel_rfl)) (by unfold Func.isWrapper; first | (rw [if_pos (by decide +kernel)]; kernel_rfl) | (rw [if_neg (by decide +kernel)]; exact ⟨rfl, rfl⟩))
    (fun os started H enc _ => stockPlays_lifted os started H enc)
#print axioms stockPlays_proved
end Go.Proofs.Ytihfcfpkffebiaa
