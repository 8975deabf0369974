/-
  The reference's MayOp, by its contract.
-/
import Derived.Test.YtkbnojjmpmlgjaaGreatWant
import Derived.Test.YtkbnojjmpmlgjaaGreatRegionC
namespace Go.Proofs.YtkbnojjmpmlgjaaGreat
open Go.RowKit

set_option maxRecDepth 100000 in
set_option maxHeartbeats 1000000 in
theorem mayRef_any (o : POp) (w : World) : Calls Tryz.prog 25 #[o.val] w fun e w' => e = .returned (.bool (mayOp o)) ∧ Chg (fun _ => False) w w' := by
  have hs := Lib.hid (mayOp_split o)
  obtain ⟨kd, bk, un, cu, am⟩ := o
  unfold POp.val
  dsimp only at hs
  by_cases hcu : cu = 0 <;> by_cases hun : un = 0 <;> by_cases h1 : kd = 1 <;> by_cases h4 : kd = 4
  all_goals try (exfalso; omega)
  all_goals
    try subst hcu
    try (have hcb : (cu == 0) = false := by simp [hcu])
    try subst hun
    try subst h1
    try subst h4
    go_enter Tryz.func25, Tryz.ntmps25
    go_wp2
    all_goals try
      refine wp_region_plan (by kernel_rfl) [] [0, 1, 2, 3, 4, 5, 6, 7, 8, 9, 10, 11, 12] (by kernel_rfl) (fun _ _ => True) ?_
      simp only [wpPlan, opsAt_cons, opsAt_nil, consO_some, List.getElem?_toArray, List.getElem?_cons_succ, List.getElem?_cons_zero]
      go_wp2
      refine ⟨by kernel_rfl, ?_⟩
      go_wp2
    all_goals
      go_ret
      refine ⟨?_, by first | exact ((Chg.refl _ _).alloc _).drew | exact (Chg.refl _ _).alloc _⟩
      rw [hs.out]
      simp [*]
      try (rw [Bool.eq_iff_iff]; simp; try omega)
      try omega
end Go.Proofs.YtkbnojjmpmlgjaaGreat
