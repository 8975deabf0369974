/-
  want: what may be asked: within, MayOp, by their contracts.
-/
import Derived.Test.YtkbnojjmpmlgjaaGreatProg
import Derived.Test.YtkbnojjmpmlgjaaGreatRegionB
import Derived.Test.YtkbnojjmpmlgjaaGreatWorld
import Derived.Test.YtkbnojjmpmlgjaaGreatPurseM
import Derived.WalkKit
import Derived.WalkLawsBesides
import Derived.Lib.Hide
namespace Go.Proofs.YtkbnojjmpmlgjaaGreat
open Go.RowKit

theorem within_any (n lo hi : Int) (w : World) : Calls Tryz.prog 46 #[.int .i64 n, .int .i64 lo, .int .i64 hi] w fun e w' => e = .returned (.bool (decide (lo ≤ n) && decide (n ≤ hi))) ∧ w = w' := by
  by_cases h1 : lo ≤ n <;> by_cases h2 : n ≤ hi
  all_goals
    go_enter Tryz.func46, Tryz.ntmps46
    go_wp2
    go_ret
    exact ⟨by simp [*], rfl⟩

theorem within64_any (n lo hi : Int) (w : World) : Calls Tryz.prog 47 #[.int .i64 n, .int .i64 lo, .int .i64 hi] w fun e w' => e = .returned (.bool (decide (lo ≤ n) && decide (n ≤ hi))) ∧ w = w' := by
  by_cases h1 : lo ≤ n <;> by_cases h2 : n ≤ hi
  all_goals
    go_enter Tryz.func47, Tryz.ntmps47
    go_wp2
    go_ret
    exact ⟨by simp [*], rfl⟩

/-- An operation as a value. -/
def POp.val (o : POp) : Value := .agg #[.int .i64 o.kd, .int .i64 o.bk, .int .i64 o.un, .int .i64 o.cu, .int .i64 o.am]

theorem mayOp_split (o : POp) : mayOp o = ((decide (1 ≤ o.kd) && decide (o.kd ≤ 6)) && (decide (1 ≤ o.bk) && decide (o.bk ≤ 200)) &&
    (if o.kd = 1 then decide (1 ≤ o.un) && decide (o.un ≤ 1000) else decide (o.un = 0)) && (if o.kd = 4 then decide (0 ≤ o.cu) && decide (o.cu ≤ 3) else decide (o.cu = 0)) &&
    (if o.kd = 4 then decide (0 ≤ o.am) && decide (o.am ≤ 1099511627776) else decide (o.am = 0))) := by
  unfold mayOp
  simp only [Bool.decide_and]

set_option maxRecDepth 100000 in
set_option maxHeartbeats 1000000 in
theorem mayOp_not4 (o : POp) (h4 : o.kd ≠ 4) (w : World) : Calls Tryz.prog 22 #[o.val] w fun e w' => e = .returned (.bool (mayOp o)) ∧ Chg (fun _ => False) w w' := by
  have hs := Lib.hid (mayOp_split o)
  obtain ⟨kd, bk, un, cu, am⟩ := o
  unfold POp.val
  dsimp only at h4 hs
  by_cases h1 : kd = 1
  all_goals
    go_enter Tryz.func22, Tryz.ntmps22
    go_wp2
    refine wp_region_plan (by kernel_rfl) [] [0, 1, 2, 3, 4, 5, 6, 7, 8, 9, 10, 11] (by kernel_rfl) (fun _ _ => True) ?_
    simp only [wpPlan, opsAt, List.filterMap_cons, List.getElem?_toArray, List.getElem?_cons_succ, List.getElem?_cons_zero, List.filterMap_nil]
    go_wp2
    refine ⟨by kernel_rfl, ?_⟩
    go_wp2_with (go_at_call 46; refine (within_any _ _ _ _).mono ?_; rintro e w' ⟨rfl, rfl⟩)
    all_goals
      go_ret
      refine ⟨?_, ((Chg.refl _ _).alloc _).drew⟩
      rw [hs.out]
      simp [*]
      try rfl

set_option maxRecDepth 100000 in
set_option maxHeartbeats 1000000 in
theorem mayOp_is4 (o : POp) (h4 : o.kd = 4) (w : World) : Calls Tryz.prog 22 #[o.val] w fun e w' => e = .returned (.bool (mayOp o)) ∧ Chg (fun _ => False) w w' := by
  have hs := Lib.hid (mayOp_split o)
  obtain ⟨kd, bk, un, cu, am⟩ := o
  unfold POp.val
  dsimp only at h4 hs
  subst h4
  go_enter Tryz.func22, Tryz.ntmps22
  go_wp2
  refine wp_region_plan (by kernel_rfl) [] [0, 1, 2, 3, 4, 5, 6, 7, 8, 9, 10, 11] (by kernel_rfl) (fun _ _ => True) ?_
  simp only [wpPlan, opsAt, List.filterMap_cons, List.getElem?_toArray, List.getElem?_cons_succ, List.getElem?_cons_zero, List.filterMap_nil]
  go_wp2
  refine ⟨by kernel_rfl, ?_⟩
  go_wp2
  refine wp_region_plan (by kernel_rfl) [{ fl := [0, 1, 3, 4], long := [4], ef := 2, keep := [4] }, { fl := [], ef := 5 }] [6, 7] (by kernel_rfl) (fun _ w' => w'.cell? ⟨w.heap.size, 4, none⟩ = some (.int .i64 am)) ?_
  have hc : ∀ n, ((w.alloc (.cells #[.int .i64 4, .int .i64 bk, .int .i64 un, .int .i64 cu, .int .i64 am] 43)).drewN n).cell? ⟨w.heap.size, 4, none⟩ = some (.int .i64 am) := fun n => by simp
  simp only [wpPlan, longOK, keepOK, opsAt, List.filterMap_cons, List.getElem?_toArray, List.getElem?_cons_succ, List.getElem?_cons_zero, List.filterMap_nil, and_true, true_and]
  refine ⟨by simp, ?_⟩
  go_wp2
  refine ⟨by kernel_rfl, ?_, ?_⟩
  · intro _ w' h
    go_simp
  go_wp2_with (go_at_call 46; refine (within_any _ _ _ _).mono ?_; rintro e w' ⟨rfl, rfl⟩)
  refine ⟨by simp, ?_⟩
  go_wp2
  refine ⟨by kernel_rfl, ?_⟩
  go_wp2_with (go_at_call 47; refine (within64_any _ _ _ _).mono ?_; rintro e w' ⟨rfl, rfl⟩)
  refine ⟨by kernel_rfl, ?_⟩
  go_wp2_with (go_at_call 46; refine (within_any _ _ _ _).mono ?_; rintro e w' ⟨rfl, rfl⟩)
  all_goals
    go_ret
    refine ⟨?_, ((Chg.refl _ _).alloc _).drew.drew⟩
    rw [hs.out]
    simp [*]
    try rfl

theorem mayOp_any (o : POp) (w : World) : Calls Tryz.prog 22 #[o.val] w fun e w' => e = .returned (.bool (mayOp o)) ∧ Chg (fun _ => False) w w' := by
  by_cases h : o.kd = 4
  · exact mayOp_is4 o h w
  · exact mayOp_not4 o h w
end Go.Proofs.YtkbnojjmpmlgjaaGreat
