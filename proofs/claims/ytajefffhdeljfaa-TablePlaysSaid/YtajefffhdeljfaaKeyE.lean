/-
  The comparison of keys of two numbers: cmp.Compare, cmp.Or, and the function that the table hands to the sort.
-/
import Derived.Test.YtajefffhdeljfaaKeyC
import Derived.Test.YtajefffhdeljfaaRegionC
import Derived.Lib.Small
import Derived.Lib.Hide
namespace Go.Proofs.Ytajefffhdeljfaa
open Go.RowKit Go.Maps Go.Sort Go.Shelf Go.Proofs

theorem isNaN_any (w : World) (x : Int) : Calls Try.prog 67 #[.int .i64 x] w fun e w' => e = .returned (.bool false) ∧ w' = w := by
  go_enter Try.func67, Try.ntmps67
  go_wp2
  go_ret
  exact ⟨by simp, rfl⟩

set_option maxRecDepth 100000 in
theorem compare_any (w : World) (x y : Int) : Calls Try.prog 49 #[.int .i64 x, .int .i64 y] w fun e w' => e = .returned (.int .i64 (Lib.compareInt x y)) ∧ w' = w := by
  by_cases h1 : x < y
  · have h2 : ¬ y < x := by omega
    go_enter Try.func49, Try.ntmps49
    go_wp2_with fail
    refine (isNaN_any w x).mono ?_
    rintro e w1 ⟨rfl, rfl⟩
    go_wp2_with fail
    refine (isNaN_any _ y).mono ?_
    rintro e w1 ⟨rfl, rfl⟩
    go_wp2_with fail
    go_ret
    exact ⟨by simp [Lib.compareInt, h1], rfl⟩
  · by_cases h2 : y < x
    · go_enter Try.func49, Try.ntmps49
      go_wp2_with fail
      refine (isNaN_any w x).mono ?_
      rintro e w1 ⟨rfl, rfl⟩
      go_wp2_with fail
      refine (isNaN_any _ y).mono ?_
      rintro e w1 ⟨rfl, rfl⟩
      go_wp2_with fail
      go_ret
      exact ⟨by simp [Lib.compareInt, h1, h2], rfl⟩
    · go_enter Try.func49, Try.ntmps49
      go_wp2_with fail
      refine (isNaN_any w x).mono ?_
      rintro e w1 ⟨rfl, rfl⟩
      go_wp2_with fail
      refine (isNaN_any _ y).mono ?_
      rintro e w1 ⟨rfl, rfl⟩
      go_wp2_with fail
      go_ret
      exact ⟨by rw [show Lib.compareInt x y = 0 from by unfold Lib.compareInt; rw [if_neg (by omega), if_neg (by omega)]]; rfl, rfl⟩

set_option maxRecDepth 100000 in
theorem or_any (w : World) (g : Nat) (a b : Int) (c0 : w.cell? ⟨g, 0, none⟩ = some (.int .i64 a)) (c1 : w.cell? ⟨g, 1, none⟩ = some (.int .i64 b)) :
    Calls Try.prog 48 #[.slice (some ⟨g, 0, none⟩) 2 2] w fun e w' => e = .returned (.int .i64 (if a = 0 then b else a)) ∧ w' = w := by
  by_cases ha : a = 0
  · subst ha
    by_cases hb : b = 0
    · subst hb
      go_enter Try.func48, Try.ntmps48
      go_wp2
      refine wp_loop_rounds 3 ?_
      rw [rounds_succ]
      go_wp2
      rw [rounds_succ]
      go_wp2
      rw [rounds_succ]
      go_wp2
      go_ret
      exact ⟨rfl, rfl⟩
    · have hb2 : (b != 0) = true := by simp [hb]
      go_enter Try.func48, Try.ntmps48
      go_wp2
      refine wp_loop_rounds 3 ?_
      rw [rounds_succ]
      go_wp2
      rw [rounds_succ]
      go_wp2
      go_ret
      exact ⟨by simp, rfl⟩
  · have ha2 : (a != 0) = true := by simp [ha]
    go_enter Try.func48, Try.ntmps48
    go_wp2
    refine wp_loop_rounds 3 ?_
    rw [rounds_succ]
    go_wp2
    go_ret
    exact ⟨by simp [ha], rfl⟩

set_option maxRecDepth 100000 in
set_option maxHeartbeats 1000000 in
theorem keycmp_any (W : World) (x y : Int × Int) :
    Calls Try.prog 47 #[.agg #[.int .i64 x.1, .int .i64 x.2], .agg #[.int .i64 y.1, .int .i64 y.2]] W fun e w' =>
      e = .returned (.int .i64 (if Lib.compareInt x.1 y.1 = 0 then Lib.compareInt x.2 y.2 else Lib.compareInt x.1 y.1)) ∧ ∃ q os', w' = grow (W.drewN q) os' := by
  obtain ⟨x1, x2⟩ := x
  obtain ⟨y1, y2⟩ := y
  simp only
  have hc1 := fun W' => compare_any W' x1 y1
  have hc2 := fun W' => compare_any W' x2 y2
  generalize Lib.compareInt x1 y1 = r1 at *
  generalize Lib.compareInt x2 y2 = r2 at *
  have ho := fun W' g c0 c1 => or_any W' g r1 r2 c0 c1
  generalize (if r1 = 0 then r2 else r1) = r3 at *
  go_enter Try.func47, Try.ntmps47
  go_wp2_with fail
  have f0 : ((W.alloc (.cells #[.int .i64 x1, .int .i64 x2] 70)).alloc (.cells #[.int .i64 y1, .int .i64 y2] 70)).drew.cell? ⟨W.heap.size, 0, none⟩ = some (.int .i64 x1) := by simp
  have f1 : ((W.alloc (.cells #[.int .i64 x1, .int .i64 x2] 70)).alloc (.cells #[.int .i64 y1, .int .i64 y2] 70)).drew.cell? ⟨W.heap.size, 1, none⟩ = some (.int .i64 x2) := by simp
  have f2 : ((W.alloc (.cells #[.int .i64 x1, .int .i64 x2] 70)).alloc (.cells #[.int .i64 y1, .int .i64 y2] 70)).drew.cell? ⟨W.heap.size + 1, 0, none⟩ = some (.int .i64 y1) := by simp
  have f3 : ((W.alloc (.cells #[.int .i64 x1, .int .i64 x2] 70)).alloc (.cells #[.int .i64 y1, .int .i64 y2] 70)).drew.cell? ⟨W.heap.size + 1, 1, none⟩ = some (.int .i64 y2) := by simp
  have hw : ((W.alloc (.cells #[.int .i64 x1, .int .i64 x2] 70)).alloc (.cells #[.int .i64 y1, .int .i64 y2] 70)).drew = grow (W.drewN 1) #[.cells #[.int .i64 x1, .int .i64 x2] 70, .cells #[.int .i64 y1, .int .i64 y2] 70] := by
    rw [alloc_eq_grow, alloc_eq_grow, grow_grow]; rfl
  have hwh := Lib.hid hw
  clear hw
  refine wp_region_plan (by kernel_rfl) [{ fl := [0, 1, 2, 3, 5, 6, 7, 8], long := [6, 8], ef := 4, keep := [6, 8] }, { fl := [], ef := 9 }, { fl := [], ef := 10 }, { fl := [], ef := 11 }] [12] (by kernel_rfl) (fun _ w9 => w9.cell? ⟨W.heap.size, 1, none⟩ = some (.int .i64 x2) ∧ w9.cell? ⟨W.heap.size + 1, 1, none⟩ = some (.int .i64 y2)) ?_
  simp only [wpPlan, longOK, keepOK, opsAt_cons, opsAt_nil, consO_some, List.getElem?_toArray, List.getElem?_cons_succ, List.getElem?_cons_zero, and_true, true_and]
  refine ⟨⟨⟨f1, f3⟩, f1, f3⟩, ?_⟩
  generalize ((W.alloc (.cells #[.int .i64 x1, .int .i64 x2] 70)).alloc (.cells #[.int .i64 y1, .int .i64 y2] 70)).drew = W2 at *
  generalize hq : W.heap.size = q at *
  go_wp2_with fail
  refine ⟨by kernel_rfl, ⟨?_, ?_⟩, ?_⟩
  · intro _ w9 h9
    obtain ⟨f1, f3⟩ := h9
    go_simp
  · intro _ w9 h9
    obtain ⟨f1, f3⟩ := h9
    go_simp
  go_wp2_with fail
  refine (hc1 _).mono ?_
  rintro e w1 ⟨rfl, rfl⟩
  go_wp2_with fail
  refine ⟨⟨⟨f1, f3⟩, f1, f3⟩, ?_⟩
  go_wp2_with fail
  refine ⟨by kernel_rfl, ?_⟩
  go_wp2_with fail
  refine (hc2 _).mono ?_
  rintro e w1 ⟨rfl, rfl⟩
  go_wp2_with fail
  refine ⟨by kernel_rfl, ?_⟩
  go_wp2_with fail
  refine ⟨by kernel_rfl, ?_⟩
  go_wp2_with fail
  refine (ho _ _ (by simp) (by simp)).mono ?_
  rintro e w1 ⟨rfl, rfl⟩
  go_wp2_with fail
  refine ⟨by kernel_rfl, ?_⟩
  go_wp2_with fail
  go_ret
  exact ⟨rfl, 1, _, by rw [hwh.out, alloc_eq_grow, grow_grow]⟩
end Go.Proofs.Ytajefffhdeljfaa
