/-
  The reference's table: Find out of range, Put that is refused; both put together. (Printed by wip/tools/genrtab.py.)
-/
import Derived.Test.YtajefffhdeljfaaRTabA
import Derived.Test.YtajefffhdeljfaaTabP
namespace Go.Proofs.Ytajefffhdeljfaa
open Go.RowKit Go.Maps
variable {R : TEnv}

set_option maxRecDepth 100000 in
set_option maxHeartbeats 2000000 in
theorem rt_find_out (w : World) (x : Nat) (o : POp) (h : ¬ ((1 ≤ o.bk ∧ o.bk ≤ 200) ∧ (1 ≤ o.kd ∧ o.kd ≤ 6))) :
    Calls Try.prog 23 #[.pointer (some ⟨x, R.off, none⟩), o.val] w fun e w' => e = .returned (.tuple #[.int .i64 0, .bool false]) ∧ Chg (fun _ => False) w w' := by
  obtain ⟨kd, bk, un, cu, am⟩ := o
  dsimp only at h ⊢
  have hcA := (Chg.refl (fun _ => False) w).alloc (.cells #[.int .i64 kd, .int .i64 bk, .int .i64 un, .int .i64 cu, .int .i64 am] 45)

  by_cases h1 : bk < 1
  · have d1 : decide (bk < 1) = true := by simp; omega
    clear h h1
    go_enter Try.func23, Try.ntmps23
    unfold POp.val
    go_wp2_with fail
    refine wp_region_plan (by kernel_rfl) [] [0, 1, 2, 3, 4, 5, 6, 7, 8, 9, 10, 11, 12, 13, 14, 15, 16, 17, 18, 19, 20, 21, 22, 23, 24, 25, 26, 27, 28, 29, 30] (by kernel_rfl) (fun _ _ => True) ?_
    simp only [wpPlan, opsAt_cons, opsAt_nil, consO_some, List.getElem?_toArray, List.getElem?_cons_succ, List.getElem?_cons_zero]
    go_wp2
    refine ⟨by kernel_rfl, ?_⟩
    go_wp2
    go_ret2
    exact ⟨rfl, hcA.drew⟩
  · by_cases h2 : 200 < bk
    · have d1 : decide (bk < 1) = false := by simp; omega
      have d2 : decide (200 < bk) = true := by simp; omega
      clear h h1 h2
      go_enter Try.func23, Try.ntmps23
      unfold POp.val
      go_wp2_with fail
      refine wp_region_plan (by kernel_rfl) [] [0, 1, 2, 3, 4, 5, 6, 7, 8, 9, 10, 11, 12, 13, 14, 15, 16, 17, 18, 19, 20, 21, 22, 23, 24, 25, 26, 27, 28, 29, 30] (by kernel_rfl) (fun _ _ => True) ?_
      simp only [wpPlan, opsAt_cons, opsAt_nil, consO_some, List.getElem?_toArray, List.getElem?_cons_succ, List.getElem?_cons_zero]
      go_wp2
      refine ⟨by kernel_rfl, ?_⟩
      go_wp2
      go_ret2
      exact ⟨rfl, hcA.drew⟩
    · by_cases h3 : kd < 1
      · have d1 : decide (bk < 1) = false := by simp; omega
        have d2 : decide (200 < bk) = false := by simp; omega
        have d3 : decide (kd < 1) = true := by simp; omega
        clear h h1 h2 h3
        go_enter Try.func23, Try.ntmps23
        unfold POp.val
        go_wp2_with fail
        refine wp_region_plan (by kernel_rfl) [] [0, 1, 2, 3, 4, 5, 6, 7, 8, 9, 10, 11, 12, 13, 14, 15, 16, 17, 18, 19, 20, 21, 22, 23, 24, 25, 26, 27, 28, 29, 30] (by kernel_rfl) (fun _ _ => True) ?_
        simp only [wpPlan, opsAt_cons, opsAt_nil, consO_some, List.getElem?_toArray, List.getElem?_cons_succ, List.getElem?_cons_zero]
        go_wp2
        refine ⟨by kernel_rfl, ?_⟩
        go_wp2
        go_ret2
        exact ⟨rfl, hcA.drew⟩
      · have h4 : 6 < kd := by omega
        have d1 : decide (bk < 1) = false := by simp; omega
        have d2 : decide (200 < bk) = false := by simp; omega
        have d3 : decide (kd < 1) = false := by simp; omega
        have d4 : decide (6 < kd) = true := by simp; omega
        clear h h1 h2 h3 h4
        go_enter Try.func23, Try.ntmps23
        unfold POp.val
        go_wp2_with fail
        refine wp_region_plan (by kernel_rfl) [] [0, 1, 2, 3, 4, 5, 6, 7, 8, 9, 10, 11, 12, 13, 14, 15, 16, 17, 18, 19, 20, 21, 22, 23, 24, 25, 26, 27, 28, 29, 30] (by kernel_rfl) (fun _ _ => True) ?_
        simp only [wpPlan, opsAt_cons, opsAt_nil, consO_some, List.getElem?_toArray, List.getElem?_cons_succ, List.getElem?_cons_zero]
        go_wp2
        refine ⟨by kernel_rfl, ?_⟩
        go_wp2
        go_ret2
        exact ⟨rfl, hcA.drew⟩

theorem rt_find_any {w : World} {x : Nat} {f : Tab} {c : Int} (h : RTabAt R w x f c) (hk : ∀ p, f p ≠ 0 → (1 ≤ p.1 ∧ p.1 ≤ 200) ∧ (1 ≤ p.2 ∧ p.2 ≤ 6)) (o : POp) (a : Int) (ha : f (o.bk, o.kd) = a) :
    Calls Try.prog 23 #[.pointer (some ⟨x, R.off, none⟩), o.val] w fun e w' => e = .returned (.tuple #[.int .i64 a, .bool (!(a == 0))]) ∧ Chg (fun _ => False) w w' := by
  by_cases hr : (1 ≤ o.bk ∧ o.bk ≤ 200) ∧ (1 ≤ o.kd ∧ o.kd ≤ 6)
  · have := rt_find h o hr.1 hr.2
    rw [ha] at this
    exact this
  · have h0 : a = 0 := by
      rw [← ha]
      exact Decidable.byContradiction fun e => hr (hk _ e)
    subst h0
    exact rt_find_out w x o hr


set_option maxRecDepth 100000 in
set_option maxHeartbeats 1000000 in
theorem rt_put_no {w : World} {x : Nat} {f : Tab} {c : Int} (_h : RTabAt R w x f c) (o : POp) (a : Int) (hm : mayOp o = false) :
    Calls Try.prog 20 #[.pointer (some ⟨x, R.off, none⟩), o.val, .int .i64 a] w fun e w' => e = .returned (.bool false) ∧ Chg (fun _ => False) w w' := by
  have hmh := Lib.hid hm
  clear hm
  obtain ⟨kd, bk, un, cu, am⟩ := o
  have hcA := (Chg.refl (fun _ => False) w).alloc (.cells #[.int .i64 kd, .int .i64 bk, .int .i64 un, .int .i64 cu, .int .i64 am] 45)
  go_enter Try.func20, Try.ntmps20
  unfold POp.val
  go_wp2_with fail
  refine wp_region_plan (by kernel_rfl) [{ fl := [0], ef := 1 }] [2, 3, 4, 5, 6, 7, 8, 9, 10, 11, 12, 13, 14, 15, 16, 17, 18, 19, 20, 21, 22, 23] (by kernel_rfl) (fun _ _ => True) ?_
  simp only [wpPlan, longOK, keepOK, opsAt_cons, opsAt_nil, consO_some, List.getElem?_toArray, List.getElem?_cons_succ, List.getElem?_cons_zero, true_and]
  go_wp2_with fail
  refine ⟨by kernel_rfl, ?_⟩
  go_wp2_with fail
  refine (mayRef_any ⟨kd, bk, un, cu, am⟩ _).mono ?_
  rintro e w1 ⟨rfl, hc1'⟩
  rw [hmh.out]
  have hck := hcA.drew.trans hc1' (fun _ _ h => h)
  go_wp2_with fail
  refine ⟨by kernel_rfl, ?_⟩
  go_wp2_with fail
  go_ret
  exact ⟨rfl, hck⟩

set_option maxRecDepth 100000 in
set_option maxHeartbeats 1000000 in
theorem rt_put_bad {w : World} {x : Nat} {f : Tab} {c : Int} (_h : RTabAt R w x f c) (o : POp) (a : Int) (hm : mayOp o = true) (h1 : a ≠ 1) (h2 : a ≠ 2) :
    Calls Try.prog 20 #[.pointer (some ⟨x, R.off, none⟩), o.val, .int .i64 a] w fun e w' => e = .returned (.bool false) ∧ Chg (fun _ => False) w w' := by
  have hmh := Lib.hid hm
  clear hm
  obtain ⟨kd, bk, un, cu, am⟩ := o
  have hcA := (Chg.refl (fun _ => False) w).alloc (.cells #[.int .i64 kd, .int .i64 bk, .int .i64 un, .int .i64 cu, .int .i64 am] 45)
  have b1 : (a != 1) = true := by simp [h1]
  have b2 : (a != 2) = true := by simp [h2]
  clear h1 h2
  go_enter Try.func20, Try.ntmps20
  unfold POp.val
  go_wp2_with fail
  refine wp_region_plan (by kernel_rfl) [{ fl := [0], ef := 1 }] [2, 3, 4, 5, 6, 7, 8, 9, 10, 11, 12, 13, 14, 15, 16, 17, 18, 19, 20, 21, 22, 23] (by kernel_rfl) (fun _ _ => True) ?_
  simp only [wpPlan, longOK, keepOK, opsAt_cons, opsAt_nil, consO_some, List.getElem?_toArray, List.getElem?_cons_succ, List.getElem?_cons_zero, true_and]
  go_wp2_with fail
  refine ⟨by kernel_rfl, ?_⟩
  go_wp2_with fail
  refine (mayRef_any ⟨kd, bk, un, cu, am⟩ _).mono ?_
  rintro e w1 ⟨rfl, hc1'⟩
  rw [hmh.out]
  have hck := hcA.drew.trans hc1' (fun _ _ h => h)
  go_wp2_with fail
  refine ⟨by kernel_rfl, ?_⟩
  go_wp2_with fail
  go_ret
  exact ⟨rfl, hck⟩

set_option maxRecDepth 100000 in
set_option maxHeartbeats 1000000 in
theorem rt_put_old {w : World} {x : Nat} {f : Tab} {c : Int} (h : RTabAt R w x f c) (o : POp) (a : Int) (hm : mayOp o = true) (ha : a = 1 ∨ a = 2) (hf : f (o.bk, o.kd) ≠ 0) :
    Calls Try.prog 20 #[.pointer (some ⟨x, R.off, none⟩), o.val, .int .i64 a] w fun e w' => e = .returned (.bool false) ∧ Chg (fun _ => False) w w' := by
  have hb := mayOp_bk hm
  have hk := mayOp_kd hm
  have hmh := Lib.hid hm
  clear hm
  obtain ⟨kd, bk, un, cu, am⟩ := o
  dsimp only at hb hk hf ⊢
  obtain ⟨i, rfl⟩ : ∃ i : Nat, bk = i := ⟨bk.toNat, by omega⟩
  obtain ⟨j, rfl⟩ : ∃ j : Nat, kd = j := ⟨kd.toNat, by omega⟩
  have hb2 : i ≤ 200 := by omega
  have hk2 : j ≤ 6 := by omega
  obtain ⟨hb3, hb4⟩ := hb
  obtain ⟨hk3, hk4⟩ := hk
  obtain ⟨A, hA⟩ : ∃ A, f ((i : Int), (j : Int)) = A := ⟨_, rfl⟩
  rw [hA] at hf
  have hAh := Lib.hid hA
  have hA0 : (A != 0) = true := by simp [hf]
  clear hA hf
  have hcA := (Chg.refl (fun _ => False) w).alloc (.cells #[.int .i64 (j : Int), .int .i64 (i : Int), .int .i64 un, .int .i64 cu, .int .i64 am] 45)
  have hO := Blk.new w 45 #[.int .i64 (j : Int), .int .i64 (i : Int), .int .i64 un, .int .i64 cu, .int .i64 am]
  have ha0 : (a != 1) = false ∨ ((a != 1) = true ∧ (a != 2) = false) := by rcases ha with rfl | rfl <;> decide
  clear ha
  rcases ha0 with ha0 | ⟨ha0, ha1⟩
  all_goals
    go_enter Try.func20, Try.ntmps20
    unfold POp.val
    go_wp2_with fail
    refine wp_region_plan (by kernel_rfl) [{ fl := [0], ef := 1 }] [2, 3, 4, 5, 6, 7, 8, 9, 10, 11, 12, 13, 14, 15, 16, 17, 18, 19, 20, 21, 22, 23] (by kernel_rfl) (fun _ _ => True) ?_
    simp only [wpPlan, longOK, keepOK, opsAt_cons, opsAt_nil, consO_some, List.getElem?_toArray, List.getElem?_cons_succ, List.getElem?_cons_zero, true_and]
    go_wp2_with fail
    refine ⟨by kernel_rfl, ?_⟩
    go_wp2_with fail
    refine (mayRef_any ⟨(j : Int), (i : Int), un, cu, am⟩ _).mono ?_
    rintro e w1 ⟨rfl, hc1'⟩
    rw [hmh.out]
    have hck := hcA.drew.trans hc1' (fun _ _ h => h)
    have hX := h.chg hck id
    have hO1 := (show Blk (w.alloc (.cells #[.int .i64 (j : Int), .int .i64 (i : Int), .int .i64 un, .int .i64 cu, .int .i64 am] 45)).drew _ _ _ from hO).chg hc1' id
    have o0 : w1.cell? ⟨w.heap.size, 0, none⟩ = some (.int .i64 (j : Int)) := by rw [hO1.cell]; rfl
    have o1 : w1.cell? ⟨w.heap.size, 1, none⟩ = some (.int .i64 (i : Int)) := by rw [hO1.cell]; rfl
    have t0 := hX.cell i j hb2 (by omega)
    rw [hAh.out] at t0
    clear hO hc1'
    go_wp2_with fail
    refine ⟨by kernel_rfl, ?_⟩
    go_wp2_with fail
    go_ret
    exact ⟨rfl, hck⟩

theorem rt_put_any {w : World} {x : Nat} {f : Tab} {c : Int} (h : RTabAt R w x f c) (o : POp) (a : Int) (hc0 : 0 ≤ c) (hc1 : c ≤ 1000000) :
    Calls Try.prog 20 #[.pointer (some ⟨x, R.off, none⟩), o.val, .int .i64 a] w fun e w' => e = .returned (.bool (tPut f o a).1) ∧ RTabAt R w' x (tPut f o a).2 (if (tPut f o a).1 = true then c + 1 else c) ∧ Chg (fun i => i = x) w w' := by
  have kept : ∀ {w' : World}, Chg (fun _ => False) w w' → RTabAt R w' x f c ∧ Chg (fun i => i = x) w w' := fun hc => ⟨h.chg hc id, hc.mono (fun _ _ h => h.elim)⟩
  unfold tPut
  by_cases hm : mayOp o = true
  · by_cases h12 : a = 1 ∨ a = 2
    · by_cases hf : f (o.bk, o.kd) = 0
      · rw [if_pos ⟨⟨hm, h12⟩, hf⟩]
        exact rt_put_new h o a hm h12 hf hc0 hc1
      · rw [if_neg (fun h => hf h.2)]
        exact (rt_put_old h o a hm h12 hf).mono fun e w' ⟨h1, h2⟩ => ⟨h1, kept h2⟩
    · rw [if_neg (fun h => h12 h.1.2)]
      exact (rt_put_bad h o a hm (fun e => h12 (.inl e)) (fun e => h12 (.inr e))).mono fun e w' ⟨h1, h2⟩ => ⟨h1, kept h2⟩
  · rw [if_neg (fun h => hm h.1.1)]
    exact (rt_put_no h o a (by simpa using hm)).mono fun e w' ⟨h1, h2⟩ => ⟨h1, kept h2⟩
end Go.Proofs.Ytajefffhdeljfaa
