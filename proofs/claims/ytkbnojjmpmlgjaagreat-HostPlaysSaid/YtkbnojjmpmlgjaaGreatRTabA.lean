/-
  The reference's table of answers in memory; Find and Put by their contracts.
-/
import Derived.Test.YtkbnojjmpmlgjaaGreatTabA
import Derived.Test.YtkbnojjmpmlgjaaGreatArrF
import Derived.LoopTactic
import Derived.Test.YtkbnojjmpmlgjaaGreatMayRef
import Derived.Test.YtkbnojjmpmlgjaaGreatPurseN
namespace Go.Proofs.YtkbnojjmpmlgjaaGreat
open Go.RowKit Go.Maps

/-- Where the reference's table lies: a block of a type, so many cells, from which on, and what the other cells are. -/
structure TEnv where
  T : TypeId
  n : Nat
  off : Nat
  g : Nat → Value
  h : off + 1408 ≤ n
def rtCell (f : Tab) (c : Int) (j : Nat) : Value := if j < 1407 then .int .i64 (f (((j / 7 : Nat) : Int), ((j % 7 : Nat) : Int))) else .int .i64 c
def tovl (R : TEnv) (f : Tab) (c : Int) (i : Nat) : Value := if R.off ≤ i ∧ i < R.off + 1408 then rtCell f c (i - R.off) else R.g i
variable {R : TEnv}
def RTabAt (R : TEnv) (w : World) (x : Nat) (f : Tab) (c : Int) : Prop := Blk w x R.T (arrF R.n (tovl R f c))
theorem RTabAt.lt {w : World} {x : Nat} {f : Tab} {c : Int} (h : RTabAt R w x f c) : x < w.heap.size := Blk.lt h
theorem RTabAt.chg {w w' : World} {x : Nat} {f : Tab} {c : Int} {S : Nat → Prop} (h : RTabAt R w x f c) (hc : Chg S w w') (hn : ¬ S x) : RTabAt R w' x f c := Blk.chg h hc hn
theorem RTabAt.drew {w : World} {x : Nat} {f : Tab} {c : Int} (h : RTabAt R w x f c) : RTabAt R w.drew x f c := h
theorem RTabAt.cell0 {w : World} {x : Nat} {f : Tab} {c : Int} (h : RTabAt R w x f c) (j : Nat) (hj : j < 1408) : w.cell? ⟨x, R.off + j, none⟩ = some (rtCell f c j) := by
  have hh := R.h
  rw [Blk.cell h, arrF_get _ _ _ (by omega)]
  unfold tovl
  rw [if_pos (by omega), Nat.add_sub_cancel_left]
theorem RTabAt.cell {w : World} {x : Nat} {f : Tab} {c : Int} (h : RTabAt R w x f c) (i j : Nat) (hi : i ≤ 200) (hj : j < 7) : w.cell? ⟨x, R.off + i * 7 + j, none⟩ = some (.int .i64 (f ((i : Int), (j : Int)))) := by
  have h0 := h.cell0 (i * 7 + j) (by omega)
  rw [Nat.add_assoc, h0]
  unfold rtCell
  rw [if_pos (by omega)]
  have e1 : (i * 7 + j) / 7 = i := by omega
  have e2 : (i * 7 + j) % 7 = j := by omega
  rw [e1, e2]
theorem RTabAt.cnt {w : World} {x : Nat} {f : Tab} {c : Int} (h : RTabAt R w x f c) : w.cell? ⟨x, R.off + 1407, none⟩ = some (.int .i64 c) := by
  rw [h.cell0 1407 (by omega)]
  rfl
theorem RTabAt.frozen {w : World} {x : Nat} {f : Tab} {c : Int} (h : RTabAt R w x f c) (i : Nat) : w.frozen? ⟨x, i, none⟩ = false := Blk.frozen h i
theorem RTabAt.put {w : World} {x : Nat} {f : Tab} {c : Int} (h : RTabAt R w x f c) (i j : Nat) (hi : i ≤ 200) (hj : j < 7) (a : Int) : RTabAt R (w.setCell ⟨x, R.off + i * 7 + j, none⟩ (.int .i64 a)) x (upd f ((i : Int), (j : Int)) a) c := by
  have h1 := Blk.set h (R.off + i * 7 + j) (.int .i64 a)
  rw [arrF_set] at h1
  refine (congrArg (fun z => Blk _ x _ z) (arrF_congr R.n _ _ (fun n _ => ?_))).mp h1
  unfold tovl
  by_cases hn : n = R.off + i * 7 + j
  · subst hn
    rw [if_pos rfl, if_pos (by omega)]
    unfold rtCell
    have e0 : R.off + i * 7 + j - R.off = i * 7 + j := by omega
    have e1 : (i * 7 + j) / 7 = i := by omega
    have e2 : (i * 7 + j) % 7 = j := by omega
    rw [e0, if_pos (by omega), e1, e2, upd_same]
  · rw [if_neg hn]
    split
    · rename_i hr
      unfold rtCell
      split
      · rw [upd_other]
        intro e
        injection e with e1 e2
        have := Int.ofNat.inj e1
        have := Int.ofNat.inj e2
        omega
      · rfl
    · rfl
theorem RTabAt.setN {w : World} {x : Nat} {f : Tab} {c : Int} (h : RTabAt R w x f c) (c' : Int) : RTabAt R (w.setCell ⟨x, R.off + 1407, none⟩ (.int .i64 c')) x f c' := by
  have h1 := Blk.set h (R.off + 1407) (.int .i64 c')
  rw [arrF_set] at h1
  refine (congrArg (fun z => Blk _ x _ z) (arrF_congr R.n _ _ (fun n _ => ?_))).mp h1
  unfold tovl
  by_cases hn : n = R.off + 1407
  · subst hn
    rw [if_pos rfl, if_pos (by omega)]
    unfold rtCell
    rw [if_neg (by omega)]
  · rw [if_neg hn]
    split
    · unfold rtCell
      split
      · rfl
      · omega
    · rfl

set_option maxRecDepth 100000 in
set_option maxHeartbeats 1000000 in
theorem rt_find {w : World} {x : Nat} {f : Tab} {c : Int} (h : RTabAt R w x f c) (o : POp) (hb : 1 ≤ o.bk ∧ o.bk ≤ 200) (hk : 1 ≤ o.kd ∧ o.kd ≤ 6) :
    Calls Tryz.prog 26 #[.pointer (some ⟨x, R.off, none⟩), o.val] w fun e w' => e = .returned (.tuple #[.int .i64 (f (o.bk, o.kd)), .bool (!(f (o.bk, o.kd) == 0))]) ∧ Chg (fun _ => False) w w' := by
  obtain ⟨kd, bk, un, cu, am⟩ := o
  dsimp only at hb hk ⊢
  obtain ⟨i, rfl⟩ : ∃ i : Nat, bk = i := ⟨bk.toNat, by omega⟩
  obtain ⟨j, rfl⟩ : ∃ j : Nat, kd = j := ⟨kd.toNat, by omega⟩
  have hb1 : 1 ≤ i := by omega
  have hb2 : i ≤ 200 := by omega
  have hk1 : 1 ≤ j := by omega
  have hk2 : j ≤ 6 := by omega
  obtain ⟨hb3, hb4⟩ := hb
  obtain ⟨hk3, hk4⟩ := hk
  obtain ⟨a, ha⟩ : ∃ a, f ((i : Int), (j : Int)) = a := ⟨_, rfl⟩
  have hcA := (Chg.refl (fun _ => False) w).alloc (.cells #[.int .i64 (j : Int), .int .i64 (i : Int), .int .i64 un, .int .i64 cu, .int .i64 am] 43)
  have hX := h.chg hcA id
  have c0 := hX.cell i j hb2 (by omega)
  rw [ha] at c0 ⊢
  have hb0 : decide (a = 0) = (a == 0) := rfl
  clear ha hb0
  have d1 : decide ((i : Int) < 1) = false := by simp; omega
  have d2 : decide (200 < (i : Int)) = false := by simp; omega
  have d3 : decide ((j : Int) < 1) = false := by simp; omega
  have d4 : decide (6 < (j : Int)) = false := by simp; omega
  by_cases h0 : a = 0
  all_goals
    first | (have b0 : (a == 0) = true := by simp [h0]) | (have b0 : (a == 0) = false := by simp [h0])
    rw [b0]
    go_enter Tryz.func26, Tryz.ntmps26
    unfold POp.val
    go_wp2_with fail
    refine wp_region_plan (by kernel_rfl) [] [0, 1, 2, 3, 4, 5, 6, 7, 8, 9, 10, 11, 12, 13, 14, 15, 16, 17, 18, 19, 20, 21, 22, 23, 24, 25, 26, 27, 28, 29, 30] (by kernel_rfl) (fun _ _ => True) ?_
    simp only [wpPlan, opsAt_cons, opsAt_nil, consO_some, List.getElem?_toArray, List.getElem?_cons_succ, List.getElem?_cons_zero]
    go_wp2
    refine ⟨by kernel_rfl, ?_⟩
    go_wp2_with fail
  · go_ret2
    refine ⟨by simp [h0], hcA.drew⟩
  · refine wp_region_plan (by kernel_rfl) [] [0, 1, 2, 3, 4, 5, 6, 7, 8, 9, 10, 11] (by kernel_rfl) (fun _ _ => True) ?_
    simp only [wpPlan, opsAt_cons, opsAt_nil, consO_some, List.getElem?_toArray, List.getElem?_cons_succ, List.getElem?_cons_zero]
    go_wp2
    refine ⟨by kernel_rfl, ?_⟩
    go_wp2
    go_ret2
    exact ⟨rfl, hcA.drew.drew⟩

set_option maxRecDepth 100000 in
set_option maxHeartbeats 1000000 in
theorem rt_put_new {w : World} {x : Nat} {f : Tab} {c : Int} (h : RTabAt R w x f c) (o : POp) (a : Int) (hm : mayOp o = true) (ha : a = 1 ∨ a = 2) (hf : f (o.bk, o.kd) = 0) (hc0 : 0 ≤ c) (hc1 : c ≤ 1000000) :
    Calls Tryz.prog 28 #[.pointer (some ⟨x, R.off, none⟩), o.val, .int .i64 a] w fun e w' => e = .returned (.bool true) ∧ RTabAt R w' x (upd f (o.bk, o.kd) a) (c + 1) ∧ Chg (fun i => i = x) w w' := by
  have hb := mayOp_bk hm
  have hk := mayOp_kd hm
  have hmh := Lib.hid hm
  clear hm
  obtain ⟨kd, bk, un, cu, am⟩ := o
  dsimp only at hb hk hf ⊢
  obtain ⟨i, rfl⟩ : ∃ i : Nat, bk = i := ⟨bk.toNat, by omega⟩
  obtain ⟨j, rfl⟩ : ∃ j : Nat, kd = j := ⟨kd.toNat, by omega⟩
  have hb1 : 1 ≤ i := by omega
  have hb2 : i ≤ 200 := by omega
  have hk1 : 1 ≤ j := by omega
  have hk2 : j ≤ 6 := by omega
  obtain ⟨hb3, hb4⟩ := hb
  obtain ⟨hk3, hk4⟩ := hk
  have hcA := (Chg.refl (fun _ => False) w).alloc (.cells #[.int .i64 (j : Int), .int .i64 (i : Int), .int .i64 un, .int .i64 cu, .int .i64 am] 43)
  have hO := Blk.new w 43 #[.int .i64 (j : Int), .int .i64 (i : Int), .int .i64 un, .int .i64 cu, .int .i64 am]
  have hfh := Lib.hid hf
  clear hf
  have ha0 : (a != 1) = false ∨ ((a != 1) = true ∧ (a != 2) = false) := by rcases ha with rfl | rfl <;> decide
  clear ha
  rcases ha0 with ha0 | ⟨ha0, ha1⟩
  all_goals
    go_enter Tryz.func28, Tryz.ntmps28
    unfold POp.val
    go_wp2_with fail
    refine wp_region_plan (by kernel_rfl) [{ fl := [0], ef := 1 }] [2, 3, 4, 5, 6, 7, 8, 9, 10, 11, 12, 13, 14, 15, 16, 17, 18, 19, 20, 21, 22, 23] (by kernel_rfl) (fun _ _ => True) ?_
    simp only [wpPlan, longOK, keepOK, opsAt_cons, opsAt_nil, consO_some, List.getElem?_toArray, List.getElem?_cons_succ, List.getElem?_cons_zero, true_and]
    go_wp2_with fail
    refine ⟨by kernel_rfl, ?_⟩
    go_wp2_with fail
    refine (mayRef_any ⟨(j : Int), (i : Int), un, cu, am⟩ _).mono ?_
    rintro e w1 ⟨rfl, hc1'⟩
    rw [hmh.out]
    have hck := hcA.drew.trans hc1' (fun _ _ h => h)
    have hX := h.chg hck id
    have hO1 := (show Blk (w.alloc (.cells #[.int .i64 (j : Int), .int .i64 (i : Int), .int .i64 un, .int .i64 cu, .int .i64 am] 43)).drew _ _ _ from hO).chg hc1' id
    have hxz := h.lt
    have hne : x ≠ w.heap.size := by omega
    have o0 : w1.cell? ⟨w.heap.size, 0, none⟩ = some (.int .i64 (j : Int)) := by rw [hO1.cell]; rfl
    have o1 : w1.cell? ⟨w.heap.size, 1, none⟩ = some (.int .i64 (i : Int)) := by rw [hO1.cell]; rfl
    have t0 := hX.cell i j hb2 (by omega)
    rw [hfh.out] at t0
    have f0 := hX.frozen (R.off + i * 7 + j)
    have hp := hX.put i j hb2 (by omega) a
    have n0 := hp.cnt
    have n1 := hp.frozen (R.off + 1407)
    have hq := hp.setN (c + 1)
    have hcq : Chg (fun i => i = x) w ((w1.setCell ⟨x, R.off + i * 7 + j, none⟩ (.int .i64 a)).setCell ⟨x, R.off + 1407, none⟩ (.int .i64 (c + 1))) := (((hck.mono (T := fun i => i = x) (fun _ _ h => h.elim)).setCell (.inl rfl) _).setCell (.inl rfl) _)
    clear hO hc1'
    go_wp2_with fail
    refine ⟨by kernel_rfl, ?_⟩
    go_wp2_with fail
    refine wp_region_plan (by kernel_rfl) [{ fl := [0, 1, 2, 3, 4, 5, 6, 7, 8, 9], ef := 10 }] [] (by kernel_rfl) (fun _ _ => True) ?_
    simp only [wpPlan, longOK, keepOK, opsAt_cons, opsAt_nil, consO_some, List.getElem?_toArray, List.getElem?_cons_succ, List.getElem?_cons_zero, true_and]
    go_wp2_with fail
    refine ⟨by kernel_rfl, ?_⟩
    go_wp2_with fail
    refine ⟨by kernel_rfl, ?_⟩
    go_wp2_with fail
    go_ret
    exact ⟨rfl, hq.drew, hcq.drew⟩
end Go.Proofs.YtkbnojjmpmlgjaaGreat
