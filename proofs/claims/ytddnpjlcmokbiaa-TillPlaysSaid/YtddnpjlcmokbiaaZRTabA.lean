/-
  The reference's table of answers in memory; Find and Put by their contracts.
-/
import Derived.Test.YtddnpjlcmokbiaaTabA
import Derived.Test.YtddnpjlcmokbiaaArrF
import Derived.LoopTactic
import Derived.Test.YtddnpjlcmokbiaaMayRef
import Derived.Test.YtddnpjlcmokbiaaPurseN
import Derived.Test.YtddnpjlcmokbiaaZEntM
namespace Go.Proofs.Ytddnpjlcmokbiaa
open Go.RowKit Go.Maps

/-- Where the reference's table lies: a block of a type, so many cells, from which on, and what the other cells are. -/
structure TEnv where
  T : TypeId
  n : Nat
  off : Nat
  g : Nat → Value
  h : off + 1408 ≤ n
def rtCell (f : Tab) (c : Int) (j : Nat) : Value := if j < 1407 then .int .i64 (f (((j / 7 : Nat) : Int), ((j % 7 : Nat) : Int))) else .int .i64 c
def tovl (R : TEnv) (f : Tab) (c : Int) (i : Nat) : Value := if R.off ≤ i ∧ i < R.off + 1408 then rtCell f c (i - R.off) else R.g i
variable {R : TEnv}
def RTabAt (R : TEnv) (w : World) (x : Nat) (f : Tab) (c : Int) : Prop := Blk w x R.T (arrF R.n (tovl R f c))
theorem RTabAt.lt {w : World} {x : Nat} {f : Tab} {c : Int} (h : RTabAt R w x f c) : x < w.heap.size := Blk.lt h
theorem RTabAt.chg {w w' : World} {x : Nat} {f : Tab} {c : Int} {S : Nat → Prop} (h : RTabAt R w x f c) (hc : Chg S w w') (hn : ¬ S x) : RTabAt R w' x f c := Blk.chg h hc hn
theorem RTabAt.drew {w : World} {x : Nat} {f : Tab} {c : Int} (h : RTabAt R w x f c) : RTabAt R w.drew x f c := h
theorem RTabAt.cell0 {w : World} {x : Nat} {f : Tab} {c : Int} (h : RTabAt R w x f c) (j : Nat) (hj : j < 1408) : w.cell? ⟨x, R.off + j, none⟩ = some (rtCell f c j) := by
  have hh := R.h
  rw [Blk.cell h, arrF_get _ _ _ (by omega)]
  unfold tovl
  rw [if_pos (by omega), Nat.add_sub_cancel_left]
theorem RTabAt.cell {w : World} {x : Nat} {f : Tab} {c : Int} (h : RTabAt R w x f c) (i j : Nat) (hi : i ≤ 200) (hj : j < 7) : w.cell? ⟨x, R.off + i * 7 + j, none⟩ = some (.int .i64 (f ((i : Int), (j : Int)))) := by
  have h0 := h.cell0 (i * 7 + j) (by omega)
  rw [Nat.add_assoc, h0]
  unfold rtCell
  rw [if_pos (by omega)]
  have e1 : (i * 7 + j) / 7 = i := by omega
  have e2 : (i * 7 + j) % 7 = j := by omega
  rw [e1, e2]
theorem RTabAt.cnt {w : World} {x : Nat} {f : Tab} {c : Int} (h : RTabAt R w x f c) : w.cell? ⟨x, R.off + 1407, none⟩ = some (.int .i64 c) := by
  rw [h.cell0 1407 (by omega)]
  rfl
theorem RTabAt.frozen {w : World} {x : Nat} {f : Tab} {c : Int} (h : RTabAt R w x f c) (i : Nat) : w.frozen? ⟨x, i, none⟩ = false := Blk.frozen h i
theorem RTabAt.put {w : World} {x : Nat} {f : Tab} {c : Int} (h : RTabAt R w x f c) (i j : Nat) (hi : i ≤ 200) (hj : j < 7) (a : Int) : RTabAt R (w.setCell ⟨x, R.off + i * 7 + j, none⟩ (.int .i64 a)) x (upd f ((i : Int), (j : Int)) a) c := by
  have h1 := Blk.set h (R.off + i * 7 + j) (.int .i64 a)
  rw [arrF_set] at h1
  refine (congrArg (fun z => Blk _ x _ z) (arrF_congr R.n _ _ (fun n _ => ?_))).mp h1
  unfold tovl
  by_cases hn : n = R.off + i * 7 + j
  · subst hn
    rw [if_pos rfl, if_pos (by omega)]
    unfold rtCell
    have e0 : R.off + i * 7 + j - R.off = i * 7 + j := by omega
    have e1 : (i * 7 + j) / 7 = i := by omega
    have e2 : (i * 7 + j) % 7 = j := by omega
    rw [e0, if_pos (by omega), e1, e2, upd_same]
  · rw [if_neg hn]
    split
    · rename_i hr
      unfold rtCell
      split
      · rw [upd_other]
        intro e
        injection e with e1 e2
        have := Int.ofNat.inj e1
        have := Int.ofNat.inj e2
        omega
      · rfl
    · rfl
theorem RTabAt.setN {w : World} {x : Nat} {f : Tab} {c : Int} (h : RTabAt R w x f c) (c' : Int) : RTabAt R (w.setCell ⟨x, R.off + 1407, none⟩ (.int .i64 c')) x f c' := by
  have h1 := Blk.set h (R.off + 1407) (.int .i64 c')
  rw [arrF_set] at h1
  refine (congrArg (fun z => Blk _ x _ z) (arrF_congr R.n _ _ (fun n _ => ?_))).mp h1
  unfold tovl
  by_cases hn : n = R.off + 1407
  · subst hn
    rw [if_pos rfl, if_pos (by omega)]
    unfold rtCell
    rw [if_neg (by omega)]
  · rw [if_neg hn]
    split
    · unfold rtCell
      split
      · rfl
      · omega
    · rfl

set_option maxRecDepth 100000 in
set_option maxHeartbeats 1000000 in
theorem rt_find {w : World} {x : Nat} {f : Tab} {c : Int} (h : RTabAt R w x f c) (o : POp) (hb : 1 ≤ o.bk ∧ o.bk ≤ 200) (hk : 1 ≤ o.kd ∧ o.kd ≤ 6) :
    Calls Try.prog 38 #[.pointer (some ⟨x, R.off, none⟩), o.val] w fun e w' => e = .returned (.tuple #[.int .i64 (f (o.bk, o.kd)), .bool (!(f (o.bk, o.kd) == 0))]) ∧ Chg (fun _ => False) w w' := by
  obtain ⟨kd, bk, un, cu, am⟩ := o
  dsimp only at hb hk ⊢
  obtain ⟨i, rfl⟩ : ∃ i : Nat, bk = i := ⟨bk.toNat, by omega⟩
  obtain ⟨j, rfl⟩ : ∃ j : Nat, kd = j := ⟨kd.toNat, by omega⟩
  have hb1 : 1 ≤ i := by omega
  have hb2 : i ≤ 200 := by omega
  have hk1 : 1 ≤ j := by omega
  have hk2 : j ≤ 6 := by omega
  obtain ⟨hb3, hb4⟩ := hb
  obtain ⟨hk3, hk4⟩ := hk
  obtain ⟨a, ha⟩ : ∃ a, f ((i : Int), (j : Int)) = a := ⟨_, rfl⟩
  have hcA := (Chg.refl (fun _ => False) w).alloc (.cells #[.int .i64 (j : Int), .int .i64 (i : Int), .int .i64 un, .int .i64 cu, .int .i64 am] 33)
  have hX := h.chg hcA id
  have c0 := hX.cell i j hb2 (by omega)
  rw [ha] at c0 ⊢
  have hb0 : decide (a = 0) = (a == 0) := rfl
  clear ha hb0
  have d1 : decide ((i : Int) < 1) = false := by simp; omega
  have d2 : decide (200 < (i : Int)) = false := by simp; omega
  have d3 : decide ((j : Int) < 1) = false := by simp; omega
  have d4 : decide (6 < (j : Int)) = false := by simp; omega
  by_cases h0 : a = 0
  all_goals
    first | (have b0 : (a == 0) = true := by simp [h0]) | (have b0 : (a == 0) = false := by simp [h0])
    rw [b0]
    go_enter Try.func38, Try.ntmps38
    unfold POp.val
    go_wp2_with fail
    refine wp_region_plan (by kernel_rfl) [] [0, 1, 2, 3, 4, 5, 6, 7, 8, 9, 10, 11, 12, 13, 14, 15, 16, 17, 18, 19, 20, 21, 22, 23, 24, 25, 26, 27, 28, 29, 30] (by kernel_rfl) (fun _ _ => True) ?_
    simp only [wpPlan, opsAt_cons, opsAt_nil, consO_some, List.getElem?_toArray, List.getElem?_cons_succ, List.getElem?_cons_zero]
    go_wp2
    refine ⟨by kernel_rfl, ?_⟩
    go_wp2_with fail
  · go_ret2
    refine ⟨by simp [h0], hcA.drew⟩
  · refine wp_region_plan (by kernel_rfl) [] [0, 1, 2, 3, 4, 5, 6, 7, 8, 9, 10, 11] (by kernel_rfl) (fun _ _ => True) ?_
    simp only [wpPlan, opsAt_cons, opsAt_nil, consO_some, List.getElem?_toArray, List.getElem?_cons_succ, List.getElem?_cons_zero]
    go_wp2
    refine ⟨by kernel_rfl, ?_⟩
    go_wp2
    go_ret2
    exact ⟨rfl, hcA.drew.drew⟩

set_option maxRecDepth 100000 in
set_option maxHeartbeats 1000000 in
theorem rt_put_new {w : World} {x : Nat} {f : Tab} {c : Int} (h : RTabAt R w x f c) (o : POp) (a : Int) (hm : mayOp o = true) (ha : a = 1 ∨ a = 2) (hf : f (o.bk, o.kd) = 0) (hc0 : 0 ≤ c) (hc1 : c ≤ 1000000) :
    Calls Try.prog 39 #[.pointer (some ⟨x, R.off, none⟩), o.val, .int .i64 a] w fun e w' => e = .returned (.bool true) ∧ RTabAt R w' x (upd f (o.bk, o.kd) a) (c + 1) ∧ Chg (fun i => i = x) w w' := by
  have hb := mayOp_bk hm
  have hk := mayOp_kd hm
  have hmh := Lib.hid hm
  clear hm
  obtain ⟨kd, bk, un, cu, am⟩ := o
  dsimp only at hb hk hf ⊢
  obtain ⟨i, rfl⟩ : ∃ i : Nat, bk = i := ⟨bk.toNat, by omega⟩
  obtain ⟨j, rfl⟩ : ∃ j : Nat, kd = j := ⟨kd.toNat, by omega⟩
  have hb1 : 1 ≤ i := by omega
  have hb2 : i ≤ 200 := by omega
  have hk1 : 1 ≤ j := by omega
  have hk2 : j ≤ 6 := by omega
  obtain ⟨hb3, hb4⟩ := hb
  obtain ⟨hk3, hk4⟩ := hk
  have hcA := (Chg.refl (fun _ => False) w).alloc (.cells #[.int .i64 (j : Int), .int .i64 (i : Int), .int .i64 un, .int .i64 cu, .int .i64 am] 33)
  have hO := Blk.new w 33 #[.int .i64 (j : Int), .int .i64 (i : Int), .int .i64 un, .int .i64 cu, .int .i64 am]
  have hfh := Lib.hid hf
  clear hf
  have ha0 : (a != 1) = false ∨ ((a != 1) = true ∧ (a != 2) = false) := by rcases ha with rfl | rfl <;> decide
  clear ha
  rcases ha0 with ha0 | ⟨ha0, ha1⟩
  all_goals
    go_enter Try.func39, Try.ntmps39
    unfold POp.val
    go_wp2_with fail
    refine wp_region_plan (by kernel_rfl) [{ fl := [0], ef := 1 }] [2, 3, 4, 5, 6, 7, 8, 9, 10, 11, 12, 13, 14, 15, 16, 17, 18, 19, 20, 21, 22, 23] (by kernel_rfl) (fun _ _ => True) ?_
    simp only [wpPlan, longOK, keepOK, opsAt_cons, opsAt_nil, consO_some, List.getElem?_toArray, List.getElem?_cons_succ, List.getElem?_cons_zero, true_and]
    go_wp2_with fail
    refine ⟨by kernel_rfl, ?_⟩
    go_wp2_with fail
    refine (mayRef_any ⟨(j : Int), (i : Int), un, cu, am⟩ _).mono ?_
    rintro e w1 ⟨rfl, hc1'⟩
    rw [hmh.out]
    have hck := hcA.drew.trans hc1' (fun _ _ h => h)
    have hX := h.chg hck id
    have hO1 := (show Blk (w.alloc (.cells #[.int .i64 (j : Int), .int .i64 (i : Int), .int .i64 un, .int .i64 cu, .int .i64 am] 33)).drew _ _ _ from hO).chg hc1' id
    have hxz := h.lt
    have hne : x ≠ w.heap.size := by omega
    have o0 : w1.cell? ⟨w.heap.size, 0, none⟩ = some (.int .i64 (j : Int)) := by rw [hO1.cell]; rfl
    have o1 : w1.cell? ⟨w.heap.size, 1, none⟩ = some (.int .i64 (i : Int)) := by rw [hO1.cell]; rfl
    have t0 := hX.cell i j hb2 (by omega)
    rw [hfh.out] at t0
    have f0 := hX.frozen (R.off + i * 7 + j)
    have hp := hX.put i j hb2 (by omega) a
    have n0 := hp.cnt
    have n1 := hp.frozen (R.off + 1407)
    have hq := hp.setN (c + 1)
    have hcq : Chg (fun i => i = x) w ((w1.setCell ⟨x, R.off + i * 7 + j, none⟩ (.int .i64 a)).setCell ⟨x, R.off + 1407, none⟩ (.int .i64 (c + 1))) := (((hck.mono (T := fun i => i = x) (fun _ _ h => h.elim)).setCell (.inl rfl) _).setCell (.inl rfl) _)
    clear hO hc1'
    go_wp2_with fail
    refine ⟨by kernel_rfl, ?_⟩
    go_wp2_with fail
    refine wp_region_plan (by kernel_rfl) [{ fl := [0, 1, 2, 3, 4, 5, 6, 7, 8, 9], ef := 10 }] [] (by kernel_rfl) (fun _ _ => True) ?_
    simp only [wpPlan, longOK, keepOK, opsAt_cons, opsAt_nil, consO_some, List.getElem?_toArray, List.getElem?_cons_succ, List.getElem?_cons_zero, true_and]
    go_wp2_with fail
    refine ⟨by kernel_rfl, ?_⟩
    go_wp2_with fail
    refine ⟨by kernel_rfl, ?_⟩
    go_wp2_with fail
    go_ret
    exact ⟨rfl, hq.drew, hcq.drew⟩
end Go.Proofs.Ytddnpjlcmokbiaa

namespace Go.Proofs.Ytddnpjlcmokbiaa
open Go.RowKit Go.Maps

/-- Where the reference's purse lies: a block of a type, so many cells, the first 1012 of them the purse's, and what the others are. -/
structure QEnv where
  T : TypeId
  n : Nat
  g : Nat → Value
  h : 1012 ≤ n
  ne : 78 ≠ T
  ne1 : 33 ≠ T
  ne2 : 44 ≠ T
def qCell (ac : Int → Int) (en : Int → Ent) (lv : Value) (n : Nat) : Value := if n < 6 then .int .i64 (ac n) else if n < 1011 then entCell (en (((n - 6) / 5 : Nat) : Int)) ((n - 6) % 5) else lv
def qovl (g : Nat → Value) (ac : Int → Int) (en : Int → Ent) (lv : Value) (i : Nat) : Value := if i < 1012 then qCell ac en lv i else g i
variable {R : QEnv}
/-- The block alone. -/
def QBlk (R : QEnv) (w : World) (x : Nat) (ac : Int → Int) (en : Int → Ent) (lv : Value) : Prop := Blk w x R.T (arrF R.n (qovl R.g ac en lv))
/-- The reference's purse; lv: its moves. -/
structure QAt (R : QEnv) (w : World) (x : Nat) (lv : Value) (p : Pur) : Prop where
  blk : QBlk R w x p.ac p.en lv
  own : w.ownsRow 0 78 4 lv p.ln.length (p.ln.flatMap Mv.cells)
theorem QAt.ne {w : World} {x : Nat} {lv : Value} {p : Pur} (h : QAt R w x lv p) : lv.ownBlock ≠ some x := own_ne h.own h.blk R.ne
theorem QAt.chg {w w' : World} {x : Nat} {lv : Value} {p : Pur} {S : Nat → Prop} (h : QAt R w x lv p) (hc : Chg S w w') (hn : ¬ S x) (hl : ∀ k, lv.ownBlock = some k → ¬ S k) : QAt R w' x lv p :=
  ⟨Blk.chg h.blk hc hn, own_chg h.own hc hl⟩
section
variable {w : World} {x : Nat} {ac : Int → Int} {en : Int → Ent} {lv : Value}
theorem QBlk.cell0 (h : QBlk R w x ac en lv) (i : Nat) (hi : i < 1012) : w.cell? ⟨x, i, none⟩ = some (qCell ac en lv i) := by
  rw [Blk.cell h, arrF_get _ _ _ (Nat.lt_of_lt_of_le hi R.h)]
  unfold qovl
  rw [if_pos hi]
theorem QBlk.acc (h : QBlk R w x ac en lv) (i : Nat) (hi : i < 6) : w.cell? ⟨x, i, none⟩ = some (.int .i64 (ac i)) := by
  rw [h.cell0 i (by omega)]
  unfold qCell
  rw [if_pos hi]
theorem QBlk.lin (h : QBlk R w x ac en lv) : w.cell? ⟨x, 1011, none⟩ = some lv := by
  rw [h.cell0 1011 (by omega)]
  rfl
theorem QBlk.ent (h : QBlk R w x ac en lv) (i j : Nat) (hi : i ≤ 200) (hj : j < 5) : w.cell? ⟨x, 6 + i * 5 + j, none⟩ = some (entCell (en (i : Int)) j) := by
  rw [h.cell0 _ (by omega)]
  unfold qCell
  rw [if_neg (by omega), if_pos (by omega)]
  have e1 : (6 + i * 5 + j - 6) / 5 = i := by omega
  have e2 : (6 + i * 5 + j - 6) % 5 = j := by omega
  rw [e1, e2]
theorem QBlk.cells (h : QBlk R w x ac en lv) (i : Nat) (hi : i ≤ 200) {y : Ent} (hy : en (i : Int) = y) :
    w.cell? ⟨x, 6 + i * 5, none⟩ = some (.int .i64 y.st) ∧ w.cell? ⟨x, 6 + i * 5 + 1, none⟩ = some (.int .i64 y.un) ∧ w.cell? ⟨x, 6 + i * 5 + 2, none⟩ = some (.int .i64 y.til) ∧
      w.cell? ⟨x, 6 + i * 5 + 3, none⟩ = some (.int .i64 y.cu) ∧ w.cell? ⟨x, 6 + i * 5 + 4, none⟩ = some (.int .i64 y.am) := by
  rw [← hy]
  exact ⟨h.ent i 0 hi (by omega), h.ent i 1 hi (by omega), h.ent i 2 hi (by omega), h.ent i 3 hi (by omega), h.ent i 4 hi (by omega)⟩
theorem QBlk.frozen (h : QBlk R w x ac en lv) (i : Nat) : w.frozen? ⟨x, i, none⟩ = false := Blk.frozen h i
theorem QBlk.setAc (h : QBlk R w x ac en lv) (i : Nat) (hi : i < 6) (v : Int) : QBlk R (w.setCell ⟨x, i, none⟩ (.int .i64 v)) x (upd ac (i : Int) v) en lv := by
  have h1 := Blk.set h i (.int .i64 v)
  rw [arrF_set] at h1
  refine (congrArg (fun z => Blk _ x _ z) (arrF_congr R.n _ _ (fun n _ => ?_))).mp h1
  unfold qovl qCell upd
  by_cases hn : n = i
  · subst hn
    rw [if_pos rfl, if_pos (by omega), if_pos hi, if_pos rfl]
  · rw [if_neg hn]
    split
    · split
      · rw [if_neg (by omega)]
      · rfl
    · rfl
theorem QBlk.setLn (h : QBlk R w x ac en lv) (lv' : Value) : QBlk R (w.setCell ⟨x, 1011, none⟩ lv') x ac en lv' := by
  have h1 := Blk.set h 1011 lv'
  rw [arrF_set] at h1
  refine (congrArg (fun z => Blk _ x _ z) (arrF_congr R.n _ _ (fun n _ => ?_))).mp h1
  unfold qovl qCell
  by_cases hn : n = 1011
  · subst hn
    rw [if_pos rfl, if_pos (by omega), if_neg (by omega), if_neg (by omega)]
  · rw [if_neg hn]
    split
    · split
      · rfl
      · split
        · rfl
        · omega
    · rfl
theorem QBlk.put (h : QBlk R w x ac en lv) (i : Nat) (hi : i ≤ 200) (e : Ent) :
    QBlk R (((((w.setCell ⟨x, 6 + i * 5, none⟩ (.int .i64 e.st)).setCell ⟨x, 6 + i * 5 + 1, none⟩ (.int .i64 e.un)).setCell ⟨x, 6 + i * 5 + 2, none⟩ (.int .i64 e.til)).setCell ⟨x, 6 + i * 5 + 3, none⟩ (.int .i64 e.cu)).setCell ⟨x, 6 + i * 5 + 4, none⟩ (.int .i64 e.am)) x ac (fun k => if k = (i : Int) then e else en k) lv := by
  have h5 := ((((Blk.set h (6 + i * 5) (.int .i64 e.st)).set (6 + i * 5 + 1) (.int .i64 e.un)).set (6 + i * 5 + 2) (.int .i64 e.til)).set (6 + i * 5 + 3) (.int .i64 e.cu)).set (6 + i * 5 + 4) (.int .i64 e.am)
  simp only [arrF_set] at h5
  unfold QBlk
  refine (congrArg (fun a => Blk _ x _ a) (arrF_congr R.n _ _ (fun n _ => ?_))).mp h5
  unfold qovl
  by_cases hlt : n < 1012
  case neg => rw [if_neg hlt, if_neg hlt, if_neg (by omega), if_neg (by omega), if_neg (by omega), if_neg (by omega), if_neg (by omega)]
  rw [if_pos hlt, if_pos hlt]
  unfold qCell
  by_cases hn0 : n < 6
  · rw [if_neg (by omega), if_neg (by omega), if_neg (by omega), if_neg (by omega), if_neg (by omega), if_pos hn0, if_pos hn0]
  rw [if_neg hn0, if_neg hn0]
  by_cases hn1 : n < 1011
  case neg => rw [if_neg (by omega), if_neg (by omega), if_neg (by omega), if_neg (by omega), if_neg (by omega), if_neg hn1, if_neg hn1]
  rw [if_pos hn1, if_pos hn1]
  dsimp only
  by_cases hd : (n - 6) / 5 = i
  · have hc : (n - 6) % 5 = 0 ∨ (n - 6) % 5 = 1 ∨ (n - 6) % 5 = 2 ∨ (n - 6) % 5 = 3 ∨ (n - 6) % 5 = 4 := by omega
    rw [if_pos (show (((n - 6) / 5 : Nat) : Int) = (i : Int) by omega)]
    rcases hc with hc | hc | hc | hc | hc
    · rw [if_neg (by omega), if_neg (by omega), if_neg (by omega), if_neg (by omega), if_pos (by omega), hc]; rfl
    · rw [if_neg (by omega), if_neg (by omega), if_neg (by omega), if_pos (by omega), hc]; rfl
    · rw [if_neg (by omega), if_neg (by omega), if_pos (by omega), hc]; rfl
    · rw [if_neg (by omega), if_pos (by omega), hc]; rfl
    · rw [if_pos (by omega), hc]; rfl
  · rw [if_neg (by omega), if_neg (by omega), if_neg (by omega), if_neg (by omega), if_neg (by omega), if_neg (by omega)]
/-- The first cell of a booking alone. -/
theorem QBlk.put0 (h : QBlk R w x ac en lv) (i : Nat) (hi : i ≤ 200) (e : Ent) (he : e = { en (i : Int) with st := e.st }) : QBlk R (w.setCell ⟨x, 6 + i * 5, none⟩ (.int .i64 e.st)) x ac (fun k => if k = (i : Int) then e else en k) lv := by
  have h5 := Blk.set h (6 + i * 5) (.int .i64 e.st)
  simp only [arrF_set] at h5
  unfold QBlk
  refine (congrArg (fun a => Blk _ x _ a) (arrF_congr R.n _ _ (fun n _ => ?_))).mp h5
  unfold qovl
  by_cases hlt : n < 1012
  case neg => rw [if_neg hlt, if_neg hlt, if_neg (by omega)]
  rw [if_pos hlt, if_pos hlt]
  unfold qCell
  by_cases hn0 : n < 6
  · rw [if_neg (by omega), if_pos hn0, if_pos hn0]
  rw [if_neg hn0, if_neg hn0]
  by_cases hn1 : n < 1011
  case neg => rw [if_neg (by omega), if_neg hn1, if_neg hn1]
  rw [if_pos hn1, if_pos hn1]
  dsimp only
  by_cases hd : (n - 6) / 5 = i
  · rw [if_pos (show (((n - 6) / 5 : Nat) : Int) = (i : Int) by omega)]
    by_cases hc : (n - 6) % 5 = 0
    · rw [if_pos (by omega), hc]; rfl
    · rw [if_neg (by omega), hd]
      unfold entCell
      rw [if_neg hc, if_neg hc, he]
  · rw [if_neg (by omega), if_neg (by omega)]
end

theorem slice_own {w : World} {base n : Nat} {e : TypeId} {size : Nat} {v : Value} {xs : List Value} (h : w.ownsRow base e size v (n + 1) xs) : ∃ g c, v = .slice (some ⟨g, 0, none⟩) (n + 1) c := by
  rcases h.2 with ⟨_, h⟩ | ⟨g, c, _, rfl, _⟩
  · exact absurd h (by omega)
  · exact ⟨g, c, rfl⟩
/-- Money goes, no booking is told. -/
def Pur.mv (p : Pur) (b fr to am : Int) : Pur := { p with ac := mvd p.ac fr to am, ln := p.ln ++ [⟨b, fr, to, am⟩] }
theorem infoQLine : (Try.prog.info? 78).map (fun i => (i.zero, i.size, i.bytes)) = some (some (.agg #[.int .i64 0, .int .i64 0, .int .i64 0, .int .i64 0]), 4, 32) := by kernel_rfl

set_option maxRecDepth 100000 in
set_option maxHeartbeats 1000000 in
theorem rq_move {w : World} {x : Nat} {lv : Value} {p : Pur} (h : QAt R w x lv p) (b : Int) (fr to : Nat) (am : Int) (hfr : fr < 6) (hto : to < 6)
    (ham0 : 0 ≤ am) (ham1 : am ≤ 1099511627776) (hf0 : -1125899906842624 ≤ p.ac fr) (hf1 : p.ac fr ≤ 1125899906842624) (ht0 : -1125899906842624 ≤ p.ac to) (ht1 : p.ac to ≤ 1125899906842624) (hne : fr ≠ to) (hlen : p.ln.length ≤ 1000000) :
    Calls Try.prog 32 #[.pointer (some ⟨x, 0, none⟩), .int .i64 b, .int .i64 fr, .int .i64 to, .int .i64 am] w fun e w' => e = .returned (.tuple #[]) ∧
      ∃ lv', QAt R w' x lv' (p.mv b fr to am) ∧ Chg (fun i => i = x ∨ lv.ownBlock = some i) w w' ∧ (lv'.ownBlock = lv.ownBlock ∨ ∃ k, lv'.ownBlock = some k ∧ w.heap.size ≤ k) := by
  have cfr := h.blk.acc fr hfr
  have ffr := h.blk.frozen fr
  have bfr : (0 : Int) ≤ fr ∧ (fr : Int) < 6 := by omega
  have bto : (0 : Int) ≤ to ∧ (to : Int) < 6 := by omega
  obtain ⟨bfr0, bfr1⟩ := bfr
  obtain ⟨bto0, bto1⟩ := bto
  have cto2 := (h.blk.setAc fr hfr (p.ac fr - am)).acc to hto
  have fto2 := (h.blk.setAc fr hfr (p.ac fr - am)).frozen to
  have hB4 := (h.blk.setAc fr hfr (p.ac fr - am)).setAc to hto (p.ac to + am)
  rw [mvd_upd] at hB4
  have hup : upd p.ac (fr : Int) (p.ac fr - am) (to : Int) = p.ac to := by unfold upd; rw [if_neg (by omega)]
  rw [hup] at cto2
  clear hup
  have hC4 : Chg (fun i => i = x) w ((w.setCell ⟨x, fr, none⟩ (.int .i64 (p.ac fr - am))).setCell ⟨x, to, none⟩ (.int .i64 (p.ac to + am))).drew.drew := (((Chg.refl (fun i => i = x) w).setCell (.inl rfl) _).setCell (.inl rfl) _).drew.drew
  have hxl := h.ne
  go_enter Try.func32, Try.ntmps32
  go_wp2
  refine wp_region_plan (by kernel_rfl) [{ fl := [0, 1, 2, 3, 4, 5, 6, 7, 8, 9, 10, 11, 12], ef := 13 }] [] (by kernel_rfl) (fun _ _ => True) ?_
  simp only [wpPlan, longOK, keepOK, opsAt_cons, opsAt_nil, consO_some, List.getElem?_toArray, List.getElem?_cons_succ, List.getElem?_cons_zero, true_and]
  go_wp2_with fail
  refine ⟨by kernel_rfl, ?_⟩
  go_wp2_with fail
  refine ⟨by kernel_rfl, ?_⟩
  go_wp2_with fail
  refine wp_region_plan (by kernel_rfl) [{ fl := [0, 1, 2, 3, 4, 5, 6, 7, 8, 9, 10, 11, 12], ef := 13 }] [] (by kernel_rfl) (fun _ _ => True) ?_
  simp only [wpPlan, longOK, keepOK, opsAt_cons, opsAt_nil, consO_some, List.getElem?_toArray, List.getElem?_cons_succ, List.getElem?_cons_zero, true_and]
  go_wp2_with fail
  refine ⟨by kernel_rfl, ?_⟩
  go_wp2_with fail
  refine ⟨by kernel_rfl, ?_⟩
  have hB4 : QBlk R ((w.setCell ⟨x, fr, none⟩ (.int .i64 (p.ac fr - am))).setCell ⟨x, to, none⟩ (.int .i64 (p.ac to + am))).drew.drew x (mvd p.ac fr to am) p.en lv := hB4
  have hW4 := own_chg (w' := ((w.setCell ⟨x, fr, none⟩ (.int .i64 (p.ac fr - am))).setCell ⟨x, to, none⟩ (.int .i64 (p.ac to + am))).drew.drew) h.own hC4 (fun k hk e => hxl (by rw [hk, e]))
  clear cfr ffr cto2 fto2
  generalize ((w.setCell ⟨x, fr, none⟩ (.int .i64 (p.ac fr - am))).setCell ⟨x, to, none⟩ (.int .i64 (p.ac to + am))).drew.drew = w4 at *
  have cL := hB4.lin
  have hcA := (Chg.refl (fun _ => False) w4).alloc (.cells #[.int .i64 b, .int .i64 fr, .int .i64 to, .int .i64 am] 78)
  have hW4a := own_chg hW4 hcA (fun _ _ => id)
  have hB4a : QBlk R (w4.alloc (.cells #[.int .i64 b, .int .i64 fr, .int .i64 to, .int .i64 am] 78)) x _ _ _ := Blk.chg hB4 hcA id
  have hnews := row_cells w4 78 [.int .i64 b, .int .i64 fr, .int .i64 to, .int .i64 am]
  obtain ⟨i0, hi, hz0, hz1, hz2⟩ := info_parts infoQLine
  have hmx : p.ln.length + 1 ≤ maxLen := by unfold maxLen; omega
  go_wp2_with (at_builtin; go_loud (refine wpList_append_own_at _ rfl _ _ 46 rfl 0 78 i0 (.agg #[.int .i64 0, .int .i64 0, .int .i64 0, .int .i64 0]) 4 32 Try.underlying46 hi hz0 hz1 hz2 rfl (by decide) lv p.ln.length (p.ln.flatMap Mv.cells) rfl (by exact hW4a) ⟨w4.heap.size, 0, none⟩ 1 1 [.int .i64 b, .int .i64 fr, .int .i64 to, .int .i64 am] rfl rfl (by exact hnews) (by intro u hu; simp at hu; rcases hu with rfl | rfl | rfl | rfl <;> rfl) hmx (by omega) (by omega) ?_; intro v' w5 hown5 hgr5 _ hloc5; have hc5 := own_grown hgr5; have hB5 : QBlk R w5 x _ _ _ := Blk.chg hB4a hc5 hxl; have f5 := hB5.frozen 1011; have c5 := hB5.lin; obtain ⟨g5, cp5, rfl⟩ : ∃ g c, v' = .slice (some ⟨g, 0, none⟩) (p.ln.length + 1) c := slice_own hown5; clear hgr5 hnews cL))
  obtain ⟨v', hv'⟩ : ∃ v', Value.slice (some ⟨g5, 0, none⟩) (p.ln.length + 1) cp5 = v' := ⟨_, rfl⟩
  rw [hv'] at hown5 hloc5 ⊢
  have hB6 := hB5.setLn v'
  have hC5 : Chg (fun i => i = x ∨ lv.ownBlock = some i) w w5 := ((hC4.mono (T := fun i => i = x ∨ lv.ownBlock = some i) (fun _ _ h => .inl h)).trans ((hcA.mono (T := fun i => lv.ownBlock = some i) (fun _ _ h => h.elim)).trans hc5 (fun _ _ h => h)) (fun _ _ h => .inr h))
  have hz := (hC4.trans hcA (fun _ _ h => h.elim)).size
  refine bodyPost_end (v := .tuple #[]) (by simp [results, Try.results32, go_sem]) rfl ⟨rfl, v', ⟨hB6, ?_⟩, hC5.setCell (p := ⟨x, 1011, none⟩) (.inl (.inl rfl)) v', hloc5.imp id fun h => ⟨_, h, hz⟩⟩
  have h6 := own_chg hown5 ((Chg.refl (fun i => i = x) w5).setCell (p := ⟨x, 1011, none⟩) (.inl rfl) v') (fun k hk e => own_ne hown5 hB5 R.ne (by rw [hk, e]))
  simpa [Pur.mv, List.flatMap_append, Mv.cells] using h6

theorem rq_move_i {w : World} {x : Nat} {lv : Value} {p : Pur} (h : QAt R w x lv p) (b fr to am : Int) (hfr : 0 ≤ fr ∧ fr < 6) (hto : 0 ≤ to ∧ to < 6)
    (ham0 : 0 ≤ am) (ham1 : am ≤ 1099511627776) (hf : 0 ≤ p.ac fr ∧ p.ac fr ≤ 1125899906842624) (ht : 0 ≤ p.ac to ∧ p.ac to ≤ 1125899906842624) (hne : fr ≠ to) (hlen : p.ln.length ≤ 1000000) :
    Calls Try.prog 32 #[.pointer (some ⟨x, 0, none⟩), .int .i64 b, .int .i64 fr, .int .i64 to, .int .i64 am] w fun e w' => e = .returned (.tuple #[]) ∧
      ∃ lv', QAt R w' x lv' (p.mv b fr to am) ∧ Chg (fun i => i = x ∨ lv.ownBlock = some i) w w' ∧ (lv'.ownBlock = lv.ownBlock ∨ ∃ k, lv'.ownBlock = some k ∧ w.heap.size ≤ k) := by
  obtain ⟨a, rfl⟩ : ∃ a : Nat, fr = a := ⟨fr.toNat, by omega⟩
  obtain ⟨c, rfl⟩ : ∃ c : Nat, to = c := ⟨to.toNat, by omega⟩
  exact rq_move h b a c am (by omega) (by omega) ham0 ham1 (by omega) hf.2 (by omega) ht.2 (by omega) hlen

theorem own_lt0 {w : World} {base : Nat} {e : TypeId} {size n : Nat} {v : Value} {xs : List Value} (h : w.ownsRow base e size v n xs) : ∀ k, v.ownBlock = some k → k < w.heap.size := by
  intro k hk
  rcases h.2 with ⟨h0, _⟩ | ⟨g', c', cur, h0, _, hh, _⟩
  · rw [h0] at hk; cases hk
  · rw [h0] at hk
    simp [Value.ownBlock] at hk
    subst hk
    exact (Array.getElem?_eq_some_iff.1 hh).1
theorem set_self {p : Pur} {b : Int} {e : Ent} (h : p.en b = e) : p.set b e = p := by
  unfold Pur.set
  cases p
  dsimp only at *
  congr 1
  funext i
  split
  · rename_i hi; rw [hi, h]
  · rfl
theorem QAt.drew {w : World} {x : Nat} {lv : Value} {p : Pur} (h : QAt R w x lv p) : QAt R w.drew x lv p := h.chg ((Chg.refl (fun _ => False) w).drew) id (fun _ _ => id)
theorem Chg.put5 {S : Nat → Prop} {w w' : World} (h : Chg S w w') {x n : Nat} (hx : S x) (a b c d e : Value) :
    Chg S w (((((w'.setCell ⟨x, n, none⟩ a).setCell ⟨x, n + 1, none⟩ b).setCell ⟨x, n + 2, none⟩ c).setCell ⟨x, n + 3, none⟩ d).setCell ⟨x, n + 4, none⟩ e) :=
  ((((h.setCell (.inl hx) _).setCell (.inl hx) _).setCell (.inl hx) _).setCell (.inl hx) _).setCell (.inl hx) _
theorem QAt.put {w : World} {x : Nat} {lv : Value} {p : Pur} (h : QAt R w x lv p) (i : Nat) (hi : i ≤ 200) (e : Ent) :
    QAt R (((((w.setCell ⟨x, 6 + i * 5, none⟩ (.int .i64 e.st)).setCell ⟨x, 6 + i * 5 + 1, none⟩ (.int .i64 e.un)).setCell ⟨x, 6 + i * 5 + 2, none⟩ (.int .i64 e.til)).setCell ⟨x, 6 + i * 5 + 3, none⟩ (.int .i64 e.cu)).setCell ⟨x, 6 + i * 5 + 4, none⟩ (.int .i64 e.am)) x lv (p.set i e) :=
  ⟨h.blk.put i hi e, own_chg h.own ((Chg.refl (fun i => i = x) w).put5 rfl _ _ _ _ _) (fun k hk e => h.ne (by rw [hk, e]))⟩
theorem QAt.put0 {w : World} {x : Nat} {lv : Value} {p : Pur} (h : QAt R w x lv p) (i : Nat) (hi : i ≤ 200) (e : Ent) (he : e = { p.en (i : Int) with st := e.st }) :
    QAt R (w.setCell ⟨x, 6 + i * 5, none⟩ (.int .i64 e.st)) x lv (p.set i e) :=
  ⟨h.blk.put0 i hi e he, own_chg h.own ((Chg.refl (fun i => i = x) w).setCell (.inl rfl) _) (fun k hk e => h.ne (by rw [hk, e]))⟩
end Go.Proofs.Ytddnpjlcmokbiaa

namespace Go.Proofs.Ytddnpjlcmokbiaa
open Go.RowKit Go.Maps
variable {R : QEnv}

set_option maxRecDepth 100000 in
set_option maxHeartbeats 2000000 in
theorem rq_do_40a {w : World} {x : Nat} {lv : Value} {p : Pur} {T : Int} (h : QAt R w x lv p) (hG : p.Good T) (_hT : T ≤ 1125899906842624) (_hlen : p.ln.length ≤ 1000000) (o : POp) (hm : mayOp o = true) (hk : o.kd = 4) (hst : (p.en o.bk).st = 0) (hlt : p.ac o.cu < o.am) :
    Calls Try.prog 10 #[.pointer (some ⟨x, 0, none⟩), o.val] w fun e w' => e = .returned (.int .i64 (p.act o).1) ∧ ∃ lv', QAt R w' x lv' (p.act o).2 ∧ Chg (fun i => i = x ∨ lv.ownBlock = some i) w w' ∧ (lv'.ownBlock = lv.ownBlock ∨ ∃ k, lv'.ownBlock = some k ∧ w.heap.size ≤ k) := by
  have hcA := (Chg.refl (fun _ => False) w).alloc (.cells o.row 33)
  have hO := Blk.new w 33 o.row
  unfold POp.row at hcA
  have hbk := mayOp_bk hm
  obtain ⟨⟨hcu0, hcu1⟩, ham0, ham1⟩ := mayOp_4 hm hk
  have hmh := Lib.hid hm
  clear hm
  have hbnd := hG.bounds
  have hamt := hG.amt o.bk
  have hnon := hG.non o.bk
  have hgon := hG.gon o.bk
  obtain ⟨kd, bk, un, cu, am⟩ := o
  dsimp only at *
  obtain ⟨i, rfl⟩ : ∃ i : Nat, bk = i := ⟨bk.toNat, by omega⟩
  obtain ⟨hb1, hb2⟩ := hbk
  have hb1 : 1 ≤ i := by omega
  have hb2 : i ≤ 200 := by omega
  subst hk
  obtain ⟨y, hy⟩ : ∃ y, p.en (i : Int) = y := ⟨_, rfl⟩
  rw [hy] at hst hamt hnon hgon
  obtain rfl := hnon hst
  unfold Ent.none at hy
  clear hamt hnon hgon hst
  obtain ⟨A, hA⟩ : ∃ A, p.ac cu = A := ⟨_, rfl⟩
  obtain ⟨c, rfl⟩ : ∃ c : Nat, cu = c := ⟨cu.toNat, by omega⟩
  have hAb := hbnd (c : Int) (by omega) (by omega)
  have hB4 := hbnd 4 (by omega) (by omega)
  clear hbnd
  rw [hA] at hAb
  obtain ⟨hA0, hA1⟩ := hAb
  rw [hA] at hlt
  have hr : p.act ⟨4, (i : Int), un, (c : Int), am⟩ = (2, p.set (i : Int) Ent.gone) := by
    unfold Pur.act
    rw [if_neg (by rw [hmh.out]; decide)]
    dsimp only
    rw [hy]
    simp [Pur.stay, hy, hA, Int.not_le.2 hlt]
  rw [hr]
  have hlth := Lib.hid hlt
  have hB4h := Lib.hid hB4
  have hA0h := Lib.hid hA0
  have hA1h := Lib.hid hA1
  have hAh := Lib.hid hA
  have ham0h := Lib.hid ham0
  have ham1h := Lib.hid ham1
  clear hlt hB4 hA0 hA1 hA ham0 ham1
  have hyh := Lib.hid hy
  clear hy
  go_enter Try.func10, Try.ntmps10
  unfold POp.val
  go_wp2_with fail
  refine (mayRef_any ⟨4, (i : Int), un, (c : Int), am⟩ _).mono ?_
  rintro e w1 ⟨rfl, hc1⟩
  rw [hmh.out]
  have hO1 := hO.chg hc1 id
  have hck := hcA.trans hc1 (fun _ _ h => h)
  have hx1 := h.chg hck id (fun _ _ => id)
  have hzx : x ≠ w.heap.size := Nat.ne_of_lt (Blk.lt h.blk)
  have hlw := own_lt0 h.own
  have o0 : w1.cell? ⟨w.heap.size, 0, none⟩ = some (.int .i64 4) := by rw [hO1.cell]; rfl
  have o1 : w1.cell? ⟨w.heap.size, 1, none⟩ = some (.int .i64 (i : Int)) := by rw [hO1.cell]; rfl
  obtain ⟨c0, c1, c2, c3, c4⟩ := hx1.blk.cells i (by omega) hyh.out
  dsimp only at c0 c1 c2 c3 c4
  clear hcA hO hc1
  go_wp2_with fail
  refine wp_region_plan (by kernel_rfl) [{ fl := [0, 1, 2, 3, 4, 5, 6], long := [2, 6], ef := 7, keep := [2, 6] }, { fl := [], ef := 8 }] [] (by kernel_rfl) (fun _ w9 => w9.heap[x]? = w1.heap[x]? ∧ w9.heap[w.heap.size]? = w1.heap[w.heap.size]?) ?_
  simp only [wpPlan, longOK, keepOK, opsAt_cons, opsAt_nil, consO_some, List.getElem?_toArray, List.getElem?_cons_succ, List.getElem?_cons_zero, and_true, true_and]
  refine ⟨⟨⟨rfl, rfl⟩, ⟨rfl, rfl⟩⟩, ?_⟩
  go_wp2_with fail
  refine ⟨by kernel_rfl, ⟨?_, ?_⟩, ?_⟩
  · intro _ w9 h9
    have o1 : w9.cell? ⟨w.heap.size, 1, none⟩ = some (.int .i64 (i : Int)) := by rw [(hO1.keep h9.2).cell]; rfl
    clear h9
    go_simp
  · intro _ w9 h9
    obtain ⟨c0, c1, c2, c3, c4⟩ := QBlk.cells (R := R) (w := w9) (Blk.keep hx1.blk h9.1) i (by omega) hyh.out
    dsimp only at c0 c1 c2 c3 c4
    clear h9
    go_simp
  go_wp2_with fail
  have hcB := ((Chg.refl (fun _ => False) w1).drew).alloc (.cells #[.int .i64 0, .int .i64 0, .int .i64 0, .int .i64 0, .int .i64 0] 44)
  refine ⟨⟨⟨hcB.block x (Blk.lt hx1.blk) id, hcB.block _ hO1.lt id⟩, ⟨hcB.block x (Blk.lt hx1.blk) id, hcB.block _ hO1.lt id⟩⟩, ?_⟩
  go_wp2_with fail
  refine ⟨by kernel_rfl, ?_⟩
  go_wp2_with fail
  refine ⟨by kernel_rfl, ?_⟩
  have hw3 : Chg (fun _ => False) w (w1.alloc (.cells #[.int .i64 0, .int .i64 0, .int .i64 0, .int .i64 0, .int .i64 0] 44)).drew := (hck.alloc _).drew
  have hx3 : QAt R (w1.alloc (.cells #[.int .i64 0, .int .i64 0, .int .i64 0, .int .i64 0, .int .i64 0] 44)).drew x lv p := h.chg hw3 id (fun _ _ => id)
  have hO3 : Blk (w1.alloc (.cells #[.int .i64 0, .int .i64 0, .int .i64 0, .int .i64 0, .int .i64 0] 44)).drew w.heap.size 33 #[.int .i64 4, .int .i64 (i : Int), .int .i64 un, .int .i64 (c : Int), .int .i64 am] := hO1.alloc _
  have hY3 : Blk (w1.alloc (.cells #[.int .i64 0, .int .i64 0, .int .i64 0, .int .i64 0, .int .i64 0] 44)).drew w1.heap.size 44 #[.int .i64 0, .int .i64 0, .int .i64 0, .int .i64 0, .int .i64 0] := Blk.new w1 _ _
  clear hcB c0 c1 c2 c3 c4 o0 o1 hO1 hx1 hck
  generalize hyb : w1.heap.size = Y at *
  generalize (w1.alloc (.cells #[.int .i64 0, .int .i64 0, .int .i64 0, .int .i64 0, .int .i64 0] 44)).drew = w3 at *
  clear hyb
  have hck4 := hw3.alloc (.cells #[.int .i64 3, .int .i64 0, .int .i64 0, .int .i64 0, .int .i64 0] 44)
  have hx4 : QAt R (w3.alloc (.cells #[.int .i64 3, .int .i64 0, .int .i64 0, .int .i64 0, .int .i64 0] 44)) x lv p := h.chg hck4 id (fun _ _ => id)
  have hO4 := hO3.alloc (.cells #[.int .i64 3, .int .i64 0, .int .i64 0, .int .i64 0, .int .i64 0] 44)
  have hY4 := hY3.alloc (.cells #[.int .i64 3, .int .i64 0, .int .i64 0, .int .i64 0, .int .i64 0] 44)
  have hG4 := Blk.new w3 44 #[.int .i64 3, .int .i64 0, .int .i64 0, .int .i64 0, .int .i64 0]
  have o0 : (w3.alloc (.cells #[.int .i64 3, .int .i64 0, .int .i64 0, .int .i64 0, .int .i64 0] 44)).cell? ⟨w.heap.size, 0, none⟩ = some (.int .i64 4) := by rw [hO4.cell]; rfl
  have o1 : (w3.alloc (.cells #[.int .i64 3, .int .i64 0, .int .i64 0, .int .i64 0, .int .i64 0] 44)).cell? ⟨w.heap.size, 1, none⟩ = some (.int .i64 (i : Int)) := by rw [hO4.cell]; rfl
  have o2 : (w3.alloc (.cells #[.int .i64 3, .int .i64 0, .int .i64 0, .int .i64 0, .int .i64 0] 44)).cell? ⟨w.heap.size, 2, none⟩ = some (.int .i64 un) := by rw [hO4.cell]; rfl
  have o3 : (w3.alloc (.cells #[.int .i64 3, .int .i64 0, .int .i64 0, .int .i64 0, .int .i64 0] 44)).cell? ⟨w.heap.size, 3, none⟩ = some (.int .i64 (c : Int)) := by rw [hO4.cell]; rfl
  have o4 : (w3.alloc (.cells #[.int .i64 3, .int .i64 0, .int .i64 0, .int .i64 0, .int .i64 0] 44)).cell? ⟨w.heap.size, 4, none⟩ = some (.int .i64 am) := by rw [hO4.cell]; rfl
  have y0 : (w3.alloc (.cells #[.int .i64 3, .int .i64 0, .int .i64 0, .int .i64 0, .int .i64 0] 44)).cell? ⟨Y, 0, none⟩ = some (.int .i64 0) := by rw [hY4.cell]; rfl
  have y1 : (w3.alloc (.cells #[.int .i64 3, .int .i64 0, .int .i64 0, .int .i64 0, .int .i64 0] 44)).cell? ⟨Y, 1, none⟩ = some (.int .i64 0) := by rw [hY4.cell]; rfl
  have y2 : (w3.alloc (.cells #[.int .i64 3, .int .i64 0, .int .i64 0, .int .i64 0, .int .i64 0] 44)).cell? ⟨Y, 2, none⟩ = some (.int .i64 0) := by rw [hY4.cell]; rfl
  have y3 : (w3.alloc (.cells #[.int .i64 3, .int .i64 0, .int .i64 0, .int .i64 0, .int .i64 0] 44)).cell? ⟨Y, 3, none⟩ = some (.int .i64 0) := by rw [hY4.cell]; rfl
  have y4 : (w3.alloc (.cells #[.int .i64 3, .int .i64 0, .int .i64 0, .int .i64 0, .int .i64 0] 44)).cell? ⟨Y, 4, none⟩ = some (.int .i64 0) := by rw [hY4.cell]; rfl
  have g0 : (w3.alloc (.cells #[.int .i64 3, .int .i64 0, .int .i64 0, .int .i64 0, .int .i64 0] 44)).cell? ⟨w3.heap.size, 0, none⟩ = some (.int .i64 3) := by rw [hG4.cell]; rfl
  have g1 : (w3.alloc (.cells #[.int .i64 3, .int .i64 0, .int .i64 0, .int .i64 0, .int .i64 0] 44)).cell? ⟨w3.heap.size, 1, none⟩ = some (.int .i64 0) := by rw [hG4.cell]; rfl
  have g2 : (w3.alloc (.cells #[.int .i64 3, .int .i64 0, .int .i64 0, .int .i64 0, .int .i64 0] 44)).cell? ⟨w3.heap.size, 2, none⟩ = some (.int .i64 0) := by rw [hG4.cell]; rfl
  have g3 : (w3.alloc (.cells #[.int .i64 3, .int .i64 0, .int .i64 0, .int .i64 0, .int .i64 0] 44)).cell? ⟨w3.heap.size, 3, none⟩ = some (.int .i64 0) := by rw [hG4.cell]; rfl
  have g4 : (w3.alloc (.cells #[.int .i64 3, .int .i64 0, .int .i64 0, .int .i64 0, .int .i64 0] 44)).cell? ⟨w3.heap.size, 4, none⟩ = some (.int .i64 0) := by rw [hG4.cell]; rfl
  have f0 := hx4.blk.frozen (6 + i * 5)
  have f1 := hx4.blk.frozen (6 + i * 5 + 1)
  have f2 := hx4.blk.frozen (6 + i * 5 + 2)
  have f3 := hx4.blk.frozen (6 + i * 5 + 3)
  have f4 := hx4.blk.frozen (6 + i * 5 + 4)
  obtain ⟨c0, c1, c2, c3, c4⟩ := QBlk.cells hx4.blk i (by omega) hyh.out
  dsimp only at c0 c1 c2 c3 c4
  have hck5 := hck4.mono (T := fun i => i = x ∨ lv.ownBlock = some i) (fun _ _ h => h.elim)
  clear hO3 hY3 hw3 hx3
  have a0 := hx4.blk.acc c (by omega)
  rw [hAh.out] at a0
  have hlt : decide (A < am) = true := decide_eq_true (by have := hlth.out; omega)
  go_wp2_with fail
  refine wp_region_plan (by kernel_rfl) [] [0, 1, 2, 3, 4, 5, 6, 7, 8, 9] (by kernel_rfl) (fun _ _ => True) ?_
  simp only [wpPlan, opsAt_cons, opsAt_nil, consO_some, List.getElem?_toArray, List.getElem?_cons_succ, List.getElem?_cons_zero]
  go_wp2_with fail
  refine ⟨by kernel_rfl, ?_⟩
  go_wp2_with fail
  refine wp_region_plan (by kernel_rfl) [{ fl := [0, 1, 2, 3, 4, 5, 6], ef := 7 }] [] (by kernel_rfl) (fun _ _ => True) ?_
  simp only [wpPlan, longOK, keepOK, opsAt_cons, opsAt_nil, consO_some, List.getElem?_toArray, List.getElem?_cons_succ, List.getElem?_cons_zero, true_and]
  go_wp2_with fail
  refine ⟨by kernel_rfl, ?_⟩
  go_wp2_with fail
  refine ⟨by kernel_rfl, ?_⟩
  go_wp2_with fail
  go_ret
  exact ⟨rfl, lv, (hx4.drew.put i hb2 Ent.gone).drew, (hck5.drew.put5 (.inl rfl) _ _ _ _ _).drew, .inl rfl⟩
end Go.Proofs.Ytddnpjlcmokbiaa
