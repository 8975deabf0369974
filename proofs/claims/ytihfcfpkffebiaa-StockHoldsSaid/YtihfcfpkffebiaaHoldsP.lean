/-
  layer 9: StockHolds, the plain law: one booking alone.
-/
import Derived.Test.YtihfcfpkffebiaaStockT
namespace Go.Proofs.Ytihfcfpkffebiaa

def hE (e : Ent) (f : Int) : Stk := ⟨5, 0, f, fun i => if i = 7 then e else Ent.none⟩
theorem hE_set (e e' : Ent) (f f' : Int) : (hE e f).set 7 f' e' = hE e' f' := by
  unfold Stk.set hE
  congr 1
  funext i
  dsimp only
  split <;> rfl
theorem hE_new : Stk.new 5 0 = hE Ent.none 5 := by
  unfold Stk.new hE
  congr 1
  funext i
  split <;> rfl
theorem hE_at (e : Ent) (f : Int) : (hE e f).en 7 = e := by simp [hE]
theorem hE_gone (e : Ent) (f : Int) : (hE e f).gone 7 = hE Ent.gone (f + e.un) := by
  unfold Stk.gone
  rw [hE_set, hE_at]; rfl
theorem mayC : mayOp ⟨2, 7, 0, 0, 0⟩ = true := by decide
theorem mayH : mayOp ⟨1, 7, 3, 0, 0⟩ = true := by decide

theorem h_hold {t : Int} (h0 : 0 ≤ t) (h1 : t ≤ 100000) : (Stk.new 5 0).act ⟨1, 7, 3, 0, 0⟩ t = (1, hE ⟨1, 3, t + 60, 0, 0⟩ 2) := by
  unfold Stk.act
  rw [mayH, if_neg (by intro h; rcases h with h | h | h; cases h; omega; omega), if_pos rfl, hE_new]
  unfold Stk.hold
  rw [hE_at]
  dsimp only
  rw [if_neg (by decide), if_neg (by decide), if_neg (by show ¬ ((5 : Int) < 3); decide), hE_set]
  rfl
theorem h_conf {n : Int} (h0 : 0 ≤ n) (h1 : n ≤ 100000) (e : Ent) (f : Int) : (hE e f).act ⟨2, 7, 0, 0, 0⟩ n = (hE e f).confirm 7 n := by
  unfold Stk.act
  rw [mayC, if_neg (by intro h; rcases h with h | h | h; cases h; omega; omega), if_neg (by dsimp only; omega), if_pos rfl]
theorem h_conf_yes {t n : Int} (h0 : 0 ≤ n) (h1 : n ≤ 100000) (h : n < t + 60) : (hE ⟨1, 3, t + 60, 0, 0⟩ 2).act ⟨2, 7, 0, 0, 0⟩ n = (1, hE ⟨2, 3, 0, 0, 0⟩ 2) := by
  rw [h_conf h0 h1]
  unfold Stk.confirm
  rw [hE_at]
  dsimp only
  rw [if_neg (by omega), if_neg (by omega), if_neg (by omega), hE_set]
  rfl
theorem h_conf_late {t n : Int} (h0 : 0 ≤ n) (h1 : n ≤ 100000) (h : t + 60 ≤ n) : (hE ⟨1, 3, t + 60, 0, 0⟩ 2).act ⟨2, 7, 0, 0, 0⟩ n = (2, hE Ent.gone 5) := by
  rw [h_conf h0 h1]
  unfold Stk.confirm
  rw [hE_at]
  dsimp only
  rw [if_neg (by omega), if_neg (by omega), if_pos (by omega), hE_gone]
  rfl
theorem h_conf_gone {n : Int} (h0 : 0 ≤ n) (h1 : n ≤ 100000) : (hE Ent.gone 5).act ⟨2, 7, 0, 0, 0⟩ n = (2, hE Ent.gone 5) := by
  rw [h_conf h0 h1]
  unfold Stk.confirm
  rw [hE_at]
  rfl
theorem h_conf_conf {n : Int} (h0 : 0 ≤ n) (h1 : n ≤ 100000) : (hE ⟨2, 3, 0, 0, 0⟩ 2).act ⟨2, 7, 0, 0, 0⟩ n = (1, hE ⟨2, 3, 0, 0, 0⟩ 2) := by
  rw [h_conf h0 h1]
  unfold Stk.confirm
  rw [hE_at]
  rfl
theorem hE_books (e : Ent) (f : Int) (he : e.st ≠ 0) : bookings (hE e f).en = [7] := by
  have h : bookings (hE e f).en = ((List.range 200).map fun (i : Nat) => (i : Int) + 1).filter fun b => decide (b = 7) := by
    unfold bookings
    refine congrArg (fun p => List.filter p _) (funext fun b => ?_)
    by_cases hb : b = 7
    · simp [hE, hb, he]
    · simp [hE, hb, Ent.none]
  rw [h]
  decide +kernel
theorem h_sweep {n : Int} (h0 : 0 ≤ n) (h1 : n ≤ 100000) (e : Ent) (f : Int) (he : e.st ≠ 0) : (hE e f).sweep n = if e.st = 1 ∧ e.til ≤ n then ([7], hE Ent.gone (f + e.un)) else ([], hE e f) := by
  unfold Stk.sweep
  rw [if_neg (by omega), hE_books e f he]
  unfold Stk.sweepL Stk.swp
  simp only [List.foldl_cons, List.foldl_nil, hE_at, hE_gone, List.nil_append]

theorem h_g1 {t : Int} (h0 : 0 ≤ t) (h1 : t ≤ 100000) : (hE ⟨1, 3, t + 60, 0, 0⟩ 2).Good := by
  have h := (Stk.Good.new (c := 5) (o := 0) (by omega) (by omega)).act ⟨1, 7, 3, 0, 0⟩ t
  rw [h_hold h0 h1] at h
  exact h
theorem h_gc : (hE ⟨2, 3, 0, 0, 0⟩ 2).Good := by
  have h := (h_g1 (t := 0) (by omega) (by omega)).act ⟨2, 7, 0, 0, 0⟩ 0
  rw [h_conf_yes (by omega) (by omega) (by omega)] at h
  exact h
theorem h_gg : (hE Ent.gone 5).Good := by
  have h := (h_g1 (t := 0) (by omega) (by omega)).act ⟨2, 7, 0, 0, 0⟩ 60
  rw [h_conf_late (by omega) (by omega) (by omega)] at h
  exact h
end Go.Proofs.Ytihfcfpkffebiaa
