/-
  layer 9: StockFits, the plain law.
-/
import Derived.Test.YtihfcfpkffebiaaStockT
namespace Go.Proofs.Ytihfcfpkffebiaa

/-- Only holds and what is gone, up to booking k; all units but the free ones are held. -/
structure Stk.Fits (s : Stk) (C O : Int) (k : Nat) : Prop where
  good : s.Good
  cap : s.cap = C
  over : s.over = O
  no2 : ∀ b, (s.en b).st ≠ 2
  fresh : ∀ b : Int, (k : Int) < b → (s.en b).st = 0

theorem Stk.Fits.held {s : Stk} {C O : Int} {k : Nat} (h : s.Fits C O k) : s.of 1 = C + O - s.free := by
  have h1 : s.of 1 = sumU (fun b => (s.en b).un) 200 := by
    refine congrArg (fun g => sumU g 200) (funext fun b => ?_)
    split
    · rfl
    · rename_i hn
      rcases h.good.sts b with e | e | e | e
      · rw [h.good.non b e]; rfl
      · rw [e]; rfl
      · exact absurd e.1 hn
      · exact absurd e.1 (h.no2 b)
  have := h.good.sum
  rw [h1, ← h.cap, ← h.over]
  omega

theorem Stk.Fits.new {C O : Int} (hC : 0 ≤ C ∧ C ≤ 1000000) (hO : 0 ≤ O ∧ O ≤ 1000000) : (Stk.new C O).Fits C O 0 :=
  ⟨Stk.Good.new hC hO, rfl, rfl, fun b => by show ¬ ((0 : Int) = 2); decide, fun b _ => rfl⟩

theorem Stk.Fits.set {s : Stk} {C O : Int} {k : Nat} (h : s.Fits C O k) (f : Int) (e : Ent) (he : e.st ≠ 2) (hG : (s.set ((k : Int) + 1) f e).Good) : (s.set ((k : Int) + 1) f e).Fits C O (k + 1) := by
  refine ⟨hG, h.cap, h.over, fun b => ?_, fun b hb => ?_⟩
  · unfold Stk.set
    dsimp only
    split
    · exact he
    · exact h.no2 b
  · unfold Stk.set
    dsimp only
    rw [if_neg (by omega)]
    exact h.fresh b (by omega)

theorem fit_may {k : Nat} {u : Int} (hk : k < 30) (hu : 1 ≤ u ∧ u ≤ 15) : mayOp ⟨1, (k : Int) + 1, u, 0, 0⟩ = true := by
  unfold mayOp; simp; omega
theorem fit_may3 {k : Nat} (hk : k < 30) : mayOp ⟨3, (k : Int) + 1, 0, 0, 0⟩ = true := by
  unfold mayOp; simp; omega

theorem Stk.Fits.act1 {s : Stk} {C O : Int} {k : Nat} (h : s.Fits C O k) {u : Int} (hk : k < 30) (hu : 1 ≤ u ∧ u ≤ 15) :
    s.act ⟨1, (k : Int) + 1, u, 0, 0⟩ k = if s.free < u then (2, s.gone ((k : Int) + 1)) else (1, s.set ((k : Int) + 1) (s.free - u) ⟨1, u, (k : Int) + 60, 0, 0⟩) := by
  have h0 := h.fresh ((k : Int) + 1) (by omega)
  unfold Stk.act
  rw [fit_may hk hu, if_neg (by intro h; rcases h with h | h | h; cases h; omega; omega), if_pos rfl]
  unfold Stk.hold
  dsimp only
  rw [if_neg (by omega), if_neg (by omega)]

theorem Stk.Fits.yes {s : Stk} {C O : Int} {k : Nat} (h : s.Fits C O k) {u : Int} (hk : k < 30) (hu : 1 ≤ u ∧ u ≤ 15) (hf : u ≤ s.free) :
    (s.act ⟨1, (k : Int) + 1, u, 0, 0⟩ k).1 = 1 ∧ (s.act ⟨1, (k : Int) + 1, u, 0, 0⟩ k).2.free = s.free - u ∧ (s.act ⟨1, (k : Int) + 1, u, 0, 0⟩ k).2.Fits C O (k + 1) ∧ ((s.act ⟨1, (k : Int) + 1, u, 0, 0⟩ k).2.en ((k : Int) + 1)).un = u := by
  have hG := h.good.act ⟨1, (k : Int) + 1, u, 0, 0⟩ k
  rw [h.act1 hk hu, if_neg (by omega)] at hG ⊢
  refine ⟨rfl, rfl, h.set _ _ (by show ¬ ((1 : Int) = 2); decide) hG, ?_⟩
  simp [Stk.set]
theorem Stk.Fits.no {s : Stk} {C O : Int} {k : Nat} (h : s.Fits C O k) {u : Int} (hk : k < 30) (hu : 1 ≤ u ∧ u ≤ 15) (hf : s.free < u) :
    (s.act ⟨1, (k : Int) + 1, u, 0, 0⟩ k).1 = 2 ∧ (s.act ⟨1, (k : Int) + 1, u, 0, 0⟩ k).2.free = s.free ∧ (s.act ⟨1, (k : Int) + 1, u, 0, 0⟩ k).2.Fits C O (k + 1) := by
  have hG := h.good.act ⟨1, (k : Int) + 1, u, 0, 0⟩ k
  have h0 := h.good.non _ (h.fresh ((k : Int) + 1) (by omega))
  rw [h.act1 hk hu, if_pos hf] at hG ⊢
  refine ⟨rfl, ?_, h.set _ _ (by decide) hG⟩
  show s.free + (s.en ((k : Int) + 1)).un = s.free
  rw [h0]
  exact Int.add_zero _
theorem Stk.Fits.rel {s : Stk} {C O : Int} {k : Nat} (h : s.Fits C O (k + 1)) {u : Int} (hk : k < 30) (hu : (s.en ((k : Int) + 1)).un = u) :
    (s.act ⟨3, (k : Int) + 1, 0, 0, 0⟩ k).1 = 1 ∧ (s.act ⟨3, (k : Int) + 1, 0, 0, 0⟩ k).2.free = s.free + u ∧ (s.act ⟨3, (k : Int) + 1, 0, 0, 0⟩ k).2.Fits C O (k + 1) := by
  have hG := h.good.act ⟨3, (k : Int) + 1, 0, 0, 0⟩ k
  have he : s.act ⟨3, (k : Int) + 1, 0, 0, 0⟩ k = (1, s.gone ((k : Int) + 1)) := by
    unfold Stk.act
    rw [fit_may3 hk, if_neg (by intro h; rcases h with h | h | h; cases h; omega; omega), if_neg (by dsimp only; omega), if_neg (by dsimp only; omega), if_pos rfl]
  rw [he] at hG ⊢
  refine ⟨rfl, by rw [← hu]; rfl, ⟨hG, h.cap, h.over, fun b => ?_, fun b hb => ?_⟩⟩
  · unfold Stk.gone Stk.set
    dsimp only
    split
    · decide
    · exact h.no2 b
  · unfold Stk.gone Stk.set
    dsimp only
    rw [if_neg (by omega)]
    exact h.fresh b hb
theorem Stk.Fits.range {s : Stk} {C O : Int} {k : Nat} (h : s.Fits C O k) : 0 ≤ s.free ∧ s.free ≤ C + O := by
  have := h.good.sum
  have := sumU_pos (fun b => (s.en b).un) (fun i => (h.good.un i).1) 200
  have := h.good.free
  rw [← h.cap, ← h.over]
  omega
end Go.Proofs.Ytihfcfpkffebiaa
