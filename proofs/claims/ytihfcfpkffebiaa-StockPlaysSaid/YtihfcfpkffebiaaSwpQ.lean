/-
  layer 9: StockSweeps, the plain law: what lies behind the holds, and behind the sweep.
-/
import Derived.Test.YtihfcfpkffebiaaSwpP
namespace Go.Proofs.Ytihfcfpkffebiaa

def swE (c : Nat → Int) (i : Nat) : Ent := if c i = 0 then ⟨1, 2, (i : Int) + 60, 0, 0⟩ else if c i = 1 then ⟨2, 2, 0, 0, 0⟩ else Ent.gone
structure Stk.SwL (s : Stk) (c : Nat → Int) (n : Nat) : Prop where
  good : s.Good
  free : 1000 - 2 * (n : Int) ≤ s.free
  en : ∀ b : Int, s.en b = if 1 ≤ b ∧ b ≤ (n : Int) then swE c (b - 1).toNat else Ent.none

theorem Stk.SwL.new (c : Nat → Int) : (Stk.new 1000 0).SwL c 0 :=
  ⟨Stk.Good.new (by decide) (by decide), by decide, fun b => by rw [if_neg (by omega)]; rfl⟩

theorem Stk.SwL.put {s : Stk} {c : Nat → Int} {n : Nat} (h : s.SwL c n) {s' : Stk} (hG : s'.Good) (hf : s.free - 2 ≤ s'.free) (he : ∀ b : Int, s'.en b = if b = (n : Int) + 1 then swE c n else s.en b) : s'.SwL c (n + 1) := by
  refine ⟨hG, by have := h.free; omega, fun b => ?_⟩
  rw [he, h.en]
  by_cases hb : b = (n : Int) + 1
  · subst hb
    rw [if_pos rfl, if_pos (by omega)]
    congr 1
    omega
  · rw [if_neg hb]
    by_cases h1 : 1 ≤ b ∧ b ≤ (n : Int)
    · rw [if_pos h1, if_pos (by omega)]
    · rw [if_neg h1, if_neg (by omega)]

theorem sw_may {k : Int} {n : Nat} (hn : n < 30) (hk : k = 2 ∨ k = 3) : mayOp ⟨k, (n : Int) + 1, 0, 0, 0⟩ = true := by
  rcases hk with rfl | rfl <;> (unfold mayOp; simp; omega)
theorem sw_may1 {n : Nat} (hn : n < 30) : mayOp ⟨1, (n : Int) + 1, 2, 0, 0⟩ = true := by
  unfold mayOp; simp; omega

theorem Stk.SwL.hold {s : Stk} {c : Nat → Int} {n : Nat} (h : s.SwL c n) (hn : n < 30) :
    s.act ⟨1, (n : Int) + 1, 2, 0, 0⟩ n = (1, s.set ((n : Int) + 1) (s.free - 2) ⟨1, 2, (n : Int) + 60, 0, 0⟩) := by
  have h0 : (s.en ((n : Int) + 1)).st = 0 := by rw [h.en, if_neg (by omega)]; rfl
  have hf := h.free
  unfold Stk.act
  rw [sw_may1 hn, if_neg (by intro h; rcases h with h | h | h; cases h; omega; omega), if_pos rfl]
  unfold Stk.hold
  dsimp only
  rw [if_neg (by omega), if_neg (by omega), if_neg (by omega)]
theorem Stk.SwL.zero {s : Stk} {c : Nat → Int} {n : Nat} (h : s.SwL c n) (hn : n < 30) (hc : c n = 0) : (s.act ⟨1, (n : Int) + 1, 2, 0, 0⟩ n).2.SwL c (n + 1) := by
  have hG := h.good.act ⟨1, (n : Int) + 1, 2, 0, 0⟩ n
  rw [h.hold hn] at hG ⊢
  refine h.put hG (Int.le_refl _) (fun b => ?_)
  unfold swE
  rw [if_pos hc]
  rfl
theorem Stk.SwL.one {s : Stk} {c : Nat → Int} {n : Nat} (h : s.SwL c n) (hn : n < 30) (hc : c n = 1) :
    ((s.act ⟨1, (n : Int) + 1, 2, 0, 0⟩ n).2.act ⟨2, (n : Int) + 1, 0, 0, 0⟩ n).1 = 1 ∧ ((s.act ⟨1, (n : Int) + 1, 2, 0, 0⟩ n).2.act ⟨2, (n : Int) + 1, 0, 0, 0⟩ n).2.SwL c (n + 1) := by
  have hG := (h.good.act ⟨1, (n : Int) + 1, 2, 0, 0⟩ n).act ⟨2, (n : Int) + 1, 0, 0, 0⟩ n
  rw [h.hold hn] at hG ⊢
  dsimp only at hG ⊢
  have he : (s.set ((n : Int) + 1) (s.free - 2) ⟨1, 2, (n : Int) + 60, 0, 0⟩).en ((n : Int) + 1) = ⟨1, 2, (n : Int) + 60, 0, 0⟩ := by simp [Stk.set]
  have ha : (s.set ((n : Int) + 1) (s.free - 2) ⟨1, 2, (n : Int) + 60, 0, 0⟩).act ⟨2, (n : Int) + 1, 0, 0, 0⟩ n = (1, (s.set ((n : Int) + 1) (s.free - 2) ⟨1, 2, (n : Int) + 60, 0, 0⟩).set ((n : Int) + 1) (s.free - 2) ⟨2, 2, 0, 0, 0⟩) := by
    unfold Stk.act
    rw [sw_may hn (.inl rfl), if_neg (by intro h; rcases h with h | h | h; cases h; omega; omega), if_neg (by dsimp only; omega), if_pos rfl]
    unfold Stk.confirm
    rw [he]
    dsimp only
    rw [if_neg (by omega), if_neg (by omega), if_neg (by omega)]
    rfl
  rw [ha] at hG ⊢
  refine ⟨rfl, h.put hG (Int.le_refl _) (fun b => ?_)⟩
  have hsw : swE c n = ⟨2, 2, 0, 0, 0⟩ := by unfold swE; rw [if_neg (by omega), if_pos hc]
  rw [hsw]
  by_cases hb : b = (n : Int) + 1
  · simp [Stk.set, hb]
  · simp [Stk.set, hb]
theorem Stk.SwL.two {s : Stk} {c : Nat → Int} {n : Nat} (h : s.SwL c n) (hn : n < 30) (hc : c n = 2) :
    ((s.act ⟨1, (n : Int) + 1, 2, 0, 0⟩ n).2.act ⟨3, (n : Int) + 1, 0, 0, 0⟩ n).1 = 1 ∧ ((s.act ⟨1, (n : Int) + 1, 2, 0, 0⟩ n).2.act ⟨3, (n : Int) + 1, 0, 0, 0⟩ n).2.SwL c (n + 1) := by
  have hG := (h.good.act ⟨1, (n : Int) + 1, 2, 0, 0⟩ n).act ⟨3, (n : Int) + 1, 0, 0, 0⟩ n
  rw [h.hold hn] at hG ⊢
  dsimp only at hG ⊢
  have he : (s.set ((n : Int) + 1) (s.free - 2) ⟨1, 2, (n : Int) + 60, 0, 0⟩).en ((n : Int) + 1) = ⟨1, 2, (n : Int) + 60, 0, 0⟩ := by simp [Stk.set]
  have ha : (s.set ((n : Int) + 1) (s.free - 2) ⟨1, 2, (n : Int) + 60, 0, 0⟩).act ⟨3, (n : Int) + 1, 0, 0, 0⟩ n = (1, (s.set ((n : Int) + 1) (s.free - 2) ⟨1, 2, (n : Int) + 60, 0, 0⟩).gone ((n : Int) + 1)) := by
    unfold Stk.act
    rw [sw_may hn (.inr rfl), if_neg (by intro h; rcases h with h | h | h; cases h; omega; omega), if_neg (by dsimp only; omega), if_neg (by dsimp only; omega), if_pos rfl]
  rw [ha] at hG ⊢
  refine ⟨rfl, h.put hG ?_ (fun b => ?_)⟩
  · unfold Stk.gone
    rw [he]
    show s.free - 2 ≤ s.free - 2 + 2
    omega
  · have hsw : swE c n = Ent.gone := by unfold swE; rw [if_neg (by omega), if_neg (by omega)]
    rw [hsw]
    by_cases hb : b = (n : Int) + 1
    · simp [Stk.gone, Stk.set, hb]
    · simp [Stk.gone, Stk.set, hb]

def swOv (c : Nat → Int) (t : Int) (i : Nat) : Bool := decide (c i = 0) && decide ((i : Int) + 60 ≤ t)
theorem Stk.SwL.late {s : Stk} {c : Nat → Int} {n : Nat} (h : s.SwL c n) (t : Int) (b : Int) : s.late t b = (decide (1 ≤ b ∧ b ≤ (n : Int)) && swOv c t (b - 1).toNat) := by
  unfold Stk.late
  rw [h.en]
  by_cases hb : 1 ≤ b ∧ b ≤ (n : Int)
  · rw [if_pos hb]
    simp only [hb, and_self, decide_true, Bool.true_and]
    obtain ⟨i, rfl⟩ : ∃ i : Nat, b = (i : Int) + 1 := ⟨(b - 1).toNat, by omega⟩
    have : ((i : Int) + 1 - 1).toNat = i := by omega
    rw [this]
    unfold swOv swE
    by_cases h0 : c i = 0
    · simp [h0]
    · by_cases h1 : c i = 1 <;> simp [h0, h1, Ent.gone]
  · rw [if_neg hb]
    simp [hb, Ent.none]
end Go.Proofs.Ytihfcfpkffebiaa
