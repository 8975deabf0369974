/-
  layer 9: StockSweeps, the plain law: behind the sweep.
-/
import Derived.Test.YtihfcfpkffebiaaSwpQ
namespace Go.Proofs.Ytihfcfpkffebiaa

theorem range_lt (n : Nat) (q : Nat → Bool) : ∀ m, n ≤ m → (List.range m).filter (fun i => decide (i < n) && q i) = (List.range n).filter q
  | 0, h => by
    have : n = 0 := by omega
    subst this; rfl
  | m + 1, h => by
    by_cases hm : n = m + 1
    · subst hm
      refine List.filter_congr (fun i hi => ?_)
      have := List.mem_range.1 hi
      simp [this]
    · rw [List.range_succ, List.filter_append, range_lt n q m (by omega)]
      have : decide (m < n) = false := by simp; omega
      simp [this]

def swG (c : Nat → Int) (t : Int) (n : Nat) : List Int := ((List.range n).filter (swOv c t)).map fun (i : Nat) => (i : Int) + 1

theorem Stk.SwL.swept {s : Stk} {c : Nat → Int} {n : Nat} (h : s.SwL c n) (hn : n ≤ 30) {t : Int} (h0 : 0 ≤ t) (h1 : t ≤ 1000) :
    (s.sweep t).1 = swG c t n ∧ (∀ i, i < n → (s.sweep t).2.en ((i : Int) + 1) = if swOv c t i = true then Ent.gone else swE c i) ∧ (s.sweep t).2.Good ∧ ((s.sweep t).2.sweep t).1 = [] := by
  obtain ⟨e1, e2⟩ := sweep_all h.good h0 (show t ≤ 1099511627776 by omega)
  have hG := h.good.sweep t
  refine ⟨?_, fun i hi => ?_, hG, ?_⟩
  · rw [e1]
    unfold bookings swG
    rw [List.filter_filter, List.filter_map]
    congr 1
    rw [← range_lt n (swOv c t) 200 (by omega)]
    refine List.filter_congr (fun i _ => ?_)
    simp only [Function.comp]
    rw [h.late, h.en]
    have : ((i : Int) + 1 - 1).toNat = i := by omega
    rw [this]
    by_cases hi : i < n
    · have hb : 1 ≤ (i : Int) + 1 ∧ (i : Int) + 1 ≤ n := by omega
      rw [if_pos hb]
      simp only [hb, hi, and_self, decide_true, Bool.true_and]
      cases hov : swOv c t i
      · simp
      · unfold swOv at hov
        simp only [Bool.and_eq_true, decide_eq_true_eq] at hov
        simp [swE, hov.1]
    · have hb : ¬ (1 ≤ (i : Int) + 1 ∧ (i : Int) + 1 ≤ n) := by omega
      simp [hb, hi]
  · rw [e2, h.late, h.en]
    have hb : 1 ≤ (i : Int) + 1 ∧ (i : Int) + 1 ≤ n := by omega
    have : ((i : Int) + 1 - 1).toNat = i := by omega
    rw [this, if_pos hb]
    simp [hb]
  · obtain ⟨e3, _⟩ := sweep_all hG h0 (show t ≤ 1099511627776 by omega)
    rw [e3]
    refine List.filter_eq_nil_iff.2 (fun b _ hb => ?_)
    unfold Stk.late at hb
    rw [e2] at hb
    by_cases hl : s.late t b = true
    · rw [if_pos hl] at hb
      simp [Ent.gone] at hb
    · rw [if_neg hl] at hb
      exact hl hb

theorem swG_len (c : Nat → Int) (t : Int) (n : Nat) : (swG c t n).length ≤ n := by
  unfold swG
  rw [List.length_map]
  exact Nat.le_trans (List.length_filter_le _ _) (by simp)
/-- The next one that is taken. -/
theorem swG_nth (c : Nat → Int) (t : Int) (n i : Nat) (hi : i < n) (hov : swOv c t i = true) : (swG c t n)[(swG c t i).length]? = some ((i : Int) + 1) := by
  unfold swG
  rw [List.length_map, List.getElem?_map, range_nth (swOv c t) i hov n hi]
  rfl
theorem swG_succ (c : Nat → Int) (t : Int) (i : Nat) : (swG c t (i + 1)).length = (swG c t i).length + (if swOv c t i = true then 1 else 0) := by
  unfold swG
  rw [List.length_map, List.length_map, List.range_succ, List.filter_append, List.length_append]
  cases h : swOv c t i <;> simp [h]
end Go.Proofs.Ytihfcfpkffebiaa
