/-
  layer 9: StockSweeps, the plain law.
-/
import Derived.Test.YtihfcfpkffebiaaStockT
namespace Go.Proofs.Ytihfcfpkffebiaa

/-- Is a booking held no longer? -/
def Stk.late (s : Stk) (now b : Int) : Bool := decide ((s.en b).st = 1 ∧ (s.en b).til ≤ now)

theorem swp_all (now : Int) : ∀ (l : List Int), l.Nodup → ∀ acc : List Int × Stk,
    (l.foldl (Stk.swp now) acc).1 = acc.1 ++ l.filter (acc.2.late now) ∧ ∀ b, (l.foldl (Stk.swp now) acc).2.en b = if b ∈ l ∧ acc.2.late now b = true then Ent.gone else acc.2.en b
  | [], _, acc => ⟨by simp, fun b => by simp⟩
  | x :: l, hn, acc => by
    obtain ⟨hx, hl⟩ := List.nodup_cons.1 hn
    rw [List.foldl_cons]
    have ih := swp_all now l hl (Stk.swp now acc x)
    by_cases hlate : acc.2.late now x = true
    · have he : Stk.swp now acc x = (acc.1 ++ [x], acc.2.gone x) := by
        unfold Stk.swp
        unfold Stk.late at hlate
        rw [if_pos (by simpa using hlate)]
      have hsame : ∀ b ∈ l, (acc.2.gone x).late now b = acc.2.late now b := by
        intro b hb
        have : b ≠ x := fun e => hx (e ▸ hb)
        unfold Stk.late Stk.gone Stk.set
        simp [this]
      rw [he] at ih ⊢
      refine ⟨?_, fun b => ?_⟩
      · rw [ih.1, List.filter_cons, if_pos hlate, List.filter_congr hsame]
        simp
      · rw [ih.2]
        by_cases hbx : b = x
        · subst hbx
          rw [if_neg (fun h => hx h.1), if_pos ⟨List.mem_cons_self .., hlate⟩]
          simp [Stk.gone, Stk.set]
        · by_cases hb : b ∈ l
          · rw [hsame b hb]
            simp [hb, hbx, Stk.gone, Stk.set]
          · simp [hb, hbx, Stk.gone, Stk.set]
    · have he : Stk.swp now acc x = acc := by
        unfold Stk.swp
        unfold Stk.late at hlate
        rw [if_neg (by simpa using hlate)]
      rw [he] at ih ⊢
      refine ⟨?_, fun b => ?_⟩
      · rw [ih.1, List.filter_cons, if_neg hlate]
      · rw [ih.2]
        by_cases hbx : b = x
        · subst hbx
          rw [if_neg (fun h => hx h.1), if_neg (fun h => hlate h.2)]
        · simp [hbx]

theorem sweep_all {s : Stk} (hG : s.Good) {now : Int} (h0 : 0 ≤ now) (h1 : now ≤ 1099511627776) :
    (s.sweep now).1 = (bookings s.en).filter (s.late now) ∧ ∀ b, (s.sweep now).2.en b = if s.late now b = true then Ent.gone else s.en b := by
  have h := swp_all now (bookings s.en) (bookings_nodup s.en) ([], s)
  have he : s.sweep now = (bookings s.en).foldl (Stk.swp now) ([], s) := by
    unfold Stk.sweep
    rw [if_neg (by omega)]
    rfl
  rw [he]
  refine ⟨by rw [h.1]; rfl, fun b => ?_⟩
  rw [h.2]
  dsimp only
  by_cases hb : s.late now b = true
  · have hm : b ∈ bookings s.en := by
      rw [bookings_mem s.en hG.key]
      unfold Stk.late at hb
      simp at hb
      omega
    rw [if_pos ⟨hm, hb⟩, if_pos hb]
  · rw [if_neg (fun h => hb h.2), if_neg hb]

theorem range_nth (p : Nat → Bool) (i : Nat) (hp : p i = true) : ∀ n, i < n → ((List.range n).filter p)[((List.range i).filter p).length]? = some i
  | 0, h => by omega
  | n + 1, h => by
    rw [List.range_succ, List.filter_append]
    by_cases hin : i = n
    · subst hin
      rw [List.getElem?_append_right (Nat.le_refl _), Nat.sub_self]
      simp [hp]
    · have ih := range_nth p i hp n (by omega)
      have hlt := (List.getElem?_eq_some_iff.1 ih).1
      rw [List.getElem?_append_left hlt]
      exact ih
end Go.Proofs.Ytihfcfpkffebiaa
