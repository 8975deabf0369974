/-
  Rows of layer 6: steps of a log that came in, opened.
-/
import Derived.Test.YtpbjompopgdbjaaRowR
namespace Go.Proofs.Ytpbjompopgdbjaa
open Go.ChangeShapes Go.WideShapes Go.ChangeAt Go.RowKit Go.Deep

/-- A step of a log. -/
structure LOp where
  kd : Int
  n : Int
  b : Rec
  l : List Rec
/-- Steps behind an address: four cells each. -/
def LOpsIn (w : World) (ad : Option Addr) (l : List LOp) : Prop := ∀ k o, l[k]? = some o → ∃ a ab cb al cl, ad = some a ∧ a.block < w.heap.size ∧
  w.cell? (a.add (k * 4)) = some (.int .i64 o.kd) ∧ w.cell? ((a.add (k * 4)).add 1) = some (.int .i64 o.n) ∧ w.cell? ((a.add (k * 4)).add 2) = some (.slice ab o.b.length cb) ∧ w.cell? ((a.add (k * 4)).add 3) = some (.slice al o.l.length cl) ∧
  o.b.length ≤ maxLen ∧ (-9223372036854775808 ≤ o.n ∧ o.n ≤ 9223372036854775807) ∧ BytIn w ab o.b ∧ RowsB w al o.l

section
variable {H : Type} {enc : TypeId × Value → H} {w : World} {base : Nat} {spare : Nat → Bool} {held : Bool}

set_option maxRecDepth 100000 in
/-- Rows of bytes, by their cells. -/
theorem rows_in {fuel : Nat} {v : Value} {y : DataW H × List MemPlace} (hf : DataW.trod enc Try.prog w base spare held fuel 27 [v] = some y) :
    ∃ ad l cap, v = .slice ad (List.length l) cap ∧ RowsB w ad l := by
  rcases open_slice1 Try.underlying27 (by kernel_rfl) hf with ⟨he, _⟩ | ⟨a', n, c, m, fu, V, D, Pl, he, _, hlc, hcm, hm, _, hi⟩
  · simp at he
    subst he
    exact ⟨none, [], 0, rfl, fun k o hk => by simp at hk⟩
  · simp at he
    subst he
    have hlm : n ≤ m := by rw [hm]; split <;> omega
    have hex : ∀ i, i < n → ∃ x : Rec, x.length ≤ maxLen ∧ ∃ ao c, w.cell? (a'.add i) = some (.slice ao x.length c) ∧ BytIn w ao x := by
      intro i hin
      obtain ⟨h1, ht⟩ := hi i (by omega)
      obtain ⟨ao, l, cap, hV, hB, hl1, hl2⟩ := row_in ht
      rw [hV] at h1
      exact ⟨l, Nat.le_trans hl1 hl2, ao, cap, h1, hB⟩
    have hpick : ∃ g : Nat → Rec, ∀ i, i < n → (g i).length ≤ maxLen ∧ ∃ ao c, w.cell? (a'.add i) = some (.slice ao (g i).length c) ∧ BytIn w ao (g i) :=
      ⟨fun i => if h : i < n then (hex i h).choose else [], fun i hin => by simp only [dif_pos hin]; exact (hex i hin).choose_spec⟩
    obtain ⟨g, hg⟩ := hpick
    refine ⟨some a', (List.range n).map g, c, by simp, fun k o hk => ?_⟩
    simp only [List.getElem?_map] at hk
    have hkn : k < n := by
      apply Decidable.byContradiction
      intro hh
      rw [List.getElem?_eq_none (by simp; omega)] at hk
      cases hk
    rw [List.getElem?_range hkn] at hk
    simp at hk
    subst hk
    obtain ⟨h1, ao, c', h2, h3⟩ := hg k hkn
    have hb := cell_lt h2
    have : (a'.add k).block = a'.block := by unfold Addr.add; split <;> rfl
    exact ⟨h1, a', ao, c', rfl, by omega, h2, h3⟩

set_option maxRecDepth 100000 in
theorem open_lops {r : Reach} {b0 : Nat} {v : Value} {d : DataW H} {p : List MemPlace} (hv : Value.okWide Try.prog w r b0 22 v) (h : DataW.Trod enc Try.prog w base spare held 22 v d p) :
    ∃ ad l cap, v = .slice ad (List.length l) cap ∧ LOpsIn w ad l := by
  obtain ⟨a, n, c, rfl⟩ := okWide_slice Try.underlying22 hv
  obtain ⟨fuel, hf⟩ := h
  rcases open_slice_fields Try.underlying22 Try.underlying33 (by kernel_rfl) (by kernel_rfl) hf with ⟨he, _⟩ | ⟨a', len, cap, m, D, Pl, he, _, hlc, hcm, hm, _, hi⟩
  · simp [Value.cells] at he
    obtain ⟨rfl, rfl, rfl⟩ := he
    exact ⟨none, [], 0, rfl, fun k o hk => by simp at hk⟩
  · simp [Value.cells] at he
    obtain ⟨rfl, rfl, rfl⟩ := he
    have hlm : n ≤ m := by rw [hm]; split <;> omega
    have hex : ∀ i, i < n → ∃ o : LOp, ∃ ab cb al cl, w.cell? (a'.add (i * 4)) = some (.int .i64 o.kd) ∧ w.cell? (a'.add (i * 4 + 1)) = some (.int .i64 o.n) ∧ w.cell? (a'.add (i * 4 + 2)) = some (.slice ab o.b.length cb) ∧ w.cell? (a'.add (i * 4 + 3)) = some (.slice al o.l.length cl) ∧
        o.b.length ≤ maxLen ∧ (-9223372036854775808 ≤ o.n ∧ o.n ≤ 9223372036854775807) ∧ BytIn w ab o.b ∧ RowsB w al o.l := by
      intro i hin
      obtain ⟨ys, k, _, _, _, hfld⟩ := hi i (by omega)
      obtain ⟨v0, y0, c0, _, t0⟩ := hfld 0 _ rfl
      obtain ⟨v1, y1, c1, _, t1⟩ := hfld 1 _ rfl
      obtain ⟨v2, y2, c2, _, t2⟩ := hfld 2 _ rfl
      obtain ⟨v3, y3, c3, _, t3⟩ := hfld 3 _ rfl
      obtain ⟨n0, e0, _, _⟩ := DataW.trod_int Try.underlying3 t0
      obtain ⟨n1, e1, _, w1⟩ := DataW.trod_int Try.underlying3 t1
      obtain ⟨ab, lb, cb, rfl, hB, hb1, hb2⟩ := row_in t2
      obtain ⟨al, ll, cl, rfl, hL⟩ := rows_in t3
      simp at e0 e1
      subst e0 e1
      exact ⟨⟨n0, n1, lb, ll⟩, ab, cb, al, cl, c0, c1, c2, c3, Nat.le_trans hb1 hb2, bounds_i64 w1, hB, hL⟩
    have hpick : ∃ g : Nat → LOp, ∀ i, i < n → ∃ ab cb al cl, w.cell? (a'.add (i * 4)) = some (.int .i64 (g i).kd) ∧ w.cell? (a'.add (i * 4 + 1)) = some (.int .i64 (g i).n) ∧ w.cell? (a'.add (i * 4 + 2)) = some (.slice ab (g i).b.length cb) ∧ w.cell? (a'.add (i * 4 + 3)) = some (.slice al (g i).l.length cl) ∧
        (g i).b.length ≤ maxLen ∧ (-9223372036854775808 ≤ (g i).n ∧ (g i).n ≤ 9223372036854775807) ∧ BytIn w ab (g i).b ∧ RowsB w al (g i).l :=
      ⟨fun i => if h : i < n then (hex i h).choose else ⟨0, 0, [], []⟩, fun i hin => by simp only [dif_pos hin]; exact (hex i hin).choose_spec⟩
    obtain ⟨g, hg⟩ := hpick
    refine ⟨some a', (List.range n).map g, c, by simp, fun k o hk => ?_⟩
    simp only [List.getElem?_map] at hk
    have hkn : k < n := by
      apply Decidable.byContradiction
      intro hh
      rw [List.getElem?_eq_none (by simp; omega)] at hk
      cases hk
    rw [List.getElem?_range hkn] at hk
    simp at hk
    subst hk
    obtain ⟨ab, cb, al, cl, h1, h2⟩ := hg k hkn
    have hb := cell_lt h1
    have : (a'.add (k * 4)).block = a'.block := by unfold Addr.add; split <;> rfl
    simp only [Go.Deep.add_add]
    exact ⟨a', ab, cb, al, cl, rfl, by omega, h1, h2⟩
end
theorem LOpsIn.chg {w w' : World} {ad : Option Addr} {l : List LOp} (h : LOpsIn w ad l) {S : Nat → Prop} (hc : Chg S w w') (hS : ∀ i, i < w.heap.size → ¬ S i) : LOpsIn w' ad l := fun k o hk => by
  obtain ⟨a, ab, cb, al, cl, h1, h2, q0, q1, q2, q3, q4, q5, q6, q7⟩ := h k o hk
  have hz := hc.size
  have hcell : ∀ p : Addr, p.block = a.block → w'.cell? p = w.cell? p := fun p hb => hc.cell (by rw [hb]; exact h2) (by rw [hb]; exact hS _ h2)
  have b0 : (a.add (k * 4)).block = a.block := by unfold Addr.add; split <;> rfl
  have b1 : ∀ j, ((a.add (k * 4)).add j).block = a.block := fun j => by rw [← b0]; generalize a.add (k * 4) = p; unfold Addr.add; split <;> rfl
  exact ⟨a, ab, cb, al, cl, h1, by omega, by rw [hcell _ b0]; exact q0, by rw [hcell _ (b1 _)]; exact q1, by rw [hcell _ (b1 _)]; exact q2, by rw [hcell _ (b1 _)]; exact q3, q4, q5, q6.chg hc hS, q7.chg hc hS⟩
theorem LOpsIn.at_ {w w' : World} {ad : Option Addr} {l : List LOp} (h : LOpsIn w ad l) {S : Nat → Prop} (hc : Chg S w w') (hS : ∀ i, i < w.heap.size → ¬ S i) {k : Nat} {o : LOp} (hk : l[k]? = some o) : ∃ a ab cb al cl, ad = some a ∧
    w'.cell? (a.add (k * 4)) = some (.int .i64 o.kd) ∧ w'.cell? ((a.add (k * 4)).add 1) = some (.int .i64 o.n) ∧ w'.cell? ((a.add (k * 4)).add 2) = some (.slice ab o.b.length cb) ∧ w'.cell? ((a.add (k * 4)).add 3) = some (.slice al o.l.length cl) ∧
    o.b.length ≤ maxLen ∧ (-9223372036854775808 ≤ o.n ∧ o.n ≤ 9223372036854775807) ∧ BytIn w ab o.b ∧ RowsB w al o.l := by
  obtain ⟨a, ab, cb, al, cl, h1, h2, q0, q1, q2, q3, q4, q5, q6, q7⟩ := h k o hk
  have hcell : ∀ p : Addr, p.block = a.block → w'.cell? p = w.cell? p := fun p hb => hc.cell (by rw [hb]; exact h2) (by rw [hb]; exact hS _ h2)
  have b0 : (a.add (k * 4)).block = a.block := by unfold Addr.add; split <;> rfl
  have b1 : ∀ j, ((a.add (k * 4)).add j).block = a.block := fun j => by rw [← b0]; generalize a.add (k * 4) = p; unfold Addr.add; split <;> rfl
  exact ⟨a, ab, cb, al, cl, h1, by rw [hcell _ b0]; exact q0, by rw [hcell _ (b1 _)]; exact q1, by rw [hcell _ (b1 _)]; exact q2, by rw [hcell _ (b1 _)]; exact q3, q4, q5, q6, q7⟩
end Go.Proofs.Ytpbjompopgdbjaa
