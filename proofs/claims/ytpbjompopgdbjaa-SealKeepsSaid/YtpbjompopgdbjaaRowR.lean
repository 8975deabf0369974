/-
  Rows of layer 6: a slice of rows of bytes that came in, opened.
-/
import Derived.Test.YtpbjompopgdbjaaRowX
import Derived.Test.YtpbjompopgdbjaaSealE
namespace Go.Proofs.Ytpbjompopgdbjaa
open Go.ChangeShapes Go.WideShapes Go.ChangeAt Go.RowKit Go.Deep

section
variable {H : Type} {enc : TypeId × Value → H} {w : World} {base : Nat} {spare : Nat → Bool} {held : Bool}

set_option maxRecDepth 100000 in
/-- One row of bytes. -/
theorem row_in {fuel : Nat} {v : Value} {y : DataW H × List MemPlace} (hf : DataW.trod enc Try.prog w base spare held fuel 31 [v] = some y) :
    ∃ ad l cap, v = .slice ad (List.length l) cap ∧ BytIn w ad l ∧ l.length ≤ cap ∧ cap ≤ maxLen := by
  rcases open_slice1 Try.underlying31 (by kernel_rfl) hf with ⟨he, _⟩ | ⟨a', len, cap, m, fu, V, D, Pl, he, _, hlc, hcm, hm, _, hi⟩
  · simp at he
    subst he
    exact ⟨none, [], 0, rfl, fun k o hk => by simp at hk, Nat.le_refl _, Nat.zero_le _⟩
  · simp at he
    subst he
    have hlm : len ≤ m := by rw [hm]; split <;> omega
    have hex : ∀ i, i < len → ∃ x : UInt8, w.cell? (a'.add i) = some (.int .u8 x.toNat) ∧ a'.block < w.heap.size := by
      intro i hin
      obtain ⟨h1, ht⟩ := hi i (by omega)
      obtain ⟨x, ex, _, hwf⟩ := DataW.trod_int Try.underlying5 ht
      simp at ex
      rw [ex] at h1
      have hx : 0 ≤ x ∧ x ≤ 255 := by
        simp [Lit.wf, IntKind.min, IntKind.max, IntKind.signed, IntKind.bits] at hwf
        omega
      refine ⟨UInt8.ofNat x.toNat, ?_, ?_⟩
      · rw [h1]
        have : ((UInt8.ofNat x.toNat).toNat : Int) = x := by
          rw [UInt8.toNat_ofNat']
          omega
        rw [this]
      · have : (a'.add i).block = a'.block := by unfold Addr.add; split <;> rfl
        have := cell_lt h1
        omega
    have hpick : ∃ g : Nat → UInt8, ∀ i, i < len → w.cell? (a'.add i) = some (.int .u8 (g i).toNat) ∧ a'.block < w.heap.size :=
      ⟨fun i => if h : i < len then (hex i h).choose else 0, fun i hin => by simp only [dif_pos hin]; exact (hex i hin).choose_spec⟩
    obtain ⟨g, hg⟩ := hpick
    refine ⟨some a', (List.range len).map g, cap, by simp, fun k o hk => ?_, by simp; exact hlc, hcm⟩
    simp only [List.getElem?_map] at hk
    have hkn : k < len := by
      apply Decidable.byContradiction
      intro hh
      rw [List.getElem?_eq_none (by simp; omega)] at hk
      cases hk
    rw [List.getElem?_range hkn] at hk
    simp at hk
    subst hk
    exact ⟨a', rfl, (hg k hkn).2, (hg k hkn).1⟩

set_option maxRecDepth 100000 in
theorem open_rows {r : Reach} {b0 : Nat} {v : Value} {d : DataW H} {p : List MemPlace} (hv : Value.okWide Try.prog w r b0 27 v) (h : DataW.Trod enc Try.prog w base spare held 27 v d p) :
    ∃ ad l cap, v = .slice ad (List.length l) cap ∧ RowsB w ad l := by
  obtain ⟨a, n, c, rfl⟩ := okWide_slice Try.underlying27 hv
  obtain ⟨fuel, hf⟩ := h
  rcases open_slice1 Try.underlying27 (by kernel_rfl) hf with ⟨he, _⟩ | ⟨a', len, cap, m, fu, V, D, Pl, he, _, hlc, hcm, hm, _, hi⟩
  · simp [Value.cells] at he
    obtain ⟨rfl, rfl, rfl⟩ := he
    exact ⟨none, [], 0, rfl, fun k o hk => by simp at hk⟩
  · simp [Value.cells] at he
    obtain ⟨rfl, rfl, rfl⟩ := he
    have hlm : n ≤ m := by rw [hm]; split <;> omega
    have hex : ∀ i, i < n → ∃ x : Rec, x.length ≤ maxLen ∧ ∃ ao c, w.cell? (a'.add i) = some (.slice ao x.length c) ∧ BytIn w ao x := by
      intro i hin
      obtain ⟨h1, ht⟩ := hi i (by omega)
      obtain ⟨ao, l, cap, hV, hB, hl1, hl2⟩ := row_in ht
      rw [hV] at h1
      exact ⟨l, Nat.le_trans hl1 hl2, ao, cap, h1, hB⟩
    have hpick : ∃ g : Nat → Rec, ∀ i, i < n → (g i).length ≤ maxLen ∧ ∃ ao c, w.cell? (a'.add i) = some (.slice ao (g i).length c) ∧ BytIn w ao (g i) :=
      ⟨fun i => if h : i < n then (hex i h).choose else [], fun i hin => by simp only [dif_pos hin]; exact (hex i hin).choose_spec⟩
    obtain ⟨g, hg⟩ := hpick
    refine ⟨some a', (List.range n).map g, c, by simp, fun k o hk => ?_⟩
    simp only [List.getElem?_map] at hk
    have hkn : k < n := by
      apply Decidable.byContradiction
      intro hh
      rw [List.getElem?_eq_none (by simp; omega)] at hk
      cases hk
    rw [List.getElem?_range hkn] at hk
    simp at hk
    subst hk
    obtain ⟨h1, ao, c', h2, h3⟩ := hg k hkn
    have hb := cell_lt h2
    have : (a'.add k).block = a'.block := by unfold Addr.add; split <;> rfl
    exact ⟨h1, a', ao, c', rfl, by omega, h2, h3⟩
end
end Go.Proofs.Ytpbjompopgdbjaa
