/-
  Rows: a slice of ints that came in, opened.
-/
import Derived.Test.YtpbjompopgdbjaaRowA
import Derived.Test.YtpbjompopgdbjaaInts
import Derived.ProofKit
import Derived.OpenShut
namespace Go.Proofs.Ytpbjompopgdbjaa
open Go.ChangeShapes Go.WideShapes Go.ChangeAt Go.RowKit Go.Deep

section
variable {H : Type} {enc : TypeId × Value → H} {w : World} {base : Nat} {spare : Nat → Bool} {held : Bool}

set_option maxRecDepth 100000 in
theorem open_intl {r : Reach} {b0 : Nat} {v : Value} {d : DataW H} {p : List MemPlace} (hv : Value.okWide Try.prog w r b0 50 v) (h : DataW.Trod enc Try.prog w base spare held 50 v d p) :
    ∃ ad l cap, v = .slice ad (List.length l) cap ∧ IntsIn w ad l := by
  obtain ⟨a, n, c, rfl⟩ := okWide_slice Try.underlying50 hv
  obtain ⟨fuel, hf⟩ := h
  rcases open_slice Try.underlying50 hf with ⟨he, _⟩ | ⟨a', len, cap, m, fu, D, Pl, he, _, hlc, hcm, hm, _, hi⟩
  · simp [Value.cells] at he
    obtain ⟨rfl, rfl, rfl⟩ := he
    exact ⟨none, [], 0, rfl, ⟨Nat.zero_le _, fun k o hk => by simp at hk⟩⟩
  · simp [Value.cells] at he
    obtain ⟨rfl, rfl, rfl⟩ := he
    have hlm : n ≤ m := by rw [hm]; split <;> omega
    have hc1 : Try.prog.cellsOf 3 = 1 := by kernel_rfl
    have hex : ∀ i, i < n → ∃ x : Int, w.cell? (a'.add i) = some (.int .i64 x) ∧ a'.block < w.heap.size := by
      intro i hin
      obtain ⟨cs', hcs, ht⟩ := hi i (by omega)
      rw [hc1] at hcs
      obtain ⟨_, hcl, hat⟩ := World.cells?_some hcs
      have hv0 : ∃ v0, cs' = [v0] := by
        match cs', hcl with
        | [v0], _ => exact ⟨v0, rfl⟩
      obtain ⟨v0, rfl⟩ := hv0
      have h0 := hat 0 (by omega)
      obtain ⟨x, ex, _, _⟩ := DataW.trod_int Try.underlying3 ht
      simp at ex
      subst ex
      have e : (a'.add (i * 1)).add 0 = a'.add i := by rw [Go.Deep.add_add]; simp
      have h1 : w.cell? (a'.add i) = some (.int .i64 x) := by
        rw [← e]; simpa using h0
      refine ⟨x, h1, ?_⟩
      have : (a'.add i).block = a'.block := by unfold Addr.add; split <;> rfl
      apply Decidable.byContradiction
      intro hn
      have h00 : w.heap[(a'.add i).block]? = none := by rw [this]; simp; omega
      simp [World.cell?, h00] at h1
    have hpick : ∃ g : Nat → Int, ∀ i, i < n → w.cell? (a'.add i) = some (.int .i64 (g i)) ∧ a'.block < w.heap.size :=
      ⟨fun i => if h : i < n then (hex i h).choose else 0, fun i hin => by simp only [dif_pos hin]; exact (hex i hin).choose_spec⟩
    obtain ⟨g, hg⟩ := hpick
    refine ⟨some a', (List.range n).map g, c, by simp, ⟨by simp; omega, fun k o hk => ?_⟩⟩
    simp only [List.getElem?_map] at hk
    have hkn : k < n := by
      apply Decidable.byContradiction
      intro hh
      rw [List.getElem?_eq_none (by simp; omega)] at hk
      cases hk
    rw [List.getElem?_range hkn] at hk
    simp at hk
    subst hk
    exact ⟨a', rfl, (hg k hkn).2, (hg k hkn).1⟩
end
end Go.Proofs.Ytpbjompopgdbjaa
