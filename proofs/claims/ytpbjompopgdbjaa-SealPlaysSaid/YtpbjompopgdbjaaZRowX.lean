/-
  Rows of layer 5: a string, a slice of bytes that came in, opened.
-/
import Derived.Test.YtpbjompopgdbjaaRowS
import Derived.Test.YtpbjompopgdbjaaZDskH
namespace Go.Proofs.Ytpbjompopgdbjaa
open Go.ChangeShapes Go.WideShapes Go.ChangeAt Go.RowKit Go.Deep

section
variable {H : Type} {enc : TypeId × Value → H} {w : World} {base : Nat} {spare : Nat → Bool} {held : Bool}

set_option maxRecDepth 100000 in
theorem open_str {r : Reach} {b0 : Nat} {v : Value} {d : DataW H} {p : List MemPlace} (hv : Value.okWide Try.prog w r b0 9 v) (h : DataW.Trod enc Try.prog w base spare held 9 v d p) :
    ∃ l : List UInt8, v = encStr l ∧ l.length ≤ maxLen := by
  have hv' := okWide_string Try.underlying9 hv
  obtain ⟨s, rfl⟩ := hv'
  obtain ⟨fuel, hf⟩ := h
  obtain ⟨s', hs, _, hl⟩ := DataW.trod_string Try.underlying9 hf
  simp [Value.cells] at hs
  subst hs
  refine ⟨s.data.toList, rfl, ?_⟩
  rw [Array.length_toList]
  exact hl

/-- Bytes that came in. -/
def BytIn (w : World) (ad : Option Addr) (l : List UInt8) : Prop := ∀ (j : Nat) (b : UInt8), l[j]? = some b → ∃ a', ad = some a' ∧ a'.block < w.heap.size ∧ w.cell? (a'.add j) = some (.int .u8 b.toNat)
theorem BytIn.src {w : World} {ad : Option Addr} {l : List UInt8} (h : BytIn w ad l) (c : Nat) {w' : World} (hc : ∀ i, i < w.heap.size → w'.heap[i]? = w.heap[i]?) : Src Try.prog 1 31 (.slice ad l.length c) l.length (bcells l) w' := by
  cases ad with
  | none =>
    have : l = [] := by
      cases l with
      | nil => rfl
      | cons b l =>
        obtain ⟨a', h1, _⟩ := h 0 b rfl
        cases h1
    subst this
    exact Src.ofNil w' Try.underlying31 c
  | some a =>
    refine Src.ofSlice w' Try.underlying31 a _ c _ (by rw [bcells_len]; simp) (fun j u hj => ?_) (bcells_one l)
    unfold bcells at hj
    rw [List.getElem?_map] at hj
    cases hb : l[j]? with
    | none => rw [hb] at hj; cases hj
    | some b =>
      rw [hb] at hj
      obtain ⟨a', h1, h2, h3⟩ := h j b hb
      cases h1
      cases hj
      have hblk : (a.add j).block = a.block := by unfold Addr.add; split <;> rfl
      rw [World.cell?_of_block (hc _ (by rw [hblk]; exact h2))]
      exact h3

set_option maxRecDepth 100000 in
theorem open_byt {r : Reach} {b0 : Nat} {v : Value} {d : DataW H} {p : List MemPlace} (hv : Value.okWide Try.prog w r b0 31 v) (h : DataW.Trod enc Try.prog w base spare held 31 v d p) :
    ∃ ad l cap, v = .slice ad (List.length l) cap ∧ BytIn w ad l := by
  obtain ⟨a, n, c, rfl⟩ := okWide_slice Try.underlying31 hv
  obtain ⟨fuel, hf⟩ := h
  rcases open_slice Try.underlying31 hf with ⟨he, _⟩ | ⟨a', len, cap, m, fu, D, Pl, he, _, hlc, hcm, hm, _, hi⟩
  · simp [Value.cells] at he
    obtain ⟨rfl, rfl, rfl⟩ := he
    exact ⟨none, [], 0, rfl, fun k o hk => by simp at hk⟩
  · simp [Value.cells] at he
    obtain ⟨rfl, rfl, rfl⟩ := he
    have hlm : n ≤ m := by rw [hm]; split <;> omega
    have hc1 : Try.prog.cellsOf 5 = 1 := by kernel_rfl
    have hex : ∀ i, i < n → ∃ x : UInt8, w.cell? (a'.add i) = some (.int .u8 x.toNat) ∧ a'.block < w.heap.size := by
      intro i hin
      obtain ⟨cs', hcs, ht⟩ := hi i (by omega)
      rw [hc1] at hcs
      obtain ⟨_, hcl, hat⟩ := World.cells?_some hcs
      have hv0 : ∃ v0, cs' = [v0] := by
        match cs', hcl with
        | [v0], _ => exact ⟨v0, rfl⟩
      obtain ⟨v0, rfl⟩ := hv0
      have h0 := hat 0 (by omega)
      obtain ⟨x, ex, _, hwf⟩ := DataW.trod_int Try.underlying5 ht
      simp at ex
      subst ex
      have e : (a'.add (i * 1)).add 0 = a'.add i := by rw [Go.Deep.add_add]; simp
      have h1 : w.cell? (a'.add i) = some (.int .u8 x) := by
        rw [← e]; simpa using h0
      have hx : 0 ≤ x ∧ x ≤ 255 := by
        simp [Lit.wf, IntKind.min, IntKind.max, IntKind.signed, IntKind.bits] at hwf
        omega
      refine ⟨UInt8.ofNat x.toNat, ?_, ?_⟩
      · rw [h1]
        have : ((UInt8.ofNat x.toNat).toNat : Int) = x := by
          rw [UInt8.toNat_ofNat']
          omega
        rw [this]
      · have : (a'.add i).block = a'.block := by unfold Addr.add; split <;> rfl
        have := cell_lt h1
        omega
    have hpick : ∃ g : Nat → UInt8, ∀ i, i < n → w.cell? (a'.add i) = some (.int .u8 (g i).toNat) ∧ a'.block < w.heap.size :=
      ⟨fun i => if h : i < n then (hex i h).choose else 0, fun i hin => by simp only [dif_pos hin]; exact (hex i hin).choose_spec⟩
    obtain ⟨g, hg⟩ := hpick
    refine ⟨some a', (List.range n).map g, c, by simp, fun k o hk => ?_⟩
    simp only [List.getElem?_map] at hk
    have hkn : k < n := by
      apply Decidable.byContradiction
      intro hh
      rw [List.getElem?_eq_none (by simp; omega)] at hk
      cases hk
    rw [List.getElem?_range hkn] at hk
    simp at hk
    subst hk
    exact ⟨a', rfl, (hg k hkn).2, (hg k hkn).1⟩
end
end Go.Proofs.Ytpbjompopgdbjaa

namespace Go.Proofs.Ytpbjompopgdbjaa
open Go.ChangeShapes Go.WideShapes Go.ChangeAt Go.RowKit Go.Deep

section
variable {H : Type} {enc : TypeId × Value → H} {w : World} {base : Nat} {spare : Nat → Bool} {held : Bool}

set_option maxRecDepth 100000 in
theorem open_bytc {r : Reach} {b0 : Nat} {v : Value} {d : DataW H} {p : List MemPlace} (hv : Value.okWide Try.prog w r b0 31 v) (h : DataW.Trod enc Try.prog w base spare held 31 v d p) :
    ∃ ad l cap, v = .slice ad (List.length l) cap ∧ BytIn w ad l ∧ l.length ≤ cap := by
  obtain ⟨ad, l, cap, rfl, hb⟩ := open_byt hv h
  refine ⟨ad, l, cap, rfl, hb, ?_⟩
  cases ad with
  | none =>
    cases l with
    | nil => exact Nat.zero_le _
    | cons b l =>
      obtain ⟨a', h1, _⟩ := hb 0 b rfl
      cases h1
  | some a =>
    simp only [Value.okWide, Cell.okWide, Try.underlying31, Cell.ok] at hv
    exact hv.1
set_option maxRecDepth 100000 in
theorem open_intb {r : Reach} {b0 : Nat} {v : Value} {d : DataW H} {p : List MemPlace} (hv : Value.okWide Try.prog w r b0 3 v) (h : DataW.Trod enc Try.prog w base spare held 3 v d p) :
    ∃ n : Int, v = .int .i64 n ∧ -9223372036854775808 ≤ n ∧ n ≤ 9223372036854775807 := by
  obtain ⟨n, rfl⟩ := okWide_int Try.underlying3 hv
  obtain ⟨fuel, hf⟩ := h
  obtain ⟨x, ex, _, hwf⟩ := DataW.trod_int Try.underlying3 hf
  simp [Value.cells] at ex
  subst ex
  simp [Lit.wf, IntKind.min, IntKind.max, IntKind.signed, IntKind.bits] at hwf
  exact ⟨_, rfl, by omega, by omega⟩
end
end Go.Proofs.Ytpbjompopgdbjaa
