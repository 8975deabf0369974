/-
  Rows of layer 5: bytes with their capacity, an int with its bounds.
-/
import Derived.Test.YtgcmagoecapgoaaRowX
namespace Go.Proofs.Ytgcmagoecapgoaa
open Go.ChangeShapes Go.WideShapes Go.ChangeAt Go.RowKit Go.Deep

section
variable {H : Type} {enc : TypeId × Value → H} {w : World} {base : Nat} {spare : Nat → Bool} {held : Bool}

set_option maxRecDepth 100000 in
theorem open_bytc {r : Reach} {b0 : Nat} {v : Value} {d : DataW H} {p : List MemPlace} (hv : Value.okWide Try.prog w r b0 22 v) (h : DataW.Trod enc Try.prog w base spare held 22 v d p) :
    ∃ ad l cap, v = .slice ad (List.length l) cap ∧ BytIn w ad l ∧ l.length ≤ cap := by
  obtain ⟨ad, l, cap, rfl, hb⟩ := open_byt hv h
  refine ⟨ad, l, cap, rfl, hb, ?_⟩
  cases ad with
  | none =>
    cases l with
    | nil => exact Nat.zero_le _
    | cons b l =>
      obtain ⟨a', h1, _⟩ := hb 0 b rfl
      cases h1
  | some a =>
    simp only [Value.okWide, Cell.okWide, Try.underlying22, Cell.ok] at hv
    exact hv.1
set_option maxRecDepth 100000 in
theorem open_intb {r : Reach} {b0 : Nat} {v : Value} {d : DataW H} {p : List MemPlace} (hv : Value.okWide Try.prog w r b0 3 v) (h : DataW.Trod enc Try.prog w base spare held 3 v d p) :
    ∃ n : Int, v = .int .i64 n ∧ -9223372036854775808 ≤ n ∧ n ≤ 9223372036854775807 := by
  obtain ⟨n, rfl⟩ := okWide_int Try.underlying3 hv
  obtain ⟨fuel, hf⟩ := h
  obtain ⟨x, ex, _, hwf⟩ := DataW.trod_int Try.underlying3 hf
  simp [Value.cells] at ex
  subst ex
  simp [Lit.wf, IntKind.min, IntKind.max, IntKind.signed, IntKind.bits] at hwf
  exact ⟨_, rfl, by omega, by omega⟩
end
end Go.Proofs.Ytgcmagoecapgoaa
