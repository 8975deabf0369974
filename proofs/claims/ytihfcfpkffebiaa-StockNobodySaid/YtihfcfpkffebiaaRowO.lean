/-
  Rows: an operation that came in, opened.
-/
import Derived.Test.YtihfcfpkffebiaaRowA
import Derived.Test.YtihfcfpkffebiaaWant
import Derived.ProofKit
import Derived.OpenShut
namespace Go.Proofs.Ytihfcfpkffebiaa
open Go.ChangeShapes Go.WideShapes Go.ChangeAt Go.RowKit Go.Deep

section
variable {H : Type} {enc : TypeId × Value → H} {w : World} {base : Nat} {spare : Nat → Bool} {held : Bool}

set_option maxRecDepth 100000 in
theorem open_op {r : Reach} {b0 : Nat} {v : Value} {d : DataW H} {p : List MemPlace} (hv : Value.okWide Try.prog w r b0 31 v) (h : DataW.Trod enc Try.prog w base spare held 31 v d p) :
    ∃ o : POp, v = o.val := by
  obtain ⟨cs, rfl, hsz⟩ := okWide_struct Try.underlying31 hv
  have hc : Try.prog.cellsOf 31 = 5 := by kernel_rfl
  rw [hc] at hsz
  obtain ⟨⟨l⟩, hl⟩ : ∃ c : Array Value, c = cs := ⟨cs, rfl⟩
  subst hl
  match l, hsz with
  | [c0, c1, c2, c3, c4], _ =>
    obtain ⟨fuel, hf⟩ := h
    obtain ⟨ys, n', hn', hy, hlen, hyl, hfl⟩ := DataW.trod_struct Try.underlying31 hf
    have f0 := hfl 0 _ rfl
    have f1 := hfl 1 _ rfl
    have f2 := hfl 2 _ rfl
    have f3 := hfl 3 _ rfl
    have f4 := hfl 4 _ rfl
    have hys : ys.length = 5 := hyl
    match ys, hys with
    | [y0, y1, y2, y3, y4], _ =>
      obtain ⟨a, ea, _, _⟩ := DataW.trod_int Try.underlying3 f0
      obtain ⟨b, eb, _, _⟩ := DataW.trod_int Try.underlying3 f1
      obtain ⟨c, ec, _, _⟩ := DataW.trod_int Try.underlying3 f2
      obtain ⟨d, ed, _, _⟩ := DataW.trod_int Try.underlying3 f3
      obtain ⟨e, ee, _, _⟩ := DataW.trod_int Try.underlying2 f4
      have s3 : Try.prog.cellsOf 3 = 1 := by kernel_rfl
      have s2 : Try.prog.cellsOf 2 = 1 := by kernel_rfl
      simp [s3, s2, Value.cells] at ea eb ec ed ee
      subst ea eb ec ed ee
      exact ⟨⟨a, b, c, d, e⟩, rfl⟩
end
end Go.Proofs.Ytihfcfpkffebiaa
