/-
  Rows of layer 11: operations with their answers that came in, opened.
-/
import Derived.Test.YtajefffhdeljfaaRowS
import Derived.Test.YtajefffhdeljfaaPutH
import Derived.ProofKit
import Derived.OpenShut
namespace Go.Proofs.Ytajefffhdeljfaa
open Go.ChangeShapes Go.WideShapes Go.ChangeAt Go.RowKit Go.Deep

section
variable {H : Type} {enc : TypeId × Value → H} {w : World} {base : Nat} {spare : Nat → Bool} {held : Bool}

set_option maxRecDepth 100000 in
theorem open_put {fuel : Nat} {cs : List Value} {x : DataW H × List MemPlace} (hlen : cs.length = 6) (h : DataW.trod enc Try.prog w base spare held fuel 66 cs = some x) : ∃ s : PA, cs = s.row.toList ∧ isI s.o.bk ∧ isI s.o.kd := by
  match cs, hlen with
  | [c0, c1, c2, c3, c4, c5], _ =>
    obtain ⟨ys, n', hn', hy, hlen, hyl, hfl⟩ := DataW.trod_struct Try.underlying66 h
    have f0 := hfl 0 _ rfl
    have f1 := hfl 1 _ rfl
    have hys : ys.length = 2 := hyl
    match ys, hys with
    | [y0, y1], _ =>
      have s3 : Try.prog.cellsOf 3 = 1 := by kernel_rfl
      have s2 : Try.prog.cellsOf 2 = 1 := by kernel_rfl
      have s5 : Try.prog.cellsOf 45 = 5 := by kernel_rfl
      obtain ⟨zs, n2, hn2, hz, hlen2, hzl, hgl⟩ := DataW.trod_struct Try.underlying45 f0
      have g0 := hgl 0 _ rfl
      have g1 := hgl 1 _ rfl
      have g2 := hgl 2 _ rfl
      have g3 := hgl 3 _ rfl
      have g4 := hgl 4 _ rfl
      have hzs : zs.length = 5 := hzl
      match zs, hzs with
      | [z0, z1, z2, z3, z4], _ =>
        obtain ⟨b0, eb0, _, w0⟩ := DataW.trod_int Try.underlying3 g0
        obtain ⟨b1, eb1, _, w1⟩ := DataW.trod_int Try.underlying3 g1
        obtain ⟨b2, eb2, _, _⟩ := DataW.trod_int Try.underlying3 g2
        obtain ⟨b3, eb3, _, _⟩ := DataW.trod_int Try.underlying3 g3
        obtain ⟨b4, eb4, _, _⟩ := DataW.trod_int Try.underlying2 g4
        obtain ⟨c, ec, _, _⟩ := DataW.trod_int Try.underlying3 f1
        simp [s2, s3, s5] at eb0 eb1 eb2 eb3 eb4 ec
        subst eb0 eb1 eb2 eb3 eb4 ec
        exact ⟨⟨⟨b0, b1, b2, b3, b4⟩, c⟩, rfl, bounds_i64 w1, bounds_i64 w0⟩

set_option maxRecDepth 100000 in
theorem open_puts {r : Reach} {b0 : Nat} {v : Value} {d : DataW H} {p : List MemPlace} (hv : Value.okWide Try.prog w r b0 60 v) (h : DataW.Trod enc Try.prog w base spare held 60 v d p) :
    ∃ ad l cap, v = .slice ad (List.length l) cap ∧ PutsIn w ad l := by
  obtain ⟨a, n, c, rfl⟩ := okWide_slice Try.underlying60 hv
  obtain ⟨fuel, hf⟩ := h
  have hc6 : Try.prog.cellsOf 66 = 6 := by kernel_rfl
  rcases open_slice Try.underlying60 hf with ⟨he, _⟩ | ⟨a', len, cap, m, fu, D, Pl, he, _, hlc, hcm, hm, _, hi⟩
  · simp [Value.cells] at he
    obtain ⟨rfl, rfl, rfl⟩ := he
    exact ⟨none, [], 0, rfl, ⟨Nat.zero_le _, fun k o hk => by simp at hk⟩⟩
  · simp [Value.cells] at he
    obtain ⟨rfl, rfl, rfl⟩ := he
    have hlm : n ≤ m := by rw [hm]; split <;> omega
    have hex : ∀ i, i < n → ∃ o : PA, (isI o.o.bk ∧ isI o.o.kd) ∧ ∀ j u, o.row[j]? = some u → w.cell? ((a'.add (i * 6)).add j) = some u := by
      intro i hin
      obtain ⟨cs', hcs, ht⟩ := hi i (by omega)
      rw [hc6] at hcs
      obtain ⟨_, hcl, hat⟩ := World.cells?_some hcs
      obtain ⟨s, rfl, hbd⟩ := open_put hcl ht
      refine ⟨s, hbd, fun j u hu => ?_⟩
      have hj : j < 6 := by
        have := (Array.getElem?_eq_some_iff.1 hu).1
        simpa [PA.row] using this
      rw [hat j hj, ← hu]
      simp
    have hpick : ∃ g : Nat → PA, ∀ i, i < n → (isI (g i).o.bk ∧ isI (g i).o.kd) ∧ ∀ j u, (g i).row[j]? = some u → w.cell? ((a'.add (i * 6)).add j) = some u :=
      ⟨fun i => if h : i < n then (hex i h).choose else ⟨⟨0, 0, 0, 0, 0⟩, 0⟩, fun i hin => by simp only [dif_pos hin]; exact (hex i hin).choose_spec⟩
    obtain ⟨g, hg⟩ := hpick
    refine ⟨some a', (List.range n).map g, c, by simp, ⟨by simp; omega, fun k o hk => ?_⟩⟩
    simp only [List.getElem?_map] at hk
    have hkn : k < n := by
      apply Decidable.byContradiction
      intro hh
      rw [List.getElem?_eq_none (by simp; omega)] at hk
      cases hk
    rw [List.getElem?_range hkn] at hk
    simp at hk
    subst hk
    obtain ⟨hbd, hc⟩ := hg k hkn
    refine ⟨hbd, a', rfl, ?_, fun j u hu => hc j u hu⟩
    have h0 := cell_lt (hc 0 _ rfl)
    have : ((a'.add (k * 6)).add 0).block = a'.block := by unfold Addr.add; split <;> split <;> rfl
    rw [← this]; exact h0
end
end Go.Proofs.Ytajefffhdeljfaa
