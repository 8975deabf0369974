/-
  Rows of layer 9: steps and an inventory's configuration that came in, opened.
-/
import Derived.Test.YtkbnojjmpmlgjaaGreatRowA
import Derived.Test.YtkbnojjmpmlgjaaGreatRowS
import Derived.Test.YtkbnojjmpmlgjaaGreatSopH
import Derived.ProofKit
import Derived.OpenShut
namespace Go.Proofs.YtkbnojjmpmlgjaaGreat
open Go.ChangeShapes Go.WideShapes Go.ChangeAt Go.RowKit Go.Deep

section
variable {H : Type} {enc : TypeId × Value → H} {w : World} {base : Nat} {spare : Nat → Bool} {held : Bool}

set_option maxRecDepth 100000 in
theorem open_stock {r : Reach} {b0 : Nat} {v : Value} {d : DataW H} {p : List MemPlace} (hv : Value.okWide Tryz.prog w r b0 23 v) (h : DataW.Trod enc Tryz.prog w base spare held 23 v d p) :
    ∃ c o : Int, v = .agg #[.int .i64 c, .int .i64 o] := by
  obtain ⟨cs, rfl, hsz⟩ := okWide_struct Tryz.underlying23 hv
  have hc : Tryz.prog.cellsOf 23 = 2 := by kernel_rfl
  rw [hc] at hsz
  obtain ⟨⟨l⟩, hl⟩ : ∃ c : Array Value, c = cs := ⟨cs, rfl⟩
  subst hl
  match l, hsz with
  | [c0, c1], _ =>
    obtain ⟨fuel, hf⟩ := h
    obtain ⟨ys, n', hn', hy, hlen, hyl, hfl⟩ := DataW.trod_struct Tryz.underlying23 hf
    have f0 := hfl 0 _ rfl
    have f1 := hfl 1 _ rfl
    have hys : ys.length = 2 := hyl
    match ys, hys with
    | [y0, y1], _ =>
      obtain ⟨a, ea, _, _⟩ := DataW.trod_int Tryz.underlying3 f0
      obtain ⟨b, eb, _, _⟩ := DataW.trod_int Tryz.underlying3 f1
      have s3 : Tryz.prog.cellsOf 3 = 1 := by kernel_rfl
      simp [s3, Value.cells] at ea eb
      subst ea eb
      exact ⟨a, b, rfl⟩

set_option maxRecDepth 100000 in
theorem open_sop {fuel : Nat} {cs : List Value} {x : DataW H × List MemPlace} (hlen : cs.length = 9) (h : DataW.trod enc Tryz.prog w base spare held fuel 45 cs = some x) : ∃ s : SOp, cs = s.row.toList := by
  match cs, hlen with
  | [c0, c1, c2, c3, c4, c5, c6, c7, c8], _ =>
    obtain ⟨ys, n', hn', hy, hlen, hyl, hfl⟩ := DataW.trod_struct Tryz.underlying45 h
    have f0 := hfl 0 _ rfl
    have f1 := hfl 1 _ rfl
    have f2 := hfl 2 _ rfl
    have f3 := hfl 3 _ rfl
    have f4 := hfl 4 _ rfl
    have hys : ys.length = 5 := hyl
    match ys, hys with
    | [y0, y1, y2, y3, y4], _ =>
      have s3 : Tryz.prog.cellsOf 3 = 1 := by kernel_rfl
      have s2 : Tryz.prog.cellsOf 2 = 1 := by kernel_rfl
      have s4 : Tryz.prog.cellsOf 4 = 1 := by kernel_rfl
      have s5 : Tryz.prog.cellsOf 43 = 5 := by kernel_rfl
      obtain ⟨zs, n2, hn2, hz, hlen2, hzl, hgl⟩ := DataW.trod_struct Tryz.underlying43 f1
      have g0 := hgl 0 _ rfl
      have g1 := hgl 1 _ rfl
      have g2 := hgl 2 _ rfl
      have g3 := hgl 3 _ rfl
      have g4 := hgl 4 _ rfl
      have hzs : zs.length = 5 := hzl
      match zs, hzs with
      | [z0, z1, z2, z3, z4], _ =>
        obtain ⟨a, ea, _, _⟩ := DataW.trod_int Tryz.underlying3 f0
        obtain ⟨b0, eb0, _, _⟩ := DataW.trod_int Tryz.underlying3 g0
        obtain ⟨b1, eb1, _, _⟩ := DataW.trod_int Tryz.underlying3 g1
        obtain ⟨b2, eb2, _, _⟩ := DataW.trod_int Tryz.underlying3 g2
        obtain ⟨b3, eb3, _, _⟩ := DataW.trod_int Tryz.underlying3 g3
        obtain ⟨b4, eb4, _, _⟩ := DataW.trod_int Tryz.underlying2 g4
        obtain ⟨c, ec, _, _⟩ := DataW.trod_int Tryz.underlying3 f2
        obtain ⟨d, ed, _, _⟩ := DataW.trod_int Tryz.underlying3 f3
        obtain ⟨e, ee, _⟩ := DataW.trod_bool Tryz.underlying4 f4
        simp [s2, s3, s4, s5] at ea eb0 eb1 eb2 eb3 eb4 ec ed ee
        subst ea eb0 eb1 eb2 eb3 eb4 ec ed ee
        exact ⟨⟨a, ⟨b0, b1, b2, b3, b4⟩, c, d, e⟩, rfl⟩

set_option maxRecDepth 100000 in
theorem open_sops {r : Reach} {b0 : Nat} {v : Value} {d : DataW H} {p : List MemPlace} (hv : Value.okWide Tryz.prog w r b0 24 v) (h : DataW.Trod enc Tryz.prog w base spare held 24 v d p) :
    ∃ ad l cap, v = .slice ad (List.length l) cap ∧ SopsIn w ad l := by
  obtain ⟨a, n, c, rfl⟩ := okWide_slice Tryz.underlying24 hv
  obtain ⟨fuel, hf⟩ := h
  have hc9 : Tryz.prog.cellsOf 45 = 9 := by kernel_rfl
  rcases open_slice Tryz.underlying24 hf with ⟨he, _⟩ | ⟨a', len, cap, m, fu, D, Pl, he, _, hlc, hcm, hm, _, hi⟩
  · simp [Value.cells] at he
    obtain ⟨rfl, rfl, rfl⟩ := he
    exact ⟨none, [], 0, rfl, ⟨Nat.zero_le _, fun k o hk => by simp at hk⟩⟩
  · simp [Value.cells] at he
    obtain ⟨rfl, rfl, rfl⟩ := he
    have hlm : n ≤ m := by rw [hm]; split <;> omega
    have hex : ∀ i, i < n → ∃ o : SOp, ∀ j u, o.row[j]? = some u → w.cell? ((a'.add (i * 9)).add j) = some u := by
      intro i hin
      obtain ⟨cs', hcs, ht⟩ := hi i (by omega)
      rw [hc9] at hcs
      obtain ⟨_, hcl, hat⟩ := World.cells?_some hcs
      obtain ⟨s, rfl⟩ := open_sop hcl ht
      refine ⟨s, fun j u hu => ?_⟩
      have hj : j < 9 := by
        have := (Array.getElem?_eq_some_iff.1 hu).1
        simpa [SOp.row] using this
      rw [hat j hj, ← hu]
      simp
    have hpick : ∃ g : Nat → SOp, ∀ i, i < n → ∀ j u, (g i).row[j]? = some u → w.cell? ((a'.add (i * 9)).add j) = some u :=
      ⟨fun i => if h : i < n then (hex i h).choose else ⟨0, ⟨0, 0, 0, 0, 0⟩, 0, 0, false⟩, fun i hin => by simp only [dif_pos hin]; exact (hex i hin).choose_spec⟩
    obtain ⟨g, hg⟩ := hpick
    refine ⟨some a', (List.range n).map g, c, by simp, ⟨by simp; omega, fun k o hk => ?_⟩⟩
    simp only [List.getElem?_map] at hk
    have hkn : k < n := by
      apply Decidable.byContradiction
      intro hh
      rw [List.getElem?_eq_none (by simp; omega)] at hk
      cases hk
    rw [List.getElem?_range hkn] at hk
    simp at hk
    subst hk
    have hc := hg k hkn
    refine ⟨a', rfl, ?_, fun j u hu => hc j u hu⟩
    have h0 := cell_lt (hc 0 _ rfl)
    have : ((a'.add (k * 9)).add 0).block = a'.block := by unfold Addr.add; split <;> split <;> rfl
    rw [← this]; exact h0
end
end Go.Proofs.YtkbnojjmpmlgjaaGreat
