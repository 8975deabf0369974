/-
  Rows of layer 10: what came in, opened.
-/
import Derived.Test.YtddnpjlcmokbiaaRows
import Derived.Test.YtddnpjlcmokbiaaRowA
import Derived.Test.YtddnpjlcmokbiaaPurseK
import Derived.WalkKit
import Derived.ProofKit
import Derived.OpenShut
namespace Go.Proofs.Ytddnpjlcmokbiaa
open Go.ChangeShapes Go.WideShapes Go.ChangeAt Go.RowKit Go.Deep

section
variable {H : Type} {enc : TypeId × Value → H} {w : World} {base : Nat} {spare : Nat → Bool} {held : Bool}

set_option maxRecDepth 100000 in
theorem open_funds {r : Reach} {b0 : Nat} {v : Value} {d : DataW H} {p : List MemPlace} (hv : Value.okWide Try.prog w r b0 22 v) (h : DataW.Trod enc Try.prog w base spare held 22 v d p) :
    ∃ a b c e : Int, v = .agg #[.int .i64 a, .int .i64 b, .int .i64 c, .int .i64 e] := by
  have hc : Try.prog.cellsOf 22 = 4 := by kernel_rfl
  have hv' : ∃ cs, v = .agg cs ∧ cs.size = 4 := by
    simp only [Value.okWide, Try.underlying22] at hv
    obtain ⟨cs, h1, h2, _⟩ := hv
    exact ⟨cs, h1, by rw [h2, hc]⟩
  obtain ⟨⟨l⟩, rfl, hsz⟩ := hv'
  match l, hsz with
  | [c0, c1, c2, c3], _ =>
    obtain ⟨fuel, hf⟩ := h
    obtain ⟨y0, y1, y2, y3, n, _, h0, h1, h2, h3⟩ := trod_array4 Try.underlying22 (by kernel_rfl) hf
    obtain ⟨a, ea, _, _⟩ := DataW.trod_int Try.underlying2 h0
    obtain ⟨b, eb, _, _⟩ := DataW.trod_int Try.underlying2 h1
    obtain ⟨c, ec, _, _⟩ := DataW.trod_int Try.underlying2 h2
    obtain ⟨e, ee, _, _⟩ := DataW.trod_int Try.underlying2 h3
    simp at ea eb ec ee
    subst ea eb ec ee
    exact ⟨a, b, c, e, rfl⟩

theorem cell_lt {p : Addr} {u : Value} (h : w.cell? p = some u) : p.block < w.heap.size := by
  apply Decidable.byContradiction
  intro hn
  have h0 : w.heap[p.block]? = none := by simp; omega
  simp [World.cell?, h0] at h

set_option maxRecDepth 100000 in
theorem open_ops {r : Reach} {b0 : Nat} {v : Value} {d : DataW H} {p : List MemPlace} (hv : Value.okWide Try.prog w r b0 23 v) (h : DataW.Trod enc Try.prog w base spare held 23 v d p) :
    ∃ ad l cap, v = .slice ad (List.length l) cap ∧ OpsIn w ad l := by
  obtain ⟨a, n, c, rfl⟩ := okWide_slice Try.underlying23 hv
  obtain ⟨fuel, hf⟩ := h
  rcases open_slice_fields Try.underlying23 Try.underlying33 (by kernel_rfl) (by kernel_rfl) hf with ⟨he, _⟩ | ⟨a', len, cap, m, D, Pl, he, _, hlc, hcm, hm, _, hi⟩
  · simp [Value.cells] at he
    obtain ⟨rfl, rfl, rfl⟩ := he
    exact ⟨none, [], 0, rfl, ⟨Nat.zero_le _, fun k o hk => by simp at hk⟩⟩
  · simp [Value.cells] at he
    obtain ⟨rfl, rfl, rfl⟩ := he
    have hlm : n ≤ m := by rw [hm]; split <;> omega
    have hex : ∀ i, i < n → ∃ o : POp, ∀ j u, o.row[j]? = some u → w.cell? (a'.add (i * 5 + j)) = some u := by
      intro i hin
      obtain ⟨ys, k, _, _, _, hfld⟩ := hi i (by omega)
      obtain ⟨v0, y0, c0, _, t0⟩ := hfld 0 _ rfl
      obtain ⟨v1, y1, c1, _, t1⟩ := hfld 1 _ rfl
      obtain ⟨v2, y2, c2, _, t2⟩ := hfld 2 _ rfl
      obtain ⟨v3, y3, c3, _, t3⟩ := hfld 3 _ rfl
      obtain ⟨v4, y4, c4, _, t4⟩ := hfld 4 _ rfl
      obtain ⟨n0, e0, _, _⟩ := DataW.trod_int Try.underlying3 t0
      obtain ⟨n1, e1, _, _⟩ := DataW.trod_int Try.underlying3 t1
      obtain ⟨n2, e2, _, _⟩ := DataW.trod_int Try.underlying3 t2
      obtain ⟨n3, e3, _, _⟩ := DataW.trod_int Try.underlying3 t3
      obtain ⟨n4, e4, _, _⟩ := DataW.trod_int Try.underlying2 t4
      simp at e0 e1 e2 e3 e4
      subst e0 e1 e2 e3 e4
      refine ⟨⟨n0, n1, n2, n3, n4⟩, fun j u hu => ?_⟩
      match j, hu with
      | 0, hu => simp [POp.row] at hu; subst hu; exact c0
      | 1, hu => simp [POp.row] at hu; subst hu; exact c1
      | 2, hu => simp [POp.row] at hu; subst hu; exact c2
      | 3, hu => simp [POp.row] at hu; subst hu; exact c3
      | 4, hu => simp [POp.row] at hu; subst hu; exact c4
      | j + 5, hu => simp [POp.row] at hu
    have hpick : ∃ g : Nat → POp, ∀ i, i < n → ∀ j u, (g i).row[j]? = some u → w.cell? (a'.add (i * 5 + j)) = some u :=
      ⟨fun i => if h : i < n then (hex i h).choose else ⟨0, 0, 0, 0, 0⟩, fun i hin => by simp only [dif_pos hin]; exact (hex i hin).choose_spec⟩
    obtain ⟨g, hg⟩ := hpick
    refine ⟨some a', (List.range n).map g, c, by simp, ⟨by simp; omega, fun k o hk => ?_⟩⟩
    simp only [List.getElem?_map] at hk
    have hkn : k < n := by
      apply Decidable.byContradiction
      intro hh
      rw [List.getElem?_eq_none (by simp; omega)] at hk
      cases hk
    rw [List.getElem?_range hkn] at hk
    simp at hk
    subst hk
    have hc := hg k hkn
    refine ⟨a', rfl, ?_, fun j u hu => ?_⟩
    · have h0 := cell_lt (hc 0 _ rfl)
      have : (a'.add (k * 5 + 0)).block = a'.block := by unfold Addr.add; split <;> rfl
      rw [← this]; exact h0
    · rw [Go.Deep.add_add]; exact hc j u hu
end

theorem purOwn : ownKnob Try.prog.godebug = none := by kernel_rfl

end Go.Proofs.Ytddnpjlcmokbiaa
