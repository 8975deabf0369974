/-
  Rows of layer 5: steps of a disk that came in, opened.
-/
import Derived.Test.YtgcmagoecapgoaaRowY
namespace Go.Proofs.Ytgcmagoecapgoaa
open Go.ChangeShapes Go.WideShapes Go.ChangeAt Go.RowKit Go.Deep

/-- A step of a disk. -/
structure DOp where
  kd : Int
  n : Int
  nm : Nam
  to_ : Nam
  b : List UInt8
def DOp.cells (w : World) (a : Addr) (ab : Option Addr) (cb : Nat) (o : DOp) : Prop := w.cell? a = some (.int .i64 o.kd) ∧ w.cell? (a.add 1) = some (.int .i64 o.n) ∧ w.cell? (a.add 2) = some (encStr o.nm) ∧ w.cell? (a.add 3) = some (encStr o.to_) ∧ w.cell? (a.add 4) = some (.slice ab o.b.length cb)
/-- Steps behind an address: five cells each. -/
def DOpsIn (w : World) (ad : Option Addr) (l : List DOp) : Prop := ∀ (k : Nat) (o : DOp), l[k]? = some o → ∃ a ab cb, ad = some a ∧ a.block < w.heap.size ∧ o.cells w (a.add (k * 5)) ab cb ∧
  o.b.length ≤ maxLen ∧ o.nm.length ≤ maxLen ∧ o.to_.length ≤ maxLen ∧ (-9223372036854775808 ≤ o.n ∧ o.n ≤ 9223372036854775807) ∧ BytIn w ab o.b

section
variable {H : Type} {enc : TypeId × Value → H} {w : World} {base : Nat} {spare : Nat → Bool} {held : Bool}

set_option maxRecDepth 100000 in
/-- One row of bytes. -/
theorem brow_in {fuel : Nat} {v : Value} {y : DataW H × List MemPlace} (hf : DataW.trod enc Try.prog w base spare held fuel 22 [v] = some y) :
    ∃ ad l cap, v = .slice ad (List.length l) cap ∧ BytIn w ad l ∧ l.length ≤ cap ∧ cap ≤ maxLen := by
  rcases open_slice1 Try.underlying22 (by kernel_rfl) hf with ⟨he, _⟩ | ⟨a', len, cap, m, fu, V, D, Pl, he, _, hlc, hcm, hm, _, hi⟩
  · simp at he
    subst he
    exact ⟨none, [], 0, rfl, fun k o hk => by simp at hk, Nat.le_refl _, Nat.zero_le _⟩
  · simp at he
    subst he
    have hlm : len ≤ m := by rw [hm]; split <;> omega
    have hex : ∀ i, i < len → ∃ x : UInt8, w.cell? (a'.add i) = some (.int .u8 x.toNat) ∧ a'.block < w.heap.size := by
      intro i hin
      obtain ⟨h1, ht⟩ := hi i (by omega)
      obtain ⟨x, ex, _, hwf⟩ := DataW.trod_int Try.underlying5 ht
      simp at ex
      rw [ex] at h1
      have hx : 0 ≤ x ∧ x ≤ 255 := by
        simp [Lit.wf, IntKind.min, IntKind.max, IntKind.signed, IntKind.bits] at hwf
        omega
      refine ⟨UInt8.ofNat x.toNat, ?_, ?_⟩
      · rw [h1]
        have : ((UInt8.ofNat x.toNat).toNat : Int) = x := by
          rw [UInt8.toNat_ofNat']
          omega
        rw [this]
      · have : (a'.add i).block = a'.block := by unfold Addr.add; split <;> rfl
        have := cell_lt h1
        omega
    have hpick : ∃ g : Nat → UInt8, ∀ i, i < len → w.cell? (a'.add i) = some (.int .u8 (g i).toNat) ∧ a'.block < w.heap.size :=
      ⟨fun i => if h : i < len then (hex i h).choose else 0, fun i hin => by simp only [dif_pos hin]; exact (hex i hin).choose_spec⟩
    obtain ⟨g, hg⟩ := hpick
    refine ⟨some a', (List.range len).map g, cap, by simp, fun k o hk => ?_, by simp; exact hlc, hcm⟩
    simp only [List.getElem?_map] at hk
    have hkn : k < len := by
      apply Decidable.byContradiction
      intro hh
      rw [List.getElem?_eq_none (by simp; omega)] at hk
      cases hk
    rw [List.getElem?_range hkn] at hk
    simp at hk
    subst hk
    exact ⟨a', rfl, (hg k hkn).2, (hg k hkn).1⟩

set_option maxRecDepth 100000 in
theorem str_in {fuel : Nat} {v : Value} {y : DataW H × List MemPlace} (hf : DataW.trod enc Try.prog w base spare held fuel 9 [v] = some y) : ∃ l : List UInt8, v = encStr l ∧ l.length ≤ maxLen := by
  obtain ⟨s', hs, _, hl⟩ := DataW.trod_string Try.underlying9 hf
  simp at hs
  subst hs
  refine ⟨s'.data.toList, rfl, ?_⟩
  rw [Array.length_toList]
  exact hl

set_option maxRecDepth 100000 in
theorem open_dops {r : Reach} {b0 : Nat} {v : Value} {d : DataW H} {p : List MemPlace} (hv : Value.okWide Try.prog w r b0 40 v) (h : DataW.Trod enc Try.prog w base spare held 40 v d p) :
    ∃ ad l cap, v = .slice ad (List.length l) cap ∧ DOpsIn w ad l := by
  obtain ⟨a, n, c, rfl⟩ := okWide_slice Try.underlying40 hv
  obtain ⟨fuel, hf⟩ := h
  rcases open_slice_fields Try.underlying40 Try.underlying46 (by kernel_rfl) (by kernel_rfl) hf with ⟨he, _⟩ | ⟨a', len, cap, m, D, Pl, he, _, hlc, hcm, hm, _, hi⟩
  · simp [Value.cells] at he
    obtain ⟨rfl, rfl, rfl⟩ := he
    exact ⟨none, [], 0, rfl, fun k o hk => by simp at hk⟩
  · simp [Value.cells] at he
    obtain ⟨rfl, rfl, rfl⟩ := he
    have hlm : n ≤ m := by rw [hm]; split <;> omega
    have hex : ∀ i, i < n → ∃ o : DOp, ∃ ab cb, o.cells w (a'.add (i * 5)) ab cb ∧ o.b.length ≤ maxLen ∧ o.nm.length ≤ maxLen ∧ o.to_.length ≤ maxLen ∧ (-9223372036854775808 ≤ o.n ∧ o.n ≤ 9223372036854775807) ∧ BytIn w ab o.b := by
      intro i hin
      obtain ⟨ys, k, _, _, _, hfld⟩ := hi i (by omega)
      obtain ⟨v0, y0, c0, _, t0⟩ := hfld 0 _ rfl
      obtain ⟨v1, y1, c1, _, t1⟩ := hfld 1 _ rfl
      obtain ⟨v2, y2, c2, _, t2⟩ := hfld 2 _ rfl
      obtain ⟨v3, y3, c3, _, t3⟩ := hfld 3 _ rfl
      obtain ⟨v4, y4, c4, _, t4⟩ := hfld 4 _ rfl
      obtain ⟨n0, e0, _, _⟩ := DataW.trod_int Try.underlying3 t0
      obtain ⟨n1, e1, _, w1⟩ := DataW.trod_int Try.underlying3 t1
      obtain ⟨s2, rfl, l2⟩ := str_in t2
      obtain ⟨s3, rfl, l3⟩ := str_in t3
      obtain ⟨ab, lb, cb, rfl, hB, hb1, hb2⟩ := brow_in t4
      simp at e0 e1
      subst e0 e1
      refine ⟨⟨n0, n1, s2, s3, lb⟩, ab, cb, ⟨c0, ?_, ?_, ?_, ?_⟩, Nat.le_trans hb1 hb2, l2, l3, bounds_i64 w1, hB⟩
      · rw [Go.Deep.add_add]; exact c1
      · rw [Go.Deep.add_add]; exact c2
      · rw [Go.Deep.add_add]; exact c3
      · rw [Go.Deep.add_add]; exact c4
    have hpick : ∃ g : Nat → DOp, ∀ i, i < n → ∃ ab cb, (g i).cells w (a'.add (i * 5)) ab cb ∧ (g i).b.length ≤ maxLen ∧ (g i).nm.length ≤ maxLen ∧ (g i).to_.length ≤ maxLen ∧ (-9223372036854775808 ≤ (g i).n ∧ (g i).n ≤ 9223372036854775807) ∧ BytIn w ab (g i).b :=
      ⟨fun i => if h : i < n then (hex i h).choose else ⟨0, 0, [], [], []⟩, fun i hin => by simp only [dif_pos hin]; exact (hex i hin).choose_spec⟩
    obtain ⟨g, hg⟩ := hpick
    refine ⟨some a', (List.range n).map g, c, by simp, fun k o hk => ?_⟩
    simp only [List.getElem?_map] at hk
    have hkn : k < n := by
      apply Decidable.byContradiction
      intro hh
      rw [List.getElem?_eq_none (by simp; omega)] at hk
      cases hk
    rw [List.getElem?_range hkn] at hk
    simp at hk
    subst hk
    obtain ⟨ab, cb, h1, h2⟩ := hg k hkn
    have hb := cell_lt h1.1
    have : (a'.add (k * 5)).block = a'.block := by unfold Addr.add; split <;> rfl
    exact ⟨a', ab, cb, rfl, by omega, h1, h2⟩
end
theorem DOpsIn.at_ {w w' : World} {ad : Option Addr} {l : List DOp} (h : DOpsIn w ad l) {S : Nat → Prop} (hc : Chg S w w') (hS : ∀ i, i < w.heap.size → ¬ S i) {k : Nat} {o : DOp} (hk : l[k]? = some o) : ∃ a ab cb, ad = some a ∧ o.cells w' (a.add (k * 5)) ab cb ∧
    o.b.length ≤ maxLen ∧ o.nm.length ≤ maxLen ∧ o.to_.length ≤ maxLen ∧ (-9223372036854775808 ≤ o.n ∧ o.n ≤ 9223372036854775807) ∧ BytIn w ab o.b := by
  obtain ⟨a, ab, cb, h1, h2, ⟨q0, q1, q2, q3, q4⟩, r⟩ := h k o hk
  have hcell : ∀ p : Addr, p.block = a.block → w'.cell? p = w.cell? p := fun p hb => hc.cell (by rw [hb]; exact h2) (by rw [hb]; exact hS _ h2)
  have b0 : (a.add (k * 5)).block = a.block := by unfold Addr.add; split <;> rfl
  have b1 : ∀ j, ((a.add (k * 5)).add j).block = a.block := fun j => by rw [← b0]; generalize a.add (k * 5) = p; unfold Addr.add; split <;> rfl
  exact ⟨a, ab, cb, h1, ⟨by rw [hcell _ b0]; exact q0, by rw [hcell _ (b1 _)]; exact q1, by rw [hcell _ (b1 _)]; exact q2, by rw [hcell _ (b1 _)]; exact q3, by rw [hcell _ (b1 _)]; exact q4⟩, r⟩
end Go.Proofs.Ytgcmagoecapgoaa
