/-
  Rows of layer 6: a slice of rows of bytes that came in, opened.
-/
import Derived.Test.YtpbjompopgdbjaaZRowX
import Derived.Test.YtpbjompopgdbjaaZSealD
import Derived.Test.YtpbjompopgdbjaaZSealU
namespace Go.Proofs.Ytpbjompopgdbjaa
open Go.ChangeShapes Go.WideShapes Go.ChangeAt Go.RowKit Go.Deep

section
variable {H : Type} {enc : TypeId × Value → H} {w : World} {base : Nat} {spare : Nat → Bool} {held : Bool}

set_option maxRecDepth 100000 in
/-- One row of bytes. -/
theorem row_in {fuel : Nat} {v : Value} {y : DataW H × List MemPlace} (hf : DataW.trod enc Try.prog w base spare held fuel 31 [v] = some y) :
    ∃ ad l cap, v = .slice ad (List.length l) cap ∧ BytIn w ad l ∧ l.length ≤ cap ∧ cap ≤ maxLen := by
  rcases open_slice1 Try.underlying31 (by kernel_rfl) hf with ⟨he, _⟩ | ⟨a', len, cap, m, fu, V, D, Pl, he, _, hlc, hcm, hm, _, hi⟩
  · simp at he
    subst he
    exact ⟨none, [], 0, rfl, fun k o hk => by simp at hk, Nat.le_refl _, Nat.zero_le _⟩
  · simp at he
    subst he
    have hlm : len ≤ m := by rw [hm]; split <;> omega
    have hex : ∀ i, i < len → ∃ x : UInt8, w.cell? (a'.add i) = some (.int .u8 x.toNat) ∧ a'.block < w.heap.size := by
      intro i hin
      obtain ⟨h1, ht⟩ := hi i (by omega)
      obtain ⟨x, ex, _, hwf⟩ := DataW.trod_int Try.underlying5 ht
      simp at ex
      rw [ex] at h1
      have hx : 0 ≤ x ∧ x ≤ 255 := by
        simp [Lit.wf, IntKind.min, IntKind.max, IntKind.signed, IntKind.bits] at hwf
        omega
      refine ⟨UInt8.ofNat x.toNat, ?_, ?_⟩
      · rw [h1]
        have : ((UInt8.ofNat x.toNat).toNat : Int) = x := by
          rw [UInt8.toNat_ofNat']
          omega
        rw [this]
      · have : (a'.add i).block = a'.block := by unfold Addr.add; split <;> rfl
        have := cell_lt h1
        omega
    have hpick : ∃ g : Nat → UInt8, ∀ i, i < len → w.cell? (a'.add i) = some (.int .u8 (g i).toNat) ∧ a'.block < w.heap.size :=
      ⟨fun i => if h : i < len then (hex i h).choose else 0, fun i hin => by simp only [dif_pos hin]; exact (hex i hin).choose_spec⟩
    obtain ⟨g, hg⟩ := hpick
    refine ⟨some a', (List.range len).map g, cap, by simp, fun k o hk => ?_, by simp; exact hlc, hcm⟩
    simp only [List.getElem?_map] at hk
    have hkn : k < len := by
      apply Decidable.byContradiction
      intro hh
      rw [List.getElem?_eq_none (by simp; omega)] at hk
      cases hk
    rw [List.getElem?_range hkn] at hk
    simp at hk
    subst hk
    exact ⟨a', rfl, (hg k hkn).2, (hg k hkn).1⟩

set_option maxRecDepth 100000 in
theorem open_rows {r : Reach} {b0 : Nat} {v : Value} {d : DataW H} {p : List MemPlace} (hv : Value.okWide Try.prog w r b0 27 v) (h : DataW.Trod enc Try.prog w base spare held 27 v d p) :
    ∃ ad l cap, v = .slice ad (List.length l) cap ∧ RowsB w ad l := by
  obtain ⟨a, n, c, rfl⟩ := okWide_slice Try.underlying27 hv
  obtain ⟨fuel, hf⟩ := h
  rcases open_slice1 Try.underlying27 (by kernel_rfl) hf with ⟨he, _⟩ | ⟨a', len, cap, m, fu, V, D, Pl, he, _, hlc, hcm, hm, _, hi⟩
  · simp [Value.cells] at he
    obtain ⟨rfl, rfl, rfl⟩ := he
    exact ⟨none, [], 0, rfl, fun k o hk => by simp at hk⟩
  · simp [Value.cells] at he
    obtain ⟨rfl, rfl, rfl⟩ := he
    have hlm : n ≤ m := by rw [hm]; split <;> omega
    have hex : ∀ i, i < n → ∃ x : Rec, x.length ≤ maxLen ∧ ∃ ao c, w.cell? (a'.add i) = some (.slice ao x.length c) ∧ BytIn w ao x := by
      intro i hin
      obtain ⟨h1, ht⟩ := hi i (by omega)
      obtain ⟨ao, l, cap, hV, hB, hl1, hl2⟩ := row_in ht
      rw [hV] at h1
      exact ⟨l, Nat.le_trans hl1 hl2, ao, cap, h1, hB⟩
    have hpick : ∃ g : Nat → Rec, ∀ i, i < n → (g i).length ≤ maxLen ∧ ∃ ao c, w.cell? (a'.add i) = some (.slice ao (g i).length c) ∧ BytIn w ao (g i) :=
      ⟨fun i => if h : i < n then (hex i h).choose else [], fun i hin => by simp only [dif_pos hin]; exact (hex i hin).choose_spec⟩
    obtain ⟨g, hg⟩ := hpick
    refine ⟨some a', (List.range n).map g, c, by simp, fun k o hk => ?_⟩
    simp only [List.getElem?_map] at hk
    have hkn : k < n := by
      apply Decidable.byContradiction
      intro hh
      rw [List.getElem?_eq_none (by simp; omega)] at hk
      cases hk
    rw [List.getElem?_range hkn] at hk
    simp at hk
    subst hk
    obtain ⟨h1, ao, c', h2, h3⟩ := hg k hkn
    have hb := cell_lt h2
    have : (a'.add k).block = a'.block := by unfold Addr.add; split <;> rfl
    exact ⟨h1, a', ao, c', rfl, by omega, h2, h3⟩
end
end Go.Proofs.Ytpbjompopgdbjaa

namespace Go.Proofs.Ytpbjompopgdbjaa
open Go.ChangeShapes Go.WideShapes Go.ChangeAt Go.RowKit Go.Deep

/-- A step of a log. -/
structure LOp where
  kd : Int
  n : Int
  b : Rec
  l : List Rec
/-- Steps behind an address: four cells each. -/
def LOpsIn (w : World) (ad : Option Addr) (l : List LOp) : Prop := ∀ k o, l[k]? = some o → ∃ a ab cb al cl, ad = some a ∧ a.block < w.heap.size ∧
  w.cell? (a.add (k * 4)) = some (.int .i64 o.kd) ∧ w.cell? ((a.add (k * 4)).add 1) = some (.int .i64 o.n) ∧ w.cell? ((a.add (k * 4)).add 2) = some (.slice ab o.b.length cb) ∧ w.cell? ((a.add (k * 4)).add 3) = some (.slice al o.l.length cl) ∧
  o.b.length ≤ maxLen ∧ (-9223372036854775808 ≤ o.n ∧ o.n ≤ 9223372036854775807) ∧ BytIn w ab o.b ∧ RowsB w al o.l

section
variable {H : Type} {enc : TypeId × Value → H} {w : World} {base : Nat} {spare : Nat → Bool} {held : Bool}

set_option maxRecDepth 100000 in
/-- Rows of bytes, by their cells. -/
theorem rows_in {fuel : Nat} {v : Value} {y : DataW H × List MemPlace} (hf : DataW.trod enc Try.prog w base spare held fuel 27 [v] = some y) :
    ∃ ad l cap, v = .slice ad (List.length l) cap ∧ RowsB w ad l := by
  rcases open_slice1 Try.underlying27 (by kernel_rfl) hf with ⟨he, _⟩ | ⟨a', n, c, m, fu, V, D, Pl, he, _, hlc, hcm, hm, _, hi⟩
  · simp at he
    subst he
    exact ⟨none, [], 0, rfl, fun k o hk => by simp at hk⟩
  · simp at he
    subst he
    have hlm : n ≤ m := by rw [hm]; split <;> omega
    have hex : ∀ i, i < n → ∃ x : Rec, x.length ≤ maxLen ∧ ∃ ao c, w.cell? (a'.add i) = some (.slice ao x.length c) ∧ BytIn w ao x := by
      intro i hin
      obtain ⟨h1, ht⟩ := hi i (by omega)
      obtain ⟨ao, l, cap, hV, hB, hl1, hl2⟩ := row_in ht
      rw [hV] at h1
      exact ⟨l, Nat.le_trans hl1 hl2, ao, cap, h1, hB⟩
    have hpick : ∃ g : Nat → Rec, ∀ i, i < n → (g i).length ≤ maxLen ∧ ∃ ao c, w.cell? (a'.add i) = some (.slice ao (g i).length c) ∧ BytIn w ao (g i) :=
      ⟨fun i => if h : i < n then (hex i h).choose else [], fun i hin => by simp only [dif_pos hin]; exact (hex i hin).choose_spec⟩
    obtain ⟨g, hg⟩ := hpick
    refine ⟨some a', (List.range n).map g, c, by simp, fun k o hk => ?_⟩
    simp only [List.getElem?_map] at hk
    have hkn : k < n := by
      apply Decidable.byContradiction
      intro hh
      rw [List.getElem?_eq_none (by simp; omega)] at hk
      cases hk
    rw [List.getElem?_range hkn] at hk
    simp at hk
    subst hk
    obtain ⟨h1, ao, c', h2, h3⟩ := hg k hkn
    have hb := cell_lt h2
    have : (a'.add k).block = a'.block := by unfold Addr.add; split <;> rfl
    exact ⟨h1, a', ao, c', rfl, by omega, h2, h3⟩

set_option maxRecDepth 100000 in
theorem open_lops {r : Reach} {b0 : Nat} {v : Value} {d : DataW H} {p : List MemPlace} (hv : Value.okWide Try.prog w r b0 22 v) (h : DataW.Trod enc Try.prog w base spare held 22 v d p) :
    ∃ ad l cap, v = .slice ad (List.length l) cap ∧ LOpsIn w ad l := by
  obtain ⟨a, n, c, rfl⟩ := okWide_slice Try.underlying22 hv
  obtain ⟨fuel, hf⟩ := h
  rcases open_slice_fields Try.underlying22 Try.underlying33 (by kernel_rfl) (by kernel_rfl) hf with ⟨he, _⟩ | ⟨a', len, cap, m, D, Pl, he, _, hlc, hcm, hm, _, hi⟩
  · simp [Value.cells] at he
    obtain ⟨rfl, rfl, rfl⟩ := he
    exact ⟨none, [], 0, rfl, fun k o hk => by simp at hk⟩
  · simp [Value.cells] at he
    obtain ⟨rfl, rfl, rfl⟩ := he
    have hlm : n ≤ m := by rw [hm]; split <;> omega
    have hex : ∀ i, i < n → ∃ o : LOp, ∃ ab cb al cl, w.cell? (a'.add (i * 4)) = some (.int .i64 o.kd) ∧ w.cell? (a'.add (i * 4 + 1)) = some (.int .i64 o.n) ∧ w.cell? (a'.add (i * 4 + 2)) = some (.slice ab o.b.length cb) ∧ w.cell? (a'.add (i * 4 + 3)) = some (.slice al o.l.length cl) ∧
        o.b.length ≤ maxLen ∧ (-9223372036854775808 ≤ o.n ∧ o.n ≤ 9223372036854775807) ∧ BytIn w ab o.b ∧ RowsB w al o.l := by
      intro i hin
      obtain ⟨ys, k, _, _, _, hfld⟩ := hi i (by omega)
      obtain ⟨v0, y0, c0, _, t0⟩ := hfld 0 _ rfl
      obtain ⟨v1, y1, c1, _, t1⟩ := hfld 1 _ rfl
      obtain ⟨v2, y2, c2, _, t2⟩ := hfld 2 _ rfl
      obtain ⟨v3, y3, c3, _, t3⟩ := hfld 3 _ rfl
      obtain ⟨n0, e0, _, _⟩ := DataW.trod_int Try.underlying3 t0
      obtain ⟨n1, e1, _, w1⟩ := DataW.trod_int Try.underlying3 t1
      obtain ⟨ab, lb, cb, rfl, hB, hb1, hb2⟩ := row_in t2
      obtain ⟨al, ll, cl, rfl, hL⟩ := rows_in t3
      simp at e0 e1
      subst e0 e1
      exact ⟨⟨n0, n1, lb, ll⟩, ab, cb, al, cl, c0, c1, c2, c3, Nat.le_trans hb1 hb2, bounds_i64 w1, hB, hL⟩
    have hpick : ∃ g : Nat → LOp, ∀ i, i < n → ∃ ab cb al cl, w.cell? (a'.add (i * 4)) = some (.int .i64 (g i).kd) ∧ w.cell? (a'.add (i * 4 + 1)) = some (.int .i64 (g i).n) ∧ w.cell? (a'.add (i * 4 + 2)) = some (.slice ab (g i).b.length cb) ∧ w.cell? (a'.add (i * 4 + 3)) = some (.slice al (g i).l.length cl) ∧
        (g i).b.length ≤ maxLen ∧ (-9223372036854775808 ≤ (g i).n ∧ (g i).n ≤ 9223372036854775807) ∧ BytIn w ab (g i).b ∧ RowsB w al (g i).l :=
      ⟨fun i => if h : i < n then (hex i h).choose else ⟨0, 0, [], []⟩, fun i hin => by simp only [dif_pos hin]; exact (hex i hin).choose_spec⟩
    obtain ⟨g, hg⟩ := hpick
    refine ⟨some a', (List.range n).map g, c, by simp, fun k o hk => ?_⟩
    simp only [List.getElem?_map] at hk
    have hkn : k < n := by
      apply Decidable.byContradiction
      intro hh
      rw [List.getElem?_eq_none (by simp; omega)] at hk
      cases hk
    rw [List.getElem?_range hkn] at hk
    simp at hk
    subst hk
    obtain ⟨ab, cb, al, cl, h1, h2⟩ := hg k hkn
    have hb := cell_lt h1
    have : (a'.add (k * 4)).block = a'.block := by unfold Addr.add; split <;> rfl
    simp only [Go.Deep.add_add]
    exact ⟨a', ab, cb, al, cl, rfl, by omega, h1, h2⟩
end
theorem LOpsIn.chg {w w' : World} {ad : Option Addr} {l : List LOp} (h : LOpsIn w ad l) {S : Nat → Prop} (hc : Chg S w w') (hS : ∀ i, i < w.heap.size → ¬ S i) : LOpsIn w' ad l := fun k o hk => by
  obtain ⟨a, ab, cb, al, cl, h1, h2, q0, q1, q2, q3, q4, q5, q6, q7⟩ := h k o hk
  have hz := hc.size
  have hcell : ∀ p : Addr, p.block = a.block → w'.cell? p = w.cell? p := fun p hb => hc.cell (by rw [hb]; exact h2) (by rw [hb]; exact hS _ h2)
  have b0 : (a.add (k * 4)).block = a.block := by unfold Addr.add; split <;> rfl
  have b1 : ∀ j, ((a.add (k * 4)).add j).block = a.block := fun j => by rw [← b0]; generalize a.add (k * 4) = p; unfold Addr.add; split <;> rfl
  exact ⟨a, ab, cb, al, cl, h1, by omega, by rw [hcell _ b0]; exact q0, by rw [hcell _ (b1 _)]; exact q1, by rw [hcell _ (b1 _)]; exact q2, by rw [hcell _ (b1 _)]; exact q3, q4, q5, q6.chg hc hS, q7.chg hc hS⟩
theorem LOpsIn.at_ {w w' : World} {ad : Option Addr} {l : List LOp} (h : LOpsIn w ad l) {S : Nat → Prop} (hc : Chg S w w') (hS : ∀ i, i < w.heap.size → ¬ S i) {k : Nat} {o : LOp} (hk : l[k]? = some o) : ∃ a ab cb al cl, ad = some a ∧
    w'.cell? (a.add (k * 4)) = some (.int .i64 o.kd) ∧ w'.cell? ((a.add (k * 4)).add 1) = some (.int .i64 o.n) ∧ w'.cell? ((a.add (k * 4)).add 2) = some (.slice ab o.b.length cb) ∧ w'.cell? ((a.add (k * 4)).add 3) = some (.slice al o.l.length cl) ∧
    o.b.length ≤ maxLen ∧ (-9223372036854775808 ≤ o.n ∧ o.n ≤ 9223372036854775807) ∧ BytIn w ab o.b ∧ RowsB w al o.l := by
  obtain ⟨a, ab, cb, al, cl, h1, h2, q0, q1, q2, q3, q4, q5, q6, q7⟩ := h k o hk
  have hcell : ∀ p : Addr, p.block = a.block → w'.cell? p = w.cell? p := fun p hb => hc.cell (by rw [hb]; exact h2) (by rw [hb]; exact hS _ h2)
  have b0 : (a.add (k * 4)).block = a.block := by unfold Addr.add; split <;> rfl
  have b1 : ∀ j, ((a.add (k * 4)).add j).block = a.block := fun j => by rw [← b0]; generalize a.add (k * 4) = p; unfold Addr.add; split <;> rfl
  exact ⟨a, ab, cb, al, cl, h1, by rw [hcell _ b0]; exact q0, by rw [hcell _ (b1 _)]; exact q1, by rw [hcell _ (b1 _)]; exact q2, by rw [hcell _ (b1 _)]; exact q3, q4, q5, q6, q7⟩
end Go.Proofs.Ytpbjompopgdbjaa

namespace Go.Proofs.Ytpbjompopgdbjaa
open Go.RowKit Go.Maps

def LOp.few (o : LOp) : Bool := decide (o.b.length ≤ 100) && decide (o.l.length ≤ 6) && o.l.all (fun x => decide (x.length ≤ 100))
theorem LOp.few_iff (o : LOp) : o.few = true ↔ o.b.length ≤ 100 ∧ o.l.length ≤ 6 ∧ ∀ x ∈ o.l, x.length ≤ 100 := by
  unfold LOp.few
  simp [and_assoc]
theorem LOp.few_not {o : LOp} (h : ¬ (o.b.length ≤ 100 ∧ o.l.length ≤ 6 ∧ ∀ x ∈ o.l, x.length ≤ 100)) : o.few = false := by
  cases hf : o.few with
  | false => rfl
  | true => exact absurd (o.few_iff.1 hf) h

set_option maxRecDepth 100000 in
set_option maxHeartbeats 1000000 in
theorem few_any {w : World} {ab al : Option Addr} (o : LOp) (cb cl : Nat) (hL : RowsB w al o.l) (hb : o.b.length ≤ maxLen) :
    Calls Try.prog 10 #[.agg #[.int .i64 o.kd, .int .i64 o.n, .slice ab o.b.length cb, .slice al o.l.length cl]] w fun e w' => e = .returned (.bool o.few) ∧ Chg (fun _ => False) w w' := by
  obtain ⟨kd, n, b, l⟩ := o
  simp only at hL hb ⊢
  obtain ⟨f, hf⟩ : ∃ f, LOp.few ⟨kd, n, b, l⟩ = f := ⟨_, rfl⟩
  have hcA : Chg (fun _ => False) w (w.alloc (.cells #[.int .i64 kd, .int .i64 n, .slice ab b.length cb, .slice al l.length cl] 33)) := (Chg.refl _ w).alloc _
  have hE := Blk.new w 33 #[.int .i64 kd, .int .i64 n, .slice ab b.length cb, .slice al l.length cl]
  have e2 := hE.cell 2
  have e3 := hE.cell 3
  have e2 : (w.alloc (.cells #[.int .i64 kd, .int .i64 n, .slice ab b.length cb, .slice al l.length cl] 33)).cell? ⟨w.heap.size, 2, none⟩ = some (.slice ab b.length cb) := e2
  have e3 : (w.alloc (.cells #[.int .i64 kd, .int .i64 n, .slice ab b.length cb, .slice al l.length cl] 33)).cell? ⟨w.heap.size, 3, none⟩ = some (.slice al l.length cl) := e3
  rw [hf]
  go_enter Try.func10, Try.ntmps10
  by_cases hb1 : 100 < b.length
  · have hff : f = false := by rw [← hf]; exact LOp.few_not (fun h => by have := h.1; simp only at this; omega)
    subst hff
    clear hf
    go_wp2_with fail
    go_ret
    exact ⟨rfl, hcA⟩
  by_cases hl1 : 6 < l.length
  · have hff : f = false := by rw [← hf]; exact LOp.few_not (fun h => by have := h.2.1; simp only at this; omega)
    subst hff
    clear hf
    go_wp2_with fail
    go_ret
    exact ⟨rfl, hcA⟩
  have hLA := hL.chg hcA (fun _ _ => id)
  go_wp2_with fail
  clear hE
  generalize w.alloc (.cells #[.int .i64 kd, .int .i64 n, .slice ab b.length cb, .slice al l.length cl] 33) = wA at *
  go_loopw [3] (fun v3 wr => ∃ k : Nat, v3 = .int .i64 k ∧ k ≤ l.length ∧ (∀ (j : Nat) (x : Rec), j < k → l[j]? = some x → x.length ≤ 100) ∧ wr = wA) (fun v3 _ => 100 - (RowKit.intOf v3).toNat)
  case atStart => exact ⟨0, rfl, Nat.zero_le _, fun j x h => absurd h (Nat.not_lt_zero _), rfl⟩
  case round =>
    obtain ⟨k, rfl, hk, hpre, rfl⟩ := hrel
    by_cases hkl : k < l.length
    · obtain ⟨x, hx⟩ : ∃ x, l[k]? = some x := ⟨_, List.getElem?_eq_getElem hkl⟩
      obtain ⟨_, a, ao, c, rfl, _, k0, _⟩ := hLA k x hx
      by_cases hx1 : 100 < x.length
      · have hff : f = false := by rw [← hf]; exact LOp.few_not (fun h => by have := h.2.2 x (List.mem_of_getElem? hx); omega)
        subst hff
        clear hf hx
        go_wp2_with fail
        go_ret
        exact ⟨rfl, hcA⟩
      have hpre2 : ∀ (j : Nat) (y : Rec), j < k + 1 → l[j]? = some y → y.length ≤ 100 := fun j y hj hy => by
        by_cases hjk : j = k
        · subst hjk
          rw [hx] at hy
          cases hy
          omega
        · exact hpre j y (by omega) hy
      clear hx
      go_wp2_with fail
      go_roundw
      case rel => exact ⟨k + 1, by go_num, by omega, hpre2, trivial⟩
      case measure => simp [RowKit.intOf]; omega
    · have hff : f = true := by
        rw [← hf]
        refine (LOp.few_iff _).2 ⟨by simp only; omega, by simp only; omega, fun x hx => ?_⟩
        obtain ⟨j, hj, rfl⟩ := List.getElem_of_mem hx
        simp only at hj
        exact hpre j _ (by omega) (List.getElem?_eq_getElem hj)
      subst hff
      clear hf
      go_wp2_with fail
      go_ret
      exact ⟨rfl, hcA⟩

section
variable {P : Nat → Prop} {w : World} {g d sy : Nat} {room age : Int} {st recs : List Rec}
theorem s_putB (h : SealW P w g d room age st recs sy) (ad : Option Addr) (k c : Nat) (hb : k < 1 ∨ 1000 < k) (hk : k ≤ maxLen) :
    Calls Try.prog 12 #[.pointer (some ⟨g, 0, none⟩), .slice ad k c] w fun e w' => e = .returned (.int .i64 1) ∧ w' = w := by
  obtain ⟨D, h1, h2, h3, h4, h5⟩ := h
  exact sput_bad h3 ad k c hb hk
theorem s_saveB (h : SealW P w g d room age st recs sy) {ad : Option Addr} {st' : List Rec} (hrows : RowsB w ad st') (c : Nat) (hsl : st'.length ≤ 1000) (hbad : ∃ b, b ∈ st' ∧ ¬ okR b) :
    Calls Try.prog 14 #[.pointer (some ⟨g, 0, none⟩), .slice ad st'.length c] w fun e w' => e = .returned (.int .i64 1) ∧ Chg (fun _ => False) w w' := by
  obtain ⟨D, h1, h2, h3, h4, h5⟩ := h
  have hag := h4.ag
  have hagm := h4.agm
  exact ssave_bad h3 hag (by omega) hrows c hsl hbad
theorem SealW.syl (h : SealW P w g d room age st recs sy) : sy ≤ recs.length := by
  obtain ⟨D, h1, h2, h3, h4, h5⟩ := h
  exact h4.syl.1
end
theorem TxtO.cap {w : World} {base n cp : Nat} {ao : Option Addr} {l : List Rec} (h : TxtO w base (.slice ao n cp) l) : (ao = none ∧ n = 0 ∧ cp = 0 ∧ l = []) ∨ (∃ g, ao = some ⟨g, 0, none⟩ ∧ n = l.length ∧ n ≤ cp ∧ cp ≤ maxLen) := by
  rcases h.2 with ⟨h1, h0⟩ | ⟨g, cap, _, h1, _, _, h2, h3, _⟩
  · cases h1
    exact .inl ⟨rfl, rfl, rfl, List.eq_nil_of_length_eq_zero h0⟩
  · cases h1
    exact .inr ⟨g, rfl, rfl, h2, h3⟩
/-- Texts behind an address whose block is left. -/
theorem StrIn.keep {w w' : World} {ad : Option Addr} {l : List Rec} (h : StrIn w ad l) {S : Nat → Prop} (hc : Chg S w w') (hS : ∀ a, ad = some a → l ≠ [] → ¬ S a.block) : StrIn w' ad l := fun j s hj => by
  obtain ⟨h1, a, h2, h3, h4⟩ := h j s hj
  have hblk : (a.add j).block = a.block := by unfold Addr.add; split <;> rfl
  exact ⟨h1, a, h2, Nat.lt_of_lt_of_le h3 hc.size, (World.cell?_of_block (by rw [hblk]; exact hc.block _ h3 (hS a h2 (fun e => by rw [e] at hj; simp at hj)))).trans h4⟩
theorem StrIn.lt {w : World} {ad : Option Addr} {l : List Rec} (h : StrIn w ad l) {a : Addr} (ha : ad = some a) (hl : l ≠ []) : a.block < w.heap.size := by
  match l, h, hl with
  | s :: l, h, _ =>
    obtain ⟨_, a', h2, h3, _⟩ := h 0 s rfl
    rw [ha] at h2
    cases h2
    exact h3
theorem StrIn.take {w : World} {ad : Option Addr} {l : List Rec} (h : StrIn w ad l) (k : Nat) : StrIn w ad (l.take k) := fun j s hj => by
  refine h j s ?_
  rw [List.getElem?_take] at hj
  split at hj
  · exact hj
  · cases hj
end Go.Proofs.Ytpbjompopgdbjaa
