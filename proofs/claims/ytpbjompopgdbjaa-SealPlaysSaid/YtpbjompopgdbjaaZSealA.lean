/-
  the log: generation, aged, read by their contracts.
-/
import Derived.Test.YtpbjompopgdbjaaFrmR
import Derived.Test.YtpbjompopgdbjaaPackR
import Derived.Test.YtpbjompopgdbjaaZPackW
import Derived.Lib.SliceRun
namespace Go.Proofs.Ytpbjompopgdbjaa
open Go.RowKit Go.Maps

theorem nb_small {v : Int} (h0 : 0 ≤ v) (h1 : v < 4611686018427387904) : okR (nb v) := by
  have := nb_len (v := v) (by omega)
  have h2 := List.length_pos_iff.2 (nb_ne v)
  exact ⟨h2, by omega⟩
theorem bytes_byt {w : World} {base : Nat} {v : Value} {xs : List UInt8} (h : w.ownsRow base 5 1 v xs.length (xs.map encB)) (hne : xs ≠ []) : ∃ ad cap, v = .slice ad xs.length cap ∧ BytIn w ad xs ∧ xs.length ≤ cap ∧ cap ≤ maxLen := by
  rcases h.2 with ⟨_, h0⟩ | ⟨g, cap, cur, rfl, hb, hh, hnc, hcm, _⟩
  · exact absurd (List.length_eq_zero_iff.1 h0) hne
  · obtain ⟨g', cap', e, _, hlt, hc⟩ := bytes_cells h hne
    cases e
    refine ⟨_, cap, rfl, fun j b hj => ⟨_, rfl, hlt, ?_⟩, hnc, hcm⟩
    refine hc j _ ?_
    rw [List.getElem?_map, hj]
    rfl

set_option maxRecDepth 100000 in
set_option maxHeartbeats 1000000 in
theorem gen_any (w : World) (v : Int) (h0 : 0 ≤ v) (h1 : v < 4611686018427387904) :
    Calls Try.prog 35 #[.int .i64 v] w fun e w' => ∃ ao off cap rb, e = .returned (.slice ao (frm (nb v)).length cap) ∧ RowB w' ao off cap rb (frm (nb v)) ∧ Chg (fun _ => False) w w' ∧ w.heap.size ≤ rb ∧ rb < w'.heap.size := by
  have hW := Wr.new (w := w) (P := fun i => i < w.heap.size) (fun _ h => h)
  have hc0 : Chg (fun _ => False) w (w.alloc (.cells #[.slice none 0 0] 101)) := (Chg.refl _ w).alloc _
  have HW := Lib.hid hW
  clear hW
  go_enter Try.func35, Try.ntmps35
  go_wp2_with fail
  refine (HW.out.int (fun i h => by rw [size_al]; omega) (by rw [size_al]; omega) v h0 (by omega) (by decide)).mono ?_
  rintro e w1 ⟨rfl, hW1, hc1⟩
  rw [List.nil_append] at hW1
  have hc1 := ((hc0.mono (fun _ _ h => h.elim) : Chg (fun i => ¬ i < w.heap.size) w _).trans hc1 (fun i _ h => h.2)).mono (T := fun _ => False) (fun i hi h => h hi)
  go_wp2_with fail
  have hnl := nb_small h0 h1
  refine (hW1.bytes (nb_ne v) (by have := hnl.2; omega)).mono ?_
  rintro e w2 ⟨u, rfl, hown, hc2⟩
  obtain ⟨ad, cap, rfl, hby, hcp, hcm⟩ := bytes_byt hown (nb_ne v)
  have hc2 := hc1.trans hc2 (fun _ _ h => h)
  go_wp2_with fail
  refine (put_any hby cap hnl).mono ?_
  rintro e w3 ⟨ao, off, cap3, rb, rfl, hR, hc3, hr1, hr2⟩
  have hz := hc2.size
  go_wp2_with fail
  go_ret
  exact ⟨ao, off, cap3, rb, rfl, hR, hc2.trans hc3 (fun _ _ h => h), by omega, hr2⟩

set_option maxRecDepth 100000 in
set_option maxHeartbeats 1000000 in
theorem aged_any {w : World} {ad : Option Addr} (v : Int) (h : BytIn w ad (nb v)) (c : Nat) (h0 : 0 ≤ v) (h1 : v < 4611686018427387904) :
    Calls Try.prog 52 #[.slice ad (nb v).length c] w fun e w' => e = .returned (.int .i64 v) ∧ Chg (fun _ => False) w w' := by
  have hnl := (nb_small h0 h1).2
  go_enter Try.func52, Try.ntmps52
  go_wp2_with fail
  refine (rd_new h c (by omega)).mono ?_
  rintro e w1 ⟨r, rfl, hR, hc1⟩
  go_wp2_with fail
  refine (rd_int (rest := []) (by rw [List.append_nil]; exact hR) h0 h1 h0 (by omega) (by rw [List.append_nil]; omega)).mono ?_
  rintro e w2 ⟨rfl, hR2, hc2⟩
  have hb := hR.1
  have hc2 := ((hc1.mono (fun _ _ h => h.elim) : Chg (fun i => ¬ i < w.heap.size) w _).trans hc2 (fun i _ h => by omega)).mono (T := fun _ => False) (fun i hi h => h hi)
  go_wp2_with fail
  refine (rd_end hR2).mono ?_
  rintro e w3 ⟨rfl, rfl⟩
  go_wp2_with fail
  go_ret
  exact ⟨rfl, hc2⟩
end Go.Proofs.Ytpbjompopgdbjaa

namespace Go.Proofs.Ytpbjompopgdbjaa
open Go.RowKit Go.Maps

/-- Rows of bytes behind a slice: its block and theirs are of B. -/
def RowsIn (w : World) (B : Nat → Prop) (ad : Option Addr) (l : List (List UInt8)) : Prop :=
  ∀ (i : Nat) (b : List UInt8), l[i]? = some b → ∃ a ao off cap rb, ad = some a ∧ B a.block ∧ a.block < w.heap.size ∧ w.cell? (a.add i) = some (.slice ao b.length cap) ∧ RowB w ao off cap rb b ∧ B rb ∧ rb < w.heap.size
theorem RowsIn.nil (w : World) (B : Nat → Prop) (ad : Option Addr) : RowsIn w B ad [] := fun i b hi => by simp at hi
theorem RowsIn.chg {w w' : World} {B S : Nat → Prop} {ad : Option Addr} {l : List (List UInt8)} (h : RowsIn w B ad l) (hc : Chg S w w') (hS : ∀ i, B i → ¬ S i) : RowsIn w' B ad l := by
  intro i b hi
  obtain ⟨a, ao, off, cap, rb, e, h1, h2, h3, h4, h5, h6⟩ := h i b hi
  exact ⟨a, ao, off, cap, rb, e, h1, Nat.lt_of_lt_of_le h2 hc.size, (World.cell?_of_block (by rw [add_blk]; exact hc.block _ h2 (hS _ h1))).trans h3, h4.keep hc.size (fun _ => hc.block rb h6 (hS _ h5)), h5, Nat.lt_of_lt_of_le h6 hc.size⟩
theorem RowsIn.mono {w : World} {B C : Nat → Prop} {ad : Option Addr} {l : List (List UInt8)} (h : RowsIn w B ad l) (hBC : ∀ i, B i → i < w.heap.size → C i) : RowsIn w C ad l := by
  intro i b hi
  obtain ⟨a, ao, off, cap, rb, e, h1, h2, h3, h4, h5, h6⟩ := h i b hi
  exact ⟨a, ao, off, cap, rb, e, hBC _ h1 h2, h2, h3, h4, hBC _ h5 h6, h6⟩
/-- The rows behind the first one. -/
theorem RowsO.tail {w : World} {base : Nat} {v : Value} {x : List UInt8} {l : List (List UInt8)} (h : RowsO w base v (x :: l)) :
    ∃ g cap ao off cp rb, v = .slice (some ⟨g, 0, none⟩) (l.length + 1) cap ∧ l.length + 1 ≤ cap ∧ cap ≤ maxLen ∧ w.cell? ⟨g, 0, none⟩ = some (.slice ao x.length cp) ∧ RowB w ao off cp rb x ∧
      (∀ j, RowsIn w (fun i => base ≤ i) (some ((⟨g, 0, none⟩ : Addr).add 1)) l ∧ (l = [] → RowsIn w (fun i => base ≤ i) j l)) := by
  obtain ⟨vs, ho, hr⟩ := h
  rcases ho.2 with ⟨_, h0⟩ | ⟨g, cap, cur, rfl, hb, hh, hn, hm, hsz, ht⟩
  · simp at h0
  · have hg : g < w.heap.size := (Array.getElem?_eq_some_iff.1 hh).1
    have hc : ∀ j u, vs[j]? = some u → w.cell? ⟨g, j, none⟩ = some u := by
      intro j u hj
      rw [← ht, List.getElem?_take] at hj
      split at hj
      · rw [cell_of_row w g j cur _ (0, 0) hh, ← hj]
        simp
      · cases hj
    obtain ⟨u, rb, e1, ⟨ao, off, cp, rfl, hR, hb1, hb2⟩, _⟩ := hr 0 x rfl
    refine ⟨g, cap, ao, off, cp, rb, rfl, hn, hm, hc 0 _ e1, hR, fun j => ⟨fun i b hi => ?_, fun h0 i b hi => by subst h0; simp at hi⟩⟩
    obtain ⟨u', rb', e1', ⟨ao', off', cp', rfl, hR', hb1', hb2'⟩, _⟩ := hr (i + 1) b hi
    refine ⟨_, ao', off', cp', rb', rfl, hb, hg, ?_, hR', hb1', hb2'⟩
    have := hc (i + 1) _ e1'
    rw [Go.Deep.add_add]
    rw [addr_at]
    rw [Nat.zero_add, Nat.add_comm]
    exact this

theorem file_nil {t : List UInt8} {rows : List (List UInt8)} (h : File [] rows t) : rows = [] ∧ t = [] := by
  have h1 := congrArg List.length h.eq
  rw [List.length_append] at h1
  have h2 := flat_len_le rows
  have h3 : ([] : List UInt8).length = 0 := rfl
  exact ⟨List.eq_nil_of_length_eq_zero (by omega), List.eq_nil_of_length_eq_zero (by omega)⟩

theorem x_read_any {P : Nat → Prop} {w : World} {d : Nat} {D : Dsk} (h : DiskX P w d D) (n : Nam) (hn : n.length ≤ maxLen) :
    Calls Try.prog 18 #[.pointer (some ⟨d, 0, none⟩), encStr n] w fun e w' => ∃ ao cap ec, e = .returned (.tuple #[.slice ao (bsF (D.fl n)).length cap, .int .i64 ec]) ∧ BytIn w' ao (bsF (D.fl n)) ∧ (bsF (D.fl n)).length ≤ cap ∧ cap ≤ maxLen ∧ DiskX P w' d D ∧ Chg (fun _ => False) w w' := by
  cases hf : D.fl n with
  | none =>
    refine (x_read_none h n hn hf).mono ?_
    rintro e w1 ⟨rfl, rfl⟩
    exact ⟨none, 0, 5, rfl, BytIn.nil _ _, Nat.le_refl _, Nat.zero_le _, h, Chg.refl _ _⟩
  | some f =>
    refine (x_read h n hf).mono ?_
    rintro e w1 ⟨ao, off, cap, rb, rfl, hR, _, hD, hc⟩
    exact ⟨ao, cap, 0, rfl, hR.byt, hR.came.le, hR.mx, hD, hc⟩

set_option maxRecDepth 100000 in
set_option maxHeartbeats 1000000 in
theorem sread_none {P : Nat → Prop} {w : World} {d : Nat} {D : Dsk} (h : DiskX P w d D) (n : Nam) (hn : n.length ≤ maxLen) {t : List UInt8} (hF : File (bsF (D.fl n)) [] t) (hlen : (bsF (D.fl n)).length ≤ 1000000) :
    Calls Try.prog 32 #[.pointer (some ⟨d, 0, none⟩), encStr n] w fun e w' => e = .returned (.tuple #[.agg #[.int .i64 (-1), .slice none 0 0], .int .i64 0]) ∧ DiskX P w' d D ∧ Chg (fun _ => False) w w' := by
  have hcA : Chg (fun _ => False) w (w.alloc (.cells #[.int .i64 0, .slice none 0 0] 72)) := (Chg.refl _ w).alloc _
  have hA := h.keep hcA
  have hBA := Blk.new w 72 #[.int .i64 0, .slice none 0 0]
  have HF := Lib.hid hF
  clear hF
  go_enter Try.func32, Try.ntmps32
  go_wp2_with fail
  refine (x_read_any hA n hn).mono ?_
  obtain ⟨bs, hbs⟩ : ∃ bs, bsF (D.fl n) = bs := ⟨_, rfl⟩
  rw [hbs] at HF hlen ⊢
  clear hbs
  rintro e w1 ⟨ao, cap, ec, rfl, hby, hc1, hc2, hD1, hcw1⟩
  have hB1 := hBA.chg hcw1 id
  have hcw1 := hcA.trans hcw1 (fun _ _ h => h)
  clear hcA hA hBA
  go_wp2_with fail
  refine (fread_any hby cap hc1 hc2 HF.out hlen).mono ?_
  rw [show (((flat []).length : Nat) : Int) = 0 from rfl]
  rintro e w2 ⟨v, rfl, hv, hcw2⟩
  have hB2 := hB1.chg hcw2 id
  have hD2 := hD1.keep hcw2
  have hcw2 := hcw1.trans hcw2 (fun _ _ h => h)
  obtain ⟨ad, cp, rfl⟩ : ∃ ad cp, v = .slice ad 0 cp := by
    obtain ⟨vs, ho, _⟩ := hv
    rcases ho.2 with ⟨rfl, _⟩ | ⟨g, cap, cur, rfl, _⟩
    · exact ⟨_, _, rfl⟩
    · exact ⟨_, _, rfl⟩
  clear hv hB1 hcw1 hD1 hby
  have hcB : Chg (fun _ => False) w2 (w2.alloc (.cells #[.int .i64 (-1), .slice none 0 0] 72)) := (Chg.refl _ w2).alloc _
  have hB3 := hB2.alloc (.cells #[.int .i64 (-1), .slice none 0 0] 72)
  have hD3 := hD2.keep hcB
  have hcw3 := hcw2.trans hcB (fun _ _ h => h)
  have a0 := hB3.cell 0
  have a1 := hB3.cell 1
  have a2 := hB3.frozen 0
  have a3 := hB3.frozen 1
  simp at a0 a1
  go_wp2_with fail
  have hcw5 := (hcw3.setCell (p := ⟨w.heap.size, 0, none⟩) (.inr (Nat.le_refl _)) (.int .i64 (-1))).setCell (p := ⟨w.heap.size, 1, none⟩) (.inr (Nat.le_refl _)) (.slice none 0 0)
  have hB5 := (hB3.set 0 (.int .i64 (-1))).set 1 (.slice none 0 0)
  generalize (((w2.alloc (.cells #[.int .i64 (-1), .slice none 0 0] 72)).setCell ⟨w.heap.size, 0, none⟩ (.int .i64 (-1))).setCell ⟨w.heap.size, 1, none⟩ (.slice none 0 0)) = w5 at *
  have b0 : w5.cell? ⟨w.heap.size, 0, none⟩ = some (.int .i64 (-1)) := hB5.cell 0
  have b1 : w5.cell? ⟨w.heap.size, 1, none⟩ = some (.slice none 0 0) := hB5.cell 1
  refine bodyPost_ret (v := .tuple #[.agg #[.int .i64 (-1), .slice none 0 0], .int .i64 0]) (by simp [results, Try.results32, go_sem, b0, b1]) rfl ⟨rfl, h.keep hcw5, hcw5⟩

set_option maxRecDepth 100000 in
set_option maxHeartbeats 1000000 in
theorem sread_some {P : Nat → Prop} {w : World} {d : Nat} {D : Dsk} (h : DiskX P w d D) (n : Nam) (hn : n.length ≤ maxLen) {t : List UInt8} {a : Int} {recs : List (List UInt8)} (h0 : 0 ≤ a) (h1 : a < 4611686018427387904) (hF : File (bsF (D.fl n)) (nb a :: recs) t) (hlen : (bsF (D.fl n)).length ≤ 1000000) :
    Calls Try.prog 32 #[.pointer (some ⟨d, 0, none⟩), encStr n] w fun e w' => ∃ ad c, e = .returned (.tuple #[.agg #[.int .i64 a, .slice ad recs.length c], .int .i64 ((flat (nb a :: recs)).length : Nat)]) ∧ RowsIn w' (fun i => w.heap.size ≤ i) ad recs ∧ recs.length ≤ c ∧ DiskX P w' d D ∧ Chg (fun _ => False) w w' := by
  have hcA : Chg (fun _ => False) w (w.alloc (.cells #[.int .i64 0, .slice none 0 0] 72)) := (Chg.refl _ w).alloc _
  have hA := h.keep hcA
  have hBA := Blk.new w 72 #[.int .i64 0, .slice none 0 0]
  have hfl : (flat (nb a :: recs)).length ≤ 1000000 := by
    have := congrArg List.length hF.eq
    rw [List.length_append] at this
    omega
  have hrl : recs.length + 1 ≤ 1000000 := by
    have := flat_len_le (nb a :: recs)
    rw [List.length_cons] at this
    omega
  obtain ⟨fl, hfe⟩ : ∃ fl, (flat (nb a :: recs)).length = fl := ⟨_, rfl⟩
  have HF := Lib.hid hF
  have Hfe := Lib.hid hfe
  rw [hfe] at hfl
  clear hF hfe
  go_enter Try.func32, Try.ntmps32
  go_wp2_with fail
  refine (x_read_any hA n hn).mono ?_
  obtain ⟨bs, hbs⟩ : ∃ bs, bsF (D.fl n) = bs := ⟨_, rfl⟩
  rw [hbs] at HF hlen ⊢
  clear hbs
  rintro e w1 ⟨ao, cap, ec, rfl, hby, hc1, hc2, hD1, hcw1⟩
  have hB1 := hBA.chg hcw1 id
  have hcw1 := hcA.trans hcw1 (fun _ _ h => h)
  clear hcA hA hBA
  go_wp2_with fail
  refine (fread_any hby cap hc1 hc2 HF.out hlen).mono ?_
  rw [Hfe.out]
  rintro e w2 ⟨v, rfl, hv, hcw2⟩
  have hB2 := hB1.chg hcw2 id
  have hcw2 := hcw1.trans hcw2 (fun _ _ h => h)
  have hv := hv.low (b' := w.heap.size + 1) hB1.lt
  obtain ⟨g, cp, ao1, off1, cp1, rb1, rfl, hcp1, hcp2, hc0, hR1, hrows⟩ := hv.tail
  clear hB1 hcw1 hby hv
  have hcB : Chg (fun _ => False) w2 (w2.alloc (.cells #[.int .i64 (-1), .slice none 0 0] 72)) := (Chg.refl _ w2).alloc _
  have hg2 : g < w2.heap.size := World.block_lt_of_cell? _ _ hc0
  have hB3 := hB2.alloc (.cells #[.int .i64 (-1), .slice none 0 0] 72)
  have hK3 := Blk.new w2 72 #[.int .i64 (-1), .slice none 0 0]
  have hcw3 := hcw2.trans hcB (fun _ _ h => h)
  have hc3 : (w2.alloc (.cells #[.int .i64 (-1), .slice none 0 0] 72)).cell? ⟨g, 0, none⟩ = some (.slice ao1 (nb a).length cp1) := (hcB.cell (p := ⟨g, 0, none⟩) hg2 id).trans hc0
  have hR3 := hR1.keep hcB.size (fun h0 => hcB.block rb1 (hR1.came.lt h0) id)
  have hrows3 := fun j => And.intro (((hrows j).1.mono (C := fun i => w.heap.size + 1 ≤ i ∧ i < w2.heap.size) (fun i h1 h2 => ⟨h1, h2⟩)).chg hcB (fun _ _ => id)) (fun h0 => (((hrows j).2 h0).mono (C := fun i => w.heap.size + 1 ≤ i ∧ i < w2.heap.size) (fun i h1 h2 => ⟨h1, h2⟩)).chg hcB (fun _ _ => id))
  have hkz : w2.heap.size < (w2.alloc (.cells #[.int .i64 (-1), .slice none 0 0] 72)).heap.size := by rw [size_al]; omega
  obtain ⟨k, hk⟩ : ∃ k, w2.heap.size = k := ⟨_, rfl⟩
  have hwk : w.heap.size < k := by rw [← hk]; exact hB2.lt
  go_wp2_with fail
  rw [hk] at hK3 hkz hrows3
  clear hk hrows hR1 hc0 hcB hB2 hcw2
  generalize w2.alloc (.cells #[.int .i64 (-1), .slice none 0 0] 72) = w3 at *
  have hd : Chg (fun _ => False) w3 w3.drew := (Chg.refl _ w3).drew
  have hB3 := hB3.chg hd id
  have hK3 := hK3.chg hd id
  have hcw3 := hcw3.trans hd (fun _ _ h => h)
  have hc3 : w3.drew.cell? ⟨g, 0, none⟩ = some (.slice ao1 (nb a).length cp1) := hc3
  have hR3 := hR3.keep hd.size (fun h0 => hd.block rb1 (hR3.came.lt h0) id)
  have hrows3 := fun j => And.intro ((hrows3 j).1.chg hd (fun _ _ => id)) (fun h0 => ((hrows3 j).2 h0).chg hd (fun _ _ => id))
  have hkz : k < w3.drew.heap.size := hkz
  refine wp_region_plan (by kernel_rfl) [{ fl := [0, 1, 2, 4, 5], long := [5], ef := 3, keep := [5] }, { fl := [6], ef := 7, keep := [5] }, { fl := [8], ef := 9 }] [] (by kernel_rfl) (fun _ _ => True) ?_
  simp only [wpPlan, longOK, keepOK, opsAt_cons, opsAt_nil, consO_some, List.getElem?_toArray, List.getElem?_cons_succ, List.getElem?_cons_zero, and_true, true_and]
  generalize w3.drew = w4 at *
  clear hd
  by_cases hcp : cp = 1
  · subst hcp
    have hr0 : recs = [] := List.eq_nil_of_length_eq_zero (by omega)
    subst hr0
    clear hrows3
    go_wp2_with fail
    refine ⟨by kernel_rfl, ?_⟩
    go_wp2_with fail
    refine (aged_any a hR3.byt cp1 h0 h1).mono ?_
    rintro e w5 ⟨rfl, hc5⟩
    have hB5 := hB3.chg hc5 id
    have hK5 := hK3.chg hc5 id
    have hcw5 := hcw3.trans hc5 (fun _ _ h => h)
    have hne : w.heap.size ≠ k := by omega
    have p0 : w5.cell? ⟨k, 0, none⟩ = some (.int .i64 (-1)) := hK5.cell 0
    have p1 : w5.cell? ⟨k, 1, none⟩ = some (.slice none 0 0) := hK5.cell 1
    have p2 := hK5.frozen 0
    have p3 := hK5.frozen 1
    clear hB3 hK3 hcw3 hc3 hR3
    go_wp2_with fail
    refine ⟨by kernel_rfl, ?_⟩
    go_wp2_with fail
    refine ⟨by kernel_rfl, ?_⟩
    go_wp2_with fail
    refine ⟨by kernel_rfl, ?_⟩
    have hBk := (hB5.far (p := ⟨k, 0, none⟩) hne (.int .i64 a)).far (p := ⟨k, 1, none⟩) hne (.slice (some ⟨g, 0, none⟩) 0 0)
    have hKk := (hK5.set 0 (.int .i64 a)).set 1 (.slice (some ⟨g, 0, none⟩) 0 0)
    have hck : Chg (fun i => i = k) w5 _ := ((Chg.refl (fun i => i = k) w5).setCell (p := ⟨k, 0, none⟩) (.inl rfl) (.int .i64 a)).setCell (p := ⟨k, 1, none⟩) (.inl rfl) (.slice (some ⟨g, 0, none⟩) 0 0)
    have hcw7 := ((hcw5.mono (fun _ _ h => h.elim) : Chg (fun i => i = k) w w5).trans hck (fun _ _ h => h)).mono (T := fun _ => False) (fun i hi e => by omega)
    clear hK5 hB5 p0 p1 p2 p3 hck hcw5
    generalize (w5.setCell ⟨k, 0, none⟩ (.int .i64 a)).setCell ⟨k, 1, none⟩ (.slice (some ⟨g, 0, none⟩) 0 0) = w7 at *
    have p0 : w7.cell? ⟨k, 0, none⟩ = some (.int .i64 a) := hKk.cell 0
    have p1 : w7.cell? ⟨k, 1, none⟩ = some (.slice (some ⟨g, 0, none⟩) 0 0) := hKk.cell 1
    have q0 : w7.cell? ⟨w.heap.size, 0, none⟩ = some (.int .i64 0) := hBk.cell 0
    have q1 : w7.cell? ⟨w.heap.size, 1, none⟩ = some (.slice none 0 0) := hBk.cell 1
    have q2 := hBk.frozen 0
    have q3 := hBk.frozen 1
    go_wp2_with fail
    have hB8 := (hBk.set 0 (.int .i64 a)).set 1 (.slice (some ⟨g, 0, none⟩) 0 0)
    have hcm : Chg (fun i => i = w.heap.size) w7 _ := ((Chg.refl (fun i => i = w.heap.size) w7).setCell (p := ⟨w.heap.size, 0, none⟩) (.inl rfl) (.int .i64 a)).setCell (p := ⟨w.heap.size, 1, none⟩) (.inl rfl) (.slice (some ⟨g, 0, none⟩) 0 0)
    have hcw9 := ((hcw7.mono (fun _ _ h => h.elim) : Chg (fun i => i = w.heap.size) w w7).trans hcm (fun _ _ h => h)).mono (T := fun _ => False) (fun i hi e => by omega)
    clear hcm hcw7 q0 q1 q2 q3 p0 p1
    generalize (w7.setCell ⟨w.heap.size, 0, none⟩ (.int .i64 a)).setCell ⟨w.heap.size, 1, none⟩ (.slice (some ⟨g, 0, none⟩) 0 0) = w9 at *
    have b0 : w9.cell? ⟨w.heap.size, 0, none⟩ = some (.int .i64 a) := hB8.cell 0
    have b1 : w9.cell? ⟨w.heap.size, 1, none⟩ = some (.slice (some ⟨g, 0, none⟩) 0 0) := hB8.cell 1
    exact bodyPost_ret (v := .tuple #[.agg #[.int .i64 a, .slice (some ⟨g, 0, none⟩) 0 0], .int .i64 fl]) (by simp [results, Try.results32, go_sem, b0, b1]) rfl ⟨some ⟨g, 0, none⟩, 0, by rw [Hfe.out]; rfl, RowsIn.nil _ _ _, Nat.le_refl _, h.keep hcw9, hcw9⟩
  · go_wp2_with fail
    refine ⟨by kernel_rfl, ?_, ?_⟩
    · intro _ w9 _
      go_simp
      intro hlt
      omega
    go_wp2_with fail
    refine (aged_any a hR3.byt cp1 h0 h1).mono ?_
    rintro e w5 ⟨rfl, hc5⟩
    have hB5 := hB3.chg hc5 id
    have hK5 := hK3.chg hc5 id
    have hcw5 := hcw3.trans hc5 (fun _ _ h => h)
    have hrows5 := fun j => And.intro ((hrows3 j).1.chg hc5 (fun _ _ => id)) (fun h0 => ((hrows3 j).2 h0).chg hc5 (fun _ _ => id))
    have hne : w.heap.size ≠ k := by omega
    have p0 : w5.cell? ⟨k, 0, none⟩ = some (.int .i64 (-1)) := hK5.cell 0
    have p1 : w5.cell? ⟨k, 1, none⟩ = some (.slice none 0 0) := hK5.cell 1
    have p2 := hK5.frozen 0
    have p3 := hK5.frozen 1
    clear hB3 hK3 hcw3 hrows3 hc3 hR3
    go_wp2_with fail
    refine ⟨by kernel_rfl, ?_⟩
    go_wp2_with fail
    refine ⟨by kernel_rfl, ?_⟩
    go_wp2_with fail
    refine ⟨by kernel_rfl, ?_⟩
    have hBk := (hB5.far (p := ⟨k, 0, none⟩) hne (.int .i64 a)).far (p := ⟨k, 1, none⟩) hne (.slice (some ⟨g, 1, none⟩) recs.length (cp - 1))
    have hKk := (hK5.set 0 (.int .i64 a)).set 1 (.slice (some ⟨g, 1, none⟩) recs.length (cp - 1))
    have hck : Chg (fun i => i = k) w5 _ := ((Chg.refl (fun i => i = k) w5).setCell (p := ⟨k, 0, none⟩) (.inl rfl) (.int .i64 a)).setCell (p := ⟨k, 1, none⟩) (.inl rfl) (.slice (some ⟨g, 1, none⟩) recs.length (cp - 1))
    have hrows7 := (hrows5 none).1.chg hck (fun i hi e => by omega)
    have hcw7 := ((hcw5.mono (fun _ _ h => h.elim) : Chg (fun i => i = k) w w5).trans hck (fun _ _ h => h)).mono (T := fun _ => False) (fun i hi e => by omega)
    clear hK5 hB5 p0 p1 p2 p3 hck hrows5 hcw5
    generalize (w5.setCell ⟨k, 0, none⟩ (.int .i64 a)).setCell ⟨k, 1, none⟩ (.slice (some ⟨g, 1, none⟩) recs.length (cp - 1)) = w7 at *
    have p0 : w7.cell? ⟨k, 0, none⟩ = some (.int .i64 a) := hKk.cell 0
    have p1 : w7.cell? ⟨k, 1, none⟩ = some (.slice (some ⟨g, 1, none⟩) recs.length (cp - 1)) := hKk.cell 1
    have q0 : w7.cell? ⟨w.heap.size, 0, none⟩ = some (.int .i64 0) := hBk.cell 0
    have q1 : w7.cell? ⟨w.heap.size, 1, none⟩ = some (.slice none 0 0) := hBk.cell 1
    have q2 := hBk.frozen 0
    have q3 := hBk.frozen 1
    go_wp2_with fail
    have hB8 := (hBk.set 0 (.int .i64 a)).set 1 (.slice (some ⟨g, 1, none⟩) recs.length (cp - 1))
    have hcm : Chg (fun i => i = w.heap.size) w7 _ := ((Chg.refl (fun i => i = w.heap.size) w7).setCell (p := ⟨w.heap.size, 0, none⟩) (.inl rfl) (.int .i64 a)).setCell (p := ⟨w.heap.size, 1, none⟩) (.inl rfl) (.slice (some ⟨g, 1, none⟩) recs.length (cp - 1))
    have hrows9 := hrows7.chg hcm (fun i hi e => by omega)
    have hcw9 := ((hcw7.mono (fun _ _ h => h.elim) : Chg (fun i => i = w.heap.size) w w7).trans hcm (fun _ _ h => h)).mono (T := fun _ => False) (fun i hi e => by omega)
    clear hcm hcw7 hrows7 q0 q1 q2 q3 p0 p1
    generalize (w7.setCell ⟨w.heap.size, 0, none⟩ (.int .i64 a)).setCell ⟨w.heap.size, 1, none⟩ (.slice (some ⟨g, 1, none⟩) recs.length (cp - 1)) = w9 at *
    have b0 : w9.cell? ⟨w.heap.size, 0, none⟩ = some (.int .i64 a) := hB8.cell 0
    have b1 : w9.cell? ⟨w.heap.size, 1, none⟩ = some (.slice (some ⟨g, 1, none⟩) recs.length (cp - 1)) := hB8.cell 1
    exact bodyPost_ret (v := .tuple #[.agg #[.int .i64 a, .slice (some ⟨g, 1, none⟩) recs.length (cp - 1)], .int .i64 fl]) (by simp [results, Try.results32, go_sem, b0, b1]) rfl ⟨some ⟨g, 1, none⟩, cp - 1, by rw [Hfe.out], hrows9.mono (fun i hi _ => by omega), by omega, h.keep hcw9, hcw9⟩
end Go.Proofs.Ytpbjompopgdbjaa
