/-
  the reference's disk: Remove.
-/
import Derived.Test.YtpbjompopgdbjaaZRDskA
import Derived.Test.YtpbjompopgdbjaaZDskB
namespace Go.Proofs.Ytpbjompopgdbjaa
open Go.RowKit Go.Maps Go.Sort

/-- The files from a place on. -/
theorem RDAt.part {w : World} {base X g cp : Nat} {room : Int} {l : List RF} (h : RDAt w base X (.slice (some ⟨g, 0, none⟩) l.length cp) room l) (p q r : List RF) (he : l = p ++ (q ++ r)) : FilesIn w (some ⟨g, p.length * 3, none⟩) q := by
  intro j u hj
  refine ⟨_, rfl, ?_⟩
  rcases h.own.2 with ⟨e, _⟩ | ⟨g2, cap, cur, e, hb, hh, h1, h2, h3, h4⟩
  · cases e
  · cases e
    have hB : Blk w g 65 cur := hh
    have hjl := (List.getElem?_eq_some_iff.1 hj).1
    have h5 : (fcells l)[p.length * 3 + j]? = some u := by
      rw [he, fcells_app, List.getElem?_append_right (by rw [fcells_len]; omega), fcells_len, Nat.add_sub_cancel_left, fcells_app, List.getElem?_append_left hjl]
      exact hj
    have h6 := (List.getElem?_eq_some_iff.1 h5).1
    rw [fcells_len] at h6
    rw [addr_at, hB.cell, ← Array.getElem?_toList, ← h5, ← h4, List.getElem?_take_of_lt h6]
theorem own_new (w : World) (base : Nat) (hb : base ≤ w.heap.size) : (w.alloc (.cells #[] 65)).ownsRow base 65 3 (.slice (some ⟨w.heap.size, 0, none⟩) 0 0) ([] : List RF).length (fcells []) :=
  ⟨rfl, .inr ⟨w.heap.size, 0, #[], rfl, hb, Blk.new w _ _, Nat.le_refl _, by unfold maxLen; omega, rfl, rfl⟩⟩
theorem FilesIn.chg {w w' : World} {sa : Option Addr} {m : List RF} (h : FilesIn w sa m) {S : Nat → Prop} (hc : Chg S w w') (hS : ∀ ad, sa = some ad → ad.block < w.heap.size ∧ ¬ S ad.block) : FilesIn w' sa m := fun j u hj => by
  obtain ⟨ad, e, h1⟩ := h j u hj
  have hb : (ad.add j).block = ad.block := by unfold Addr.add; split <;> rfl
  exact ⟨ad, e, (World.cell?_of_block (by rw [hb]; exact hc.block _ (hS ad e).1 (hS ad e).2)).trans h1⟩

theorem own_slice {w : World} {base : Nat} {e : TypeId} {size n : Nat} {v : Value} {xs : List Value} (h : w.ownsRow base e size v n xs) : ∃ ao k cp, v = .slice ao k cp := by
  rcases h.2 with ⟨rfl, h0⟩ | ⟨g, cp, _, rfl, _⟩
  · exact ⟨none, 0, 0, rfl⟩
  · exact ⟨_, _, _, rfl⟩
theorem rd_store {w : World} {base X : Nat} {v v2 : Value} {room : Int} {l2 : List RF} (hB : Blk w X 55 #[.int .i64 room, v]) (hown : w.ownsRow base 65 3 v2 l2.length (fcells l2)) : RDAt (w.setCell ⟨X, 1, none⟩ v2) base X v2 room l2 := by
  refine ⟨hB.set 1 v2, own_chg hown (Chg.setCell (Chg.refl (fun i => i = X) w) (.inl rfl) v2) (fun k hk e => ?_)⟩
  subst e
  rcases hown.2 with ⟨rfl, _⟩ | ⟨g, cap, cur, rfl, hb, hh, _⟩
  · simp [Value.ownBlock] at hk
  · simp [Value.ownBlock] at hk
    have hB2 : Blk w g 65 cur := hh
    exact hB2.ne hB (by decide) hk

set_option maxRecDepth 100000 in
set_option maxHeartbeats 1000000 in
theorem rd_remove {w : World} {base X : Nat} {v : Value} {D : Dsk} (h : RD w base X v D) (hG : D.Good) (hmx : D.ks.length ≤ 1000000) (hbase : base ≤ w.heap.size) (n : Nam) :
    Calls Try.prog 41 #[.pointer (some ⟨X, 0, none⟩), encStr n] w fun e w' => e = .returned (.int .i64 (D.remove n).1) ∧ RDPost w w' base X v (D.remove n).2 := by
  obtain ⟨l, hA, hI⟩ := h
  have hl : l.length ≤ 1000000 := by rw [hI.len hG]; exact hmx
  obtain ⟨a, m, b, ha⟩ := hI.around n
  have hfind := Lib.hid (rd_find hA ha hl)
  have hAd := hA.keep ((Chg.refl (fun _ => False) w).drew)
  have hAdd := hA.keep ((Chg.refl (fun _ => False) w).drew.drew)
  rcases ha.mid with ⟨hf, rfl⟩ | ⟨F, hf, rfl⟩
  · rw [hf] at hfind
    rw [show (none : Option Fil).isSome = false from rfl] at hfind
    have e : D.remove n = (5, D) := by unfold Dsk.remove; rw [hf]
    rw [e]
    have fin : RDPost w w.drew base X v D := ⟨v, ⟨l, hAd, hI⟩, (Chg.refl _ w).drew, fun k hk => .inl hk⟩
    clear hf ha hA hAd hAdd hI e
    go_enter Try.func41, Try.ntmps41
    go_wp2_with fail
    refine hfind.out.mono ?_
    rintro e w1 ⟨rfl, rfl⟩
    go_wp2_with fail
    go_ret
    exact ⟨rfl, fin⟩
  · rw [hf] at hfind
    rw [show (some F).isSome = true from rfl] at hfind
    have e : D.remove n = (0, D.del n) := by unfold Dsk.remove; rw [hf]
    rw [e]
    have hm := get_mid a b (RF.of n F)
    have hle : l = a ++ (RF.of n F :: b) := ha.eq
    rw [← hle] at hm
    obtain ⟨g, cp, hv, hg, _, _, _⟩ := hAdd.file hm
    have c1 := hAdd.c1
    subst hv
    have hal := (List.getElem?_eq_some_iff.1 hm).1
    have hcp : l.length ≤ cp := by
      rcases hA.own.2 with ⟨e, _⟩ | ⟨g2, cap, cur, e, _, _, q1, _⟩
      · cases e
      · cases e; exact q1
    have hX := hAdd.block (k := g) rfl
    have hp1 := hAdd.part [] a (RF.of n F :: b) hle
    have hp2 := hAdd.part (a ++ [RF.of n F]) b [] (by rw [hle]; simp)
    have hal2 : (a ++ [RF.of n F]).length = a.length + 1 := by simp
    rw [hal2] at hp2
    have hbl : b.length = l.length - (a.length + 1) := by rw [hle]; simp; omega
    have hA1 := hAdd.chg ((Chg.refl (fun _ => False) w.drew.drew).alloc (.cells #[] 65)) id (fun _ _ => id)
    have c1A := hA1.c1
    have hown := own_new w.drew.drew base hbase
    have hgl : g < (w.drew.drew.alloc (.cells #[] 65)).heap.size := by rw [size_al]; omega
    have hp1 : FilesIn (w.drew.drew.alloc (.cells #[] 65)) (some ⟨g, 0, none⟩) a := (hp1.chg ((Chg.refl (fun _ => False) w.drew.drew).alloc (.cells #[] 65)) (fun ad e => by cases e; exact ⟨hg, id⟩))
    have hp2 := (hp2.chg ((Chg.refl (fun _ => False) w.drew.drew).alloc (.cells #[] 65)) (fun ad e => by cases e; exact ⟨hg, id⟩))
    obtain ⟨wA, hwA⟩ : ∃ wA, w.drew.drew.alloc (.cells #[] 65) = wA := ⟨_, rfl⟩
    have hcA : Chg (fun _ => False) w wA := by rw [← hwA]; exact ((Chg.refl _ w).drew.drew).alloc _
    have hzA : wA.heap.size = w.heap.size + 1 := by rw [← hwA, size_al]; rfl
    have hXl : X < w.heap.size := hA.blk.lt
    have hgl2 : g < w.heap.size := hg
    have facts : ∀ (v1 : Value) (w1 : World), Chg (fun i => (Value.slice (some ⟨w.heap.size, 0, none⟩) 0 0).ownBlock = some i) wA w1 → (v1.ownBlock = (Value.slice (some ⟨w.heap.size, 0, none⟩) 0 0).ownBlock ∨ v1.ownBlock = some wA.heap.size) → RDAt w1 base X (.slice (some ⟨g, 0, none⟩) l.length cp) D.room l ∧ FilesIn w1 (some ⟨g, (a.length + 1) * 3, none⟩) b ∧ w.heap.size < w1.heap.size ∧ ∀ i, i < w.heap.size → ¬ v1.ownBlock = some i := fun v1 w1 hc1 hb1 => by
      have hz := hc1.size
      rw [hwA] at hA1 hp2
      refine ⟨hA1.chg hc1 (fun e => ?_) (fun k hk e => ?_), hp2.chg hc1 (fun ad e => ?_), by omega, fun i hi e => ?_⟩
      · have e2 : w.heap.size = X := Option.some.inj e
        omega
      · have e2 : w.heap.size = k := Option.some.inj e
        have e3 : g = k := Option.some.inj hk
        omega
      · cases e
        exact ⟨by show g < _; omega, fun e => by
          have e2 : w.heap.size = g := Option.some.inj e
          omega⟩
      · rcases hb1 with h1 | h1
        · rw [h1] at e
          have e2 : w.heap.size = i := Option.some.inj e
          omega
        · rw [h1] at e
          have e2 : wA.heap.size = i := Option.some.inj e
          omega
    have Hfact := Lib.hid facts
    have hdel := hI.del ha
    have hfin : ∀ (v1 : Value) (w1 w2 : World) (v2 : Value), Chg (fun i => (Value.slice (some ⟨w.heap.size, 0, none⟩) 0 0).ownBlock = some i) wA w1 → (v1.ownBlock = (Value.slice (some ⟨w.heap.size, 0, none⟩) 0 0).ownBlock ∨ v1.ownBlock = some wA.heap.size) → w2.ownsRow base 65 3 v2 (([] ++ a) ++ b).length (fcells (([] ++ a) ++ b)) → Chg (fun i => v1.ownBlock = some i) w1 w2 → (v2.ownBlock = v1.ownBlock ∨ v2.ownBlock = some w1.heap.size) → Blk w2 X 55 #[.int .i64 D.room, .slice (some ⟨g, 0, none⟩) l.length cp] →
        RDPost w (w2.setCell ⟨X, 1, none⟩ v2) base X (.slice (some ⟨g, 0, none⟩) l.length cp) (D.del n) := fun v1 w1 w2 v2 hc1 hb1 hv2 hc2 hb2 hB2 => by
      obtain ⟨_, _, hz1, hn1⟩ := facts v1 w1 hc1 hb1
      rw [List.nil_append] at hv2
      refine ⟨v2, ⟨_, rd_store hB2 hv2, hdel⟩, ?_, ?_⟩
      · have h1 : Chg (fun i => i = X ∨ (Value.slice (some ⟨g, 0, none⟩) l.length cp).ownBlock = some i) w w1 := (hcA.mono (fun _ _ h => h.elim)).trans hc1 (fun i hi e => by
          have e2 : w.heap.size = i := Option.some.inj e
          omega)
        exact Chg.setCell (h1.trans hc2 (fun i hi e => absurd e (hn1 i hi))) (.inl (.inl rfl)) _
      · intro k hk
        right
        rcases hb2 with h1 | h1
        · rcases hb1 with h2 | h2
          · rw [h1, h2] at hk
            have e2 : w.heap.size = k := Option.some.inj hk
            omega
          · rw [h1, h2] at hk
            have e2 : wA.heap.size = k := Option.some.inj hk
            omega
        · rw [h1] at hk
          have e2 : w1.heap.size = k := Option.some.inj hk
          omega
    have Hfin := Lib.hid hfin
    rw [hwA] at c1A hown hp1 hA1 hp2 hgl
    clear hf e hm hle ha hA hAd hAdd hal2 facts hfin hdel hp2 hA1 hI
    subst hwA
    go_enter Try.func41, Try.ntmps41
    go_wp2_with fail
    refine hfind.out.mono ?_
    rintro e w1 ⟨rfl, rfl⟩
    go_wp2_with fail
    refine wp_region_plan (by kernel_rfl) [{ fl := [0, 2, 3, 4, 5, 6, 7, 9, 10, 11, 12, 13, 14, 15], long := [5, 7, 12, 15], ef := 1, keep := [5, 7, 12, 15] }, { fl := [], ef := 8, keep := [12, 15] }, { fl := [], ef := 16 }, { fl := [17, 18], ef := 19 }] [] (by kernel_rfl) (fun _ w9 => w9.cell? ⟨X, 1, none⟩ = some (.slice (some ⟨g, 0, none⟩) l.length cp)) ?_
    simp only [wpPlan, longOK, keepOK, opsAt_cons, opsAt_nil, consO_some, List.getElem?_toArray, List.getElem?_cons_succ, List.getElem?_cons_zero, and_true, true_and]
    refine ⟨⟨c1, c1, c1, c1⟩, ?_⟩
    by_cases hce : cp = a.length + 1
    · subst hce
      go_wp2_with fail
      refine ⟨by kernel_rfl, ⟨?_, ?_, ?_, ?_⟩, ?_⟩
      iterate 4
        · intro _ w9 hw9
          go_simp
          try (intro h9; exfalso; first | omega | (have h8 := h9 (by omega); omega))
      go_wp2_with fail
      refine ⟨⟨c1A, c1A, c1A, c1A⟩, ?_⟩
      go_wp2_with fail
      refine ⟨by kernel_rfl, ?_⟩
      go_wp2_with (at_builtin; go_loud (refine wpList_append_file rfl _ _ rfl (by exact hown) rfl rfl rfl (by exact hp1) (by exact Nat.le_trans hbase hcA.size) (by show 0 + _ ≤ _; omega) ?_; intro v1 w1 hv1 hc1 hb1))
      obtain ⟨hA2, hp3, hz1, hn1⟩ := Hfact.out v1 w1 hc1 hb1
      have c1B := hA2.c1
      refine ⟨⟨c1B, c1B⟩, ?_⟩
      go_wp2_with fail
      refine ⟨by kernel_rfl, ?_⟩
      go_wp2_with (at_builtin; go_loud (refine wpList_append_file (m := b) rfl _ _ rfl (by exact hv1) rfl rfl (by omega) (by rw [show b = [] from List.eq_nil_of_length_eq_zero (by omega)]; exact FilesIn.nil _ _) (by omega) (by show ([] ++ a).length + _ ≤ _; rw [List.nil_append]; omega) ?_; intro v2 w2 hv2 hc2 hb2))
      have hA3 := hA2.chg hc2 (hn1 X (by omega)) (fun k hk => by cases hk; exact hn1 g (by omega))
      have c1C := hA3.c1
      have fzC : w2.frozen? ⟨X, 1, none⟩ = false := hA3.blk.frozen 1
      have fin := Hfin.out v1 w1 w2 v2 hc1 hb1 hv2 hc2 hb2 hA3.blk
      obtain ⟨ad2, N2, cp2, rfl⟩ := own_slice hv2
      clear hA2 hp3 hv1 hv2 hA3 Hfact Hfin
      go_wp2_with fail
      refine ⟨by kernel_rfl, ?_⟩
      go_wp2_with fail
      refine ⟨by kernel_rfl, ?_⟩
      go_wp2_with fail
      go_ret
      exact ⟨rfl, fin⟩
    · go_wp2_with fail
      refine ⟨by kernel_rfl, ⟨?_, ?_, ?_, ?_⟩, ?_⟩
      iterate 4
        · intro _ w9 hw9
          go_simp
          try (intro h9; exfalso; first | omega | (have h8 := h9 (by omega); omega))
      go_wp2_with fail
      refine ⟨⟨c1A, c1A, c1A, c1A⟩, ?_⟩
      go_wp2_with fail
      refine ⟨by kernel_rfl, ?_⟩
      go_wp2_with (at_builtin; go_loud (refine wpList_append_file rfl _ _ rfl (by exact hown) rfl rfl rfl (by exact hp1) (by exact Nat.le_trans hbase hcA.size) (by show 0 + _ ≤ _; omega) ?_; intro v1 w1 hv1 hc1 hb1))
      obtain ⟨hA2, hp3, hz1, hn1⟩ := Hfact.out v1 w1 hc1 hb1
      have c1B := hA2.c1
      refine ⟨⟨c1B, c1B⟩, ?_⟩
      go_wp2_with fail
      refine ⟨by kernel_rfl, ?_⟩
      go_wp2_with (at_builtin; go_loud (refine wpList_append_file (m := b) rfl _ _ rfl (by exact hv1) rfl rfl (by omega) (by exact hp3) (by omega) (by show ([] ++ a).length + _ ≤ _; rw [List.nil_append]; omega) ?_; intro v2 w2 hv2 hc2 hb2))
      have hA3 := hA2.chg hc2 (hn1 X (by omega)) (fun k hk => by cases hk; exact hn1 g (by omega))
      have c1C := hA3.c1
      have fzC : w2.frozen? ⟨X, 1, none⟩ = false := hA3.blk.frozen 1
      have fin := Hfin.out v1 w1 w2 v2 hc1 hb1 hv2 hc2 hb2 hA3.blk
      obtain ⟨ad2, N2, cp2, rfl⟩ := own_slice hv2
      clear hA2 hp3 hv1 hv2 hA3 Hfact Hfin
      go_wp2_with fail
      refine ⟨by kernel_rfl, ?_⟩
      go_wp2_with fail
      refine ⟨by kernel_rfl, ?_⟩
      go_wp2_with fail
      go_ret
      exact ⟨rfl, fin⟩
end Go.Proofs.Ytpbjompopgdbjaa
