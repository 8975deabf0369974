/-
  the reference's disk: Rename (its last region printed by a program).
-/
import Derived.Test.YtpbjompopgdbjaaRDskE
namespace Go.Proofs.Ytpbjompopgdbjaa
open Go.RowKit Go.Maps Go.Sort

theorem IsRows.congr {D D' : Dsk} {l : List RF} (h : IsRows D l) (e : ∀ n, D'.fl n = D.fl n) : IsRows D' l := ⟨h.sorted, fun f => by rw [e]; exact h.mem f⟩
theorem remove_gone (D : Dsk) (n : Nam) : (D.remove n).2.fl n = none ∧ (D.remove n).2.room = D.room ∧ ∀ m, m ≠ n → (D.remove n).2.fl m = D.fl m := by
  unfold Dsk.remove
  cases hf : D.fl n with
  | none => exact ⟨hf, rfl, fun _ _ => rfl⟩
  | some F => exact ⟨del_self _ _, rfl, fun m hm => del_ne _ _ hm⟩
theorem remove_good {D : Dsk} (h : D.Good) (n : Nam) : (D.remove n).2.Good ∧ (D.remove n).2.ks.length ≤ D.ks.length := by
  unfold Dsk.remove
  cases hf : D.fl n with
  | none => exact ⟨h, Nat.le_refl _⟩
  | some F => exact ⟨h.del n, List.length_erase_le⟩
/-- One step behind the other. -/
theorem post_trans {w w1 w2 : World} {X : Nat} {v v1 v2 : Value} (h1 : Chg (fun i => i = X ∨ v.ownBlock = some i) w w1) (h2 : ∀ k, v1.ownBlock = some k → v.ownBlock = some k ∨ w.heap.size ≤ k) (h3 : Chg (fun i => i = X ∨ v1.ownBlock = some i) w1 w2) (h4 : ∀ k, v2.ownBlock = some k → v1.ownBlock = some k ∨ w1.heap.size ≤ k) :
    Chg (fun i => i = X ∨ v.ownBlock = some i) w w2 ∧ ∀ k, v2.ownBlock = some k → v.ownBlock = some k ∨ w.heap.size ≤ k := by
  have hz := h1.size
  refine ⟨h1.trans h3 (fun i hi h => ?_), fun k hk => ?_⟩
  · rcases h with h | h
    · exact .inl h
    · rcases h2 i h with h | h
      · exact .inr h
      · omega
  · rcases h4 k hk with h | h
    · exact h2 k h
    · exact .inr (by omega)

set_option maxRecDepth 100000 in
set_option maxHeartbeats 4000000 in
theorem rd_rename {w : World} {base X : Nat} {v : Value} {D : Dsk} (h : RD w base X v D) (hG : D.Good) (hmx : D.ks.length ≤ 999999) (hbase : base ≤ w.heap.size) (x y : Nam) (hy : y.length ≤ maxLen) :
    Calls Try.prog 49 #[.pointer (some ⟨X, 0, none⟩), encStr x, encStr y] w fun e w' => e = .returned (.int .i64 (D.rename x y).1) ∧ RDPost w w' base X v (D.rename x y).2 := by
  obtain ⟨l, hA, hI⟩ := id h
  have hl : l.length ≤ 999999 := by rw [hI.len hG]; exact hmx
  obtain ⟨a, m, b, ha⟩ := hI.around x
  have hfind := Lib.hid (rd_find hA ha (by omega))
  have hAd := hA.keep ((Chg.refl (fun _ => False) w).drew)
  have hRd : RD w.drew base X v D := ⟨l, hAd, hI⟩
  rcases ha.mid with ⟨hf, rfl⟩ | ⟨F, hf, rfl⟩
  · rw [hf] at hfind
    rw [show (none : Option Fil).isSome = false from rfl] at hfind
    have e : D.rename x y = (5, D) := by unfold Dsk.rename; rw [hf]
    rw [e]
    have fin : RDPost w w.drew base X v D := ⟨v, hRd, (Chg.refl _ w).drew, fun k hk => .inl hk⟩
    clear hf ha hA hAd hRd hI e h
    go_enter Try.func49, Try.ntmps49
    go_wp2_with fail
    refine hfind.out.mono ?_
    rintro e w1 ⟨rfl, rfl⟩
    go_wp2_with fail
    go_ret
    exact ⟨rfl, fin⟩
  · rw [hf] at hfind
    rw [show (some F).isSome = true from rfl] at hfind
    by_cases hm : may y = false
    · have e : D.rename x y = (1, D) := by unfold Dsk.rename; rw [hf]; show (if _ then _ else _) = _; rw [if_pos hm]
      rw [e]
      have fin : RDPost w w.drew base X v D := ⟨v, hRd, (Chg.refl _ w).drew, fun k hk => .inl hk⟩
      have Hm := Lib.hid hm
      clear hf ha hA hAd hRd hI e h hm
      go_enter Try.func49, Try.ntmps49
      go_wp2_with fail
      refine hfind.out.mono ?_
      rintro e w1 ⟨rfl, rfl⟩
      go_wp2_with fail
      refine (rd_good _ y hy).mono ?_
      rw [Hm.out]
      rintro e w1 ⟨rfl, rfl⟩
      go_wp2_with fail
      go_ret
      exact ⟨rfl, fin⟩
    have hm2 : may y = true := by simpa using hm
    have e : D.rename x y = (0, (D.del x).put y F) := by unfold Dsk.rename; rw [hf]; show (if _ then _ else _) = _; rw [if_neg hm]
    rw [e]
    have Hm := Lib.hid hm2
    by_cases hxy : x = y
    · subst hxy
      have fin : RDPost w w.drew base X v ((D.del x).put x F) := ⟨v, ⟨l, hAd, hI.congr (fun n => by
        by_cases hn : n = x
        · subst hn; rw [dput_fl, hf]
        · rw [dput_ne _ _ _ hn, del_ne _ _ hn])⟩, (Chg.refl _ w).drew, fun k hk => .inl hk⟩
      clear hf ha hA hAd hRd hI e h hm hm2
      go_enter Try.func49, Try.ntmps49
      go_wp2_with fail
      refine hfind.out.mono ?_
      rintro e w1 ⟨rfl, rfl⟩
      go_wp2_with fail
      refine (rd_good _ x hy).mono ?_
      rw [Hm.out]
      rintro e w1 ⟨rfl, rfl⟩
      go_wp2_with fail
      go_ret
      exact ⟨rfl, fin⟩
    have hle : l = a ++ (RF.of x F :: b) := ha.eq
    have hm9 := get_mid a b (RF.of x F)
    rw [← hle] at hm9
    obtain ⟨g, cp, hv, hg, k0, k1, k2⟩ := hAd.file hm9
    have c1 := hAd.c1
    subst hv
    replace k0 : w.drew.cell? ⟨g, a.length * 3, none⟩ = some (encStr x) := k0
    replace k1 : w.drew.cell? ⟨g, a.length * 3 + 1, none⟩ = some (encStr F.bs) := k1
    replace k2 : w.drew.cell? ⟨g, a.length * 3 + 2, none⟩ = some (.int .i64 F.sy) := k2
    have hal := (List.getElem?_eq_some_iff.1 hm9).1
    have hX := hAd.block (k := g) rfl
    have hXl : X < w.heap.size := hA.blk.lt
    have hne : (x == y) = false := by
      simp only [beq_eq_false_iff_ne, ne_eq]
      exact hxy
    obtain ⟨E, hE⟩ : ∃ E, E = w.heap.size := ⟨_, rfl⟩
    have hcE : Chg (fun _ => False) w (w.drew.alloc (.cells #[encStr x, encStr F.bs, .int .i64 F.sy] 65)) := ((Chg.refl _ w).drew).alloc _
    have hRE : RD (w.drew.alloc (.cells #[encStr x, encStr F.bs, .int .i64 F.sy] 65)) base X (.slice (some ⟨g, 0, none⟩) l.length cp) D := ⟨l, hA.keep hcE, hI⟩
    have hBE : Blk (w.drew.alloc (.cells #[encStr x, encStr F.bs, .int .i64 F.sy] 65)) E 65 #[encStr x, encStr F.bs, .int .i64 F.sy] := by
      rw [hE]
      exact Blk.new w.drew _ _
    have hzE : (w.drew.alloc (.cells #[encStr x, encStr F.bs, .int .i64 F.sy] 65)).heap.size = E + 1 := by rw [size_al, hE]; rfl
    have hgE : g < E := by rw [hE]; exact hg
    have HE := Lib.hid hE
    have hEle : w.heap.size ≤ E := by omega
    clear hE
    have hrm1 : (D.remove x) = (0, D.del x) := by unfold Dsk.remove; rw [hf]
    have hr1 := remove_gone (D.del x) y
    have hg1 := remove_good (hG.del x) y
    have hdel : (D.del x).ks.length ≤ D.ks.length := List.length_erase_le
    obtain ⟨D2, hD2⟩ : ∃ D2, ((D.del x).remove y).2 = D2 := ⟨_, rfl⟩
    rw [hD2] at hr1 hg1
    have hD' : ∀ n, ((D.del x).put y F).fl n = (D2.put y F).fl n := fun n => by
      by_cases hn : n = y
      · subst hn; rw [dput_fl, dput_fl]
      · rw [dput_ne _ _ _ hn, dput_ne _ _ _ hn, hr1.2.2 n hn]
    have HD := Lib.hid hD'
    have Hg := Lib.hid (And.intro hr1 (And.intro hg1 hdel))
    clear hf ha hA hAd hRd hI e h hm hm2 hle hm9 hr1 hg1 hD'
    go_enter Try.func49, Try.ntmps49
    go_wp2_with fail
    refine hfind.out.mono ?_
    rintro e w1 ⟨rfl, rfl⟩
    go_wp2_with fail
    refine (rd_good _ y hy).mono ?_
    rw [Hm.out]
    rintro e wq ⟨rfl, rfl⟩
    go_wp2_with fail
    rw [← HE.out]
    refine (rd_remove hRE hG (by omega) (by rw [hzE]; omega) x).mono ?_
    rw [hrm1]
    rintro e w2 ⟨rfl, v2, hR2, hc2, ho2⟩
    have hB2 := hBE.chg hc2 (fun h => by
      rcases h with h | h
      · omega
      · have := Option.some.inj h
        have h : g = E := this
        omega)
    have hz2 := hc2.size
    rw [hzE] at hz2 ho2
    have hcw2 := (hcE.mono (fun _ _ h => h.elim) : Chg (fun i => i = X ∨ (Value.slice (some ⟨g, 0, none⟩) l.length cp).ownBlock = some i) w _).trans hc2 (fun _ _ h => h)
    have hv2 : ∀ k, v2.ownBlock = some k → k ≠ E := fun k hk => by
      rcases ho2 k hk with h | h
      · have h : g = k := Option.some.inj h
        omega
      · omega
    have how2 : ∀ k, v2.ownBlock = some k → (Value.slice (some ⟨g, 0, none⟩) l.length cp).ownBlock = some k ∨ w.heap.size ≤ k := fun k hk => (ho2 k hk).imp id (fun h => by omega)
    clear hRE hBE hc2 hcE ho2 hfind
    go_wp2_with fail
    refine (rd_remove hR2 (hG.del x) (by have := Hg.out.2.2; omega) (by omega) y).mono ?_
    rw [hD2]
    rintro e w3 ⟨rfl, vv, hR3, hc3, ho3⟩
    have hB3 := hB2.chg hc3 (fun h => by
      rcases h with h | h
      · omega
      · exact hv2 E h rfl)
    have hz3 := hc3.size
    have hvv : ∀ k, vv.ownBlock = some k → k ≠ E := fun k hk => by
      rcases ho3 k hk with h | h
      · exact hv2 k h
      · omega
    have htr := post_trans hcw2 how2 hc3 ho3
    obtain ⟨l2, hA3, hI2⟩ := hR3
    have f0 : w3.cell? ⟨E, 0, none⟩ = some (encStr x) := hB3.cell 0
    have fz : w3.frozen? ⟨E, 0, none⟩ = false := hB3.frozen 0
    have hl2 : l2.length ≤ 999999 := by
      rw [hI2.len Hg.out.2.1.1]
      have := Hg.out.2.1.2
      have := Hg.out.2.2
      omega
    have hcs : Chg (fun i => i = E) w3 (w3.setCell ⟨E, 0, none⟩ (encStr y)) := Chg.setCell (Chg.refl (fun i => i = E) w3) (.inl rfl) _
    have hA4 := hA3.chg hcs (by omega) (fun k hk e => hvv k hk e)
    have hB4 : Blk (w3.setCell ⟨E, 0, none⟩ (encStr y)) E 65 #[encStr y, encStr F.bs, .int .i64 F.sy] := hB3.set 0 (encStr y)
    have hcw4 : Chg (fun i => i = X ∨ (Value.slice (some ⟨g, 0, none⟩) l.length cp).ownBlock = some i) w (w3.setCell ⟨E, 0, none⟩ (encStr y)) := Chg.setCell htr.1 (.inr (by show w.heap.size ≤ E; omega)) _
    have hov := htr.2
    obtain ⟨p, m2, q, ha2⟩ := hI2.around y
    have hm2 : m2 = [] := by
      rcases ha2.mid with ⟨_, h⟩ | ⟨G, h, _⟩
      · exact h
      · rw [Hg.out.1.1] at h; cases h
    subst hm2
    have hle2 : l2 = p ++ q := ha2.eq
    have hput := hI2.put ha2 F
    have hfind2 := Lib.hid (rd_find hA4 ha2 (by omega))
    rw [Hg.out.1.1] at hfind2
    rw [show (none : Option Fil).isSome = false from rfl] at hfind2
    obtain ⟨sa, ca, sb, cb, hs1, hs2, hsF⟩ := hA4.parts p q hle2
    have hpq : p.length + q.length ≤ 999999 := by rw [hle2, List.length_append] at hl2; exact hl2
    clear hB2 hB3 hR2 hc3 hcw2 hA3 hI2 ho3 hv2 how2 htr hcs ha2 hle2 hl2
    go_wp2_with fail
    generalize w3.setCell ⟨E, 0, none⟩ (encStr y) = w4 at *
    refine hfind2.out.mono ?_
    rintro e w5 ⟨rfl, rfl⟩
    have hA6 := hA4.keep ((Chg.refl (fun _ => False) w4).drew.drew)
    have hB6 : Blk w4.drew.drew E 65 #[encStr y, encStr F.bs, .int .i64 F.sy] := hB4
    have hcw6 := hcw4.drew.drew
    have hXW : X < w4.drew.drew.heap.size := hA6.blk.lt
    have hbW : base ≤ w4.drew.drew.heap.size := by have := hcw6.size; omega
    have hk : ∀ w', Chg (fun _ => False) w4.drew.drew w' → (w'.cell? ⟨X, 1, none⟩ = some vv ∧ w'.cell? ⟨E, 0, none⟩ = some (encStr y) ∧ w'.cell? ⟨E, 1, none⟩ = some (encStr F.bs) ∧ w'.cell? ⟨E, 2, none⟩ = some (.int .i64 F.sy)) ∧ FilesIn w' sa p ∧ FilesIn w' sb q ∧ Blk w' X 55 #[.int .i64 D2.room, vv] := fun w' hc => by
      have h9 := hA6.keep hc
      have h8 := hB6.chg hc id
      exact ⟨⟨h9.c1, h8.cell 0, h8.cell 1, h8.cell 2⟩, (hsF w' h9).1, (hsF w' h9).2, h9.blk⟩
    have cW := (hk _ (Chg.refl _ _)).1
    have Hk := Lib.hid hk
    have hfin : ∀ v3 w6, RDPost0 w4.drew.drew w6 base X vv v3 D2.room (p ++ (⟨y, F.bs, F.sy⟩ : RF) :: q) → RDPost w w6 base X (.slice (some ⟨g, 0, none⟩) l.length cp) ((D.del x).put y F) := fun v3 w6 h9 => by
      have ht := post_trans hcw6 hov h9.2.1 h9.2.2
      refine ⟨v3, ⟨_, ?_, hput.congr HD.out⟩, ht.1, ht.2⟩
      have h8 := h9.1
      rw [Hg.out.1.2.1] at h8
      exact h8
    have Hfin := Lib.hid hfin
    clear hk hfin hA4 hA6 hB4 hB6 hcw4 hcw6 hput hsF hfind2 hov hvv f0 fz
    go_wp2_with fail
    refine wp_region_tree (by kernel_rfl) [0, 0, 0, 4, 12, 28, 0, 124, 254, 0, 512, 2046, 0, 4096, 12288, 28672, 0, 126976, 262142, 524287, 1048575, 2097151] [1, 8, 10, 11, 18, 21] [(1, [5, 7, 9, 15, 17]), (8, [9, 15, 17]), (10, [5, 7, 15, 17]), (11, [15, 17])] (.two [0, 2, 3, 4, 5, 6, 7, 9, 12, 13, 14, 15, 16, 17] [5, 7, 9, 15, 17] 1 10 (.two [] [] 8 10 (.one [] [] 10 (.one [] [] 11 (.one [] [] 18 (.one [19, 20] [] 21 (.fin []))))) (.one [] [] 8 (.one [] [] 11 (.one [] [] 18 (.one [19, 20] [] 21 (.fin [])))))) (.one [] [] 1 (.one [] [] 8 (.one [] [] 11 (.one [] [] 18 (.one [19, 20] [] 21 (.fin []))))))) (by kernel_rfl) (fun _ w9 => w9.cell? ⟨X, 1, none⟩ = some vv ∧ w9.cell? ⟨E, 0, none⟩ = some (encStr y) ∧ w9.cell? ⟨E, 1, none⟩ = some (encStr F.bs) ∧ w9.cell? ⟨E, 2, none⟩ = some (.int .i64 F.sy)) ?_
    simp only [wpTree, keepT, List.find?, Nat.reduceBEq, longOK, keepOK, opsAt_cons, opsAt_nil, consO_some, List.getElem?_toArray, List.getElem?_cons_succ, List.getElem?_cons_zero, and_true, true_and]
    refine ⟨by first | exact cW | exact ⟨cW, cW, cW, cW, cW⟩, ?_⟩
    obtain ⟨cw1, cw2, cw3, cw4⟩ := cW
    generalize w4.drew.drew = W0 at *
    go_wp2_with fail
    refine ⟨by kernel_rfl, ⟨?_, ?_, ?_, ?_, ?_⟩, ?_, ?_⟩
    iterate 5
      · intro _ w9 hw9
        obtain ⟨hw1, hw2, hw3, hw4⟩ := hw9
        go_simp
    · go_wp2_with fail
      have iE := Ins.new (Chg.refl (fun _ => False) W0)
      have cE := (Hk.out _ iE.chg).1
      refine ⟨by first | exact cE | exact ⟨cE, cE⟩ | exact ⟨cE, cE, cE⟩ | exact ⟨cE, cE, cE, cE⟩ | exact ⟨cE, cE, cE, cE, cE⟩ | simp only [cE.1, cE.2.1, cE.2.2.1, cE.2.2.2, and_self], ?_⟩
      go_wp2_with fail
      refine ⟨by kernel_rfl, ?_, ?_⟩
      · -- the empty row, the first part, the one
        go_wp2_with (at_builtin; go_loud (refine wpList_append_file (m := p) rfl _ _ rfl (by exact iE.own) rfl rfl rfl (by exact (Hk.out _ iE.chg).2.1) (by exact iE.chg.size) (by simp; omega) ?_; intro v1 w1 hv1 hc1 hb1))
        have iP := iE.app hv1 hc1
        have cP := (Hk.out _ iP.chg).1
        refine ⟨by first | exact cP | exact ⟨cP, cP⟩ | exact ⟨cP, cP, cP⟩ | exact ⟨cP, cP, cP, cP⟩ | exact ⟨cP, cP, cP, cP, cP⟩ | simp only [cP.1, cP.2.1, cP.2.2.1, cP.2.2.2, and_self], ?_⟩
        go_wp2_with fail
        refine ⟨by kernel_rfl, ?_⟩
        go_wp2_with fail
        have iO := iP.alloc (.cells #[encStr y, encStr F.bs, .int .i64 F.sy] 65)
        have cO := (Hk.out _ iO.chg).1
        have hone := one_new w1 ⟨y, F.bs, F.sy⟩
        refine ⟨by first | exact cO | exact ⟨cO, cO⟩ | exact ⟨cO, cO, cO⟩ | exact ⟨cO, cO, cO, cO⟩ | exact ⟨cO, cO, cO, cO, cO⟩ | simp only [cO.1, cO.2.1, cO.2.2.1, cO.2.2.2, and_self], ?_⟩
        go_wp2_with fail
        refine ⟨by kernel_rfl, ?_⟩
        go_wp2_with (at_builtin; go_loud (refine wpList_append_file (m := [⟨y, F.bs, F.sy⟩]) rfl _ _ rfl (by exact iO.own) rfl rfl rfl (by exact hone) (by exact iO.chg.size) (by simp; omega) ?_; intro v2 w2 hv2 hc2 hb2))
        have iQ := iO.app hv2 hc2
        have cQ := (Hk.out _ iQ.chg).1
        refine ⟨by first | exact cQ | exact ⟨cQ, cQ⟩ | exact ⟨cQ, cQ, cQ⟩ | exact ⟨cQ, cQ, cQ, cQ⟩ | exact ⟨cQ, cQ, cQ, cQ, cQ⟩ | simp only [cQ.1, cQ.2.1, cQ.2.2.1, cQ.2.2.2, and_self], ?_⟩
        go_wp2_with fail
        refine ⟨by kernel_rfl, ?_⟩
        go_wp2_with (at_builtin; go_loud (refine wpList_append_file (m := q) rfl _ _ rfl (by exact iQ.own) rfl rfl rfl (by exact (Hk.out _ iQ.chg).2.2.1) (by exact iQ.chg.size) (by simp; omega) ?_; intro v3 w3 hv3 hc3 hb3))
        have iS := iQ.app hv3 hc3
        have hBX := (Hk.out _ iS.chg).2.2.2
        have c1C := (Hk.out _ iS.chg).1.1
        have fzC : w3.frozen? ⟨X, 1, none⟩ = false := hBX.frozen 1
        obtain ⟨g3, N3, cp3, rfl, -, -, -, -, hpost, -⟩ := ins_set (f := ⟨y, F.bs, F.sy⟩) (Chg.refl _ W0) hbW hXW hBX (by simpa using iS)
        have fin := Hfin.out _ _ hpost
        clear hpost hv1 hv2 hv3 hc1 hc2 hc3 hb1 hb2 hb3 iE iP iO iQ iS Hk hone hBX Hfin
        go_wp2_with fail
        refine ⟨by kernel_rfl, ?_⟩
        go_wp2_with fail
        refine ⟨by kernel_rfl, ?_⟩
        go_wp2_with fail
        go_ret
        exact ⟨rfl, fin⟩
      · -- the empty row, the one, the first part
        go_wp2_with fail
        have iP := iE.alloc (.cells #[encStr y, encStr F.bs, .int .i64 F.sy] 65)
        have cP := (Hk.out _ iP.chg).1
        have hone := one_new (W0.alloc (.cells #[] 65)) ⟨y, F.bs, F.sy⟩
        rw [size_al] at hone
        refine ⟨by first | exact cP | exact ⟨cP, cP⟩ | exact ⟨cP, cP, cP⟩ | exact ⟨cP, cP, cP, cP⟩ | exact ⟨cP, cP, cP, cP, cP⟩ | simp only [cP.1, cP.2.1, cP.2.2.1, cP.2.2.2, and_self], ?_⟩
        go_wp2_with fail
        refine ⟨by kernel_rfl, ?_⟩
        go_wp2_with (at_builtin; go_loud (refine wpList_append_file (m := p) rfl _ _ rfl (by exact iP.own) rfl rfl rfl (by exact (Hk.out _ iP.chg).2.1) (by exact iP.chg.size) (by simp; omega) ?_; intro v1 w1 hv1 hc1 hb1))
        have iO := iP.app hv1 hc1
        have cO := (Hk.out _ iO.chg).1
        have hone := hone.chg hc1 (fun ad e => by cases e; exact ⟨by show W0.heap.size + 1 < _; rw [size_al, size_al]; exact Nat.lt_succ_self _, fun e => by have e2 : W0.heap.size = W0.heap.size + 1 := Option.some.inj e; omega⟩)
        refine ⟨by first | exact cO | exact ⟨cO, cO⟩ | exact ⟨cO, cO, cO⟩ | exact ⟨cO, cO, cO, cO⟩ | exact ⟨cO, cO, cO, cO, cO⟩ | simp only [cO.1, cO.2.1, cO.2.2.1, cO.2.2.2, and_self], ?_⟩
        go_wp2_with fail
        refine ⟨by kernel_rfl, ?_⟩
        go_wp2_with (at_builtin; go_loud (refine wpList_append_file (m := [⟨y, F.bs, F.sy⟩]) rfl _ _ rfl (by exact iO.own) rfl rfl rfl (by exact hone) (by exact iO.chg.size) (by simp; omega) ?_; intro v2 w2 hv2 hc2 hb2))
        have iQ := iO.app hv2 hc2
        have cQ := (Hk.out _ iQ.chg).1
        refine ⟨by first | exact cQ | exact ⟨cQ, cQ⟩ | exact ⟨cQ, cQ, cQ⟩ | exact ⟨cQ, cQ, cQ, cQ⟩ | exact ⟨cQ, cQ, cQ, cQ, cQ⟩ | simp only [cQ.1, cQ.2.1, cQ.2.2.1, cQ.2.2.2, and_self], ?_⟩
        go_wp2_with fail
        refine ⟨by kernel_rfl, ?_⟩
        go_wp2_with (at_builtin; go_loud (refine wpList_append_file (m := q) rfl _ _ rfl (by exact iQ.own) rfl rfl rfl (by exact (Hk.out _ iQ.chg).2.2.1) (by exact iQ.chg.size) (by simp; omega) ?_; intro v3 w3 hv3 hc3 hb3))
        have iS := iQ.app hv3 hc3
        have hBX := (Hk.out _ iS.chg).2.2.2
        have c1C := (Hk.out _ iS.chg).1.1
        have fzC : w3.frozen? ⟨X, 1, none⟩ = false := hBX.frozen 1
        obtain ⟨g3, N3, cp3, rfl, -, -, -, -, hpost, -⟩ := ins_set (f := ⟨y, F.bs, F.sy⟩) (Chg.refl _ W0) hbW hXW hBX (by simpa using iS)
        have fin := Hfin.out _ _ hpost
        clear hpost hv1 hv2 hv3 hc1 hc2 hc3 hb1 hb2 hb3 iE iP iO iQ iS Hk hone hBX Hfin
        go_wp2_with fail
        refine ⟨by kernel_rfl, ?_⟩
        go_wp2_with fail
        refine ⟨by kernel_rfl, ?_⟩
        go_wp2_with fail
        go_ret
        exact ⟨rfl, fin⟩
    · -- the one, the empty row, the first part
      go_wp2_with fail
      have hcO : Chg (fun _ => False) W0 (W0.alloc (.cells #[encStr y, encStr F.bs, .int .i64 F.sy] 65)) := (Chg.refl _ W0).alloc _
      have cZ := (Hk.out _ hcO).1
      have hone := one_new W0 ⟨y, F.bs, F.sy⟩
      refine ⟨by first | exact cZ | exact ⟨cZ, cZ⟩ | exact ⟨cZ, cZ, cZ⟩ | exact ⟨cZ, cZ, cZ, cZ⟩ | exact ⟨cZ, cZ, cZ, cZ, cZ⟩ | simp only [cZ.1, cZ.2.1, cZ.2.2.1, cZ.2.2.2, and_self], ?_⟩
      go_wp2_with fail
      refine ⟨by kernel_rfl, ?_⟩
      go_wp2_with fail
      have iE := Ins.new hcO
      rw [size_al] at iE
      have cE := (Hk.out _ iE.chg).1
      have hone := hone.chg ((Chg.refl (fun _ => False) (W0.alloc (.cells #[encStr y, encStr F.bs, .int .i64 F.sy] 65))).alloc (.cells #[] 65)) (fun ad e => by cases e; exact ⟨by show W0.heap.size < _; rw [size_al]; exact Nat.lt_succ_self _, id⟩)
      refine ⟨by first | exact cE | exact ⟨cE, cE⟩ | exact ⟨cE, cE, cE⟩ | exact ⟨cE, cE, cE, cE⟩ | exact ⟨cE, cE, cE, cE, cE⟩ | simp only [cE.1, cE.2.1, cE.2.2.1, cE.2.2.2, and_self], ?_⟩
      go_wp2_with fail
      refine ⟨by kernel_rfl, ?_⟩
      go_wp2_with (at_builtin; go_loud (refine wpList_append_file (m := p) rfl _ _ rfl (by exact iE.own) rfl rfl rfl (by exact (Hk.out _ iE.chg).2.1) (by exact iE.chg.size) (by simp; omega) ?_; intro v1 w1 hv1 hc1 hb1))
      have iP := iE
      have iO := iE.app hv1 hc1
      have cO := (Hk.out _ iO.chg).1
      have hone := hone.chg hc1 (fun ad e => by cases e; exact ⟨by show W0.heap.size < _; rw [size_al, size_al]; omega, fun e => by have e2 : W0.heap.size + 1 = W0.heap.size := Option.some.inj e; omega⟩)
      refine ⟨by first | exact cO | exact ⟨cO, cO⟩ | exact ⟨cO, cO, cO⟩ | exact ⟨cO, cO, cO, cO⟩ | exact ⟨cO, cO, cO, cO, cO⟩ | simp only [cO.1, cO.2.1, cO.2.2.1, cO.2.2.2, and_self], ?_⟩
      go_wp2_with fail
      refine ⟨by kernel_rfl, ?_⟩
      go_wp2_with (at_builtin; go_loud (refine wpList_append_file (m := [⟨y, F.bs, F.sy⟩]) rfl _ _ rfl (by exact iO.own) rfl rfl rfl (by exact hone) (by exact iO.chg.size) (by simp; omega) ?_; intro v2 w2 hv2 hc2 hb2))
      have iQ := iO.app hv2 hc2
      have cQ := (Hk.out _ iQ.chg).1
      refine ⟨by first | exact cQ | exact ⟨cQ, cQ⟩ | exact ⟨cQ, cQ, cQ⟩ | exact ⟨cQ, cQ, cQ, cQ⟩ | exact ⟨cQ, cQ, cQ, cQ, cQ⟩ | simp only [cQ.1, cQ.2.1, cQ.2.2.1, cQ.2.2.2, and_self], ?_⟩
      go_wp2_with fail
      refine ⟨by kernel_rfl, ?_⟩
      go_wp2_with (at_builtin; go_loud (refine wpList_append_file (m := q) rfl _ _ rfl (by exact iQ.own) rfl rfl rfl (by exact (Hk.out _ iQ.chg).2.2.1) (by exact iQ.chg.size) (by simp; omega) ?_; intro v3 w3 hv3 hc3 hb3))
      have iS := iQ.app hv3 hc3
      have hBX := (Hk.out _ iS.chg).2.2.2
      have c1C := (Hk.out _ iS.chg).1.1
      have fzC : w3.frozen? ⟨X, 1, none⟩ = false := hBX.frozen 1
      obtain ⟨g3, N3, cp3, rfl, -, -, -, -, hpost, -⟩ := ins_set (f := ⟨y, F.bs, F.sy⟩) (Chg.refl _ W0) hbW hXW hBX (by simpa using iS)
      have fin := Hfin.out _ _ hpost
      clear hpost hv1 hv2 hv3 hc1 hc2 hc3 hb1 hb2 hb3 iE iP iO iQ iS Hk hone hBX Hfin
      go_wp2_with fail
      refine ⟨by kernel_rfl, ?_⟩
      go_wp2_with fail
      refine ⟨by kernel_rfl, ?_⟩
      go_wp2_with fail
      go_ret
      exact ⟨rfl, fin⟩
end Go.Proofs.Ytpbjompopgdbjaa

namespace Go.Proofs.Ytpbjompopgdbjaa
open Go.RowKit Go.Maps Go.Sort

theorem str_take (l : List UInt8) (k : Nat) : (⟨l.toArray⟩ : ByteArray).extract 0 k = ⟨(l.take k).toArray⟩ := by
  apply ByteArray.ext
  simp [ByteArray.data_extract]

set_option maxRecDepth 100000 in
set_option maxHeartbeats 2000000 in
theorem rd_cut {w : World} {base X : Nat} {v : Value} {D : Dsk} (h : RD w base X v D) (hG : D.Good) (hmx : D.ks.length ≤ 1000000) (n : Nam) (k : Int) :
    Calls Try.prog 44 #[.pointer (some ⟨X, 0, none⟩), encStr n, .int .i64 k] w fun e w' => e = .returned (.int .i64 (D.cut n k).1) ∧ RDPost w w' base X v (D.cut n k).2 := by
  obtain ⟨l, hA, hI⟩ := h
  have hl : l.length ≤ 1000000 := by rw [hI.len hG]; exact hmx
  obtain ⟨a, m, b, ha⟩ := hI.around n
  have hfind := Lib.hid (rd_find hA ha hl)
  have hAd := hA.keep ((Chg.refl (fun _ => False) w).drew)
  have hAdd := hA.keep ((Chg.refl (fun _ => False) w).drew.drew)
  rcases ha.mid with ⟨hf, rfl⟩ | ⟨F, hf, rfl⟩
  · rw [hf] at hfind
    rw [show (none : Option Fil).isSome = false from rfl] at hfind
    have e : D.cut n k = (5, D) := by unfold Dsk.cut; rw [hf]
    rw [e]
    have fin : RDPost w w.drew base X v D := ⟨v, ⟨l, hAd, hI⟩, (Chg.refl _ w).drew, fun k hk => .inl hk⟩
    clear hf ha hA hAd hAdd hI e
    go_enter Try.func44, Try.ntmps44
    go_wp2_with fail
    refine hfind.out.mono ?_
    rintro e w1 ⟨rfl, rfl⟩
    go_wp2_with fail
    go_ret
    exact ⟨rfl, fin⟩
  · rw [hf] at hfind
    rw [show (some F).isSome = true from rfl] at hfind
    have hm := get_mid a b (RF.of n F)
    have hle : l = a ++ (RF.of n F :: b) := ha.eq
    rw [← hle] at hm
    obtain ⟨g, cp, hv, hg, k0, k1, k2⟩ := hAdd.file hm
    have c1 := hAdd.c1
    subst hv
    replace k1 : w.drew.drew.cell? ⟨g, a.length * 3 + 1, none⟩ = some (encStr F.bs) := k1
    replace k2 : w.drew.drew.cell? ⟨g, a.length * 3 + 2, none⟩ = some (.int .i64 F.sy) := k2
    have e1 : w.drew.cell? ⟨g, a.length * 3 + 1, none⟩ = some (encStr F.bs) := k1
    have d1 : w.drew.cell? ⟨X, 1, none⟩ = some (.slice (some ⟨g, 0, none⟩) l.length cp) := c1
    have kz1 := hAdd.frozen (g := g) rfl (a.length * 3 + 1)
    have kz2 := hAdd.frozen (g := g) rfl (a.length * 3 + 2)
    have hal := (List.getElem?_eq_some_iff.1 hm).1
    by_cases hbad : k < 0 ∨ (F.bs.length : Int) < k
    · have e : D.cut n k = (3, D) := by unfold Dsk.cut; rw [hf]; show (if _ then _ else _) = _; rw [if_pos hbad]
      rw [e]
      have fin : RDPost w w.drew base X (.slice (some ⟨g, 0, none⟩) l.length cp) D := ⟨_, ⟨l, hAd, hI⟩, (Chg.refl _ w).drew, fun k hk => .inl hk⟩
      clear hf hm ha hA hAd hAdd hI k0 e hle c1 k1 k2 kz1 kz2
      go_enter Try.func44, Try.ntmps44
      go_wp2_with fail
      refine hfind.out.mono ?_
      rintro e w1 ⟨rfl, rfl⟩
      by_cases hk0 : k < 0
      · go_wp2_with fail
        go_ret
        exact ⟨rfl, fin⟩
      · have hk1 : (F.bs.length : Int) < k := by omega
        go_wp2_with fail
        go_ret
        exact ⟨rfl, fin⟩
    · obtain ⟨kn, rfl⟩ : ∃ kn : Nat, k = kn := ⟨k.toNat, by omega⟩
      have hkn : kn ≤ F.bs.length := by omega
      have e : D.cut n kn = (0, D.put n ⟨F.bs.take kn, kn⟩) := by unfold Dsk.cut; rw [hf]; show (if _ then _ else _) = _; rw [if_neg hbad]; rfl
      rw [e]
      have hS1 := hAdd.set (j := 1) (u := encStr (F.bs.take kn)) (f' := ⟨n, F.bs.take kn, F.sy⟩) hm (by decide) rfl
      have hl2 : l.set a.length (⟨n, F.bs.take kn, F.sy⟩ : RF) = a ++ (⟨n, F.bs.take kn, F.sy⟩ : RF) :: b := by rw [hle, set_mid]
      have hln : l.length = (a ++ (⟨n, F.bs.take kn, F.sy⟩ : RF) :: b).length := by rw [hle]; simp
      rw [hl2] at hS1
      have hS2 := (hln ▸ hS1 : RDAt _ base X (.slice (some ⟨g, 0, none⟩) (a ++ (⟨n, F.bs.take kn, F.sy⟩ : RF) :: b).length cp) D.room _).set (j := 2) (u := .int .i64 kn) (f' := RF.of n ⟨F.bs.take kn, kn⟩) (get_mid _ _ _) (by decide) rfl
      rw [set_mid, ← hln] at hS2
      have fin : RDPost w ((w.drew.drew.setCell ⟨g, a.length * 3 + 1, none⟩ (encStr (F.bs.take kn))).setCell ⟨g, a.length * 3 + 2, none⟩ (.int .i64 kn)) base X (.slice (some ⟨g, 0, none⟩) l.length cp) (D.put n ⟨F.bs.take kn, kn⟩) :=
        ⟨_, ⟨_, hS2, hI.put ha ⟨F.bs.take kn, kn⟩⟩, Chg.setCell (Chg.setCell ((Chg.refl _ w).drew.drew) (.inl (.inr rfl)) _) (.inl (.inr rfl)) _, fun k hk => .inl hk⟩
      have kz3 : w.frozen? ⟨g, a.length * 3 + 2, none⟩ = false := kz2
      have k3 : w.cell? ⟨g, a.length * 3 + 2, none⟩ = some (.int .i64 F.sy) := k2
      clear hf hm ha hA hAd hAdd hI k0 e hle hS1 hS2 hl2 hln hbad
      go_enter Try.func44, Try.ntmps44
      go_wp2_with fail
      refine hfind.out.mono ?_
      rintro e w1 ⟨rfl, rfl⟩
      go_wp2_with fail
      refine wp_region_plan (by kernel_rfl) [{ fl := [0, 1, 2, 3, 4, 5, 6, 7, 8, 9, 10, 11, 12, 13, 14, 15, 16, 17, 18, 19, 20, 21, 22], long := [19], ef := 23 }, { fl := [24, 25], ef := 26 }] [] (by kernel_rfl) (fun _ _ => True) ?_
      simp only [wpPlan, longOK, keepOK, opsAt_cons, opsAt_nil, consO_some, List.getElem?_toArray, List.getElem?_cons_succ, List.getElem?_cons_zero, and_true, true_and]
      go_wp2_with fail
      refine ⟨by kernel_rfl, ?_, ?_⟩
      · intro _ w9 _
        go_simp
      go_wp2_with fail
      refine ⟨by kernel_rfl, ?_⟩
      go_wp2_with fail
      refine ⟨by kernel_rfl, ?_⟩
      go_wp2_with fail
      go_ret
      exact ⟨rfl, by rw [str_take]; exact fin⟩
end Go.Proofs.Ytpbjompopgdbjaa
