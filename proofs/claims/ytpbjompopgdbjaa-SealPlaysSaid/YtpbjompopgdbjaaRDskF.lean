/-
  the reference's disk: Append (printed by genrdf.py).
-/
import Derived.Test.YtpbjompopgdbjaaRDskE
namespace Go.Proofs.Ytpbjompopgdbjaa
open Go.RowKit Go.Maps Go.Sort

set_option maxRecDepth 100000 in
set_option maxHeartbeats 4000000 in
theorem rd_append {w : World} {base X : Nat} {v : Value} {D : Dsk} (h : RD w base X v D) (hG : D.Good) (hmx : D.ks.length ≤ 999999) (hbase : base ≤ w.heap.size) (n : Nam) (hn : n.length ≤ maxLen) (s : List UInt8) (hs : s.length ≤ 1000000) :
    Calls Try.prog 47 #[.pointer (some ⟨X, 0, none⟩), encStr n, encStr s] w fun e w' => e = .returned (.int .i64 (D.append n s).1) ∧ RDPost w w' base X v (D.append n s).2 := by
  obtain ⟨l, hA, hI⟩ := id h
  have hl : l.length ≤ 999999 := by rw [hI.len hG]; exact hmx
  have hAd := hA.keep ((Chg.refl (fun _ => False) w).drew)
  have hRd : RD w.drew base X v D := ⟨l, hAd, hI⟩
  have hused := Lib.hid (rd_used hRd hG (by omega))
  have hfit := hG.fit
  have hrm := hG.rm
  by_cases hm : may n = false
  · have e : D.append n s = (1, D) := by unfold Dsk.append; rw [if_pos hm]
    rw [e]
    have fin : RDPost w w base X v D := ⟨v, h, Chg.refl _ w, fun k hk => .inl hk⟩
    clear h hA hI hAd hRd hused e hfit
    go_enter Try.func47, Try.ntmps47
    go_wp2_with fail
    refine (rd_good w n hn).mono ?_
    rw [hm]
    rintro e w1 ⟨rfl, rfl⟩
    go_wp2_with fail
    go_ret
    exact ⟨rfl, fin⟩
  have hm2 : may n = true := by simpa using hm
  by_cases hfull : D.room - D.used < s.length
  · have e : D.append n s = (4, D) := by unfold Dsk.append; rw [if_neg hm, if_pos hfull]
    rw [e]
    have fin : RDPost w w.drew base X v D := ⟨v, hRd, (Chg.refl _ w).drew, fun k hk => .inl hk⟩
    have c0 := hAd.c0
    have Hm := Lib.hid hm2
    clear h hA hI hAd hRd e hm hm2
    go_enter Try.func47, Try.ntmps47
    go_wp2_with fail
    refine (rd_good w n hn).mono ?_
    rw [Hm.out]
    rintro e wq ⟨rfl, rfl⟩
    go_wp2_with fail
    refine wp_region_plan (by kernel_rfl) [{ fl := [0, 1, 2, 3, 4, 5, 6], long := [1, 5], ef := 7, keep := [1, 5] }] [8, 9] (by kernel_rfl) (fun _ w9 => w9.cell? ⟨X, 0, none⟩ = some (.int .i64 D.room)) ?_
    simp only [wpPlan, longOK, keepOK, opsAt_cons, opsAt_nil, consO_some, List.getElem?_toArray, List.getElem?_cons_succ, List.getElem?_cons_zero, and_true, true_and]
    refine ⟨⟨c0, c0⟩, ?_⟩
    go_wp2_with fail
    refine ⟨by kernel_rfl, ⟨?_, ?_⟩, ?_⟩
    iterate 2
      · intro _ w9 hw9
        go_simp
    go_wp2_with fail
    refine hused.out.mono ?_
    rintro e w2 ⟨rfl, rfl⟩
    go_wp2_with fail
    refine ⟨⟨c0, c0⟩, ?_⟩
    go_wp2_with fail
    refine ⟨by kernel_rfl, ?_⟩
    go_wp2_with fail
    go_ret
    exact ⟨rfl, fin⟩
  have e := app_ok (b := s) hm2 hfull
  rw [e]
  obtain ⟨a, m, b, ha⟩ := hI.around n
  have hAdd := hA.keep ((Chg.refl (fun _ => False) w).drew.drew)
  have hAddd := hA.keep ((Chg.refl (fun _ => False) w).drew.drew.drew)
  have hfind := Lib.hid (rd_find hAd ha (by omega))
  have c0 := hAd.c0
  have Hm := Lib.hid hm2
  have hnf : ¬ (s.length : Int) > D.room - D.used := by omega
  rcases ha.mid with ⟨hf, rfl⟩ | ⟨F, hf, rfl⟩
  · rw [hf] at hfind ⊢
    rw [show (none : Option Fil).isSome = false from rfl] at hfind
    have hle : l = a ++ b := ha.eq
    obtain ⟨sa, ca, sb, cb, hs1, hs2, hsF⟩ := hA.parts a b hle
    have hput : ∀ s' : List UInt8, IsRows (D.put n ⟨s', 0⟩) (a ++ (⟨n, s', 0⟩ : RF) :: b) := fun s' => hI.put ha ⟨s', 0⟩
    have Hput := Lib.hid hput
    have hab : a.length + b.length ≤ 999999 := by rw [hle, List.length_append] at hl; exact hl
    have hXl : X < w.heap.size := hA.blk.lt
    have hcW : Chg (fun _ => False) w w.drew.drew.drew := (Chg.refl _ w).drew.drew.drew
    have hk : ∀ w', Chg (fun _ => False) w.drew.drew.drew w' → w'.cell? ⟨X, 1, none⟩ = some v ∧ FilesIn w' sa a ∧ FilesIn w' sb b ∧ Blk w' X 55 #[.int .i64 D.room, v] := fun w' hc => by
      have h9 := hAddd.keep hc
      exact ⟨h9.c1, (hsF w' h9).1, (hsF w' h9).2, h9.blk⟩
    have Hk := Lib.hid hk
    have c1 := hAddd.c1
    clear hk hput hsF hf ha hA hAd hAdd hAddd hI e hm hm2 h hRd hle hl hmx
    show Calls _ _ _ _ (fun e w' => e = .returned (.int .i64 0) ∧ RDPost w w' base X v (D.put n ⟨[] ++ s, 0⟩))
    rw [List.nil_append]
    go_enter Try.func47, Try.ntmps47
    go_wp2_with fail
    refine (rd_good w n hn).mono ?_
    rw [Hm.out]
    rintro e wq ⟨rfl, rfl⟩
    go_wp2_with fail
    refine wp_region_plan (by kernel_rfl) [{ fl := [0, 1, 2, 3, 4, 5, 6], long := [1, 5], ef := 7, keep := [1, 5] }] [8, 9] (by kernel_rfl) (fun _ w9 => w9.cell? ⟨X, 0, none⟩ = some (.int .i64 D.room)) ?_
    simp only [wpPlan, longOK, keepOK, opsAt_cons, opsAt_nil, consO_some, List.getElem?_toArray, List.getElem?_cons_succ, List.getElem?_cons_zero, and_true, true_and]
    refine ⟨⟨c0, c0⟩, ?_⟩
    go_wp2_with fail
    refine ⟨by kernel_rfl, ⟨?_, ?_⟩, ?_⟩
    iterate 2
      · intro _ w9 hw9
        go_simp
    go_wp2_with fail
    refine hused.out.mono ?_
    rintro e w2 ⟨rfl, rfl⟩
    go_wp2_with fail
    refine ⟨⟨c0, c0⟩, ?_⟩
    go_wp2_with fail
    refine ⟨by kernel_rfl, ?_⟩
    go_wp2_with fail
    refine hfind.out.mono ?_
    rintro e w1 ⟨rfl, rfl⟩
    go_wp2_with fail
    refine wp_region_tree (by kernel_rfl) [0, 0, 0, 4, 12, 28, 0, 124, 254, 0, 512, 1536, 4094, 0, 8192, 24576, 57344, 0, 253952, 524286, 1048575, 2097151, 4194303] [1, 8, 11, 12, 19, 22] [(1, [5, 7, 16, 18]), (8, [16, 18]), (11, [5, 7, 16, 18]), (12, [16, 18])] (.two [0, 2, 3, 4, 5, 6, 7, 9, 10, 13, 14, 15, 16, 17, 18] [5, 7, 16, 18] 1 11 (.two [] [] 8 11 (.one [] [] 11 (.one [] [] 12 (.one [] [] 19 (.one [20, 21] [] 22 (.fin []))))) (.one [] [] 8 (.one [] [] 12 (.one [] [] 19 (.one [20, 21] [] 22 (.fin [])))))) (.one [] [] 1 (.one [] [] 8 (.one [] [] 12 (.one [] [] 19 (.one [20, 21] [] 22 (.fin []))))))) (by kernel_rfl) (fun _ w9 => w9.cell? ⟨X, 1, none⟩ = some v) ?_
    simp only [wpTree, keepT, List.find?, Nat.reduceBEq, longOK, keepOK, opsAt_cons, opsAt_nil, consO_some, List.getElem?_toArray, List.getElem?_cons_succ, List.getElem?_cons_zero, and_true, true_and]
    refine ⟨⟨c1, c1, c1, c1⟩, ?_⟩
    generalize wq.drew.drew.drew = W0 at *
    go_wp2_with fail
    refine ⟨by kernel_rfl, ⟨?_, ?_, ?_, ?_⟩, ?_, ?_⟩
    iterate 4
      · intro _ w9 hw9
        go_simp
    · go_wp2_with fail
      have iE := Ins.new (Chg.refl (fun _ => False) W0)
      have cE := (Hk.out _ iE.chg).1
      refine ⟨by first | exact cE | exact ⟨cE, cE⟩ | exact ⟨cE, cE, cE, cE⟩, ?_⟩
      go_wp2_with fail
      refine ⟨by kernel_rfl, ?_, ?_⟩
      · -- the empty row, the first part, the one
        go_wp2_with (at_builtin; go_loud (refine wpList_append_file (m := a) rfl _ _ rfl (by exact iE.own) rfl rfl rfl (by exact (Hk.out _ iE.chg).2.1) (by exact iE.chg.size) (by simp; omega) ?_; intro v1 w1 hv1 hc1 hb1))
        have iP := iE.app hv1 hc1
        have cP := (Hk.out _ iP.chg).1
        refine ⟨by first | exact cP | exact ⟨cP, cP⟩ | exact ⟨cP, cP, cP, cP⟩, ?_⟩
        go_wp2_with fail
        refine ⟨by kernel_rfl, ?_⟩
        go_wp2_with fail
        have iO := iP.alloc (.cells #[encStr n, encStr [], .int .i64 0] 65)
        have cO := (Hk.out _ iO.chg).1
        have hone := one_new w1 ⟨n, [], 0⟩
        refine ⟨by first | exact cO | exact ⟨cO, cO⟩ | exact ⟨cO, cO, cO, cO⟩, ?_⟩
        go_wp2_with fail
        refine ⟨by kernel_rfl, ?_⟩
        go_wp2_with (at_builtin; go_loud (refine wpList_append_file (m := [⟨n, [], 0⟩]) rfl _ _ rfl (by exact iO.own) rfl rfl rfl (by exact hone) (by exact iO.chg.size) (by simp; omega) ?_; intro v2 w2 hv2 hc2 hb2))
        have iQ := iO.app hv2 hc2
        have cQ := (Hk.out _ iQ.chg).1
        refine ⟨by first | exact cQ | exact ⟨cQ, cQ⟩ | exact ⟨cQ, cQ, cQ, cQ⟩, ?_⟩
        go_wp2_with fail
        refine ⟨by kernel_rfl, ?_⟩
        go_wp2_with (at_builtin; go_loud (refine wpList_append_file (m := b) rfl _ _ rfl (by exact iQ.own) rfl rfl rfl (by exact (Hk.out _ iQ.chg).2.2.1) (by exact iQ.chg.size) (by simp; omega) ?_; intro v3 w3 hv3 hc3 hb3))
        have iS := iQ.app hv3 hc3
        have hBX := (Hk.out _ iS.chg).2.2.2
        have c1C := (Hk.out _ iS.chg).1
        have fzC : w3.frozen? ⟨X, 1, none⟩ = false := hBX.frozen 1
        obtain ⟨g3, N3, cp3, rfl, hN3, d1, d2, d3, _, hfin⟩ := ins_set (f := ⟨n, [], 0⟩) hcW hbase hXl hBX (by simpa using iS)
        have hal : a.length < N3 := by omega
        clear hN3
        have Hfin := Lib.hid hfin
        clear hfin hv1 hv2 hv3 hc1 hc2 hc3 hb1 hb2 hb3 iE iP iO iQ iS Hk hone hBX
        go_wp2_with fail
        refine ⟨by kernel_rfl, ?_⟩
        go_wp2_with fail
        generalize w3.setCell ⟨X, 1, none⟩ (.slice (some ⟨g3, 0, none⟩) N3 cp3) = W5 at *
        obtain ⟨S0, hS0⟩ : ∃ S0 : List UInt8, S0 = [] := ⟨_, rfl⟩
        rw [← hS0] at d2
        have hsum : S0.length + s.length ≤ 1000000 := by rw [hS0]; simp; omega
        have d1 : W5.drew.cell? ⟨X, 1, none⟩ = some (.slice (some ⟨g3, 0, none⟩) N3 cp3) := d1
        have d2 : W5.drew.cell? ⟨g3, a.length * 3 + 1, none⟩ = some (encStr S0) := d2
        have d3 : W5.drew.frozen? ⟨g3, a.length * 3 + 1, none⟩ = false := d3
        have fin : RDPost wq (W5.drew.setCell ⟨g3, a.length * 3 + 1, none⟩ (encStr (S0 ++ s))) base X v (D.put n ⟨s, 0⟩) := by rw [show S0 ++ s = s by rw [hS0]; rfl]; exact (Hfin.out s).post (D' := D.put n ⟨s, 0⟩) (by exact Hput.out s)
        clear Hfin hS0
        go_wp2_with fail
        refine ⟨by kernel_rfl, ?_⟩
        go_wp2_with fail
        refine wp_region_plan (by kernel_rfl) [{ fl := [0, 1, 2, 3, 4, 5, 6, 7, 8, 9, 10, 11, 12, 13, 14, 15, 16], long := [14], ef := 17 }] [] (by kernel_rfl) (fun _ _ => True) ?_
        simp only [wpPlan, longOK, keepOK, opsAt_cons, opsAt_nil, consO_some, List.getElem?_toArray, List.getElem?_cons_succ, List.getElem?_cons_zero, and_true, true_and]
        go_wp2_with fail
        refine ⟨by kernel_rfl, ?_, ?_⟩
        · intro _ w9 _
          go_simp
          try omega
        go_wp2_with fail
        refine ⟨by kernel_rfl, ?_⟩
        go_wp2_with fail
        go_ret
        exact ⟨rfl, fin⟩
      · -- the empty row, the one, the first part
        go_wp2_with fail
        have iP := iE.alloc (.cells #[encStr n, encStr [], .int .i64 0] 65)
        have cP := (Hk.out _ iP.chg).1
        have hone := one_new (W0.alloc (.cells #[] 65)) ⟨n, [], 0⟩
        rw [size_al] at hone
        refine ⟨by first | exact cP | exact ⟨cP, cP⟩ | exact ⟨cP, cP, cP, cP⟩, ?_⟩
        go_wp2_with fail
        refine ⟨by kernel_rfl, ?_⟩
        go_wp2_with (at_builtin; go_loud (refine wpList_append_file (m := a) rfl _ _ rfl (by exact iP.own) rfl rfl rfl (by exact (Hk.out _ iP.chg).2.1) (by exact iP.chg.size) (by simp; omega) ?_; intro v1 w1 hv1 hc1 hb1))
        have iO := iP.app hv1 hc1
        have cO := (Hk.out _ iO.chg).1
        have hone := hone.chg hc1 (fun ad e => by cases e; exact ⟨by show W0.heap.size + 1 < _; rw [size_al, size_al]; exact Nat.lt_succ_self _, fun e => by have e2 : W0.heap.size = W0.heap.size + 1 := Option.some.inj e; omega⟩)
        refine ⟨by first | exact cO | exact ⟨cO, cO⟩ | exact ⟨cO, cO, cO, cO⟩, ?_⟩
        go_wp2_with fail
        refine ⟨by kernel_rfl, ?_⟩
        go_wp2_with (at_builtin; go_loud (refine wpList_append_file (m := [⟨n, [], 0⟩]) rfl _ _ rfl (by exact iO.own) rfl rfl rfl (by exact hone) (by exact iO.chg.size) (by simp; omega) ?_; intro v2 w2 hv2 hc2 hb2))
        have iQ := iO.app hv2 hc2
        have cQ := (Hk.out _ iQ.chg).1
        refine ⟨by first | exact cQ | exact ⟨cQ, cQ⟩ | exact ⟨cQ, cQ, cQ, cQ⟩, ?_⟩
        go_wp2_with fail
        refine ⟨by kernel_rfl, ?_⟩
        go_wp2_with (at_builtin; go_loud (refine wpList_append_file (m := b) rfl _ _ rfl (by exact iQ.own) rfl rfl rfl (by exact (Hk.out _ iQ.chg).2.2.1) (by exact iQ.chg.size) (by simp; omega) ?_; intro v3 w3 hv3 hc3 hb3))
        have iS := iQ.app hv3 hc3
        have hBX := (Hk.out _ iS.chg).2.2.2
        have c1C := (Hk.out _ iS.chg).1
        have fzC : w3.frozen? ⟨X, 1, none⟩ = false := hBX.frozen 1
        obtain ⟨g3, N3, cp3, rfl, hN3, d1, d2, d3, _, hfin⟩ := ins_set (f := ⟨n, [], 0⟩) hcW hbase hXl hBX (by simpa using iS)
        have hal : a.length < N3 := by omega
        clear hN3
        have Hfin := Lib.hid hfin
        clear hfin hv1 hv2 hv3 hc1 hc2 hc3 hb1 hb2 hb3 iE iP iO iQ iS Hk hone hBX
        go_wp2_with fail
        refine ⟨by kernel_rfl, ?_⟩
        go_wp2_with fail
        generalize w3.setCell ⟨X, 1, none⟩ (.slice (some ⟨g3, 0, none⟩) N3 cp3) = W5 at *
        obtain ⟨S0, hS0⟩ : ∃ S0 : List UInt8, S0 = [] := ⟨_, rfl⟩
        rw [← hS0] at d2
        have hsum : S0.length + s.length ≤ 1000000 := by rw [hS0]; simp; omega
        have d1 : W5.drew.cell? ⟨X, 1, none⟩ = some (.slice (some ⟨g3, 0, none⟩) N3 cp3) := d1
        have d2 : W5.drew.cell? ⟨g3, a.length * 3 + 1, none⟩ = some (encStr S0) := d2
        have d3 : W5.drew.frozen? ⟨g3, a.length * 3 + 1, none⟩ = false := d3
        have fin : RDPost wq (W5.drew.setCell ⟨g3, a.length * 3 + 1, none⟩ (encStr (S0 ++ s))) base X v (D.put n ⟨s, 0⟩) := by rw [show S0 ++ s = s by rw [hS0]; rfl]; exact (Hfin.out s).post (D' := D.put n ⟨s, 0⟩) (by exact Hput.out s)
        clear Hfin hS0
        go_wp2_with fail
        refine ⟨by kernel_rfl, ?_⟩
        go_wp2_with fail
        refine wp_region_plan (by kernel_rfl) [{ fl := [0, 1, 2, 3, 4, 5, 6, 7, 8, 9, 10, 11, 12, 13, 14, 15, 16], long := [14], ef := 17 }] [] (by kernel_rfl) (fun _ _ => True) ?_
        simp only [wpPlan, longOK, keepOK, opsAt_cons, opsAt_nil, consO_some, List.getElem?_toArray, List.getElem?_cons_succ, List.getElem?_cons_zero, and_true, true_and]
        go_wp2_with fail
        refine ⟨by kernel_rfl, ?_, ?_⟩
        · intro _ w9 _
          go_simp
          try omega
        go_wp2_with fail
        refine ⟨by kernel_rfl, ?_⟩
        go_wp2_with fail
        go_ret
        exact ⟨rfl, fin⟩
    · -- the one, the empty row, the first part
      go_wp2_with fail
      have hcO : Chg (fun _ => False) W0 (W0.alloc (.cells #[encStr n, encStr [], .int .i64 0] 65)) := (Chg.refl _ W0).alloc _
      have cZ := (Hk.out _ hcO).1
      have hone := one_new W0 ⟨n, [], 0⟩
      refine ⟨by first | exact cZ | exact ⟨cZ, cZ⟩ | exact ⟨cZ, cZ, cZ, cZ⟩, ?_⟩
      go_wp2_with fail
      refine ⟨by kernel_rfl, ?_⟩
      go_wp2_with fail
      have iE := Ins.new hcO
      rw [size_al] at iE
      have cE := (Hk.out _ iE.chg).1
      have hone := hone.chg ((Chg.refl (fun _ => False) (W0.alloc (.cells #[encStr n, encStr [], .int .i64 0] 65))).alloc (.cells #[] 65)) (fun ad e => by cases e; exact ⟨by show W0.heap.size < _; rw [size_al]; exact Nat.lt_succ_self _, id⟩)
      refine ⟨by first | exact cE | exact ⟨cE, cE⟩ | exact ⟨cE, cE, cE, cE⟩, ?_⟩
      go_wp2_with fail
      refine ⟨by kernel_rfl, ?_⟩
      go_wp2_with (at_builtin; go_loud (refine wpList_append_file (m := a) rfl _ _ rfl (by exact iE.own) rfl rfl rfl (by exact (Hk.out _ iE.chg).2.1) (by exact iE.chg.size) (by simp; omega) ?_; intro v1 w1 hv1 hc1 hb1))
      have iP := iE
      have iO := iE.app hv1 hc1
      have cO := (Hk.out _ iO.chg).1
      have hone := hone.chg hc1 (fun ad e => by cases e; exact ⟨by show W0.heap.size < _; rw [size_al, size_al]; omega, fun e => by have e2 : W0.heap.size + 1 = W0.heap.size := Option.some.inj e; omega⟩)
      refine ⟨by first | exact cO | exact ⟨cO, cO⟩ | exact ⟨cO, cO, cO, cO⟩, ?_⟩
      go_wp2_with fail
      refine ⟨by kernel_rfl, ?_⟩
      go_wp2_with (at_builtin; go_loud (refine wpList_append_file (m := [⟨n, [], 0⟩]) rfl _ _ rfl (by exact iO.own) rfl rfl rfl (by exact hone) (by exact iO.chg.size) (by simp; omega) ?_; intro v2 w2 hv2 hc2 hb2))
      have iQ := iO.app hv2 hc2
      have cQ := (Hk.out _ iQ.chg).1
      refine ⟨by first | exact cQ | exact ⟨cQ, cQ⟩ | exact ⟨cQ, cQ, cQ, cQ⟩, ?_⟩
      go_wp2_with fail
      refine ⟨by kernel_rfl, ?_⟩
      go_wp2_with (at_builtin; go_loud (refine wpList_append_file (m := b) rfl _ _ rfl (by exact iQ.own) rfl rfl rfl (by exact (Hk.out _ iQ.chg).2.2.1) (by exact iQ.chg.size) (by simp; omega) ?_; intro v3 w3 hv3 hc3 hb3))
      have iS := iQ.app hv3 hc3
      have hBX := (Hk.out _ iS.chg).2.2.2
      have c1C := (Hk.out _ iS.chg).1
      have fzC : w3.frozen? ⟨X, 1, none⟩ = false := hBX.frozen 1
      obtain ⟨g3, N3, cp3, rfl, hN3, d1, d2, d3, _, hfin⟩ := ins_set (f := ⟨n, [], 0⟩) hcW hbase hXl hBX (by simpa using iS)
      have hal : a.length < N3 := by omega
      clear hN3
      have Hfin := Lib.hid hfin
      clear hfin hv1 hv2 hv3 hc1 hc2 hc3 hb1 hb2 hb3 iE iP iO iQ iS Hk hone hBX
      go_wp2_with fail
      refine ⟨by kernel_rfl, ?_⟩
      go_wp2_with fail
      generalize w3.setCell ⟨X, 1, none⟩ (.slice (some ⟨g3, 0, none⟩) N3 cp3) = W5 at *
      obtain ⟨S0, hS0⟩ : ∃ S0 : List UInt8, S0 = [] := ⟨_, rfl⟩
      rw [← hS0] at d2
      have hsum : S0.length + s.length ≤ 1000000 := by rw [hS0]; simp; omega
      have d1 : W5.drew.cell? ⟨X, 1, none⟩ = some (.slice (some ⟨g3, 0, none⟩) N3 cp3) := d1
      have d2 : W5.drew.cell? ⟨g3, a.length * 3 + 1, none⟩ = some (encStr S0) := d2
      have d3 : W5.drew.frozen? ⟨g3, a.length * 3 + 1, none⟩ = false := d3
      have fin : RDPost wq (W5.drew.setCell ⟨g3, a.length * 3 + 1, none⟩ (encStr (S0 ++ s))) base X v (D.put n ⟨s, 0⟩) := by rw [show S0 ++ s = s by rw [hS0]; rfl]; exact (Hfin.out s).post (D' := D.put n ⟨s, 0⟩) (by exact Hput.out s)
      clear Hfin hS0
      go_wp2_with fail
      refine ⟨by kernel_rfl, ?_⟩
      go_wp2_with fail
      refine wp_region_plan (by kernel_rfl) [{ fl := [0, 1, 2, 3, 4, 5, 6, 7, 8, 9, 10, 11, 12, 13, 14, 15, 16], long := [14], ef := 17 }] [] (by kernel_rfl) (fun _ _ => True) ?_
      simp only [wpPlan, longOK, keepOK, opsAt_cons, opsAt_nil, consO_some, List.getElem?_toArray, List.getElem?_cons_succ, List.getElem?_cons_zero, and_true, true_and]
      go_wp2_with fail
      refine ⟨by kernel_rfl, ?_, ?_⟩
      · intro _ w9 _
        go_simp
        try omega
      go_wp2_with fail
      refine ⟨by kernel_rfl, ?_⟩
      go_wp2_with fail
      go_ret
      exact ⟨rfl, fin⟩
  · rw [hf] at hfind ⊢
    rw [show (some F).isSome = true from rfl] at hfind
    have hle : l = a ++ (RF.of n F :: b) := ha.eq
    have hm9 := get_mid a b (RF.of n F)
    rw [← hle] at hm9
    obtain ⟨g, cp, hv, hg, k0, k1, k2⟩ := hAddd.file hm9
    have c1 := hAddd.c1
    subst hv
    replace k1 : w.drew.drew.drew.cell? ⟨g, a.length * 3 + 1, none⟩ = some (encStr F.bs) := k1
    have kz := hAddd.frozen (g := g) rfl (a.length * 3 + 1)
    have hal := (List.getElem?_eq_some_iff.1 hm9).1
    have hsz : F.bs.length ≤ D.used := by
      have := Dsk.len_le hG n
      rw [hf] at this
      exact this
    have hsum : F.bs.length + s.length ≤ 1000000 := by omega
    have hS := hAddd.set (j := 1) (u := encStr (F.bs ++ s)) (f' := RF.of n ⟨F.bs ++ s, F.sy⟩) hm9 (by decide) rfl
    have fin : RDPost w (w.drew.drew.drew.setCell ⟨g, a.length * 3 + 1, none⟩ (encStr (F.bs ++ s))) base X (.slice (some ⟨g, 0, none⟩) l.length cp) (D.put n ⟨F.bs ++ s, F.sy⟩) := by
      refine ⟨_, ⟨_, hS, ?_⟩, Chg.setCell ((Chg.refl _ w).drew.drew.drew) (.inl (.inr rfl)) _, fun k hk => .inl hk⟩
      rw [hle, set_mid]
      exact hI.put ha ⟨F.bs ++ s, F.sy⟩
    show Calls _ _ _ _ (fun e w' => e = .returned (.int .i64 0) ∧ RDPost w w' base X _ (D.put n ⟨F.bs ++ s, F.sy⟩))
    clear hf hm9 ha hA hAd hAdd hAddd hI k0 k2 e hS hm hm2 h hRd hle hsz
    go_enter Try.func47, Try.ntmps47
    go_wp2_with fail
    refine (rd_good w n hn).mono ?_
    rw [Hm.out]
    rintro e wq ⟨rfl, rfl⟩
    go_wp2_with fail
    refine wp_region_plan (by kernel_rfl) [{ fl := [0, 1, 2, 3, 4, 5, 6], long := [1, 5], ef := 7, keep := [1, 5] }] [8, 9] (by kernel_rfl) (fun _ w9 => w9.cell? ⟨X, 0, none⟩ = some (.int .i64 D.room)) ?_
    simp only [wpPlan, longOK, keepOK, opsAt_cons, opsAt_nil, consO_some, List.getElem?_toArray, List.getElem?_cons_succ, List.getElem?_cons_zero, and_true, true_and]
    refine ⟨⟨c0, c0⟩, ?_⟩
    go_wp2_with fail
    refine ⟨by kernel_rfl, ⟨?_, ?_⟩, ?_⟩
    iterate 2
      · intro _ w9 hw9
        go_simp
    go_wp2_with fail
    refine hused.out.mono ?_
    rintro e w2 ⟨rfl, rfl⟩
    go_wp2_with fail
    refine ⟨⟨c0, c0⟩, ?_⟩
    go_wp2_with fail
    refine ⟨by kernel_rfl, ?_⟩
    go_wp2_with fail
    refine hfind.out.mono ?_
    rintro e w1 ⟨rfl, rfl⟩
    go_wp2_with fail
    refine wp_region_plan (by kernel_rfl) [{ fl := [0, 1, 2, 3, 4, 5, 6, 7, 8, 9, 10, 11, 12, 13, 14, 15, 16], long := [14], ef := 17 }] [] (by kernel_rfl) (fun _ _ => True) ?_
    simp only [wpPlan, longOK, keepOK, opsAt_cons, opsAt_nil, consO_some, List.getElem?_toArray, List.getElem?_cons_succ, List.getElem?_cons_zero, and_true, true_and]
    go_wp2_with fail
    refine ⟨by kernel_rfl, ?_, ?_⟩
    · intro _ w9 _
      go_simp
      try omega
    go_wp2_with fail
    refine ⟨by kernel_rfl, ?_⟩
    go_wp2_with fail
    go_ret
    exact ⟨rfl, fin⟩
end Go.Proofs.Ytpbjompopgdbjaa
