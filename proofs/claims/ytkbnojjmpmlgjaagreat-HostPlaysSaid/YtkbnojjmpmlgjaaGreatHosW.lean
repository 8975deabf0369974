/-
  layer 12: HostPlays, its walk. (Printed by wip/tools/genhosw.py.)
-/
import Derived.Test.YtkbnojjmpmlgjaaGreatZHostG
import Derived.Test.YtkbnojjmpmlgjaaGreatRefJ
import Derived.Test.YtkbnojjmpmlgjaaGreatHostT
import Derived.Test.YtkbnojjmpmlgjaaGreatZRegionG
import Derived.Test.YtkbnojjmpmlgjaaGreatSopH
import Derived.Deep.DeepCutAuto
import Derived.Deep.CutBlock
namespace Go.Proofs.YtkbnojjmpmlgjaaGreat
open Go.RowKit Go.Maps

set_option maxRecDepth 100000 in
set_option maxHeartbeats 2000000 in
theorem hosp_no (w : World) (C O : Int) (ad : Option Addr) (cap : Nat) (l : List SOp) (hmay : mayStk C O = false) :
    Calls Tryz.prog 3 #[.agg #[.int .i64 C, .int .i64 O], .slice ad l.length cap] w fun e w' => e = .returned (.bool true) ∧ Chg (fun _ => False) w w' := by
  have hB0 := Blk.new w 23 #[.int .i64 C, .int .i64 O]
  have hcB := (Chg.refl (fun _ => False) w).alloc (.cells #[.int .i64 C, .int .i64 O] 23)
  have hmh := Lib.hid hmay
  clear hmay
  go_enter Tryz.func3, Tryz.ntmps3
  go_wp2_with fail
  refine (hostNew_no _ C O hmh.out).mono ?_
  rintro e w1 ⟨rfl, hc1⟩
  have hB1 := hB0.chg hc1 id
  have a0 : w1.cell? ⟨w.heap.size, 0, none⟩ = some (.int .i64 C) := by rw [hB1.cell]; rfl
  have a1 : w1.cell? ⟨w.heap.size, 1, none⟩ = some (.int .i64 O) := by rw [hB1.cell]; rfl
  have hck := hcB.trans hc1 (fun _ _ h => h)
  go_wp2_with fail
  refine (mayStock_any _ C O).mono ?_
  rintro e w2 ⟨rfl, hc2⟩
  rw [hmh.out]
  go_wp2_with fail
  refine (told12 _).mono ?_
  rintro e w3 ⟨rfl, hc3⟩
  go_wp2_with fail
  go_ret
  exact ⟨rfl, (hck.trans hc2 (fun _ _ h => h)).trans hc3 (fun _ _ h => h)⟩

set_option maxRecDepth 100000 in
set_option maxHeartbeats 8000000 in
theorem hosp_yes (w : World) (C O : Int) (ad : Option Addr) (cap : Nat) (l : List SOp) (hl : SopsIn w ad l) (hmay : mayStk C O = true) :
    Calls Tryz.prog 3 #[.agg #[.int .i64 C, .int .i64 O], .slice ad l.length cap] w fun e w' => e = .returned (.bool true) ∧ Chg (fun _ => False) w w' := by
  have hmx := hl.len
  unfold maxLen at hmx
  have hB0 := Blk.new w 23 #[.int .i64 C, .int .i64 O]
  have hcB := (Chg.refl (fun _ => False) w).alloc (.cells #[.int .i64 C, .int .i64 O] 23)
  have hCO : 0 ≤ C ∧ C ≤ 1000000 ∧ 0 ≤ O ∧ O ≤ 1000000 := by unfold mayStk at hmay; simp at hmay; omega
  obtain ⟨hC0, hC1, hO0, hO1⟩ := hCO
  have hmh := Lib.hid hmay
  clear hmay
  go_enter Tryz.func3, Tryz.ntmps3
  go_wp2_with fail
  refine (hostNew _ C O (by omega) (by omega)).mono ?_
  rintro e w1 ⟨b, rfl, hW1, hc1⟩
  have hz1 := hcB.size
  have hW1 := hW1.here.mono (S' := fun i => w.heap.size ≤ i ∧ i < w1.heap.size) (fun i hi => ⟨Nat.le_trans hz1 hi.1, hi.2⟩)
  have hB1 := hB0.chg hc1 id
  have hck1 := hcB.trans hc1 (fun _ _ h => h)
  have a0 : w1.cell? ⟨w.heap.size, 0, none⟩ = some (.int .i64 C) := by rw [hB1.cell]; rfl
  have a1 : w1.cell? ⟨w.heap.size, 1, none⟩ = some (.int .i64 O) := by rw [hB1.cell]; rfl
  clear hB0 hcB hc1 hz1
  go_wp2_with fail
  clear a0 a1
  refine (mayStock_any _ C O).mono ?_
  rintro e w2 ⟨rfl, hc2⟩
  rw [hmh.out]
  have hB2 := hB1.chg hc2 id
  have hz2 := hc2.size
  have hW2 := (hW1.keep hc2).mono (S' := fun i => w.heap.size ≤ i ∧ i < w2.heap.size) (fun i hi => ⟨hi.1, Nat.lt_of_lt_of_le hi.2 hz2⟩)
  have hck2 := hck1.trans hc2 (fun _ _ h => h)
  have a0 : ∀ o, (w2.alloc o).cell? ⟨w.heap.size, 0, none⟩ = some (.int .i64 C) := fun o => by rw [(hB2.chg ((Chg.refl (fun _ => False) w2).alloc o) id).cell]; rfl
  have a1 : ∀ o, (w2.alloc o).cell? ⟨w.heap.size, 1, none⟩ = some (.int .i64 O) := fun o => by rw [(hB2.chg ((Chg.refl (fun _ => False) w2).alloc o) id).cell]; rfl
  clear hB1 hck1 hc2 hW1 hz2
  go_upto_block 0 with (fail)
  clear a0 a1
  rw [rh_zero2 C O]
  have hX0 : RHostAt (w2.alloc (.cells (arrF 2415 (rhCell (Stk.new C O) (fun _ => 0) 0)) 41)) w2.heap.size (Stk.new C O) (fun _ => 0) ((tkeys (fun _ => 0)).length : Int) := by
    have h0 : ((tkeys (fun _ => 0)).length : Int) = 0 := by
      rw [show tkeys (fun _ => 0) = [] from by unfold tkeys; rw [List.filter_eq_nil_iff]; intro a _; simp]
      rfl
    rw [h0]
    exact Blk.new w2 _ _
  have hcX := (Chg.refl (fun _ => False) w2).alloc (.cells (arrF 2415 (rhCell (Stk.new C O) (fun _ => 0) 0)) 41)
  have hXw : w.heap.size ≤ w2.heap.size := hck2.size
  have hW4 := (hW2.keep hcX).mono (S' := fun i => w.heap.size ≤ i ∧ i ≠ w2.heap.size) (fun i hi => ⟨hi.1, by omega⟩)
  have hck4 : Chg (fun i => w.heap.size ≤ i) w (w2.alloc (.cells (arrF 2415 (rhCell (Stk.new C O) (fun _ => 0) 0)) 41)) := (hck2.trans hcX (fun _ _ h => h)).mono (fun _ _ h => h.elim)
  have hG0 : (Stk.new C O).Good := Stk.Good.new (by omega) (by omega)
  have hA0 : Ans (fun _ => 0) := fun _ => .inl rfl
  clear hW2 hB2 hck2 hcX
  generalize w2.alloc (.cells (arrF 2415 (rhCell (Stk.new C O) (fun _ => 0) 0)) 41) = w4 at *
  generalize w2.heap.size = X at *
  generalize arrF 2415 (rhCell (Stk.new C O) (fun _ => 0) 0) = AX at *
  generalize Stk.new C O = s0 at *
  generalize (fun _ => 0 : Tab) = f0 at *
  go_cut [8, 9] (fun v8 _ wx => ∃ (t : Int) (s : Stk) (g : Tab), v8 = .int .i64 t ∧ HostW (fun i => w.heap.size ≤ i ∧ i ≠ X) wx b s g ∧ RHostAt wx X s g (tkeys g).length ∧ s.Good ∧ Ans g ∧ Chg (fun i => w.heap.size ≤ i) w wx)
  case first =>
    go_wp2_with fail
    go_loopw [8, 9] (fun v8 v9 wr => ∃ (k : Nat) (t : Int) (s : Stk) (g : Tab), v8 = .int .i64 t ∧ v9 = .int .i64 k ∧ k ≤ l.length ∧ k ≤ 60 ∧ 0 ≤ t ∧ t ≤ k * 40 ∧ HostW (fun i => w.heap.size ≤ i ∧ i ≠ X) wr b s g ∧ RHostAt wr X s g (tkeys g).length ∧ s.Good ∧ Ans g ∧ Chg (fun i => w.heap.size ≤ i) w wr) (fun _ v9 _ => 60 - (RowKit.intOf v9).toNat)
    case atStart => exact ⟨0, 0, s0, f0, rfl, rfl, Nat.zero_le _, Nat.zero_le _, by omega, by omega, hW4, hX0, hG0, hA0, hck4⟩
    case round =>
      clear hW4 hX0 hG0 hA0 hck4
      obtain ⟨k, t, s, g, rfl, rfl, hk1, hk2, ht0, ht1, hW, hX, hG, hA, hck⟩ := hrel
      have hcF : Chg (fun _ => False) w wr := hck.mono (fun i hi h => by omega)
      by_cases hlt : k < l.length ∧ k < 60
      · obtain ⟨hlt1, hlt2⟩ := hlt
        obtain ⟨o, ho⟩ : ∃ o, l[k]? = some o := ⟨_, List.getElem?_eq_getElem hlt1⟩
        obtain ⟨a, rfl, hab, hat⟩ := (hl.chg hcF (fun i _ h => h)).at_ k o ho
        have g0 : wr.cell? (a.add (k * 9)) = some (.int .i64 o.kd) := hat 0 _ rfl
        have g1 : wr.cell? ⟨(a.add (k * 9)).block, (a.add (k * 9)).off + 1, none⟩ = some (.int .i64 o.o.kd) := hat 1 _ rfl
        have g2 : wr.cell? ⟨(a.add (k * 9)).block, (a.add (k * 9)).off + 2, none⟩ = some (.int .i64 o.o.bk) := hat 2 _ rfl
        have g3 : wr.cell? ⟨(a.add (k * 9)).block, (a.add (k * 9)).off + 3, none⟩ = some (.int .i64 o.o.un) := hat 3 _ rfl
        have g4 : wr.cell? ⟨(a.add (k * 9)).block, (a.add (k * 9)).off + 4, none⟩ = some (.int .i64 o.o.cu) := hat 4 _ rfl
        have g5 : wr.cell? ⟨(a.add (k * 9)).block, (a.add (k * 9)).off + 5, none⟩ = some (.int .i64 o.o.am) := hat 5 _ rfl
        have g6 : wr.cell? ⟨(a.add (k * 9)).block, (a.add (k * 9)).off + 6, none⟩ = some (.int .i64 o.d) := hat 6 _ rfl
        have g7 : wr.cell? ⟨(a.add (k * 9)).block, (a.add (k * 9)).off + 7, none⟩ = some (.int .i64 o.now) := hat 7 _ rfl
        have g8 : wr.cell? ⟨(a.add (k * 9)).block, (a.add (k * 9)).off + 8, none⟩ = some (.bool o.raw) := hat 8 _ rfl
        clear hat ho hab
        have hcal := (Chg.refl (fun _ => False) wr).alloc (.cells o.row 45)
        have hE := Blk.new wr 45 o.row
        have hWE := (hW.here.mono (S' := fun i => w.heap.size ≤ i ∧ i ≠ X ∧ i ≠ wr.heap.size) (fun i hi => ⟨hi.1.1, hi.1.2, by omega⟩)).keep hcal
        have hWa := hW.keep hcal
        have hXa := hX.chg hcal id
        have hcka := hck.trans hcal (fun _ _ h => h.elim)
        unfold SOp.row at hE hWa hWE hXa hcka
        clear hcal hW hX hck hcF
        obtain ⟨m, hm⟩ : ∃ m, wrap64 ((IntKind.u64.wrap o.d).tmod 40) = m := ⟨_, rfl⟩
        have hmb := modK o.d 40 (by omega)
        rw [hm] at hmb
        obtain ⟨hm1, hm2⟩ := hmb
        obtain ⟨okd, oo, od, onow, oraw⟩ := o
        dsimp only at *
        cases oraw with
        | false =>
          by_cases hk1' : okd = 1
          · skip
            have kb1 : (okd == 1) = true := by simp [hk1']
            clear hk1'
            go_wp2_with fail
            rw [hm]
            generalize hwa : wr.alloc (.cells #[.int .i64 okd, .int .i64 oo.kd, .int .i64 oo.bk, .int .i64 oo.un, .int .i64 oo.cu, .int .i64 oo.am, .int .i64 od, .int .i64 onow, .bool false] 45) = wa at *
            generalize hEe : wr.heap.size = E at *
            clear hwa hEe g0 g1 g2 g3 g4 g5 g6 g7 g8 hE
            have hcD := (Chg.refl (fun _ => False) wa).drew
            have hWd := hWa.keep hcD
            have hXd := hXa.chg hcD id
            have hckd := hcka.trans hcD (fun _ _ h => h.elim)
            clear hcD hWa hXa hcka
            refine wp_region_plan (by kernel_rfl) [{ fl := [0, 1, 3, 4, 5, 6], ef := 2 }, { fl := [], ef := 7 }] [8, 9] (by kernel_rfl) (fun _ _ => True) ?_
            simp only [wpPlan, longOK, keepOK, opsAt_cons, opsAt_nil, consO_some, List.getElem?_toArray, List.getElem?_cons_succ, List.getElem?_cons_zero, and_true, true_and]
            go_wp2_with fail
            refine ⟨by kernel_rfl, ?_⟩
            go_wp2_with fail
            refine (host_sweep hWd hG (t + m)).mono ?_
            rintro e w2 ⟨v2, rfl, hv2, hW2, hc2⟩
            have hXzz := Blk.lt hXd
            have hX2 := hXd.chg hc2 (fun h => h.2 rfl)
            have hck2 := hckd.trans hc2 (fun i _ h => h.1)
            obtain ⟨r, hr⟩ : ∃ r, s.sweep (t + m) = r := ⟨_, rfl⟩
            have hG2 := hG.sweep (t + m)
            have hrl : (s.sweep (t + m)).1.length ≤ 200 := hG.sweepLen (t + m)
            have hcD := ref_sweep hX2.stock hG (t + m)
            rw [hr] at hW2 hG2 hcD hv2 hrl
            obtain ⟨ad2, cap2, rfl, hI2, hB2⟩ := intsIn_ownB hv2 (by unfold maxLen; omega)
            have hcDh := Lib.hid hcD
            clear hr hc2 hXd hWd hckd hv2 hcD
            go_wp2_with fail
            refine ⟨by kernel_rfl, ?_⟩
            go_wp2_with fail
            refine hcDh.out.mono ?_
            rintro e w3 ⟨v3, rfl, hv3, hX3, hc3⟩
            have hW3 := hW2.keepX hc3 (fun i hi h => hi.2 h)
            have hX3 := RHostAt.ofStock hX3
            have hck3 := hck2.trans hc3 (fun i _ h => by rw [h]; exact hXw)
            have hI2' : IntsIn w3 ad2 r.1 := hI2.chgB hc3 (fun a ha => by
              have := hB2 a ha
              omega)
            obtain ⟨ad3, cap3, rfl, hI3⟩ := intsIn_own hv3 (by unfold maxLen; omega)
            clear hcDh hX2 hW2 hc3 hck2 hI2 hv3 hB2
            go_wp2_with fail
            refine ⟨by kernel_rfl, ?_⟩
            obtain ⟨wq, rfl⟩ : ∃ wq : World, wq = wr := ⟨wr, rfl⟩
            go_wp2_with fail
            go_loopw [14] (fun v14 wz => ∃ j : Nat, v14 = .int .i64 j ∧ j ≤ r.1.length ∧ Chg (fun _ => False) w3 wz) (fun v14 _ => 300 - (RowKit.intOf v14).toNat)
            case atStart => exact ⟨0, rfl, Nat.zero_le _, Chg.refl _ _⟩
            case round =>
              obtain ⟨j, rfl, hj, hcz⟩ := hrel
              by_cases hlt : j < r.1.length
              · obtain ⟨x, hx⟩ : ∃ x, r.1[j]? = some x := ⟨_, List.getElem?_eq_getElem hlt⟩
                obtain ⟨a1, rfl, _, q1⟩ := (hI2'.chg hcz (fun _ _ h => h)).at_ j x hx
                obtain ⟨b1, rfl, _, q2⟩ := (hI3.chg hcz (fun _ _ h => h)).at_ j x hx
                have hxh := Lib.hid hx
                clear hx
                go_wp2_with fail
                refine wp_region_plan (by kernel_rfl) [] [0, 1, 2, 3, 4, 5, 6, 7, 8] (by kernel_rfl) (fun _ _ => True) ?_
                simp only [wpPlan, longOK, keepOK, opsAt_cons, opsAt_nil, consO_some, List.getElem?_toArray, List.getElem?_cons_succ, List.getElem?_cons_zero, and_true, true_and]
                go_wp2_with fail
                refine ⟨by kernel_rfl, ?_⟩
                go_wp2_with fail
                go_roundw
                case rel => exact ⟨j + 1, by go_num, by omega, hcz.drew⟩
                case measure => simp [RowKit.intOf]; omega
              · have hj2 : j = r.1.length := by omega
                subst hj2
                go_wp2_with fail
                go_roundw
                case rel => exact ⟨k + 1, t + m, r.2, g, rfl, by go_num, by omega, by omega, by omega, by omega, hW3.keep hcz, hX3.chg hcz id, hG2, hA, hck3.trans hcz (fun _ _ h => h.elim)⟩
                case measure => simp [RowKit.intOf]; omega
          · skip
            have kb1 : (okd == 1) = false := by simp [hk1']
            clear hk1'
            obtain ⟨r1, n1, s1, f1, ha1⟩ : ∃ r n s' f', hAsk s g oo (t + m) = (r, n, s', f') := ⟨_, _, _, _, rfl⟩
            have hah := Lib.hid ha1
            have hG1 := hAsk_good (f := g) hG oo (t + m)
            have hcnth := Lib.hid (hAsk_cnt hWa.keys ha1)
            have hA1 := hans_ask ha1 hA
            rw [ha1] at hG1
            dsimp only at hG1
            clear ha1
            have hkl := tkeys_len g
            have hkl1 := tkeys_len f1
            go_wp2_with fail
            rw [hm]
            generalize hwa : wr.alloc (.cells #[.int .i64 okd, .int .i64 oo.kd, .int .i64 oo.bk, .int .i64 oo.un, .int .i64 oo.cu, .int .i64 oo.am, .int .i64 od, .int .i64 onow, .bool false] 45) = wa at *
            generalize hEe : wr.heap.size = E at *
            clear hwa hEe g0 g1 g2 g3 g4 g5 g6 g7 g8
            have ecell : ∀ w9 : World, w9.heap[E]? = wa.heap[E]? → w9.cell? ⟨E, 1, none⟩ = some (.int .i64 oo.kd) ∧ w9.cell? ⟨E, 2, none⟩ = some (.int .i64 oo.bk) ∧ w9.cell? ⟨E, 3, none⟩ = some (.int .i64 oo.un) ∧ w9.cell? ⟨E, 4, none⟩ = some (.int .i64 oo.cu) ∧ w9.cell? ⟨E, 5, none⟩ = some (.int .i64 oo.am) := fun w9 h9 => by
              have h2 := Blk.keep hE h9
              refine ⟨?_, ?_, ?_, ?_, ?_⟩ <;> rw [h2.cell] <;> rfl
            obtain ⟨d0, d1, d2, d3, d4⟩ := ecell wa rfl
            have ech := Lib.hid ecell
            have hEz := hE.lt
            have hEX : X ≠ E := Blk.ne hXa hE (by decide)
            have hWh := hWa.here
            clear ecell
            refine (hask_any _ wa b s g oo (t + m) hWE hG r1 n1 s1 f1 hah.out).mono ?_
            rintro e w2 ⟨rfl, hW2, hc2⟩
            have hX2 := hXa.chg hc2 (fun h => h.2.1 rfl)
            have hgk := hc2.block E hEz (fun h => h.2.2 rfl)
            have hck2 := hcka.trans hc2 (fun i _ h => h.1)
            clear d0 d1 d2 d3 d4 hWa hWh hWE hXa hcka hc2
            obtain ⟨d0, d1, d2, d3, d4⟩ := ech.out w2 hgk
            go_wp2_with fail
            refine (rask_any hX2 hG oo (t + m) (by omega) (by omega) r1 n1 s1 f1 hah.out).mono ?_
            rw [← hcnth.out]
            rintro e w3 ⟨rfl, hX3, hc3⟩
            have hW3 := hW2.keepX hc3 (fun i hi h => hi.2.1 h)
            have hW3 := hW3.mono (S' := fun i => w.heap.size ≤ i ∧ i ≠ X) (fun i hi => ⟨hi.1, hi.2.1⟩)
            have hck3 := hck2.trans hc3 (fun i _ h => by rw [h]; exact hXw)
            have cN : w3.drew.cell? ⟨X, 2414, none⟩ = some (.int .i64 (tkeys f1).length) := hX3.table.cnt
            have hcD := (Chg.refl (fun _ => False) w3).drew
            have hW4 := hW3.keep hcD
            have hX4 := hX3.chg hcD id
            have hck4 := hck3.trans hcD (fun _ _ h => h.elim)
            clear d0 d1 d2 d3 d4 hW2 hX2 hck2 hc3 hcnth hah hW3 hX3 hck3 ech hgk hE
            cases n1
            all_goals
              go_wp2_with fail
              refine wp_region_plan (by kernel_rfl) [{ fl := [0, 1, 2, 3, 4, 5, 6, 7, 8, 9, 11, 12, 13, 14, 15], long := [6, 15], ef := 10, keep := [15] }] [16, 17] (by kernel_rfl) (fun _ w9 => w9.cell? ⟨X, 2414, none⟩ = some (.int .i64 (tkeys f1).length)) ?_
              simp only [wpPlan, longOK, keepOK, opsAt_cons, opsAt_nil, consO_some, List.getElem?_toArray, List.getElem?_cons_succ, List.getElem?_cons_zero, and_true, true_and]
              refine ⟨⟨cN, cN⟩, ?_⟩
              go_wp2_with fail
              refine ⟨by kernel_rfl, ⟨?_, ?_⟩, ?_⟩
              · intro _ w9 h9
                go_simp
              · intro _ w9 h9
                go_simp
              go_wp2_with fail
              refine (host_ans hW4).mono ?_
              rintro e w5 ⟨rfl, rfl⟩
              go_wp2_with fail
              refine ⟨cN, ?_⟩
              go_wp2_with fail
              refine ⟨by kernel_rfl, ?_⟩
              go_wp2_with fail
              go_roundw
              case rel => exact ⟨k + 1, t + m, s1, f1, rfl, by go_num, by omega, by omega, by omega, by omega, hW4, hX4, hG1, hA1, hck4⟩
              case measure => simp [RowKit.intOf]; omega
        | true =>
          by_cases hk1' : okd = 1
          · skip
            have kb1 : (okd == 1) = true := by simp [hk1']
            clear hk1'
            go_wp2_with fail
            rw [hm]
            generalize hwa : wr.alloc (.cells #[.int .i64 okd, .int .i64 oo.kd, .int .i64 oo.bk, .int .i64 oo.un, .int .i64 oo.cu, .int .i64 oo.am, .int .i64 od, .int .i64 onow, .bool true] 45) = wa at *
            generalize hEe : wr.heap.size = E at *
            clear hwa hEe g0 g1 g2 g3 g4 g5 g6 g7 g8 hE
            have hcD := (Chg.refl (fun _ => False) wa).drew
            have hWd := hWa.keep hcD
            have hXd := hXa.chg hcD id
            have hckd := hcka.trans hcD (fun _ _ h => h.elim)
            clear hcD hWa hXa hcka
            refine wp_region_plan (by kernel_rfl) [{ fl := [0, 1, 3, 4, 5, 6], ef := 2 }, { fl := [], ef := 7 }] [8, 9] (by kernel_rfl) (fun _ _ => True) ?_
            simp only [wpPlan, longOK, keepOK, opsAt_cons, opsAt_nil, consO_some, List.getElem?_toArray, List.getElem?_cons_succ, List.getElem?_cons_zero, and_true, true_and]
            go_wp2_with fail
            refine ⟨by kernel_rfl, ?_⟩
            go_wp2_with fail
            refine (host_sweep hWd hG onow).mono ?_
            rintro e w2 ⟨v2, rfl, hv2, hW2, hc2⟩
            have hXzz := Blk.lt hXd
            have hX2 := hXd.chg hc2 (fun h => h.2 rfl)
            have hck2 := hckd.trans hc2 (fun i _ h => h.1)
            obtain ⟨r, hr⟩ : ∃ r, s.sweep onow = r := ⟨_, rfl⟩
            have hG2 := hG.sweep onow
            have hrl : (s.sweep onow).1.length ≤ 200 := hG.sweepLen onow
            have hcD := ref_sweep hX2.stock hG onow
            rw [hr] at hW2 hG2 hcD hv2 hrl
            obtain ⟨ad2, cap2, rfl, hI2, hB2⟩ := intsIn_ownB hv2 (by unfold maxLen; omega)
            have hcDh := Lib.hid hcD
            clear hr hc2 hXd hWd hckd hv2 hcD
            go_wp2_with fail
            refine ⟨by kernel_rfl, ?_⟩
            go_wp2_with fail
            refine hcDh.out.mono ?_
            rintro e w3 ⟨v3, rfl, hv3, hX3, hc3⟩
            have hW3 := hW2.keepX hc3 (fun i hi h => hi.2 h)
            have hX3 := RHostAt.ofStock hX3
            have hck3 := hck2.trans hc3 (fun i _ h => by rw [h]; exact hXw)
            have hI2' : IntsIn w3 ad2 r.1 := hI2.chgB hc3 (fun a ha => by
              have := hB2 a ha
              omega)
            obtain ⟨ad3, cap3, rfl, hI3⟩ := intsIn_own hv3 (by unfold maxLen; omega)
            clear hcDh hX2 hW2 hc3 hck2 hI2 hv3 hB2
            go_wp2_with fail
            refine ⟨by kernel_rfl, ?_⟩
            obtain ⟨wq, rfl⟩ : ∃ wq : World, wq = wr := ⟨wr, rfl⟩
            go_wp2_with fail
            go_loopw [14] (fun v14 wz => ∃ j : Nat, v14 = .int .i64 j ∧ j ≤ r.1.length ∧ Chg (fun _ => False) w3 wz) (fun v14 _ => 300 - (RowKit.intOf v14).toNat)
            case atStart => exact ⟨0, rfl, Nat.zero_le _, Chg.refl _ _⟩
            case round =>
              obtain ⟨j, rfl, hj, hcz⟩ := hrel
              by_cases hlt : j < r.1.length
              · obtain ⟨x, hx⟩ : ∃ x, r.1[j]? = some x := ⟨_, List.getElem?_eq_getElem hlt⟩
                obtain ⟨a1, rfl, _, q1⟩ := (hI2'.chg hcz (fun _ _ h => h)).at_ j x hx
                obtain ⟨b1, rfl, _, q2⟩ := (hI3.chg hcz (fun _ _ h => h)).at_ j x hx
                have hxh := Lib.hid hx
                clear hx
                go_wp2_with fail
                refine wp_region_plan (by kernel_rfl) [] [0, 1, 2, 3, 4, 5, 6, 7, 8] (by kernel_rfl) (fun _ _ => True) ?_
                simp only [wpPlan, longOK, keepOK, opsAt_cons, opsAt_nil, consO_some, List.getElem?_toArray, List.getElem?_cons_succ, List.getElem?_cons_zero, and_true, true_and]
                go_wp2_with fail
                refine ⟨by kernel_rfl, ?_⟩
                go_wp2_with fail
                go_roundw
                case rel => exact ⟨j + 1, by go_num, by omega, hcz.drew⟩
                case measure => simp [RowKit.intOf]; omega
              · have hj2 : j = r.1.length := by omega
                subst hj2
                go_wp2_with fail
                go_roundw
                case rel => exact ⟨k + 1, t + m, r.2, g, rfl, by go_num, by omega, by omega, by omega, by omega, hW3.keep hcz, hX3.chg hcz id, hG2, hA, hck3.trans hcz (fun _ _ h => h.elim)⟩
                case measure => simp [RowKit.intOf]; omega
          · skip
            have kb1 : (okd == 1) = false := by simp [hk1']
            clear hk1'
            obtain ⟨r1, n1, s1, f1, ha1⟩ : ∃ r n s' f', hAsk s g oo onow = (r, n, s', f') := ⟨_, _, _, _, rfl⟩
            have hah := Lib.hid ha1
            have hG1 := hAsk_good (f := g) hG oo onow
            have hcnth := Lib.hid (hAsk_cnt hWa.keys ha1)
            have hA1 := hans_ask ha1 hA
            rw [ha1] at hG1
            dsimp only at hG1
            clear ha1
            have hkl := tkeys_len g
            have hkl1 := tkeys_len f1
            go_wp2_with fail
            rw [hm]
            generalize hwa : wr.alloc (.cells #[.int .i64 okd, .int .i64 oo.kd, .int .i64 oo.bk, .int .i64 oo.un, .int .i64 oo.cu, .int .i64 oo.am, .int .i64 od, .int .i64 onow, .bool true] 45) = wa at *
            generalize hEe : wr.heap.size = E at *
            clear hwa hEe g0 g1 g2 g3 g4 g5 g6 g7 g8
            have ecell : ∀ w9 : World, w9.heap[E]? = wa.heap[E]? → w9.cell? ⟨E, 1, none⟩ = some (.int .i64 oo.kd) ∧ w9.cell? ⟨E, 2, none⟩ = some (.int .i64 oo.bk) ∧ w9.cell? ⟨E, 3, none⟩ = some (.int .i64 oo.un) ∧ w9.cell? ⟨E, 4, none⟩ = some (.int .i64 oo.cu) ∧ w9.cell? ⟨E, 5, none⟩ = some (.int .i64 oo.am) := fun w9 h9 => by
              have h2 := Blk.keep hE h9
              refine ⟨?_, ?_, ?_, ?_, ?_⟩ <;> rw [h2.cell] <;> rfl
            obtain ⟨d0, d1, d2, d3, d4⟩ := ecell wa rfl
            have ech := Lib.hid ecell
            have hEz := hE.lt
            have hEX : X ≠ E := Blk.ne hXa hE (by decide)
            have hWh := hWa.here
            clear ecell
            refine (hask_any _ wa b s g oo onow hWE hG r1 n1 s1 f1 hah.out).mono ?_
            rintro e w2 ⟨rfl, hW2, hc2⟩
            have hX2 := hXa.chg hc2 (fun h => h.2.1 rfl)
            have hgk := hc2.block E hEz (fun h => h.2.2 rfl)
            have hck2 := hcka.trans hc2 (fun i _ h => h.1)
            clear d0 d1 d2 d3 d4 hWa hWh hWE hXa hcka hc2
            obtain ⟨d0, d1, d2, d3, d4⟩ := ech.out w2 hgk
            go_wp2_with fail
            refine (rask_any hX2 hG oo onow (by omega) (by omega) r1 n1 s1 f1 hah.out).mono ?_
            rw [← hcnth.out]
            rintro e w3 ⟨rfl, hX3, hc3⟩
            have hW3 := hW2.keepX hc3 (fun i hi h => hi.2.1 h)
            have hW3 := hW3.mono (S' := fun i => w.heap.size ≤ i ∧ i ≠ X) (fun i hi => ⟨hi.1, hi.2.1⟩)
            have hck3 := hck2.trans hc3 (fun i _ h => by rw [h]; exact hXw)
            have cN : w3.drew.cell? ⟨X, 2414, none⟩ = some (.int .i64 (tkeys f1).length) := hX3.table.cnt
            have hcD := (Chg.refl (fun _ => False) w3).drew
            have hW4 := hW3.keep hcD
            have hX4 := hX3.chg hcD id
            have hck4 := hck3.trans hcD (fun _ _ h => h.elim)
            clear d0 d1 d2 d3 d4 hW2 hX2 hck2 hc3 hcnth hah hW3 hX3 hck3 ech hgk hE
            cases n1
            all_goals
              go_wp2_with fail
              refine wp_region_plan (by kernel_rfl) [{ fl := [0, 1, 2, 3, 4, 5, 6, 7, 8, 9, 11, 12, 13, 14, 15], long := [6, 15], ef := 10, keep := [15] }] [16, 17] (by kernel_rfl) (fun _ w9 => w9.cell? ⟨X, 2414, none⟩ = some (.int .i64 (tkeys f1).length)) ?_
              simp only [wpPlan, longOK, keepOK, opsAt_cons, opsAt_nil, consO_some, List.getElem?_toArray, List.getElem?_cons_succ, List.getElem?_cons_zero, and_true, true_and]
              refine ⟨⟨cN, cN⟩, ?_⟩
              go_wp2_with fail
              refine ⟨by kernel_rfl, ⟨?_, ?_⟩, ?_⟩
              · intro _ w9 h9
                go_simp
              · intro _ w9 h9
                go_simp
              go_wp2_with fail
              refine (host_ans hW4).mono ?_
              rintro e w5 ⟨rfl, rfl⟩
              go_wp2_with fail
              refine ⟨cN, ?_⟩
              go_wp2_with fail
              refine ⟨by kernel_rfl, ?_⟩
              go_wp2_with fail
              go_roundw
              case rel => exact ⟨k + 1, t + m, s1, f1, rfl, by go_num, by omega, by omega, by omega, by omega, hW4, hX4, hG1, hA1, hck4⟩
              case measure => simp [RowKit.intOf]; omega
      · go_wp2_with fail
        all_goals
          go_meet
          case rel => exact ⟨t, s, g, rfl, hW, hX, hG, hA, hck⟩
  case rest =>
    clear hW4 hX0 hG0 hA0 hck4
    obtain ⟨t, s, g, rfl, hW, hX, hG, hA, hck⟩ := hcut
    go_wp2_with fail
    refine (host_stock hW).mono ?_
    rintro e w2 ⟨b2, mb2, rfl, hP2, hc2, hb2, hmb2⟩
    have hW2 := hW.here.keep hc2
    have hX2 := hX.chg hc2 id
    have hck2 := hck.trans hc2 (fun _ _ h => h.elim)
    have hXlc := Blk.lt hX
    have hzc := hck.size
    clear hW hX hck hc2
    go_wp2_with fail
    have hcD := (Chg.refl (fun _ => False) w2).drew
    refine wp_region_planX (by kernel_rfl) [0, 1, 3, 7, 15, 31, 7, 95, 255, 511, 1023, 2047, 2047, 6143, 14335, 32767, 65535, 131071] [{ fl := [0, 1, 2, 3, 6], ef := 4 }, { fl := [5], long := [5], ef := 7, keep := [5] }, { fl := [8, 9, 10, 11, 12, 13, 14], long := [8], ef := 15 }] [16, 17] (by kernel_rfl) ?_
    intro opsF hF
    have hW3 := hW2.keep hcD
    have hX3 := hX2.chg hcD id
    have hP3 := hP2.chg hcD id id
    have hck3 := hck2.trans hcD (fun _ _ h => h.elim)
    clear hW2 hX2 hP2 hck2 hcD
    generalize w2.drew = w3 at *
    refine wpPlanX_cons (fun _ _ => True) (by simp [keepOK]) ?_
    simp only [longOKN, keepOK, opsAt_cons, opsAt_nil, consO_some, List.getElem?_toArray, List.getElem?_cons_succ, List.getElem?_cons_zero, and_true, true_and]
    go_wp2_with fail
    refine ⟨by rw [hF.out]; kernel_rfl, ?_⟩
    go_wp2_with fail
    refine (host_bytesG hW3 hG hA).mono ?_
    rintro e w4 ⟨gb, nb1, cb1, rfl, hgl, hcv, hc4⟩
    have hcv4 := hcv w4 rfl
    obtain ⟨ob, hob⟩ : ∃ ob, w4.heap[gb]? = ob := ⟨_, rfl⟩
    rw [hob] at hcv
    have hcvh := Lib.hid hcv
    have hobh := Lib.hid hob
    clear hcv hob
    have hW4 := hW3.keep hc4
    have hX4 := hX3.chg hc4 id
    have hP4 := hP3.chg hc4 id id
    have hck4 := hck3.trans hc4 (fun _ _ h => h.elim)
    clear hW3 hX3 hP3 hck3 hc4
    go_wp2_with fail
    refine wpPlanX_cons (fun _ (w9 : World) => w9.heap[gb]? = ob) ⟨hobh.out, trivial⟩ ?_
    simp only [longOKN, keepOK, opsAt_cons, opsAt_nil, consO_some, List.getElem?_toArray, List.getElem?_cons_succ, List.getElem?_cons_zero, and_true, true_and]
    go_wp2_with fail
    refine ⟨by rw [hF.out]; kernel_rfl, ?_, ?_⟩
    · intro _ w9 h9
      have hcv9 := hcvh.out w9 h9
      clear h9 hF
      go_simp
    go_wp2_with fail
    refine (rh_bytes hX4 hG hA rfl).mono ?_
    rintro e w5 ⟨rfl, hc5⟩
    have hgk := (hc5.block gb hgl id).trans hobh.out
    have hW5 := hW4.keep hc5
    have hX5 := hX4.chg hc5 id
    have hP5 := hP4.chg hc5 id id
    have hck5 := hck4.trans hc5 (fun _ _ h => h.elim)
    clear hW4 hX4 hP4 hck4 hc5 hcvh hcv4
    go_wp2_with fail
    refine ⟨hgk, ?_⟩
    clear hgk
    refine wpPlanX_cons (fun _ _ => True) (by simp [keepOK]) ?_
    simp only [longOKN, keepOK, opsAt_cons, opsAt_nil, consO_some, List.getElem?_toArray, List.getElem?_cons_succ, List.getElem?_cons_zero, and_true, true_and]
    go_wp2_with fail
    refine ⟨by rw [hF.out]; kernel_rfl, ?_, ?_⟩
    · intro _ w9 _
      clear hF
      go_simp
    go_wp2_with fail
    refine (same_any hP5 hX5.stock hG).mono ?_
    rintro e w6 ⟨rfl, hc6⟩
    have hW6 := hW5.keep hc6
    have hX6 := hX5.chg hc6 id
    have hP6 := hP5.chg hc6 id id
    have hck6 := hck5.trans hc6 (fun _ _ h => h.elim)
    clear hW5 hX5 hP5 hck5 hc6
    go_wp2_with fail
    refine wpPlanX_nil ?_
    simp only [longOKN, keepOK, opsAt_cons, opsAt_nil, consO_some, List.getElem?_toArray, List.getElem?_cons_succ, List.getElem?_cons_zero, and_true, true_and]
    go_wp2_with fail
    refine ⟨by rw [hF.out]; kernel_rfl, ?_⟩
    go_wp2_with fail
    refine (stk_do hP6 hG ⟨3, 1, 0, 0, 0⟩ t).mono ?_
    rintro e w9 ⟨rfl, _, hc9⟩
    have hW9 := hW6.keepX hc9 (fun i hi h => by omega)
    have hX9 := hX6.chg hc9 (by omega)
    have hck9 := hck6.trans hc9 (fun i _ h => by omega)
    clear hW6 hX6 hP6 hck6 hc9
    go_wp2_with fail
    have hcD := (Chg.refl (fun _ => False) w9).drew
    refine wp_region_planX (by kernel_rfl) [0, 1, 3, 7, 15, 3, 47, 127, 255, 511] [{ fl := [], ef := 0 }, { fl := [1, 2, 5], ef := 3 }, { fl := [4], long := [4], ef := 6, keep := [4] }, { fl := [7, 8], long := [7], ef := 9 }] [] (by kernel_rfl) ?_
    intro opsF hF
    refine wpPlanX_cons (fun _ _ => True) (by simp [keepOK]) ?_
    simp only [longOKN, keepOK, opsAt_cons, opsAt_nil, consO_some, List.getElem?_toArray, List.getElem?_cons_succ, List.getElem?_cons_zero, and_true, true_and]
    go_wp2_with fail
    refine ⟨by rw [hF.out]; kernel_rfl, ?_⟩
    go_wp2_with fail
    refine (told12 _).mono ?_
    rintro e wa ⟨rfl, hca⟩
    have hca := hcD.trans hca (fun _ _ h => h)
    have hWa := hW9.keep hca
    have hXa := hX9.chg hca id
    have hcka := hck9.trans hca (fun _ _ h => h.elim)
    clear hW9 hX9 hck9 hca hcD
    go_wp2_with fail
    refine wpPlanX_cons (fun _ _ => True) (by simp [keepOK]) ?_
    simp only [longOKN, keepOK, opsAt_cons, opsAt_nil, consO_some, List.getElem?_toArray, List.getElem?_cons_succ, List.getElem?_cons_zero, and_true, true_and]
    go_wp2_with fail
    refine ⟨by rw [hF.out]; kernel_rfl, ?_⟩
    go_wp2_with fail
    refine (host_bytesG hWa hG hA).mono ?_
    rintro e wb ⟨gd, nb3, cb3, rfl, hgl3, hcv, hcb⟩
    have hcvb := hcv wb rfl
    obtain ⟨od, hod⟩ : ∃ od, wb.heap[gd]? = od := ⟨_, rfl⟩
    rw [hod] at hcv
    have hcvh := Lib.hid hcv
    have hodh := Lib.hid hod
    clear hcv hod
    have hXb := hXa.chg hcb id
    have hckb := hcka.trans hcb (fun _ _ h => h.elim)
    clear hWa hXa hcka hcb
    go_wp2_with fail
    refine wpPlanX_cons (fun _ (w9 : World) => w9.heap[gd]? = od) ⟨hodh.out, trivial⟩ ?_
    simp only [longOKN, keepOK, opsAt_cons, opsAt_nil, consO_some, List.getElem?_toArray, List.getElem?_cons_succ, List.getElem?_cons_zero, and_true, true_and]
    go_wp2_with fail
    refine ⟨by rw [hF.out]; kernel_rfl, ?_, ?_⟩
    · intro _ w9 h9
      have hcv9 := hcvh.out w9 h9
      clear h9 hF
      go_simp
    go_wp2_with fail
    refine (rh_bytes hXb hG hA rfl).mono ?_
    rintro e wz ⟨rfl, hcz⟩
    have hgk := (hcz.block gd hgl3 id).trans hodh.out
    have hckz := hckb.trans hcz (fun _ _ h => h.elim)
    clear hXb hckb hcz hcvh hcvb hodh
    go_wp2_with fail
    refine ⟨hgk, ?_⟩
    clear hgk
    refine wpPlanX_cons (fun _ _ => True) (by simp [keepOK]) ?_
    simp only [longOKN, keepOK, opsAt_cons, opsAt_nil, consO_some, List.getElem?_toArray, List.getElem?_cons_succ, List.getElem?_cons_zero, and_true, true_and]
    go_wp2_with fail
    refine ⟨by rw [hF.out]; kernel_rfl, ?_, ?_⟩
    · intro _ w9 _
      clear hF
      go_simp
    go_wp2_with fail
    refine wpPlanX_nil ?_
    simp only [longOKN, keepOK, opsAt_cons, opsAt_nil, consO_some, List.getElem?_toArray, List.getElem?_cons_succ, List.getElem?_cons_zero, and_true, true_and]
    go_wp2_with fail
    refine ⟨by rw [hF.out]; kernel_rfl, ?_⟩
    go_wp2_with fail
    go_ret
    exact ⟨rfl, hckz.mono (fun i hi h => by omega)⟩

theorem hosp_walk (w : World) (C O : Int) (ad : Option Addr) (cap : Nat) (l : List SOp) (hl : SopsIn w ad l) :
    Calls Tryz.prog 3 #[.agg #[.int .i64 C, .int .i64 O], .slice ad l.length cap] w fun e w' => e = .returned (.bool true) ∧ Chg (fun _ => False) w w' := by
  cases hm : mayStk C O with
  | false => exact hosp_no w C O ad cap l hm
  | true => exact hosp_yes w C O ad cap l hl hm
end Go.Proofs.YtkbnojjmpmlgjaaGreat
