/-
  layer 10: PurseBooks, its walk.
-/
import Derived.Test.YtbmpjndagponoaaPurseL
import Derived.Test.YtbmpjndagponoaaBooksP
import Derived.Test.YtbmpjndagponoaaArrG
import Derived.Deep.DeepCutAuto
import Derived.Deep.CutBlock
namespace Go.Proofs.Ytbmpjndagponoaa
open Go.RowKit Go.Maps

def fullF : Int → Int := fun4 1073741824 1073741824 1073741824 1073741824
theorem fullF_ok : ∀ i, 0 ≤ i → i ≤ 3 → 0 ≤ fullF i ∧ fullF i ≤ 1099511627776 := by
  intro i h1 h2
  have : i = 0 ∨ i = 1 ∨ i = 2 ∨ i = 3 := by omega
  rcases this with rfl | rfl | rfl | rfl <;> decide

/-- Move j, read. -/
structure MvRd (w : World) (g j : Nat) (b fr tt am : Int) : Prop where
  l0 : w.cell? ⟨g, j * 4, none⟩ = some (.int .i64 b)
  l1 : w.cell? ⟨g, j * 4 + 1, none⟩ = some (.int .i64 fr)
  l2 : w.cell? ⟨g, j * 4 + 2, none⟩ = some (.int .i64 tt)
  l3 : w.cell? ⟨g, j * 4 + 3, none⟩ = some (.int .i64 am)
theorem MvRd.drew {w : World} {g j : Nat} {b fr tt am : Int} (h : MvRd w g j b fr tt am) : MvRd w.drew g j b fr tt am := ⟨h.l0, h.l1, h.l2, h.l3⟩
theorem MvRd.set {w : World} {g j : Nat} {b fr tt am : Int} (h : MvRd w g j b fr tt am) {p : Addr} (u : Value) (hp : g ≠ p.block) : MvRd (w.setCell p u) g j b fr tt am :=
  ⟨(far_cell u hp).trans h.l0, (far_cell u hp).trans h.l1, (far_cell u hp).trans h.l2, (far_cell u hp).trans h.l3⟩

theorem z40 : Try.zeroCells40 = arrG 201 (tally []).cnt := by kernel_rfl
theorem z41 : Try.zeroCells41 = arrG 201 (tally []).amt := by kernel_rfl

set_option maxRecDepth 100000 in
set_option maxHeartbeats 4000000 in
theorem books_walk (w : World) (ad : Option Addr) (cap : Nat) (l : List POp) (hl : OpsIn w ad l) :
    Calls Try.prog 4 #[.slice ad l.length cap] w fun e w' => e = .returned (.bool true) ∧ Chg (fun _ => False) w w' := by
  have hmx := hl.len
  unfold maxLen at hmx
  have hG0 := Pur.new_good fun i h1 h2 => (fullF_ok i h1 h2).1
  rw [show fullF 0 + fullF 1 + fullF 2 + fullF 3 = 4294967296 by decide] at hG0
  go_enter Try.func4, Try.ntmps4
  go_wp2_with fail
  refine (new_w w fullF fullF_ok).mono ?_
  rintro e w2 ⟨q, rfl, hPB, hcB⟩
  go_upto_block 0 with (fail)
  go_cut [5] (fun _ wx => ∃ p : Pur, PurW w.heap.size wx q p ∧ p.Good 4294967296 ∧ Bks p ∧ p.ln.length ≤ 80 ∧ Chg (fun i => w.heap.size ≤ i) w wx)
  case first =>
    go_wp2_with fail
    go_loopw [5] (fun v wr => ∃ k : Nat, v = .int .i64 k ∧ k ≤ l.length ∧ k ≤ 80 ∧ PurW w.heap.size wr q (runP (Pur.new fullF) (l.take k)) ∧ Chg (fun i => w.heap.size ≤ i) w wr) (fun v _ => 80 - (intOf v).toNat)
    case atStart => exact ⟨0, rfl, Nat.zero_le _, Nat.zero_le _, hPB, hcB.mono (fun _ _ h => h.elim)⟩
    case round =>
      obtain ⟨k, rfl, hk1, hk2, hPk, hck⟩ := hrel
      have hcF : Chg (fun _ => False) w wr := hck.mono (fun i hi h => by omega)
      have hlr : OpsIn wr ad l := hl.chg hcF (fun i _ h => h)
      have hGk := runP_good (l.take k) hG0
      have hlen : (runP (Pur.new fullF) (l.take k)).ln.length ≤ k := by have := runP_len (Pur.new fullF) (l.take k); simp [Pur.new] at this ⊢; omega
      by_cases hlt : k < l.length ∧ k < 80
      · obtain ⟨hlt1, hlt2⟩ := hlt
        obtain ⟨o, ho⟩ : ∃ o, l[k]? = some o := ⟨_, List.getElem?_eq_getElem hlt1⟩
        obtain ⟨a, rfl, hab, hat⟩ := hlr.at_ k o ho
        have g0 : wr.cell? (a.add (k * 5)) = some (.int .i64 o.kd) := hat 0 _ rfl
        have g1 : wr.cell? ⟨(a.add (k * 5)).block, (a.add (k * 5)).off + 1, none⟩ = some (.int .i64 o.bk) := hat 1 _ rfl
        have g2 : wr.cell? ⟨(a.add (k * 5)).block, (a.add (k * 5)).off + 2, none⟩ = some (.int .i64 o.un) := hat 2 _ rfl
        have g3 : wr.cell? ⟨(a.add (k * 5)).block, (a.add (k * 5)).off + 3, none⟩ = some (.int .i64 o.cu) := hat 3 _ rfl
        have g4 : wr.cell? ⟨(a.add (k * 5)).block, (a.add (k * 5)).off + 4, none⟩ = some (.int .i64 o.am) := hat 4 _ rfl
        go_wp2_with fail
        refine (do_w w.heap.size wr q _ o _ hPk hGk (by omega) (by omega) _ (runP (Pur.new fullF) (l.take (k + 1))) rfl (runP_take _ _ _ _ ho)).mono ?_
        rintro e w3 ⟨rfl, hP3, hc3⟩
        have hck3 := hck.trans hc3 (fun _ _ h => h)
        clear g0 g1 g2 g3 g4 hat
        go_wp2_with fail
        go_roundw
        case rel => exact ⟨k + 1, by go_num, by omega, by omega, hP3, hck3⟩
        case measure => simp [intOf]; omega
      · have hB := runP_bks (l.take k) hG0 (Bks.new fullF)
        go_wp2_with fail
        all_goals
          go_meet
          case rel => exact ⟨_, hPk, hGk, hB, by omega, hck⟩
  case rest =>
    clear hPB hG0
    obtain ⟨p, hPk, hGk, hB, hlen, hck⟩ := hcut
    obtain ⟨wq, hwq⟩ : ∃ wq : World, wq = wc := ⟨wc, rfl⟩
    subst hwq
    go_wp2_with fail
    refine (lines_w hPk (by omega) p.ln rfl).mono ?_
    rintro e w6 ⟨v2, rfl, hown, hc6, hnew⟩
    have hP6 := hPk.keep0 hc6
    have hck6 := hck.trans hc6 (fun _ _ h => h.elim)
    obtain ⟨ad2, cap2, rfl⟩ : ∃ ad2 cap2, v2 = .slice ad2 p.ln.length cap2 := by
      rcases hown.2 with ⟨rfl, h⟩ | ⟨g, cp, _, rfl, _⟩
      · exact ⟨_, _, by rw [h]⟩
      · exact ⟨_, _, rfl⟩
    clear hPk hck
    go_wp2_with fail
    have hgl : ∀ k, (Value.slice ad2 p.ln.length cap2).ownBlock = some k → k < w6.heap.size := by
      intro k hk
      rcases hown.2 with ⟨h, _⟩ | ⟨g', c', cur, h, _, hh, _⟩
      · rw [h] at hk; cases hk
      · rw [h] at hk
        simp [Value.ownBlock] at hk
        subst hk
        exact (Array.getElem?_eq_some_iff.1 hh).1
    have hC := Blk.new w6 40 Try.zeroCells40
    have hA := Blk.new (w6.alloc (.cells Try.zeroCells40 40)) 41 Try.zeroCells41
    have hW := Blk.new ((w6.alloc (.cells Try.zeroCells40 40)).alloc (.cells Try.zeroCells41 41)) 40 Try.zeroCells40
    have hC := (hC.alloc (.cells Try.zeroCells41 41)).alloc (.cells Try.zeroCells40 40)
    have hA := hA.alloc (.cells Try.zeroCells40 40)
    have hc7 : Chg (fun _ => False) w6 (((w6.alloc (.cells Try.zeroCells40 40)).alloc (.cells Try.zeroCells41 41)).alloc (.cells Try.zeroCells40 40)) := (((Chg.refl _ w6).alloc _).alloc _).alloc _
    simp only [alloc_size] at hA hW
    generalize ((w6.alloc (.cells Try.zeroCells40 40)).alloc (.cells Try.zeroCells41 41)).alloc (.cells Try.zeroCells40 40) = w7 at *
    rw [z40] at hC hW
    rw [z41] at hA
    go_loopw [10] (fun v wx => ∃ j : Nat, v = .int .i64 j ∧ j ≤ p.ln.length ∧ Blk wx w6.heap.size 40 (arrG 201 (tally (p.ln.take j)).cnt) ∧ Blk wx (w6.heap.size + 1) 41 (arrG 201 (tally (p.ln.take j)).amt) ∧ Blk wx (w6.heap.size + 1 + 1) 40 (arrG 201 (tally (p.ln.take j)).who) ∧ Chg (fun i => w6.heap.size ≤ i) w6 wx) (fun v _ => 80 - (intOf v).toNat)
    case atStart => exact ⟨0, rfl, Nat.zero_le _, hC, hA, hW, hc7.mono (fun _ _ h => h.elim)⟩
    case round =>
      clear hC hA hW hc7
      obtain ⟨j, rfl, hj, hC, hA, hW, hcx⟩ := hrel
      have hownx := own_chg hown hcx (fun k hk h => by have := hgl k hk; omega)
      by_cases hjl : j < p.ln.length
      · obtain ⟨m, hm⟩ : ∃ m, p.ln[j]? = some m := ⟨_, List.getElem?_eq_getElem hjl⟩
        have hok := hB.ok j m hm
        have hst := tally_take p.ln j m hm
        generalize tally (p.ln.take j) = T at *
        obtain ⟨T', hTe⟩ : ∃ T', tally (p.ln.take (j + 1)) = T' := ⟨_, rfl⟩
        rw [hTe] at hst
        have hTeh := Lib.hid hTe
        clear hTe
        have hsth := Lib.hid hst
        clear hst
        rcases hown.2 with ⟨_, h⟩ | ⟨g, cp, _, hv, _⟩
        · omega
        injection hv with hv _ hv2
        subst hv
        subst hv2
        have hcl := own_cells hownx
        obtain ⟨⟨hb1, hb2⟩, ⟨ha1, ha2⟩, hgo⟩ := hok
        obtain ⟨b, hb⟩ : ∃ n : Nat, m.bk = n := ⟨m.bk.toNat, by omega⟩
        rw [hb] at hb1 hb2 hgo
        have l0 : wr.cell? ⟨g, j * 4, none⟩ = some (.int .i64 b) := by
          have h := hcl (j * 4) _ ((line_get p.ln j 0 m hm (by decide)).trans rfl)
          rw [hb, addr_add0] at h
          exact h
        have l1 : wr.cell? ⟨g, j * 4 + 1, none⟩ = some (.int .i64 m.fr) := by
          have h := hcl (j * 4 + 1) _ ((line_get p.ln j 1 m hm (by decide)).trans rfl)
          simpa [Addr.add] using h
        have l2 : wr.cell? ⟨g, j * 4 + 2, none⟩ = some (.int .i64 m.to) := by
          have h := hcl (j * 4 + 2) _ ((line_get p.ln j 2 m hm (by decide)).trans rfl)
          simpa [Addr.add] using h
        have l3 : wr.cell? ⟨g, j * 4 + 3, none⟩ = some (.int .i64 m.am) := by
          have h := hcl (j * 4 + 3) _ ((line_get p.ln j 3 m hm (by decide)).trans rfl)
          simpa [Addr.add] using h
        have hgs := hgl g rfl
        have R : MvRd wr g j b m.fr m.to m.am := ⟨l0, l1, l2, l3⟩
        clear hcl hownx l0 l1 l2 l3
        rcases hgo with ⟨c0, f0, f1, t0⟩ | ⟨c0, f0, t0, a0, v0, v1⟩ | ⟨c0, f0, t0, a0, v0, v1⟩ | ⟨c0, f0, t0, a0, v0, v1⟩
        · have hC0 := hC
          have hA0 := hA
          have hW0 := hW
          have R0 := R
          have hcx0 := hcx
          clear hC hA hW R hcx
          have hT : T' = ⟨updG T.cnt b 1, updG T.amt b m.am, updG T.who b m.fr⟩ := by
            rw [← hsth.out]
            unfold Tly.step
            rw [hb, if_pos c0, if_neg (by omega)]; rfl
          have hTh := Lib.hid hT
          clear hT
          rw [t0] at R0
          have hc0 := Lib.hid c0
          clear t0
          have ⟨l0, l1, l2, l3⟩ := R0
          have rC := hC0.rd b (by omega) 0 c0
          have rA := hA0.rd b (by omega) _ rfl
          have rW := hW0.rd b (by omega) _ rfl
          have fC := hC0.frozen b
          have fA := hA0.frozen b
          have fW := hW0.frozen b
          clear c0
          go_wp2_with fail
          refine wp_region_plan (by kernel_rfl) [{ fl := [0, 1, 2, 3, 4, 5, 6, 7, 8, 9, 10, 11, 12], long := [11], ef := 13, keep := [11] }, { fl := [14], ef := 15 }] [] (by kernel_rfl) (fun _ w9 => w9.cell? ⟨g, j * 4 + 1, none⟩ = some (.int .i64 m.fr)) ?_
          simp only [wpPlan, longOK, keepOK, opsAt_cons, opsAt_nil, consO_some, List.getElem?_toArray, List.getElem?_cons_succ, List.getElem?_cons_zero, and_true, true_and]
          refine ⟨l1, ?_⟩
          go_wp2_with fail
          refine ⟨by kernel_rfl, ?_, ?_⟩
          · intro _ w9 h
            have h : w9.cell? ⟨g, j * 4 + 1, none⟩ = some (.int .i64 m.fr) := h
            go_simp
          go_wp2_with fail
          have hC1 := hC0.far (p := ⟨w6.heap.size + 1, b, none⟩) (by show w6.heap.size ≠ w6.heap.size + 1; omega) (.int .i64 m.am)
          have hA1 := hA0.put b m.am rfl
          have hW1 := hW0.far (p := ⟨w6.heap.size + 1, b, none⟩) (by show w6.heap.size + 1 + 1 ≠ w6.heap.size + 1; omega) (.int .i64 m.am)
          have R1 := R0.set (p := ⟨w6.heap.size + 1, b, none⟩) (.int .i64 m.am) (by show g ≠ w6.heap.size + 1; omega)
          have hcx1 := hcx0.setCell (p := ⟨w6.heap.size + 1, b, none⟩) (.inl (by show w6.heap.size ≤ w6.heap.size + 1; omega)) (.int .i64 m.am)
          clear l0 l1 l2 l3 rC rA rW fC fA fW
          generalize wr.setCell ⟨w6.heap.size + 1, b, none⟩ (.int .i64 m.am) = w10 at *
          clear hC0 hA0 hW0 R0 hcx0
          refine ⟨R1.l1, ?_⟩
          have ⟨l0, l1, l2, l3⟩ := R1
          have rC := hC1.rd b (by omega) 0 hc0.out
          have rA := hA1.rd b (by omega) _ rfl
          have rW := hW1.rd b (by omega) _ rfl
          have fC := hC1.frozen b
          have fA := hA1.frozen b
          have fW := hW1.frozen b
          go_wp2_with fail
          refine ⟨by kernel_rfl, ?_⟩
          go_wp2_with fail
          have hC2 := hC1.far (p := ⟨w6.heap.size + 1 + 1, b, none⟩) (by show w6.heap.size ≠ w6.heap.size + 1 + 1; omega) (.int .i64 m.fr)
          have hA2 := hA1.far (p := ⟨w6.heap.size + 1 + 1, b, none⟩) (by show w6.heap.size + 1 ≠ w6.heap.size + 1 + 1; omega) (.int .i64 m.fr)
          have hW2 := hW1.put b m.fr rfl
          have R2 := R1.set (p := ⟨w6.heap.size + 1 + 1, b, none⟩) (.int .i64 m.fr) (by show g ≠ w6.heap.size + 1 + 1; omega)
          have hcx2 := hcx1.setCell (p := ⟨w6.heap.size + 1 + 1, b, none⟩) (.inl (by show w6.heap.size ≤ w6.heap.size + 1 + 1; omega)) (.int .i64 m.fr)
          clear l0 l1 l2 l3 rC rA rW fC fA fW
          generalize w10.setCell ⟨w6.heap.size + 1 + 1, b, none⟩ (.int .i64 m.fr) = w20 at *
          clear hC1 hA1 hW1 R1 hcx1
          refine ⟨by kernel_rfl, ?_⟩
          have ⟨l0, l1, l2, l3⟩ := R2
          have rC := hC2.rd b (by omega) 0 hc0.out
          have rA := hA2.rd b (by omega) m.am (by simp [updG])
          have rW := hW2.rd b (by omega) m.fr (by simp [updG])
          have fC := hC2.frozen b
          have fA := hA2.frozen b
          have fW := hW2.frozen b
          have hne : ((4 : Int) == m.fr) = false := by simp; omega
          go_wp2_with fail
          have hC3 := hC2.put b 1 rfl
          have hA3 := hA2.far (p := ⟨w6.heap.size, b, none⟩) (by show w6.heap.size + 1 ≠ w6.heap.size; omega) (.int .i64 1)
          have hW3 := hW2.far (p := ⟨w6.heap.size, b, none⟩) (by show w6.heap.size + 1 + 1 ≠ w6.heap.size; omega) (.int .i64 1)
          have R3 := R2.set (p := ⟨w6.heap.size, b, none⟩) (.int .i64 1) (by show g ≠ w6.heap.size; omega)
          have hcx3 := hcx2.setCell (p := ⟨w6.heap.size, b, none⟩) (.inl (by show w6.heap.size ≤ w6.heap.size; omega)) (.int .i64 1)
          clear l0 l1 l2 l3 rC rA rW fC fA fW
          generalize w20.setCell ⟨w6.heap.size, b, none⟩ (.int .i64 1) = w30 at *
          clear hC2 hA2 hW2 R2 hcx2
          have ⟨l0, l1, l2, l3⟩ := R3
          have rC := hC3.rd b (by omega) _ rfl
          have rA := hA3.rd b (by omega) m.am (by simp [updG])
          have rW := hW3.rd b (by omega) m.fr (by simp [updG])
          have fC := hC3.frozen b
          have fA := hA3.frozen b
          have fW := hW3.frozen b
          refine wp_region_plan (by kernel_rfl) [] [0, 1, 2, 3, 4, 5, 6, 7, 8] (by kernel_rfl) (fun _ _ => True) ?_
          simp only [wpPlan, opsAt_cons, opsAt_nil, consO_some, List.getElem?_toArray, List.getElem?_cons_succ, List.getElem?_cons_zero]
          go_wp2_with fail
          refine ⟨by kernel_rfl, ?_⟩
          go_wp2_with fail
          go_roundw
          case rel =>
            refine ⟨j + 1, by go_num, by omega, ?_, ?_, ?_, ⟨hcx3.os, hcx3.tape, hcx3.output, hcx3.size, hcx3.block⟩⟩
            all_goals rw [hTeh.out, hTh.out]
            · exact hC3
            · exact hA3
            · exact hW3
          case measure => simp [intOf]; omega
        · have hC0 := hC
          have hA0 := hA
          have hW0 := hW
          have R0 := R
          have hcx0 := hcx
          clear hC hA hW R hcx
          have hT : T' = ⟨updG T.cnt b 2, T.amt, T.who⟩ := by
            rw [← hsth.out]
            unfold Tly.step
            rw [hb, if_neg (by omega), if_neg (by omega), c0]; rfl
          have hTh := Lib.hid hT
          clear hT
          obtain ⟨u, hu⟩ : ∃ u, T.who b = u := ⟨_, rfl⟩
          obtain ⟨a, ha⟩ : ∃ a, T.amt b = a := ⟨_, rfl⟩
          rw [hu] at v0 v1
          rw [f0, t0, a0, ha] at R0
          have hc0 := Lib.hid c0
          have hu0 := Lib.hid hu
          have ha0 := Lib.hid ha
          have ⟨l0, l1, l2, l3⟩ := R0
          have rC := hC0.rd b (by omega) 1 c0
          have rA := hA0.rd b (by omega) a ha
          have rW := hW0.rd b (by omega) u hu
          have fC := hC0.frozen b
          have fA := hA0.frozen b
          have fW := hW0.frozen b
          clear c0 hu ha f0 t0 a0
          have hne : ((5 : Int) == u) = false := by simp; omega
          go_wp2_with fail
          refine wp_region_plan (by kernel_rfl) [] [0, 1, 2, 3, 4, 5, 6, 7, 8, 9] (by kernel_rfl) (fun _ _ => True) ?_
          simp only [wpPlan, opsAt_cons, opsAt_nil, consO_some, List.getElem?_toArray, List.getElem?_cons_succ, List.getElem?_cons_zero]
          go_wp2_with fail
          refine ⟨by kernel_rfl, ?_⟩
          go_wp2_with fail
          have hC1 := hC0.put b 2 rfl
          have hA1 := hA0.far (p := ⟨w6.heap.size, b, none⟩) (by show w6.heap.size + 1 ≠ w6.heap.size; omega) (.int .i64 2)
          have hW1 := hW0.far (p := ⟨w6.heap.size, b, none⟩) (by show w6.heap.size + 1 + 1 ≠ w6.heap.size; omega) (.int .i64 2)
          have R1 := R0.set (p := ⟨w6.heap.size, b, none⟩) (.int .i64 2) (by show g ≠ w6.heap.size; omega)
          have hcx1 := hcx0.setCell (p := ⟨w6.heap.size, b, none⟩) (.inl (by show w6.heap.size ≤ w6.heap.size; omega)) (.int .i64 2)
          clear l0 l1 l2 l3 rC rA rW fC fA fW
          generalize wr.setCell ⟨w6.heap.size, b, none⟩ (.int .i64 2) = w10 at *
          clear hC0 hA0 hW0 R0 hcx0
          have ⟨l0, l1, l2, l3⟩ := R1
          have rC := hC1.rd b (by omega) 2 (by simp [updG])
          have rA := hA1.rd b (by omega) a ha0.out
          have rW := hW1.rd b (by omega) u hu0.out
          have fC := hC1.frozen b
          have fA := hA1.frozen b
          have fW := hW1.frozen b
          refine wp_region_plan (by kernel_rfl) [] [0, 1, 2, 3, 4, 5, 6, 7, 8] (by kernel_rfl) (fun _ _ => True) ?_
          simp only [wpPlan, opsAt_cons, opsAt_nil, consO_some, List.getElem?_toArray, List.getElem?_cons_succ, List.getElem?_cons_zero]
          go_wp2_with fail
          refine ⟨by kernel_rfl, ?_⟩
          go_wp2_with fail
          go_roundw
          case rel =>
            refine ⟨j + 1, by go_num, by omega, ?_, ?_, ?_, ⟨hcx1.os, hcx1.tape, hcx1.output, hcx1.size, hcx1.block⟩⟩
            all_goals rw [hTeh.out, hTh.out]
            · exact hC1
            · exact hA1
            · exact hW1
          case measure => simp [intOf]; omega
        · have hC0 := hC
          have hA0 := hA
          have hW0 := hW
          have R0 := R
          have hcx0 := hcx
          clear hC hA hW R hcx
          have hT : T' = ⟨updG T.cnt b 9, T.amt, T.who⟩ := by
            rw [← hsth.out]
            unfold Tly.step
            rw [hb, if_neg (by omega), if_pos t0]; rfl
          have hTh := Lib.hid hT
          clear hT
          obtain ⟨u, hu⟩ : ∃ u, T.who b = u := ⟨_, rfl⟩
          obtain ⟨a, ha⟩ : ∃ a, T.amt b = a := ⟨_, rfl⟩
          rw [hu] at v0 v1
          rw [f0, t0, a0, hu, ha] at R0
          have hc0 := Lib.hid c0
          have hu0 := Lib.hid hu
          have ha0 := Lib.hid ha
          have ⟨l0, l1, l2, l3⟩ := R0
          have rC := hC0.rd b (by omega) 1 c0
          have rA := hA0.rd b (by omega) a ha
          have rW := hW0.rd b (by omega) u hu
          have fC := hC0.frozen b
          have fA := hA0.frozen b
          have fW := hW0.frozen b
          clear c0 hu ha f0 t0 a0
          have hne : (u == (5 : Int)) = false := by simp; omega
          go_wp2_with fail
          refine wp_region_plan (by kernel_rfl) [] [0, 1, 2, 3, 4, 5, 6, 7, 8, 9] (by kernel_rfl) (fun _ _ => True) ?_
          simp only [wpPlan, opsAt_cons, opsAt_nil, consO_some, List.getElem?_toArray, List.getElem?_cons_succ, List.getElem?_cons_zero]
          go_wp2_with fail
          refine ⟨by kernel_rfl, ?_⟩
          go_wp2_with fail
          refine wp_region_plan (by kernel_rfl) [] [0, 1, 2, 3, 4, 5, 6, 7, 8, 9, 10, 11, 12, 13, 14, 15, 16, 17, 18, 19, 20, 21, 22, 23, 24, 25, 26, 27] (by kernel_rfl) (fun _ _ => True) ?_
          simp only [wpPlan, opsAt_cons, opsAt_nil, consO_some, List.getElem?_toArray, List.getElem?_cons_succ, List.getElem?_cons_zero]
          go_wp2_with fail
          refine ⟨by kernel_rfl, ?_⟩
          go_wp2_with fail
          have hC1 := hC0.put b 2 rfl
          have hA1 := hA0.far (p := ⟨w6.heap.size, b, none⟩) (by show w6.heap.size + 1 ≠ w6.heap.size; omega) (.int .i64 2)
          have hW1 := hW0.far (p := ⟨w6.heap.size, b, none⟩) (by show w6.heap.size + 1 + 1 ≠ w6.heap.size; omega) (.int .i64 2)
          have R1 := R0.set (p := ⟨w6.heap.size, b, none⟩) (.int .i64 2) (by show g ≠ w6.heap.size; omega)
          have hcx1 := hcx0.setCell (p := ⟨w6.heap.size, b, none⟩) (.inl (by show w6.heap.size ≤ w6.heap.size; omega)) (.int .i64 2)
          clear l0 l1 l2 l3 rC rA rW fC fA fW
          generalize wr.setCell ⟨w6.heap.size, b, none⟩ (.int .i64 2) = w10 at *
          clear hC0 hA0 hW0 R0 hcx0
          have ⟨l0, l1, l2, l3⟩ := R1
          have rC := hC1.rd b (by omega) 2 (by simp [updG])
          have rA := hA1.rd b (by omega) a ha0.out
          have rW := hW1.rd b (by omega) u hu0.out
          have fC := hC1.frozen b
          have fA := hA1.frozen b
          have fW := hW1.frozen b
          refine wp_region_plan (by kernel_rfl) [] [0, 1, 2, 3, 4, 5, 6, 7, 8] (by kernel_rfl) (fun _ _ => True) ?_
          simp only [wpPlan, opsAt_cons, opsAt_nil, consO_some, List.getElem?_toArray, List.getElem?_cons_succ, List.getElem?_cons_zero]
          go_wp2_with fail
          refine ⟨by kernel_rfl, ?_⟩
          go_wp2_with fail
          have hA2 := hA1.far (p := ⟨w6.heap.size, b, none⟩) (by show w6.heap.size + 1 ≠ w6.heap.size; omega) (.int .i64 9)
          have hW2 := hW1.far (p := ⟨w6.heap.size, b, none⟩) (by show w6.heap.size + 1 + 1 ≠ w6.heap.size; omega) (.int .i64 9)
          have hcx2 := hcx1.setCell (p := ⟨w6.heap.size, b, none⟩) (.inl (Nat.le_refl _)) (.int .i64 9)
          go_roundw
          case rel =>
            refine ⟨j + 1, by go_num, by omega, ?_, ?_, ?_, ⟨hcx2.os, hcx2.tape, hcx2.output, hcx2.size, hcx2.block⟩⟩
            all_goals rw [hTeh.out, hTh.out]
            · exact hC1.put b 9 (updG_updG _ _ _ _)
            · exact hA2
            · exact hW2
          case measure => simp [intOf]; omega
        · have hC0 := hC
          have hA0 := hA
          have hW0 := hW
          have R0 := R
          have hcx0 := hcx
          clear hC hA hW R hcx
          have hT : T' = ⟨updG T.cnt b 9, T.amt, T.who⟩ := by
            rw [← hsth.out]
            unfold Tly.step
            rw [hb, if_neg (by omega), if_pos t0]; rfl
          have hTh := Lib.hid hT
          clear hT
          obtain ⟨u, hu⟩ : ∃ u, T.who b = u := ⟨_, rfl⟩
          obtain ⟨a, ha⟩ : ∃ a, T.amt b = a := ⟨_, rfl⟩
          rw [hu] at v0 v1
          rw [f0, t0, a0, hu, ha] at R0
          have hc0 := Lib.hid c0
          have hu0 := Lib.hid hu
          have ha0 := Lib.hid ha
          have ⟨l0, l1, l2, l3⟩ := R0
          have rC := hC0.rd b (by omega) 2 c0
          have rA := hA0.rd b (by omega) a ha
          have rW := hW0.rd b (by omega) u hu
          have fC := hC0.frozen b
          have fA := hA0.frozen b
          have fW := hW0.frozen b
          clear c0 hu ha f0 t0 a0
          have hne : (u == (5 : Int)) = false := by simp; omega
          go_wp2_with fail
          refine wp_region_plan (by kernel_rfl) [] [0, 1, 2, 3, 4, 5, 6, 7, 8, 9] (by kernel_rfl) (fun _ _ => True) ?_
          simp only [wpPlan, opsAt_cons, opsAt_nil, consO_some, List.getElem?_toArray, List.getElem?_cons_succ, List.getElem?_cons_zero]
          go_wp2_with fail
          refine ⟨by kernel_rfl, ?_⟩
          go_wp2_with fail
          refine wp_region_plan (by kernel_rfl) [] [0, 1, 2, 3, 4, 5, 6, 7, 8, 9, 10, 11, 12, 13, 14, 15, 16, 17, 18, 19, 20, 21, 22, 23, 24, 25, 26, 27] (by kernel_rfl) (fun _ _ => True) ?_
          simp only [wpPlan, opsAt_cons, opsAt_nil, consO_some, List.getElem?_toArray, List.getElem?_cons_succ, List.getElem?_cons_zero]
          go_wp2_with fail
          refine ⟨by kernel_rfl, ?_⟩
          go_wp2_with fail
          have hC1 := hC0.put b 3 rfl
          have hA1 := hA0.far (p := ⟨w6.heap.size, b, none⟩) (by show w6.heap.size + 1 ≠ w6.heap.size; omega) (.int .i64 3)
          have hW1 := hW0.far (p := ⟨w6.heap.size, b, none⟩) (by show w6.heap.size + 1 + 1 ≠ w6.heap.size; omega) (.int .i64 3)
          have R1 := R0.set (p := ⟨w6.heap.size, b, none⟩) (.int .i64 3) (by show g ≠ w6.heap.size; omega)
          have hcx1 := hcx0.setCell (p := ⟨w6.heap.size, b, none⟩) (.inl (by show w6.heap.size ≤ w6.heap.size; omega)) (.int .i64 3)
          clear l0 l1 l2 l3 rC rA rW fC fA fW
          generalize wr.setCell ⟨w6.heap.size, b, none⟩ (.int .i64 3) = w10 at *
          clear hC0 hA0 hW0 R0 hcx0
          have ⟨l0, l1, l2, l3⟩ := R1
          have rC := hC1.rd b (by omega) 3 (by simp [updG])
          have rA := hA1.rd b (by omega) a ha0.out
          have rW := hW1.rd b (by omega) u hu0.out
          have fC := hC1.frozen b
          have fA := hA1.frozen b
          have fW := hW1.frozen b
          refine wp_region_plan (by kernel_rfl) [] [0, 1, 2, 3, 4, 5, 6, 7, 8] (by kernel_rfl) (fun _ _ => True) ?_
          simp only [wpPlan, opsAt_cons, opsAt_nil, consO_some, List.getElem?_toArray, List.getElem?_cons_succ, List.getElem?_cons_zero]
          go_wp2_with fail
          refine ⟨by kernel_rfl, ?_⟩
          go_wp2_with fail
          have hA2 := hA1.far (p := ⟨w6.heap.size, b, none⟩) (by show w6.heap.size + 1 ≠ w6.heap.size; omega) (.int .i64 9)
          have hW2 := hW1.far (p := ⟨w6.heap.size, b, none⟩) (by show w6.heap.size + 1 + 1 ≠ w6.heap.size; omega) (.int .i64 9)
          have hcx2 := hcx1.setCell (p := ⟨w6.heap.size, b, none⟩) (.inl (Nat.le_refl _)) (.int .i64 9)
          go_roundw
          case rel =>
            refine ⟨j + 1, by go_num, by omega, ?_, ?_, ?_, ⟨hcx2.os, hcx2.tape, hcx2.output, hcx2.size, hcx2.block⟩⟩
            all_goals rw [hTeh.out, hTh.out]
            · exact hC1.put b 9 (updG_updG _ _ _ _)
            · exact hA2
            · exact hW2
          case measure => simp [intOf]; omega
      · have hjn : j = p.ln.length := by omega
        subst hjn
        rw [List.take_length] at hC hA hW
        have hPq := hP6.keep0 (hcx.mono fun i hi h => by omega)
        have hcq : Chg (fun i => w.heap.size ≤ i) w wr := hck6.trans hcx (fun i hi h => by have := hck6.size; omega)
        obtain ⟨wq2, hwq⟩ : ∃ wq2 : World, wq2 = wr := ⟨wr, rfl⟩
        subst hwq
        have hn0 := hB.n0
        have hn3 := hB.n3
        have hn4 := hB.n4
        have hn5 := hB.n5
        generalize tally p.ln = T at *
        clear hB hownx hcx hP6
        have hTn := Lib.hid (And.intro hn0 (And.intro hn3 (And.intro hn4 hn5)))
        clear hn0 hn3 hn4 hn5
        go_wp2_with fail
        go_loopw [12] (fun v wx => ∃ i : Nat, v = .int .i64 i ∧ 1 ≤ i ∧ i ≤ 201 ∧ Chg (fun _ => False) wq2 wx) (fun v _ => 201 - (intOf v).toNat)
        case atStart => exact ⟨1, rfl, Nat.le_refl _, by omega, Chg.refl _ _⟩
        case round =>
          obtain ⟨i, rfl, hi1, hi2, hcx⟩ := hrel
          have hPx := hPq.keep0 hcx
          have hCx := hC.chg hcx id
          have hAx := hA.chg hcx id
          have hWx := hW.chg hcx id
          by_cases hi : i ≤ 200
          · obtain ⟨hn0, hn3, hn4, hn5⟩ := hTn.out
            have hn0 := hn0 i
            have hn3 := hn3 i
            have hn4 := hn4 i
            have hn5 := hn5 i
            have hxn := hGk.non i
            have hxg := hGk.gon i
            rcases hGk.sts i with s | s | s | s
            · have hx := hxn s
              have hc := hn0 s
              clear hn0 hn3 hn4 hn5 hxn hxg s
              unfold Ent.none at hx
              have hxh := Lib.hid hx
              have hch := Lib.hid hc
              clear hx
              have rC := hCx.rd i (by omega) 0 hc
              have rA := hAx.rd i (by omega) _ rfl
              have rW := hWx.rd i (by omega) _ rfl
              go_wp2_with fail
              refine (entry_w hPx hGk i (by omega) _ hxh.out).mono ?_
              rintro e w9 ⟨rfl, hc9⟩
              have hC9 := hCx.chg hc9 id
              have hA9 := hAx.chg hc9 id
              have hW9 := hWx.chg hc9 id
              have hcx9 := hcx.trans hc9 (fun _ _ h => h)
              clear rC rA rW
              have rC : ∀ o, (w9.alloc o).cell? ⟨w6.heap.size, i, none⟩ = _ := fun o => (hC9.alloc o).rd i (by omega) 0 hc
              have rA : ∀ o, (w9.alloc o).cell? ⟨w6.heap.size + 1, i, none⟩ = _ := fun o => (hA9.alloc o).rd i (by omega) _ rfl
              have rW : ∀ o, (w9.alloc o).cell? ⟨w6.heap.size + 1 + 1, i, none⟩ = _ := fun o => (hW9.alloc o).rd i (by omega) _ rfl
              unfold Ent.val Ent.row
              go_wp2_with fail
              refine wp_region_plan (by kernel_rfl) [] [0, 1, 2, 3, 4, 5, 6, 7, 8, 9, 10, 11, 12, 13, 14, 15, 16, 17, 18, 19, 20, 21, 22, 23, 24, 25, 26, 27, 28, 29, 30, 31, 32, 33, 34, 35, 36, 37, 38, 39, 40] (by kernel_rfl) (fun _ _ => True) ?_
              simp only [wpPlan, opsAt_cons, opsAt_nil, consO_some, List.getElem?_toArray, List.getElem?_cons_succ, List.getElem?_cons_zero]
              go_wp2_with fail
              refine ⟨by kernel_rfl, ?_⟩
              go_wp2_with fail
              go_roundw
              case rel => exact ⟨i + 1, by go_num, by omega, by omega, (hcx9.alloc _).drew⟩
              case measure => simp [intOf]; omega
            · have hx := hxg s
              have hc := hn3 s
              clear hn0 hn3 hn4 hn5 hxn hxg s
              unfold Ent.gone at hx
              rcases hc with hc | hc
              · have hxh := Lib.hid hx
                have hch := Lib.hid hc
                clear hx
                have rC := hCx.rd i (by omega) 0 hc
                have rA := hAx.rd i (by omega) _ rfl
                have rW := hWx.rd i (by omega) _ rfl
                go_wp2_with fail
                refine (entry_w hPx hGk i (by omega) _ hxh.out).mono ?_
                rintro e w9 ⟨rfl, hc9⟩
                have hC9 := hCx.chg hc9 id
                have hA9 := hAx.chg hc9 id
                have hW9 := hWx.chg hc9 id
                have hcx9 := hcx.trans hc9 (fun _ _ h => h)
                clear rC rA rW
                have rC : ∀ o, (w9.alloc o).cell? ⟨w6.heap.size, i, none⟩ = _ := fun o => (hC9.alloc o).rd i (by omega) 0 hc
                have rA : ∀ o, (w9.alloc o).cell? ⟨w6.heap.size + 1, i, none⟩ = _ := fun o => (hA9.alloc o).rd i (by omega) _ rfl
                have rW : ∀ o, (w9.alloc o).cell? ⟨w6.heap.size + 1 + 1, i, none⟩ = _ := fun o => (hW9.alloc o).rd i (by omega) _ rfl
                unfold Ent.val Ent.row
                go_wp2_with fail
                refine wp_region_plan (by kernel_rfl) [] [0, 1, 2, 3, 4, 5, 6, 7, 8, 9, 10, 11, 12, 13, 14, 15, 16, 17, 18, 19, 20, 21, 22, 23, 24, 25, 26, 27, 28, 29, 30, 31, 32, 33, 34, 35, 36, 37, 38, 39, 40] (by kernel_rfl) (fun _ _ => True) ?_
                simp only [wpPlan, opsAt_cons, opsAt_nil, consO_some, List.getElem?_toArray, List.getElem?_cons_succ, List.getElem?_cons_zero]
                go_wp2_with fail
                refine ⟨by kernel_rfl, ?_⟩
                go_wp2_with fail
                go_roundw
                case rel => exact ⟨i + 1, by go_num, by omega, by omega, (hcx9.alloc _).drew⟩
                case measure => simp [intOf]; omega
              · have hxh := Lib.hid hx
                have hch := Lib.hid hc
                clear hx
                have rC := hCx.rd i (by omega) 9 hc
                have rA := hAx.rd i (by omega) _ rfl
                have rW := hWx.rd i (by omega) _ rfl
                go_wp2_with fail
                refine (entry_w hPx hGk i (by omega) _ hxh.out).mono ?_
                rintro e w9 ⟨rfl, hc9⟩
                have hC9 := hCx.chg hc9 id
                have hA9 := hAx.chg hc9 id
                have hW9 := hWx.chg hc9 id
                have hcx9 := hcx.trans hc9 (fun _ _ h => h)
                clear rC rA rW
                have rC : ∀ o, (w9.alloc o).cell? ⟨w6.heap.size, i, none⟩ = _ := fun o => (hC9.alloc o).rd i (by omega) 9 hc
                have rA : ∀ o, (w9.alloc o).cell? ⟨w6.heap.size + 1, i, none⟩ = _ := fun o => (hA9.alloc o).rd i (by omega) _ rfl
                have rW : ∀ o, (w9.alloc o).cell? ⟨w6.heap.size + 1 + 1, i, none⟩ = _ := fun o => (hW9.alloc o).rd i (by omega) _ rfl
                unfold Ent.val Ent.row
                go_wp2_with fail
                refine wp_region_plan (by kernel_rfl) [] [0, 1, 2, 3, 4, 5, 6, 7, 8, 9, 10, 11, 12, 13, 14, 15, 16, 17, 18, 19, 20, 21, 22, 23, 24, 25, 26, 27, 28, 29, 30, 31, 32, 33, 34, 35, 36, 37, 38, 39, 40] (by kernel_rfl) (fun _ _ => True) ?_
                simp only [wpPlan, opsAt_cons, opsAt_nil, consO_some, List.getElem?_toArray, List.getElem?_cons_succ, List.getElem?_cons_zero]
                go_wp2_with fail
                refine ⟨by kernel_rfl, ?_⟩
                go_wp2_with fail
                go_roundw
                case rel => exact ⟨i + 1, by go_num, by omega, by omega, (hcx9.alloc _).drew⟩
                case measure => simp [intOf]; omega
            · obtain ⟨x, hx⟩ : ∃ x, p.en i = x := ⟨_, rfl⟩
              rw [hx] at s hn4
              obtain ⟨hc, ha, hwh⟩ := hn4 s
              clear hn0 hn3 hn4 hn5 hxn hxg
              obtain ⟨st, un, til, cu, am⟩ := x
              dsimp only at s ha hwh
              subst s
              have hxh := Lib.hid hx
              have hch := Lib.hid hc
              clear hx
              have rC := hCx.rd i (by omega) 1 hc
              have rA := hAx.rd i (by omega) am ha
              have rW := hWx.rd i (by omega) cu hwh
              go_wp2_with fail
              refine (entry_w hPx hGk i (by omega) _ hxh.out).mono ?_
              rintro e w9 ⟨rfl, hc9⟩
              have hC9 := hCx.chg hc9 id
              have hA9 := hAx.chg hc9 id
              have hW9 := hWx.chg hc9 id
              have hcx9 := hcx.trans hc9 (fun _ _ h => h)
              clear rC rA rW
              have rC : ∀ o, (w9.alloc o).cell? ⟨w6.heap.size, i, none⟩ = _ := fun o => (hC9.alloc o).rd i (by omega) 1 hc
              have rA : ∀ o, (w9.alloc o).cell? ⟨w6.heap.size + 1, i, none⟩ = _ := fun o => (hA9.alloc o).rd i (by omega) am ha
              have rW : ∀ o, (w9.alloc o).cell? ⟨w6.heap.size + 1 + 1, i, none⟩ = _ := fun o => (hW9.alloc o).rd i (by omega) cu hwh
              unfold Ent.val Ent.row
              go_wp2_with fail
              refine wp_region_plan (by kernel_rfl) [] [0, 1, 2, 3, 4, 5, 6, 7, 8, 9, 10, 11, 12, 13, 14, 15, 16, 17, 18, 19, 20, 21, 22, 23, 24, 25, 26, 27, 28, 29, 30, 31, 32, 33, 34, 35, 36, 37, 38, 39, 40] (by kernel_rfl) (fun _ _ => True) ?_
              simp only [wpPlan, opsAt_cons, opsAt_nil, consO_some, List.getElem?_toArray, List.getElem?_cons_succ, List.getElem?_cons_zero]
              go_wp2_with fail
              refine ⟨by kernel_rfl, ?_⟩
              go_wp2_with fail
              go_roundw
              case rel => exact ⟨i + 1, by go_num, by omega, by omega, (hcx9.alloc _).drew⟩
              case measure => simp [intOf]; omega
            · obtain ⟨x, hx⟩ : ∃ x, p.en i = x := ⟨_, rfl⟩
              rw [hx] at s hn5
              obtain ⟨hc, ha, hwh⟩ := hn5 s
              clear hn0 hn3 hn4 hn5 hxn hxg
              obtain ⟨st, un, til, cu, am⟩ := x
              dsimp only at s ha hwh
              subst s
              have hxh := Lib.hid hx
              have hch := Lib.hid hc
              clear hx
              have rC := hCx.rd i (by omega) 2 hc
              have rA := hAx.rd i (by omega) am ha
              have rW := hWx.rd i (by omega) cu hwh
              go_wp2_with fail
              refine (entry_w hPx hGk i (by omega) _ hxh.out).mono ?_
              rintro e w9 ⟨rfl, hc9⟩
              have hC9 := hCx.chg hc9 id
              have hA9 := hAx.chg hc9 id
              have hW9 := hWx.chg hc9 id
              have hcx9 := hcx.trans hc9 (fun _ _ h => h)
              clear rC rA rW
              have rC : ∀ o, (w9.alloc o).cell? ⟨w6.heap.size, i, none⟩ = _ := fun o => (hC9.alloc o).rd i (by omega) 2 hc
              have rA : ∀ o, (w9.alloc o).cell? ⟨w6.heap.size + 1, i, none⟩ = _ := fun o => (hA9.alloc o).rd i (by omega) am ha
              have rW : ∀ o, (w9.alloc o).cell? ⟨w6.heap.size + 1 + 1, i, none⟩ = _ := fun o => (hW9.alloc o).rd i (by omega) cu hwh
              unfold Ent.val Ent.row
              go_wp2_with fail
              refine wp_region_plan (by kernel_rfl) [] [0, 1, 2, 3, 4, 5, 6, 7, 8, 9, 10, 11, 12, 13, 14, 15, 16, 17, 18, 19, 20, 21, 22, 23, 24, 25, 26, 27, 28, 29, 30, 31, 32, 33, 34, 35, 36, 37, 38, 39, 40] (by kernel_rfl) (fun _ _ => True) ?_
              simp only [wpPlan, opsAt_cons, opsAt_nil, consO_some, List.getElem?_toArray, List.getElem?_cons_succ, List.getElem?_cons_zero]
              go_wp2_with fail
              refine ⟨by kernel_rfl, ?_⟩
              go_wp2_with fail
              go_roundw
              case rel => exact ⟨i + 1, by go_num, by omega, by omega, (hcx9.alloc _).drew⟩
              case measure => simp [intOf]; omega
          · go_wp2_with fail
            refine (told10 _).mono ?_
            rintro e wt ⟨rfl, hct⟩
            go_wp2
            go_ret
            exact ⟨rfl, ((hcq.trans hcx (fun _ _ h => h.elim)).trans hct (fun _ _ h => h.elim)).mono (fun i hi h => by omega)⟩

end Go.Proofs.Ytbmpjndagponoaa
