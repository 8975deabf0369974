/-
  SealPlays: its walk.
-/
import Derived.Test.YtpbjompopgdbjaaRSeaK
import Derived.Test.YtpbjompopgdbjaaRSeaJ
import Derived.Test.YtpbjompopgdbjaaRDskH
import Derived.Test.YtpbjompopgdbjaaInts
import Derived.Deep.DeepCutAuto
import Derived.Deep.CutBlock
namespace Go.Proofs.Ytpbjompopgdbjaa
open Go.RowKit Go.Maps

theorem notW {b : Bool} {p : Prop} (h : b = false) : b = true → p := fun e => by rw [h] at e; cases e

set_option maxRecDepth 100000 in
theorem slice_strh (l : List UInt8) (b : Nat) (h2 : b ≤ l.length) : ∀ w9 : World, (Instr.slice 9 (encStr l) none (some (.int .i64 b)) none).run Try.prog w9 = .ok (encStr (l.take b)) w9 := fun w9 => by
  have e : Value.string ((⟨l.toArray⟩ : ByteArray).extract 0 b) = encStr (l.take b) := by
    show Value.string _ = Value.string _
    congr 1
    apply ByteArray.ext
    simp [ByteArray.data_extract]
  rw [← e]
  have hsz : (⟨l.toArray⟩ : ByteArray).size = l.length := by show l.toArray.size = _; simp
  show (Instr.slice 9 (.string ⟨l.toArray⟩) none (some (.int .i64 b)) none).run Try.prog w9 = _
  go_simp
  try (intro h9; exfalso; first | omega | (have h8 := h9 (by omega); omega))

set_option maxRecDepth 100000 in
set_option maxHeartbeats 4000000 in
theorem spla_walk (w : World) (n0 : Int) (a1 : Option Addr) (c1 : Nat) (l1 : List LOp) (h1 : LOpsIn w a1 l1) :
    Calls Try.prog 7 #[.int .i64 n0, .slice a1 l1.length c1] w fun e w' => e = .returned (.bool true) ∧ Chg (fun _ => False) w w' := by
  have fin : ∀ wq, Chg (fun i => ¬ i < w.heap.size) w wq → Chg (fun _ => False) w wq := fun wq hc => hc.mono (fun i hi h => h hi)
  have told : ∀ wq, Chg (fun i => ¬ i < w.heap.size) w wq → Calls Try.prog 11 #[] wq fun e w' => e = .returned (.bool true) ∧ Chg (fun _ => False) w w' := fun wq hq => (told6 wq).mono (by
    rintro e w' ⟨rfl, hc⟩
    exact ⟨rfl, fin _ (hq.trans hc (fun _ _ h => h.elim))⟩)
  have htold := Lib.hid told
  clear told
  obtain ⟨r, hr⟩ : ∃ r, wrap64 ((IntKind.u64.wrap n0).tmod 3001) = r := ⟨_, rfl⟩
  have hrb := modK n0 3001 (by omega)
  rw [hr] at hrb
  obtain ⟨hr1, hr2⟩ := hrb
  go_enter Try.func7, Try.ntmps7
  go_wp2_with fail
  rw [hr]
  refine (x_new w r (by omega)).mono ?_
  rintro e w0 ⟨d, rfl, hD0, hc0⟩
  have hRX := rdsk_new w0 w.heap.size r
  have hcA : Chg (fun _ => False) w0 (w0.alloc (.cells #[.int .i64 r, .slice none 0 0] 55)) := (Chg.refl _ w0).alloc _
  have hz0 := hc0.size
  have hDA : DiskX (fun i => i < w.heap.size ∨ i = w0.heap.size) _ d (Dsk.new r) := hD0.more hcA (fun i hi => hi.imp id (fun h => by rw [size_al]; omega))
  have hcwA : Chg (fun i => ¬ i < w.heap.size) w _ := (hc0.trans hcA (fun _ _ h => h)).mono (fun _ _ h => h.elim)
  have hPre := pre_new r (by omega) (by omega)
  clear hr hcA hD0 hc0
  go_wp2_with fail
  obtain ⟨X, hX⟩ : ∃ X, w0.heap.size = X := ⟨_, rfl⟩
  rw [hX] at hRX hDA
  rw [hX]
  have hXw : w.heap.size ≤ X := by omega
  clear hX hz0
  generalize w0.alloc (.cells #[.int .i64 r, .slice none 0 0] 55) = w1 at *
  obtain ⟨so, lo, tl, j, D', x1, x2, x3, x4, x5, x6, x7, x8, x9, y1, y2, y3, y4, y5⟩ := hPre.reopen2
  have hj0 : j = 0 := Nat.le_zero.1 x9
  subst hj0
  have Y4 := Lib.hid y4
  have Y5 := Lib.hid y5
  clear y4 y5
  refine (open_any hDA so lo x1 x2 x5 x6).mono ?_
  rw [x7, x4, x3, y1]
  rintro e w2 ⟨g, ad1, cp1, ad2, cp2, rfl, B, q1, q2, q3, q4, q5, q6, q7⟩
  have hR2 : RD w2 w.heap.size X _ _ := hRX.chg2 q7 (fun h => h (.inr rfl)) (fun k hk => (by simp [Value.ownBlock] at hk))
  go_wp2_with fail
  have hz1 := hcwA.size
  have hz2 := q7.size
  refine (rl_open hR2 hPre.good (by rw [show (Dsk.new r).ks = [] from rfl]; exact Nat.zero_le _) (by omega) (Int.le_refl _) (by omega) (st := []) (rs := []) (so := so) (lo := lo) (by simpa using Y4.out) (by simpa using Y5.out) x5 x6).mono ?_
  rw [y1]
  rintro e w3 ⟨y, b1, cb1, b2, cb2, v', rfl, hs1, hs2, hRL, hc3, ho3, hy3⟩
  have hsea := sea_open (k := 0) (age := 0) hXw (.inr rfl) (fun q hq => (by simp [Value.ownBlock] at hq)) (fun q hq => .inl hq) hcwA hRX q1 q2 q3 q4 q5 q6 q7 hRL hc3 ho3 hy3 y2 (Nat.le_refl _) (Nat.le_refl _) (Nat.zero_le _)
  have hK0 : SeaI w X d 0 (.pointer (some ⟨g, 0, none⟩)) (.pointer (some ⟨y, 0, none⟩)) w3 := ⟨g, y, 0, 0, [], [], D', v', _, rfl, rfl, hsea.1⟩
  clear hsea hRL hc3 ho3 hy3 hR2 q1 q2 q3 q4 q5 q6 q7 y1 y2 y3 Y4 Y5 x1 x2 x3 x4 x5 x6 x7 x8 x9 hPre hDA hRX hcwA hz1 hz2 hs1 hs2
  go_upto_block 0 with (fail)
  go_cut [9, 13, 16, 17, 18, 19, 20, 21, 22, 23, 24, 25, 26, 28, 29, 30, 31, 32] (fun _ _ _ _ _ _ _ _ _ _ _ _ _ _ _ _ _ _ wx => Chg (fun q => ¬ q < w.heap.size) w wx)
  case first =>
    go_wp2_with fail
    go_loopw [9, 13, 16, 17, 18, 19, 20, 21, 22, 23, 24, 25, 26, 28, 29, 30, 31, 32] (fun v9 v13 v16 _ _ _ _ _ _ _ _ _ _ _ _ _ _ _ wr => ∃ k : Nat, v16 = .int .i64 k ∧ k ≤ l1.length ∧ k ≤ 60 ∧ SeaI w X d k v9 v13 wr) (fun _ _ v16 _ _ _ _ _ _ _ _ _ _ _ _ _ _ _ _ => 100 - (RowKit.intOf v16).toNat)
    case atStart => exact ⟨0, rfl, Nat.zero_le _, Nat.zero_le _, hK0⟩
    case round =>
      clear hK0
      obtain ⟨k, rfl, hk1, hk2, g, y, age, sy, st, recs, D, v, Pk, rfl, rfl, hS⟩ := hrel
      by_cases hlt : k < l1.length ∧ k < 60
      · obtain ⟨hlt1, hlt2⟩ := hlt
        obtain ⟨o, ho⟩ : ∃ o, l1[k]? = some o := ⟨_, List.getElem?_eq_getElem hlt1⟩
        obtain ⟨a, ab, cb, al, cl, rfl, q0, q1, q2, q3, hbm, hnb, hbB, hbL⟩ := h1.at_ hS.ch (fun i hi h => h hi) ho
        obtain ⟨kd, n, b, l⟩ := o
        simp only at q0 q1 q2 q3 hbm hnb hbB hbL
        have q1 : wr.cell? ⟨(a.add (k * 4)).block, (a.add (k * 4)).off + 1, none⟩ = some (.int .i64 n) := q1
        have q2 : wr.cell? ⟨(a.add (k * 4)).block, (a.add (k * 4)).off + 2, none⟩ = some (.slice ab b.length cb) := q2
        have q3 : wr.cell? ⟨(a.add (k * 4)).block, (a.add (k * 4)).off + 3, none⟩ = some (.slice al l.length cl) := q3
        have hcA : Chg (fun _ => False) wr (wr.alloc (.cells #[.int .i64 kd, .int .i64 n, .slice ab b.length cb, .slice al l.length cl] 33)) := (Chg.refl _ wr).alloc _
        have hE := Blk.new wr 33 #[.int .i64 kd, .int .i64 n, .slice ab b.length cb, .slice al l.length cl]
        have hzA := size_al wr (.cells #[.int .i64 kd, .int .i64 n, .slice ab b.length cb, .slice al l.length cl] 33)
        clear ho
        go_wp2_with fail
        have hOb := Lib.hid hbB
        have hOl := Lib.hid hbL
        have hLA := hbL.chg (hS.ch.trans hcA (fun _ _ h => h.elim)) (fun i hi h => h hi)
        clear hbB hbL q0 q1 q2 q3
        generalize wr.alloc (.cells #[.int .i64 kd, .int .i64 n, .slice ab b.length cb, .slice al l.length cl] 33) = wA at *
        generalize hEq : wr.heap.size = E at *
        refine (few_any ⟨kd, n, b, l⟩ cb cl hLA hbm).mono ?_
        rintro e w2 ⟨rfl, hc2⟩
        have hz2 := hc2.size
        obtain ⟨P2, hP2⟩ : ∃ P2 : Nat → Prop, P2 = fun q => Pk q ∨ (E ≤ q ∧ q < w2.heap.size) := ⟨_, rfl⟩
        have hPE : P2 E := by rw [hP2]; exact .inr ⟨Nat.le_refl _, by omega⟩
        have hE2 := hE.chg hc2 id
        have hS2 : SeaA w X d k g y age sy st recs D v P2 w2 := hS.more (hcA.trans hc2 (fun _ _ h => h)) (fun q hq => by
          rw [hP2] at hq
          rcases hq with h | h
          · exact .inl h
          · exact .inr ⟨by omega, h.2⟩) (fun q hq => by rw [hP2]; exact .inl hq)
        clear hcA hE hS hLA hc2 hP2 hz2 hzA hEq
        cases hf : LOp.few ⟨kd, n, b, l⟩ with
        | false =>
          go_wp2_with fail
          refine (htold.out _ hS2.ch).mono ?_
          rintro e w3 ⟨rfl, hc3⟩
          go_wp2_with fail
          go_ret
          exact ⟨rfl, hc3⟩
        | true =>
          obtain ⟨hf1, hf2, hf3⟩ := (LOp.few_iff _).1 hf
          simp only at hf1 hf2 hf3
          have Hf3 := Lib.hid hf3
          clear hf hf3
          have f0 : w2.cell? ⟨E, 0, none⟩ = some (.int .i64 kd) := hE2.cell 0
          have f1 : w2.cell? ⟨E, 1, none⟩ = some (.int .i64 n) := hE2.cell 1
          have f2 : w2.cell? ⟨E, 2, none⟩ = some (.slice ab b.length cb) := hE2.cell 2
          have f3 : w2.cell? ⟨E, 3, none⟩ = some (.slice al l.length cl) := hE2.cell 3
          have hgE : E ≠ g := fun e => by
            subst e
            exact hE2.ne hS2.lg (by decide) rfl
          have mid : ∀ w3, Chg (fun i => ¬ P2 i ∨ i = g) w2 w3 → RLAt w3 w.heap.size X y v age recs.length D ∧ Blk w3 E 33 #[.int .i64 kd, .int .i64 n, .slice ab b.length cb, .slice al l.length cl] ∧ w.heap.size ≤ w3.heap.size ∧ (convert 31 9 (.slice ab b.length cb)).run Try.prog w3 = .ok (encStr b) w3 ∧ BytIn w3 ab b ∧ RowsB w3 al l := fun w3 hc3 => by
            have hcw3 := hS2.ch3 hc3
            have hB3 := hOb.out.chg hcw3 (fun i hi h => h hi)
            have hv := hB3.conv b.length (Nat.le_refl _) cb (w' := w3) (fun i _ => rfl)
            rw [List.take_length] at hv
            exact ⟨hS2.rl3 hc3, hE2.chg hc3 (fun h => h.elim (fun n => n hPE) hgE), hcw3.size, hv, hB3, hOl.out.chg hcw3 (fun i hi h => h hi)⟩
          have Mid := Lib.hid mid
          clear mid
          go_upto_block 2 with (fail)
          go_cut [9, 13, 18, 19, 20, 21, 22, 23, 24, 25, 26] (fun v9 v13 v18 v19 _ _ _ _ _ _ _ wx => ∃ r : Int, v18 = .int .i64 r ∧ v19 = .int .i64 r ∧ SeaI w X d (k + 1) v9 v13 wx)
          case first =>
            as_aux_lemma =>
              by_cases h0k : kd = 0
              · subst h0k
                have ed2 : w2.drew.cell? ⟨E, 2, none⟩ = some (.slice ab b.length cb) := f2
                have ecv := (Mid.out w2.drew ((Chg.refl _ w2).drew)).2.2.2.1
                have hL0 := (Chg.refl (fun _ => False) w2).drew
                go_wp2_with fail
                refine wp_region_plan (by kernel_rfl) [{ fl := [0, 1, 2, 4, 5, 6, 7], long := [6, 7], ef := 3, keep := [6, 7] }, { fl := [], ef := 8 }] [9, 10] (by kernel_rfl) (fun _ w9 => w9.cell? ⟨E, 2, none⟩ = some (.slice ab b.length cb) ∧ (convert 31 9 (.slice ab b.length cb)).run Try.prog w9 = .ok (encStr b) w9) ?_
                simp only [wpPlan, longOK, keepOK, opsAt_cons, opsAt_nil, consO_some, List.getElem?_toArray, List.getElem?_cons_succ, List.getElem?_cons_zero, and_true, true_and]
                refine ⟨by first | exact ⟨ed2, ecv⟩ | exact ⟨⟨ed2, ecv⟩, ⟨ed2, ecv⟩⟩, ?_⟩
                go_wp2_with fail
                refine ⟨by kernel_rfl, ⟨?_, ?_⟩, ?_⟩
                iterate 2
                  · intro _ w9 hw9
                    first | (obtain ⟨hw1, hw2⟩ := hw9; go_simp) | go_simp
                go_wp2_with fail
                by_cases hb0 : b.length < 1
                · refine (sput_bad (Blk.chg hS2.lg hL0 id) ab b.length cb (.inl hb0) hbm).mono ?_
                  rintro e w3 ⟨rfl, hw3⟩
                  rw [hw3]
                  go_wp2_with fail
                  refine ⟨by first | exact ⟨ed2, ecv⟩ | exact ⟨⟨ed2, ecv⟩, ⟨ed2, ecv⟩⟩, ?_⟩
                  go_wp2_with fail
                  refine ⟨by kernel_rfl, ?_⟩
                  go_wp2_with fail
                  refine (rl_put_bad w2.drew y b (.inl hb0) hbm).mono ?_
                  rintro e w4 ⟨rfl, hw4⟩
                  rw [hw4]
                  have hI := (hS2.later (Nat.le_succ k)).keep hL0
                  go_wp2_with fail
                  refine ⟨by kernel_rfl, ?_⟩
                  go_wp2_with fail
                  go_meet
                  case rel => exact ⟨1, rfl, rfl, g, y, age, sy, st, recs, D, v, P2, rfl, rfl, hI⟩
                · have hSd := hS2.keep hL0
                  obtain ⟨r0, D1, recs', e1, e2, e3, e4⟩ := hS2.rep.putG (b := b) ⟨by omega, by omega⟩
                  have hks := hS2.ks
                  have hak := hS2.ak
                  have hrk := hS2.rk
                  refine (sput_any hSd.dx (by omega) hSd.lg hSd.pg (by omega) (by omega) (by omega) (Mid.out w2.drew ((Chg.refl _ w2).drew)).2.2.2.2.1 cb ⟨by omega, by omega⟩).mono ?_
                  rw [e1, e2]
                  rintro e w3 ⟨rfl, hL3, hD3, hc3⟩
                  have hc3 : Chg (fun i => ¬ P2 i ∨ i = g) w2 w3 := ((Chg.refl _ w2).drew).trans hc3 (fun _ _ h => h)
                  obtain ⟨hR3, hB3, hz3, hcv3, _, _⟩ := Mid.out w3 hc3
                  have eg2 : w3.cell? ⟨E, 2, none⟩ = some (.slice ab b.length cb) := hB3.cell 2
                  go_wp2_with fail
                  refine ⟨by first | exact ⟨eg2, hcv3⟩ | exact ⟨⟨eg2, hcv3⟩, ⟨eg2, hcv3⟩⟩, ?_⟩
                  go_wp2_with fail
                  refine ⟨by kernel_rfl, ?_⟩
                  go_wp2_with fail
                  refine (rl_put hR3 hS2.rep.good (by omega) hz3 (by omega) (by omega) (by omega) b ⟨by omega, by omega⟩).mono ?_
                  rw [e1, e2]
                  rintro e w4 ⟨rfl, hP4⟩
                  obtain ⟨v', Q, hI⟩ := hS2.step (k' := k + 1) hc3 hD3 hL3 e3 hP4 (by omega) (by omega) hS2.sl
                  clear hR3 hP4 hD3 hL3 hB3
                  go_wp2_with fail
                  refine ⟨by kernel_rfl, ?_⟩
                  go_wp2_with fail
                  go_meet
                  case rel => exact ⟨r0, rfl, rfl, g, y, age, sy, st, recs', D1, v', Q, rfl, rfl, hI⟩
              by_cases h1k : kd = 1
              · subst h1k
                go_wp2_with fail
                refine (ssync_any hS2.dx hS2.lg hS2.pg).mono ?_
                obtain ⟨D1, e1, e3, _, _⟩ := hS2.rep.sync
                rw [e1]
                rintro e w3 ⟨rfl, hL3, hD3, hc3⟩
                have hc3 : Chg (fun i => ¬ P2 i ∨ i = g) w2 w3 := hc3.mono (fun _ _ h => .inl h)
                obtain ⟨hR3, hB3, hz3, hcv3, _, _⟩ := Mid.out w3 hc3
                have hks := hS2.ks
                have hak := hS2.ak
                have hrk := hS2.rk
                go_wp2_with fail
                refine (rl_sync hR3 hS2.rep.good (by omega)).mono ?_
                rw [e1]
                rintro e w4 ⟨rfl, hP4⟩
                obtain ⟨v', Q, hI⟩ := hS2.step (k' := k + 1) hc3 hD3 hL3 e3 hP4 (by omega) (by omega) hS2.sl
                clear hR3 hP4 hD3 hL3 hB3
                go_wp2_with fail
                go_meet
                case rel => exact ⟨0, rfl, rfl, g, y, age, _, st, recs, D1, v', Q, rfl, rfl, hI⟩
              by_cases h2k : kd = 2
              · subst h2k
                have ed3 : w2.drew.cell? ⟨E, 3, none⟩ = some (.slice al l.length cl) := f3
                have hL0 := (Chg.refl (fun _ => False) w2).drew
                have hSd := hS2.keep hL0
                have hks := hS2.ks
                have hak := hS2.ak
                have hrk := hS2.rk
                go_wp2_with fail
                refine wp_region_plan (by kernel_rfl) [{ fl := [0, 1, 2, 4, 5, 6], long := [6], ef := 3, keep := [6] }, { fl := [], ef := 7 }, { fl := [], ef := 8 }] [9, 10] (by kernel_rfl) (fun _ w9 => w9.cell? ⟨E, 3, none⟩ = some (.slice al l.length cl)) ?_
                simp only [wpPlan, longOK, keepOK, opsAt_cons, opsAt_nil, consO_some, List.getElem?_toArray, List.getElem?_cons_succ, List.getElem?_cons_zero, and_true, true_and]
                refine ⟨by first | exact ed3 | exact ⟨ed3⟩, ?_⟩
                go_wp2_with fail
                refine ⟨by kernel_rfl, ?_, ?_⟩
                iterate 1
                  · intro _ w9 hw9
                    go_simp
                go_wp2_with fail
                have hLd := (Mid.out w2.drew ((Chg.refl _ w2).drew)).2.2.2.2.2
                by_cases hok : ∀ x ∈ l, 1 ≤ x.length
                · have Hok : ∀ x ∈ l, okR x := fun x hx => ⟨hok x hx, by have := Hf3.out x hx; omega⟩
                  obtain ⟨r0, D1, age', st', recs', sy', e1, e2, e2', e3, e4, e5, e6⟩ := hS2.rep.saveG (l := l) Hok (by omega) hS2.sl hf2
                  refine (ssave_any hSd.dx (by omega) hSd.lg hSd.pg (by omega) (by omega) hLd cl (by omega) Hok).mono ?_
                  rw [e1, e2, e2']
                  have HOK := Lib.hid Hok
                  clear Hok hok
                  rintro e w3 ⟨rfl, hL3, hD3, hc3⟩
                  have hc3 : Chg (fun i => ¬ P2 i ∨ i = g) w2 w3 := ((Chg.refl _ w2).drew).trans hc3 (fun _ _ h => h)
                  obtain ⟨_, hB3, _, _, _, hl3⟩ := Mid.out w3 hc3
                  have eg3 : w3.cell? ⟨E, 3, none⟩ = some (.slice al l.length cl) := hB3.cell 3
                  go_wp2_with fail
                  refine ⟨by first | exact eg3 | exact ⟨eg3⟩, ?_⟩
                  go_wp2_with fail
                  refine ⟨by kernel_rfl, ?_⟩
                  go_wp2_with fail
                  refine (texts_any hl3 cl (by omega)).mono ?_
                  rintro e w4 ⟨ao4, cp4, rfl, hs4, _, hc4⟩
                  have hc4 : Chg (fun i => ¬ P2 i ∨ i = g) w2 w4 := hc3.trans hc4 (fun _ _ h => h.elim)
                  obtain ⟨hR4, _, hz4, _, _, _⟩ := Mid.out w4 hc4
                  go_wp2_with fail
                  refine ⟨by kernel_rfl, ?_⟩
                  go_wp2_with fail
                  refine (rl_save hR4 hS2.rep.good (by omega) hz4 hS2.rep.nxt (by omega) (by omega) hs4 cp4 (by omega) HOK.out).mono ?_
                  rw [e1, e2, e2']
                  rintro e w5 ⟨rfl, hP5⟩
                  obtain ⟨v', Q, hI⟩ := hS2.step (k' := k + 1) hc4 (hD3.keep ‹_›) (Blk.chg hL3 ‹_› id) e3 hP5 (by omega) (by omega) e6
                  clear hR4 hP5 hD3 hL3 hB3 hl3 hs4 hLd hSd
                  go_wp2_with fail
                  refine ⟨by kernel_rfl, ?_⟩
                  go_wp2_with fail
                  go_meet
                  case rel => exact ⟨r0, rfl, rfl, g, y, age', sy', st', recs', D1, v', Q, rfl, rfl, hI⟩
                · have hbad : ∃ x, x ∈ l ∧ ¬ okR x := by
                    apply Classical.byContradiction
                    intro hn
                    exact hok (fun x hx => (Classical.byContradiction (fun h => hn ⟨x, hx, fun ho => h ho.1⟩) : 1 ≤ x.length))
                  have Hbad := Lib.hid hbad
                  clear hok hbad
                  refine (ssave_bad hSd.lg (by omega) (by omega) hLd cl (by omega) Hbad.out).mono ?_
                  rintro e w3 ⟨rfl, hc3⟩
                  have hS3 := hSd.keep hc3
                  have hc3 : Chg (fun i => ¬ P2 i ∨ i = g) w2 w3 := ((Chg.refl _ w2).drew).trans hc3 (fun _ _ h => h.elim)
                  obtain ⟨_, hB3, _, _, _, hl3⟩ := Mid.out w3 hc3
                  have eg3 : w3.cell? ⟨E, 3, none⟩ = some (.slice al l.length cl) := hB3.cell 3
                  go_wp2_with fail
                  refine ⟨by first | exact eg3 | exact ⟨eg3⟩, ?_⟩
                  go_wp2_with fail
                  refine ⟨by kernel_rfl, ?_⟩
                  go_wp2_with fail
                  refine (texts_any hl3 cl (by omega)).mono ?_
                  rintro e w4 ⟨ao4, cp4, rfl, hs4, _, hc4⟩
                  have hS4 := hS3.keep hc4
                  go_wp2_with fail
                  refine ⟨by kernel_rfl, ?_⟩
                  go_wp2_with fail
                  refine (rl_save_bad hS4.rl (by omega) (by omega) hs4 cp4 (by omega) Hbad.out).mono ?_
                  rintro e w5 ⟨rfl, hc5⟩
                  have hI := (hS4.later (Nat.le_succ k)).keep hc5
                  clear hS3 hS4 hB3 hl3 hs4 hLd hSd
                  go_wp2_with fail
                  refine ⟨by kernel_rfl, ?_⟩
                  go_wp2_with fail
                  go_meet
                  case rel => exact ⟨1, rfl, rfl, g, y, age, sy, st, recs, D, v, P2, rfl, rfl, hI⟩
              · have hks := hS2.ks
                have hak := hS2.ak
                have hrk := hS2.rk
                go_wp2_with fail
                refine (x_crash hS2.dx (by omega) n hnb).mono ?_
                rintro e w3 ⟨rfl, hD3, hc3⟩
                have hc3 : Chg (fun i => ¬ P2 i ∨ i = g) w2 w3 := hc3.mono (fun _ _ h => .inl h)
                obtain ⟨hR3, hB3, hz3, _, _, _⟩ := Mid.out w3 hc3
                have eg1 : w3.cell? ⟨E, 1, none⟩ = some (.int .i64 n) := hB3.cell 1
                go_wp2_with fail
                refine (rd_crash hR3.rd hS2.rep.good (by omega) hz3 n).mono ?_
                rintro e w4 ⟨rfl, v4, hR4, hc4, ho4⟩
                have hw4 : Chg (fun q => ¬ q < w.heap.size) w w4 := (hS2.ch3 hc3).trans hc4 (fun q _ hi hq => by
                  rcases hi with rfl | hi
                  · exact absurd hq (Nat.not_lt.2 hXw)
                  · exact absurd hq (Nat.not_lt.2 (hR3.own hi).1))
                have hD4 : DiskX (fun q => P2 q ∨ (w3.heap.size ≤ q ∧ q < w4.heap.size)) w4 d (D.crash n) := hD3.touch (hc4.mono (fun i _ hi => by
                  rcases hi with rfl | hi
                  · exact hS2.pX
                  · exact hS2.pv i hi)) (fun _ h => h)
                have hPv4 : ∀ q, v4.ownBlock = some q → P2 q ∨ (w3.heap.size ≤ q ∧ q < w4.heap.size) := fun q hq => by
                  rcases ho4 q hq with h | h
                  · exact .inl (hS2.pv q h)
                  · obtain ⟨l0, hl0, _⟩ := hR4
                    exact .inr ⟨h, (hl0.block hq).2.1⟩
                have hPre := hS2.rep.crash n
                have hkc : (D.crash n).ks.length ≤ 999000 := by show D.ks.length ≤ _; omega
                have hgC := hPre.good
                obtain ⟨D1, hD1⟩ : ∃ D1, D.crash n = D1 := ⟨_, rfl⟩
                rw [hD1] at hR4 hD4 hPre hkc hgC
                clear hD3 hR3 hB3 eg1 hD1 ho4 hc4
                obtain ⟨so, lo, tl, j, D', x1, x2, x3, x4, x5, x6, x7, x8, x9, y1, y2, y3, y4, y5⟩ := hPre.reopen2
                obtain ⟨R, hR⟩ : ∃ R, recs.take j = R := ⟨_, rfl⟩
                rw [hR] at x7 y2 y5
                have hRl : R.length ≤ recs.length := by rw [← hR, List.length_take]; omega
                have Y := Lib.hid (And.intro y4 y5)
                clear hR y4 y5 hPre x8 x9 y3
                go_wp2_with fail
                refine (open_any hD4 so lo x1 x2 x5 x6).mono ?_
                rw [x7, x4, x3, y1]
                rintro e w5 ⟨g2, ad1, cp1, ad2, cp2, rfl, B, q1, q2, q3, q4, q5, q6, q7⟩
                have hR5 : RD w5 w.heap.size X v4 D1 := hR4.chg2 q7 (fun h => h (.inl hS2.pX)) (fun q hq h => h (hPv4 q hq))
                have hz4 := hw4.size
                have hz5 := q7.size
                go_wp2_with fail
                refine (rl_open hR5 hgC hkc (by omega) (by omega) (by omega) Y.out.1 Y.out.2 x5 x6).mono ?_
                rw [y1]
                rintro e w6 ⟨y2', b1, cb1, b2, cb2, v6, rfl, hs1, hs2, hRL, hc6, ho6, hy6⟩
                have hsea := sea_open (k := k + 1) (age := age) hXw (.inl hS2.pX) hPv4 (fun q hq => .inl (hS2.pw q hq)) hw4 hR4 q1 q2 q3 q4 q5 q6 q7 hRL hc6 ho6 hy6 y2 (by omega) (by omega) hS2.sl
                obtain ⟨hS6, hr1, hr2⟩ := hsea
                have hst6 := hS2.sl
                clear hRL hc6 ho6 hy6 hR5 hR4 q1 q2 q3 q4 q5 q6 q7 y1 y2 Y x1 x2 x3 x4 x5 x6 x7 hD4 hPv4 hw4 hc3 hS2 Mid
                go_wp2_with fail
                refine (Texts_eq hr1 hs1 cp1 cb1 (by omega)).mono ?_
                rintro e w7 ⟨rfl, hc7⟩
                go_wp2_with fail
                refine (Texts_eq (hr2.chg hc7 (fun _ _ => id)) (hs2.keep hc7 (fun _ _ _ => id)) cp2 cb2 (by omega)).mono ?_
                rintro e w8 ⟨rfl, hc8⟩
                have hI := hS6.keep (hc7.trans hc8 (fun _ _ h => h))
                clear hS6 hr1 hr2 hs1 hs2 hc7 hc8
                go_wp2_with fail
                go_meet
                case rel => exact ⟨0, rfl, rfl, g2, y2', age, _, st, R, D', v6, _, rfl, rfl, hI⟩
          case rest =>
            obtain ⟨r, rfl, rfl, hI⟩ := hcut
            obtain ⟨wq, hwq⟩ : ∃ wq : World, wq = wc := ⟨wc, rfl⟩
            subst hwq
            clear Mid hS2
            obtain ⟨g2, y2, age2, sy2, st2, recs2, D2, v2, P2', rfl, rfl, hS⟩ := hI
            have hL0 := (Chg.refl (fun _ => False) wq).drew
            have c2 : wq.drew.cell? ⟨y2, 2, none⟩ = some (.int .i64 recs2.length) := hS.rl.blk.cell 2
            go_wp2_with fail
            refine wp_region_plan (by kernel_rfl) [{ fl := [0, 1, 2, 3, 4, 6, 7, 8, 9], long := [9], ef := 5, keep := [9] }] [10, 11] (by kernel_rfl) (fun _ w9 => w9.cell? ⟨y2, 2, none⟩ = some (.int .i64 recs2.length)) ?_
            simp only [wpPlan, longOK, keepOK, opsAt_cons, opsAt_nil, consO_some, List.getElem?_toArray, List.getElem?_cons_succ, List.getElem?_cons_zero, and_true, true_and]
            refine ⟨by first | exact c2 | exact ⟨c2⟩, ?_⟩
            go_wp2_with fail
            refine ⟨by kernel_rfl, ?_, ?_⟩
            iterate 1
              · intro _ w9 hw9
                go_simp
            go_wp2_with fail
            refine (slen_any (Blk.chg hS.lg hL0 id)).mono ?_
            rintro e w3 ⟨rfl, hw3⟩
            rw [hw3]
            go_wp2_with fail
            refine ⟨by first | exact c2 | exact ⟨c2⟩, ?_⟩
            go_wp2_with fail
            refine ⟨by kernel_rfl, ?_⟩
            go_wp2_with fail
            have hcN : Chg (fun _ => False) wq (wq.alloc (.cells #[.string ⟨#[115, 110, 97, 112]⟩, .string ⟨#[108, 111, 103]⟩, .string ⟨#[110, 101, 120, 116]⟩] 9)).drew := ((Chg.refl _ wq).alloc _).drew
            have hN : Blk (wq.alloc (.cells #[.string ⟨#[115, 110, 97, 112]⟩, .string ⟨#[108, 111, 103]⟩, .string ⟨#[110, 101, 120, 116]⟩] 9)).drew wq.heap.size 9 #[encStr nSnap, encStr nLog, encStr nNext] := Blk.chg (Blk.new wq _ _) ((Chg.refl (fun _ => False) _).drew) id
            have hS3 := hS.keep hcN
            clear hS hL0 c2 hcN
            generalize (wq.alloc (.cells #[.string ⟨#[115, 110, 97, 112]⟩, .string ⟨#[108, 111, 103]⟩, .string ⟨#[110, 101, 120, 116]⟩] 9)).drew = w4 at *
            generalize wq.heap.size = N at *
            go_loopw [28, 29, 30, 31, 32, 173] (fun _ _ _ _ _ v173 wr => ∃ j : Nat, v173 = .int .i64 j ∧ j ≤ 3 ∧ Blk wr N 9 #[encStr nSnap, encStr nLog, encStr nNext] ∧ SeaA w X d (k + 1) g2 y2 age2 sy2 st2 recs2 D2 v2 P2' wr) (fun _ _ _ _ _ v173 _ => 100 - (RowKit.intOf v173).toNat)
            case atStart => exact ⟨0, rfl, Nat.zero_le _, hN, hS3⟩
            case round =>
              clear hN hS3
              obtain ⟨j, rfl, hj, hN, hS⟩ := hrel
              obtain ⟨wp, hwp⟩ : ∃ wp : World, wp = wr := ⟨wr, rfl⟩
              subst hwp
              by_cases hj3 : j < 3
              · obtain ⟨nm, hc0, hnl⟩ : ∃ nm : Nam, wp.cell? ⟨N, j, none⟩ = some (encStr nm) ∧ nm.length ≤ maxLen := by
                  have : j = 0 ∨ j = 1 ∨ j = 2 := by omega
                  rcases this with rfl | rfl | rfl
                  · exact ⟨nSnap, hN.cell 0, by decide⟩
                  · exact ⟨nLog, hN.cell 1, by decide⟩
                  · exact ⟨nNext, hN.cell 2, by decide⟩
                have hks := hS.ks
                have HF := Lib.hid (fun w' (hc : Chg (fun _ => False) wp w') => And.intro (hN.chg hc id) (hS.keep hc))
                cases hf : D2.fl nm with
                | none =>
                  as_aux_lemma =>
                    have h1r := x_read_none hS.dx nm hnl hf
                    have h2r := fun w' (hc : Chg (fun _ => False) wp w') => rd_read (hS.keep hc).rl.rd hS.rep.good (by omega) nm
                    rw [hf] at h2r
                    rw [show (none : Option Fil).isSome = false from rfl, show bsF none = [] from rfl] at h2r
                    have H2 := Lib.hid h2r
                    clear h2r hf
                    go_wp2_with fail
                    refine h1r.mono ?_
                    rintro e w5 ⟨rfl, hw5⟩
                    rw [hw5]
                    go_wp2_with fail
                    refine (H2.out _ (Chg.refl _ _)).mono ?_
                    rintro e w6 ⟨rfl, hw6⟩
                    rw [hw6]
                    clear H2
                    go_wp2_with fail
                    have hcv0 : ∀ w9 : World, (convert 31 9 (.slice none 0 0)).run Try.prog w9 = .ok (encStr []) w9 := fun w9 => (BytIn.nil w9 none).conv 0 (Nat.le_refl _) 0 (w' := w9) (fun i _ => rfl)
                    refine wp_region_planN (by kernel_rfl) [0, 0, 3, 7, 15, 31, 15, 127, 255, 511, 1023, 2047, 4095, 8191, 8191, 32767, 8191, 73727, 204799, 466943, 8191, 8191, 3211263, 8388607, 16777215, 33554431, 8191, 67117055, 201334783, 469770239, 8191, 8191, 3228631039, 8530231295, 17120165887, 34300035071, 68719476735, 137438953471, 274877906943, 549755813887, 1099511627775] [] [{ fl := [0, 1, 2, 3, 4, 5, 6, 7, 8, 9, 10, 11, 12, 13, 14, 16, 17, 18, 19, 20, 21, 26, 27, 28, 29, 30, 31], long := [5, 7, 19, 29], ef := 15, keep := [19, 29] }, { fl := [], ef := 22, keep := [19, 29] }, { fl := [23, 24, 25], long := [25], ef := 32, keep := [19, 29, 25] }, { fl := [33, 34, 35, 36, 37, 38, 39], long := [35, 36, 37], ef := 40 }] [] (by kernel_rfl) (by simp) ?_
                    intro opsF hF
                    refine wpPlanTN_nil (fun _ (w9 : World) => True) ?_
                    refine wpPlanN_cons (by simp [keepOK]) ?_
                    simp only [longOKN, keepOK, opsAt_cons, opsAt_nil, consO_some, List.getElem?_toArray, List.getElem?_cons_succ, List.getElem?_cons_zero, and_true]
                    go_wp2_with fail
                    refine ⟨by rw [hF.out]; kernel_rfl, ⟨?_, ?_, ?_, ?_⟩, ?_⟩
                    · intro _ w9 h9
                      clear h9 hF
                      go_simp
                    · intro _ w9 h9
                      clear h9 hF
                      go_simp
                    · exact notW (by rw [hF.out]; kernel_rfl)
                    · exact notW (by rw [hF.out]; kernel_rfl)
                    go_wp2_with fail
                    refine ⟨by simp [keepOK], ?_⟩
                    refine wpPlanN_cons (by simp [keepOK]) ?_
                    simp only [longOKN, keepOK, opsAt_cons, opsAt_nil, consO_some, List.getElem?_toArray, List.getElem?_cons_succ, List.getElem?_cons_zero, and_true, true_and]
                    go_wp2_with fail
                    refine ⟨by rw [hF.out]; kernel_rfl, ?_⟩
                    go_wp2_with fail
                    refine wpPlanN_cons (by simp [keepOK]) ?_
                    simp only [longOKN, keepOK, opsAt_cons, opsAt_nil, consO_some, List.getElem?_toArray, List.getElem?_cons_succ, List.getElem?_cons_zero, and_true, true_and]
                    go_wp2_with fail
                    refine ⟨by rw [hF.out]; kernel_rfl, notW (by rw [hF.out]; kernel_rfl), ?_⟩
                    go_wp2_with fail
                    refine wpPlanN_cons (by simp [keepOK]) ?_
                    simp only [longOKN, keepOK, opsAt_cons, opsAt_nil, consO_some, List.getElem?_toArray, List.getElem?_cons_succ, List.getElem?_cons_zero, and_true, true_and]
                    go_wp2_with fail
                    refine ⟨by rw [hF.out]; kernel_rfl, ⟨notW (by rw [hF.out]; kernel_rfl), notW (by rw [hF.out]; kernel_rfl), notW (by rw [hF.out]; kernel_rfl)⟩, ?_⟩
                    go_wp2_with fail
                    refine wpPlanN_nil ?_
                    simp only [longOKN, keepOK, opsAt_cons, opsAt_nil, consO_some, List.getElem?_toArray, List.getElem?_cons_succ, List.getElem?_cons_zero, and_true, true_and]
                    go_wp2_with fail
                    refine ⟨by rw [hF.out]; kernel_rfl, ?_⟩
                    go_wp2_with fail
                    go_roundw
                    case rel => exact ⟨j + 1, by go_num, by omega, (HF.out _ (by first | exact (Chg.refl _ wp).drew.drew | exact (Chg.refl _ wp).drew | exact (Chg.refl _ wp).drew.drew.drew)).1, (HF.out _ (by first | exact (Chg.refl _ wp).drew.drew | exact (Chg.refl _ wp).drew | exact (Chg.refl _ wp).drew.drew.drew)).2⟩
                    case measure => simp [RowKit.intOf]; omega
                | some F =>
                  as_aux_lemma =>
                    have h1r := x_read hS.dx nm hf
                    have h2r := fun w' (hc : Chg (fun _ => False) wp w') => rd_read (hS.keep hc).rl.rd hS.rep.good (by omega) nm
                    rw [hf] at h2r
                    rw [show (some F).isSome = true from rfl, show bsF (some F) = F.bs from rfl] at h2r
                    have hG := hS.rep.good
                    have hsyn := fun w' (hc : Chg (fun _ => False) wp w') => x_synced (hS.keep hc).dx nm hnl
                    rw [hf] at hsyn
                    obtain ⟨lst, hA, hIs⟩ := hS.rl.rd
                    obtain ⟨pa, m, pb, hAr⟩ := hIs.around nm
                    have hm : m = [RF.of nm F] := by
                      rcases hAr.mid with ⟨h0, _⟩ | ⟨F', h0, h1⟩
                      · rw [hf] at h0; cases h0
                      · rw [hf] at h0; cases h0; exact h1
                    subst hm
                    have hle : lst = pa ++ (RF.of nm F :: pb) := hAr.eq
                    have hll : lst.length ≤ 1000000 := by rw [hIs.len hG]; omega
                    have hat := fun w' (hc : Chg (fun _ => False) wp w') => lat_any (hA.keep hc) nm pa pb (RF.of nm F) hle hAr.lo rfl hll
                    have hfm : lst[pa.length]? = some (RF.of nm F) := by rw [hle, List.getElem?_append_right (Nat.le_refl _), Nat.sub_self]; rfl
                    obtain ⟨gf, cpf, hv, hgf, _, k1, k2⟩ := hA.file hfm
                    have c1 := hA.c1
                    rw [hv] at c1
                    have hpl := (List.getElem?_eq_some_iff.1 hfm).1
                    have hXs := hA.blk.lt
                    have hsyl : F.sy ≤ F.bs.length := hG.syn nm F hf
                    have H := Lib.hid (And.intro h2r (And.intro hsyn hat))
                    clear h2r hsyn hat hf hv hA hIs hAr hle hfm hG
                    go_wp2_with fail
                    refine h1r.mono ?_
                    rintro e w5 ⟨ab5, off5, cb5, rb5, rfl, hRow, _, _, hc5⟩
                    go_wp2_with fail
                    refine (H.out.1 _ hc5).mono ?_
                    rintro e w6 ⟨rfl, hw6⟩
                    rw [hw6]
                    have hc6 := hc5.drew
                    have hcv := conv_str (hRow.keep (Chg.refl (fun _ => False) w5).drew.drew.size (fun _ => rfl))
                    have c1 : w5.drew.cell? ⟨X, 1, none⟩ = some (.slice (some ⟨gf, 0, none⟩) lst.length cpf) := (hc6.cell hXs id).trans c1
                    have k1 : w5.drew.cell? ⟨gf, pa.length * 3 + 1, none⟩ = some (encStr F.bs) := (hc6.cell hgf id).trans k1
                    have k2 : w5.drew.cell? ⟨gf, pa.length * 3 + 2, none⟩ = some (.int .i64 F.sy) := (hc6.cell hgf id).trans k2
                    clear h1r hRow
                    go_wp2_with fail
                    have c1 : w5.drew.drew.cell? ⟨X, 1, none⟩ = some (.slice (some ⟨gf, 0, none⟩) lst.length cpf) := c1
                    have k1 : w5.drew.drew.cell? ⟨gf, pa.length * 3 + 1, none⟩ = some (encStr F.bs) := k1
                    have k2 : w5.drew.drew.cell? ⟨gf, pa.length * 3 + 2, none⟩ = some (.int .i64 F.sy) := k2
                    have hc7 := hc6.drew
                    have hsl := slice_strh F.bs F.sy hsyl
                    have hmin : min F.sy F.bs.length = F.sy := Nat.min_eq_left hsyl
                    have hlt2 : (F.bs.take F.sy).length = F.sy := by rw [List.length_take]; exact hmin
                    refine wp_region_planN (by kernel_rfl) [0, 0, 3, 7, 15, 31, 15, 127, 255, 511, 1023, 2047, 4095, 8191, 8191, 32767, 8191, 73727, 204799, 466943, 8191, 8191, 3211263, 8388607, 16777215, 33554431, 8191, 67117055, 201334783, 469770239, 8191, 8191, 3228631039, 8530231295, 17120165887, 34300035071, 68719476735, 137438953471, 274877906943, 549755813887, 1099511627775] [] [{ fl := [0, 1, 2, 3, 4, 5, 6, 7, 8, 9, 10, 11, 12, 13, 14, 16, 17, 18, 19, 20, 21, 26, 27, 28, 29, 30, 31], long := [5, 7, 19, 29], ef := 15, keep := [19, 29] }, { fl := [], ef := 22, keep := [19, 29] }, { fl := [23, 24, 25], long := [25], ef := 32, keep := [19, 29, 25] }, { fl := [33, 34, 35, 36, 37, 38, 39], long := [35, 36, 37], ef := 40 }] [] (by kernel_rfl) (by simp) ?_
                    intro opsF hF
                    generalize w5.drew.drew = w7 at *
                    refine wpPlanTN_nil (fun _ (w9 : World) => w9 = w7) ?_
                    refine wpPlanN_cons (by simp [keepOK]) ?_
                    simp only [longOKN, keepOK, opsAt_cons, opsAt_nil, consO_some, List.getElem?_toArray, List.getElem?_cons_succ, List.getElem?_cons_zero, and_true]
                    go_wp2_with fail
                    refine ⟨by rw [hF.out]; kernel_rfl, ⟨?_, ?_, ?_, ?_⟩, ?_⟩
                    iterate 4
                      · intro _ w9 h9
                        rw [h9]
                        clear h9 hF
                        go_simp
                    go_wp2_with fail
                    refine (H.out.2.1 _ hc7).mono ?_
                    rw [show syF (some F) = F.sy from rfl]
                    rintro e w8 ⟨rfl, hw8⟩
                    rw [hw8]
                    go_wp2_with fail
                    refine ⟨by simp, ?_⟩
                    refine wpPlanN_cons (by simp [keepOK]) ?_
                    simp only [longOKN, keepOK, opsAt_cons, opsAt_nil, consO_some, List.getElem?_toArray, List.getElem?_cons_succ, List.getElem?_cons_zero, and_true, true_and]
                    go_wp2_with fail
                    refine ⟨by rw [hF.out]; kernel_rfl, ?_⟩
                    go_wp2_with fail
                    refine (H.out.2.2 _ hc7).mono ?_
                    rintro e w9 ⟨rfl, hw9⟩
                    rw [hw9]
                    go_wp2_with fail
                    refine ⟨⟨trivial, trivial⟩, ?_⟩
                    refine wpPlanN_cons (by simp [keepOK]) ?_
                    simp only [longOKN, keepOK, opsAt_cons, opsAt_nil, consO_some, List.getElem?_toArray, List.getElem?_cons_succ, List.getElem?_cons_zero, and_true, true_and]
                    go_wp2_with fail
                    refine ⟨by rw [hF.out]; kernel_rfl, (fun _ w10 h10 => by
                      rw [h10]
                      clear h10 hF
                      go_simp), ?_⟩
                    go_wp2_with fail
                    refine (H.out.2.2 _ hc7).mono ?_
                    rintro e w11 ⟨rfl, hw11⟩
                    rw [hw11]
                    go_wp2_with fail
                    refine ⟨⟨trivial, trivial, trivial⟩, ?_⟩
                    refine wpPlanN_cons (by simp [keepOK]) ?_
                    simp only [longOKN, keepOK, opsAt_cons, opsAt_nil, consO_some, List.getElem?_toArray, List.getElem?_cons_succ, List.getElem?_cons_zero, and_true, true_and]
                    go_wp2_with fail
                    refine ⟨by rw [hF.out]; kernel_rfl, ⟨?_, ?_, ?_⟩, ?_⟩
                    iterate 3
                      · intro _ w10 h10
                        rw [h10]
                        clear h10 hF
                        go_simp
                    go_wp2_with fail
                    refine wpPlanN_nil ?_
                    simp only [longOKN, keepOK, opsAt_cons, opsAt_nil, consO_some, List.getElem?_toArray, List.getElem?_cons_succ, List.getElem?_cons_zero, and_true, true_and]
                    go_wp2_with fail
                    refine ⟨by rw [hF.out]; kernel_rfl, ?_⟩
                    go_wp2_with fail
                    go_roundw
                    case rel => exact ⟨j + 1, by go_num, by omega, (HF.out _ hc7).1, (HF.out _ hc7).2⟩
                    case measure => simp [RowKit.intOf]; omega
              · have hje : j = 3 := by omega
                subst hje
                go_wp2_with fail
                go_roundw
                case rel => exact ⟨k + 1, by go_num, by omega, by omega, g2, y2, age2, sy2, st2, recs2, D2, v2, P2', rfl, rfl, hS⟩
                case measure => simp [RowKit.intOf]; omega
      · go_wp2_with fail
        all_goals
          go_meet
          case rel => exact hS.ch
  case rest =>
    clear hK0
    go_wp2_with fail
    refine (htold.out _ hcut).mono ?_
    rintro e w3 ⟨rfl, hc3⟩
    go_wp2_with fail
    go_ret
    exact ⟨rfl, hc3⟩
end Go.Proofs.Ytpbjompopgdbjaa
