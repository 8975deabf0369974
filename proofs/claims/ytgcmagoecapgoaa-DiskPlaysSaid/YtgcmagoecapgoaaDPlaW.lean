/-
  DiskPlays: its walk.
-/
import Derived.Test.YtgcmagoecapgoaaDPlaP
import Derived.Test.YtgcmagoecapgoaaRDskF
import Derived.Test.YtgcmagoecapgoaaRDskG
import Derived.Test.YtgcmagoecapgoaaRDskH
import Derived.Test.YtgcmagoecapgoaaDskY
import Derived.Test.YtgcmagoecapgoaaDskT
import Derived.Test.YtgcmagoecapgoaaRowD
import Derived.Deep.DeepCutAuto
import Derived.Deep.CutBlock
namespace Go.Proofs.Ytgcmagoecapgoaa
open Go.RowKit Go.Maps Go.Sort

set_option maxRecDepth 100000 in
set_option maxHeartbeats 8000000 in
theorem dpla_walk (w : World) (n0 : Int) (a1 : Option Addr) (c1 : Nat) (l1 : List DOp) (h1 : DOpsIn w a1 l1) :
    Calls Try.prog 6 #[.int .i64 n0, .slice a1 l1.length c1] w fun e w' => e = .returned (.bool true) ∧ Chg (fun _ => False) w w' := by
  have fin : ∀ wq, Chg (fun i => ¬ i < w.heap.size) w wq → Chg (fun _ => False) w wq := fun wq hc => hc.mono (fun i hi h => h hi)
  have told : ∀ wq, Chg (fun i => ¬ i < w.heap.size) w wq → Calls Try.prog 10 #[] wq fun e w' => e = .returned (.bool true) ∧ Chg (fun _ => False) w w' := fun wq hq => (told5 wq).mono (by
    rintro e w' ⟨rfl, hc⟩
    exact ⟨rfl, fin _ (hq.trans hc (fun _ _ h => h.elim))⟩)
  have htold := Lib.hid told
  clear told
  go_enter Try.func6, Try.ntmps6
  go_wp2_with fail
  by_cases hbad : ¬ (0 ≤ n0 ∧ n0 ≤ 1000000)
  · refine (dsk_new_bad w n0 hbad).mono ?_
    rintro e w0 ⟨rfl, rfl⟩
    by_cases hn : n0 < 0
    · go_wp2_with fail
      refine (htold.out _ (Chg.refl _ _)).mono ?_
      rintro e w1 ⟨rfl, hc1⟩
      go_wp2_with fail
      go_ret
      exact ⟨rfl, hc1⟩
    · have hn2 : 1000000 < n0 := by omega
      go_wp2_with fail
      refine (htold.out _ (Chg.refl _ _)).mono ?_
      rintro e w1 ⟨rfl, hc1⟩
      go_wp2_with fail
      go_ret
      exact ⟨rfl, hc1⟩
  have hr : 0 ≤ n0 ∧ n0 ≤ 1000000 := Classical.not_not.1 hbad
  clear hbad
  obtain ⟨hr1, hr2⟩ := hr
  refine (x_new w n0 ⟨hr1, hr2⟩).mono ?_
  rintro e w0 ⟨d0, rfl, hD0, hc0⟩
  have hRX := rd_new w0 w.heap.size n0
  have hcA : Chg (fun _ => False) w0 (w0.alloc (.cells #[.int .i64 n0, .slice none 0 0] 44)) := (Chg.refl _ w0).alloc _
  have hz0 := hc0.size
  have hK0 : PlayI w w0.heap.size 0 (.pointer (some ⟨d0, 0, none⟩)) (w0.alloc (.cells #[.int .i64 n0, .slice none 0 0] 44)) :=
    ⟨d0, Dsk.new n0, .slice none 0 0, fun i => i < w.heap.size ∨ i = w0.heap.size, rfl, hD0.more hcA (fun i hi => hi.imp id (fun h => by rw [size_al]; omega)), hRX, .inr rfl, fun q hq => (by simp [Value.ownBlock] at hq), fun q hq => .inl hq, Nat.le_refl _, by rw [size_al]; omega, (hc0.trans hcA (fun _ _ h => h)).mono (fun _ _ h => h.elim)⟩
  obtain ⟨X, hX⟩ : ∃ X, w0.heap.size = X := ⟨_, rfl⟩
  have hXw : ¬ X < w.heap.size := by omega
  clear hRX hcA hc0 hD0 hz0
  go_upto_block 0 with (fail)
  rw [hX] at hK0
  generalize w0.alloc (.cells #[.int .i64 n0, .slice none 0 0] 44) = w1 at *
  clear hX
  go_cut [5, 8, 9, 10, 11, 12, 13, 14, 15, 16] (fun _ _ _ _ _ _ _ _ _ _ wx => Chg (fun q => ¬ q < w.heap.size) w wx)
  case first =>
    go_wp2_with fail
    go_loopw [5, 8, 9, 10, 11, 12, 13, 14, 15, 16] (fun v5 v8 _ _ _ _ _ _ _ _ wr => ∃ k : Nat, v8 = .int .i64 k ∧ k ≤ l1.length ∧ k ≤ 60 ∧ PlayI w X k v5 wr) (fun _ v8 _ _ _ _ _ _ _ _ _ => 100 - (RowKit.intOf v8).toNat)
    case atStart => exact ⟨0, rfl, Nat.zero_le _, Nat.zero_le _, hK0⟩
    case round =>
      clear hK0
      obtain ⟨k, rfl, hk1, hk2, d, D, v, Pk, rfl, hD, hR, hPX, hPv, hPw, hks, hBr, hcr⟩ := hrel
      by_cases hlt : k < l1.length ∧ k < 60
      · obtain ⟨hlt1, hlt2⟩ := hlt
        obtain ⟨o, ho⟩ : ∃ o, l1[k]? = some o := ⟨_, List.getElem?_eq_getElem hlt1⟩
        obtain ⟨a, ab, cb, rfl, ⟨q0, q1, q2, q3, q4⟩, hbm, hnm, htm, hnb, hbB⟩ := h1.at_ hcr (fun i hi h => h hi) ho
        obtain ⟨kd, n, nm, to_, b⟩ := o
        simp only at q0 q1 q2 q3 q4 hbm hnm htm hnb hbB
        have q1 : wr.cell? ⟨(a.add (k * 5)).block, (a.add (k * 5)).off + 1, none⟩ = some (.int .i64 n) := q1
        have q2 : wr.cell? ⟨(a.add (k * 5)).block, (a.add (k * 5)).off + 2, none⟩ = some (encStr nm) := q2
        have q3 : wr.cell? ⟨(a.add (k * 5)).block, (a.add (k * 5)).off + 3, none⟩ = some (encStr to_) := q3
        have q4 : wr.cell? ⟨(a.add (k * 5)).block, (a.add (k * 5)).off + 4, none⟩ = some (.slice ab b.length cb) := q4
        have hcA : Chg (fun _ => False) wr (wr.alloc (.cells #[.int .i64 kd, .int .i64 n, encStr nm, encStr to_, .slice ab b.length cb] 46)) := (Chg.refl _ wr).alloc _
        have hE := Blk.new wr 46 #[.int .i64 kd, .int .i64 n, encStr nm, encStr to_, .slice ab b.length cb]
        have hzA := size_al wr (.cells #[.int .i64 kd, .int .i64 n, encStr nm, encStr to_, .slice ab b.length cb] 46)
        have hOb := Lib.hid hbB
        have hRA := hR.keep hcA
        have hvb : ∀ q, v.ownBlock = some q → w.heap.size ≤ q ∧ q < wr.heap.size ∧ q ≠ X := fun q hq => hR.block hq
        have hXl := hR.xlt
        have hDA : DiskX (fun q => Pk q ∨ q = wr.heap.size) _ d D := hD.more hcA (fun i hi => hi.imp id (fun h => by rw [size_al]; omega))
        have hcrA := hcr.trans hcA (fun _ _ h => h.elim)
        clear ho hbB
        by_cases hb1 : 30 < nm.length
        · go_wp2_with fail
          refine (htold.out _ hcrA).mono ?_
          rintro e w3 ⟨rfl, hc3⟩
          go_wp2_with fail
          go_ret
          exact ⟨rfl, hc3⟩
        by_cases hb2 : 30 < to_.length
        · go_wp2_with fail
          refine (htold.out _ hcrA).mono ?_
          rintro e w3 ⟨rfl, hc3⟩
          go_wp2_with fail
          go_ret
          exact ⟨rfl, hc3⟩
        by_cases hb3 : 60 < b.length
        · go_wp2_with fail
          refine (htold.out _ hcrA).mono ?_
          rintro e w3 ⟨rfl, hc3⟩
          go_wp2_with fail
          go_ret
          exact ⟨rfl, hc3⟩
        go_upto_block 2 with (fail)
        generalize wr.alloc (.cells #[.int .i64 kd, .int .i64 n, encStr nm, encStr to_, .slice ab b.length cb] 46) = w2 at *
        obtain ⟨P2, hP2⟩ : ∃ P2 : Nat → Prop, (fun q => Pk q ∨ q = wr.heap.size) = P2 := ⟨_, rfl⟩
        rw [hP2] at hDA
        have hPE : P2 wr.heap.size := by rw [← hP2]; exact .inr rfl
        have hPs : ∀ q, Pk q → P2 q := fun q hq => by rw [← hP2]; exact .inl hq
        have hPX2 := hPs X hPX
        have hPv2 : ∀ q, v.ownBlock = some q → P2 q := fun q hq => hPs q (hPv q hq)
        have hPw2 : ∀ q, q < w.heap.size → P2 q := fun q hq => hPs q (hPw q hq)
        have hvw : ∀ q, v.ownBlock = some q → ¬ q < w.heap.size := fun q hq => by have := (hvb q hq).1; omega
        have hvE : ∀ q, v.ownBlock = some q → q ≠ wr.heap.size := fun q hq => by have := (hvb q hq).2.1; omega
        have hXE : X ≠ wr.heap.size := by omega
        generalize hEq : wr.heap.size = E at *
        have mid : ∀ w3, Chg (fun i => ¬ P2 i) w2 w3 → RD w3 w.heap.size X v D ∧ Blk w3 E 46 #[.int .i64 kd, .int .i64 n, encStr nm, encStr to_, .slice ab b.length cb] ∧ w.heap.size ≤ w3.heap.size ∧ (convert 22 9 (.slice ab b.length cb)).run Try.prog w3 = .ok (encStr b) w3 ∧ Src Try.prog 1 22 (.slice ab b.length cb) b.length (bcells b) w3 := fun w3 hc3 => by
          have hcw3 := hcrA.trans hc3 (fun q hq hn hw => hn (hPw2 q hw))
          have hsm : ∀ i, i < w.heap.size → w3.heap[i]? = w.heap[i]? := fun i hi => hcw3.block i hi (fun h => h hi)
          have e0 := hOb.out.conv b.length (Nat.le_refl _) cb hsm
          rw [List.take_length] at e0
          exact ⟨hRA.chg hc3 (fun h => h hPX2) (fun q hq h => h (hPv2 q hq)), hE.chg hc3 (fun h => h hPE), hcw3.size, e0, hOb.out.src cb hsm⟩
        have Mid := Lib.hid mid
        have fstep : ∀ w3 w4 D', DiskX P2 w3 d D' → Chg (fun i => ¬ P2 i) w2 w3 → RDPost w3 w4 w.heap.size X v D' → D'.ks.length ≤ k + 1 → PlayI w X (k + 1) (.pointer (some ⟨d, 0, none⟩)) w4 ∧ w4.cell? ⟨E, 2, none⟩ = some (encStr nm) := fun w3 w4 D' hD3 hc3 hP hks' => by
          refine ⟨play_step hPX2 hPv2 hPw2 hXw hvw hcrA hc3 hD3 hP hks', ?_⟩
          obtain ⟨v', hR', hc4, _⟩ := hP
          have hE4 := (mid w3 hc3).2.1.chg hc4 (fun h => by
            rcases h with h | h
            · exact hXE h.symm
            · exact hvE E h rfl)
          exact hE4.cell 2
        have Fs := Lib.hid fstep
        have hm0 := mid w2 (Chg.refl _ w2)
        have e0 : w2.cell? ⟨E, 0, none⟩ = some (.int .i64 kd) := hm0.2.1.cell 0
        have e1 : w2.cell? ⟨E, 1, none⟩ = some (.int .i64 n) := hm0.2.1.cell 1
        have e2 : w2.cell? ⟨E, 2, none⟩ = some (encStr nm) := hm0.2.1.cell 2
        have e3 : w2.cell? ⟨E, 3, none⟩ = some (encStr to_) := hm0.2.1.cell 3
        have e4 : w2.cell? ⟨E, 4, none⟩ = some (.slice ab b.length cb) := hm0.2.1.cell 4
        have hmx : D.ks.length ≤ 999999 := by omega
        clear mid fstep hm0 hcA hE hD hR hRA hcr q0 q1 q2 q3 q4 hzA hEq hP2 hPs hvb hXl
        go_cut [5, 10, 11, 12] (fun v5 v10 v11 _ wx => ∃ r : Int, v10 = .int .i64 r ∧ v11 = .int .i64 r ∧ PlayI w X (k + 1) v5 wx ∧ wx.cell? ⟨E, 2, none⟩ = some (encStr nm))
        case first =>
          by_cases h0k : kd = 0
          · subst h0k
            have ed2 : w2.drew.cell? ⟨E, 2, none⟩ = some (encStr nm) := e2
            have ed1 : w2.drew.cell? ⟨E, 1, none⟩ = some (.int .i64 n) := e1
            have ed3 : w2.drew.cell? ⟨E, 3, none⟩ = some (encStr to_) := e3
            have ed4 : w2.drew.cell? ⟨E, 4, none⟩ = some (.slice ab b.length cb) := e4
            have ecv := (Mid.out w2.drew ((Chg.refl _ w2).drew)).2.2.2.1
            go_wp2_with fail
            refine wp_region_plan (by kernel_rfl) [{ fl := [0, 1, 2, 3, 4, 6, 7, 8, 9, 10, 11], long := [8, 10, 11], ef := 5, keep := [8, 10, 11] }, { fl := [], ef := 12 }] [13, 14] (by kernel_rfl) (fun _ w9 => w9.cell? ⟨E, 2, none⟩ = some (encStr nm) ∧ w9.cell? ⟨E, 4, none⟩ = some (.slice ab b.length cb) ∧ (convert 22 9 (.slice ab b.length cb)).run Try.prog w9 = .ok (encStr b) w9) ?_
            simp only [wpPlan, longOK, keepOK, opsAt_cons, opsAt_nil, consO_some, List.getElem?_toArray, List.getElem?_cons_succ, List.getElem?_cons_zero, and_true, true_and]
            refine ⟨by first | exact ⟨ed2, ed4, ecv⟩ | exact ⟨⟨ed2, ed4, ecv⟩, ⟨ed2, ed4, ecv⟩, ⟨ed2, ed4, ecv⟩⟩, ?_⟩
            go_wp2_with fail
            refine ⟨by kernel_rfl, ⟨?_, ?_, ?_⟩, ?_⟩
            iterate 3
              · intro _ w9 hw9
                first | (obtain ⟨hw1, hw2, hw3⟩ := hw9; go_simp) | (obtain ⟨hw1, hw2⟩ := hw9; go_simp) | go_simp
            go_wp2_with fail
            refine (x_append (hDA.keep ((Chg.refl _ w2).drew)) (by omega) nm ab b cb (fun w9 h9 => (Mid.out w9 (((Chg.refl _ w2).drew).trans h9 (fun _ _ h => h))).2.2.2.2)).mono ?_
            rintro e w3 ⟨rfl, hD3, hc3⟩
            have hc3 : Chg (fun i => ¬ P2 i) w2 w3 := ((Chg.refl _ w2).drew).trans hc3 (fun _ _ h => h)
            obtain ⟨hR3, hB3, hz3, hcv3, _⟩ := Mid.out w3 hc3
            have eg1 : w3.cell? ⟨E, 1, none⟩ = some (.int .i64 n) := hB3.cell 1
            have eg2 : w3.cell? ⟨E, 2, none⟩ = some (encStr nm) := hB3.cell 2
            have eg3 : w3.cell? ⟨E, 3, none⟩ = some (encStr to_) := hB3.cell 3
            have eg4 : w3.cell? ⟨E, 4, none⟩ = some (.slice ab b.length cb) := hB3.cell 4
            go_wp2_with fail
            refine ⟨by first | exact ⟨eg2, eg4, hcv3⟩ | exact ⟨⟨eg2, eg4, hcv3⟩, ⟨eg2, eg4, hcv3⟩, ⟨eg2, eg4, hcv3⟩⟩, ?_⟩
            go_wp2_with fail
            refine ⟨by kernel_rfl, ?_⟩
            go_wp2_with fail
            refine (rd_append hR3 hDA.good hmx hz3 nm hnm b (by omega)).mono ?_
            rintro e w4 ⟨rfl, hP4⟩
            have hF4 := Fs.out w3 w4 _ hD3 hc3 hP4 (Nat.le_trans (ks_append D nm b) (Nat.succ_le_succ hks))
            clear hD3 hP4 hR3
            go_wp2_with fail
            refine ⟨by kernel_rfl, ?_⟩
            go_wp2_with fail
            go_meet
            case rel => exact ⟨_, rfl, rfl, hF4.1, hF4.2⟩
          by_cases h1k : kd = 1
          · subst h1k
            have ed2 : w2.drew.cell? ⟨E, 2, none⟩ = some (encStr nm) := e2
            have ed1 : w2.drew.cell? ⟨E, 1, none⟩ = some (.int .i64 n) := e1
            have ed3 : w2.drew.cell? ⟨E, 3, none⟩ = some (encStr to_) := e3
            have ed4 : w2.drew.cell? ⟨E, 4, none⟩ = some (.slice ab b.length cb) := e4
            go_wp2_with fail
            refine wp_region_plan (by kernel_rfl) [{ fl := [0, 1, 2, 4, 5, 6], long := [6], ef := 3, keep := [6] }, { fl := [], ef := 7 }] [8, 9] (by kernel_rfl) (fun _ w9 => w9.cell? ⟨E, 2, none⟩ = some (encStr nm)) ?_
            simp only [wpPlan, longOK, keepOK, opsAt_cons, opsAt_nil, consO_some, List.getElem?_toArray, List.getElem?_cons_succ, List.getElem?_cons_zero, and_true, true_and]
            refine ⟨by first | exact ed2 | exact ⟨ed2⟩, ?_⟩
            go_wp2_with fail
            refine ⟨by kernel_rfl, ?_, ?_⟩
            iterate 1
              · intro _ w9 hw9
                first | (obtain ⟨hw1, hw2, hw3⟩ := hw9; go_simp) | (obtain ⟨hw1, hw2⟩ := hw9; go_simp) | go_simp
            go_wp2_with fail
            refine (x_sync (hDA.keep ((Chg.refl _ w2).drew)) nm hnm).mono ?_
            rintro e w3 ⟨rfl, hD3, hc3⟩
            have hc3 : Chg (fun i => ¬ P2 i) w2 w3 := ((Chg.refl _ w2).drew).trans hc3 (fun _ _ h => h)
            obtain ⟨hR3, hB3, hz3, hcv3, _⟩ := Mid.out w3 hc3
            have eg1 : w3.cell? ⟨E, 1, none⟩ = some (.int .i64 n) := hB3.cell 1
            have eg2 : w3.cell? ⟨E, 2, none⟩ = some (encStr nm) := hB3.cell 2
            have eg3 : w3.cell? ⟨E, 3, none⟩ = some (encStr to_) := hB3.cell 3
            have eg4 : w3.cell? ⟨E, 4, none⟩ = some (.slice ab b.length cb) := hB3.cell 4
            go_wp2_with fail
            refine ⟨by first | exact eg2 | exact ⟨eg2⟩, ?_⟩
            go_wp2_with fail
            refine ⟨by kernel_rfl, ?_⟩
            go_wp2_with fail
            refine (rd_sync hR3 hDA.good (by omega) nm).mono ?_
            rintro e w4 ⟨rfl, hP4⟩
            have hF4 := Fs.out w3 w4 _ hD3 hc3 hP4 (Nat.le_trans (ks_sync D nm) (Nat.succ_le_succ hks))
            clear hD3 hP4 hR3
            go_wp2_with fail
            refine ⟨by kernel_rfl, ?_⟩
            go_wp2_with fail
            go_meet
            case rel => exact ⟨_, rfl, rfl, hF4.1, hF4.2⟩
          by_cases h2k : kd = 2
          · subst h2k
            have ed2 : w2.drew.cell? ⟨E, 2, none⟩ = some (encStr nm) := e2
            have ed1 : w2.drew.cell? ⟨E, 1, none⟩ = some (.int .i64 n) := e1
            have ed3 : w2.drew.cell? ⟨E, 3, none⟩ = some (encStr to_) := e3
            have ed4 : w2.drew.cell? ⟨E, 4, none⟩ = some (.slice ab b.length cb) := e4
            go_wp2_with fail
            refine wp_region_plan (by kernel_rfl) [{ fl := [0, 1, 2, 3, 4, 6, 7, 8, 9, 10], long := [8, 10], ef := 5, keep := [8, 10] }, { fl := [], ef := 11 }] [12, 13] (by kernel_rfl) (fun _ w9 => w9.cell? ⟨E, 2, none⟩ = some (encStr nm) ∧ w9.cell? ⟨E, 1, none⟩ = some (.int .i64 n)) ?_
            simp only [wpPlan, longOK, keepOK, opsAt_cons, opsAt_nil, consO_some, List.getElem?_toArray, List.getElem?_cons_succ, List.getElem?_cons_zero, and_true, true_and]
            refine ⟨by first | exact ⟨ed2, ed1⟩ | exact ⟨⟨ed2, ed1⟩, ⟨ed2, ed1⟩⟩, ?_⟩
            go_wp2_with fail
            refine ⟨by kernel_rfl, ⟨?_, ?_⟩, ?_⟩
            iterate 2
              · intro _ w9 hw9
                first | (obtain ⟨hw1, hw2, hw3⟩ := hw9; go_simp) | (obtain ⟨hw1, hw2⟩ := hw9; go_simp) | go_simp
            go_wp2_with fail
            refine (x_cut (hDA.keep ((Chg.refl _ w2).drew)) nm hnm n).mono ?_
            rintro e w3 ⟨rfl, hD3, hc3⟩
            have hc3 : Chg (fun i => ¬ P2 i) w2 w3 := ((Chg.refl _ w2).drew).trans hc3 (fun _ _ h => h)
            obtain ⟨hR3, hB3, hz3, hcv3, _⟩ := Mid.out w3 hc3
            have eg1 : w3.cell? ⟨E, 1, none⟩ = some (.int .i64 n) := hB3.cell 1
            have eg2 : w3.cell? ⟨E, 2, none⟩ = some (encStr nm) := hB3.cell 2
            have eg3 : w3.cell? ⟨E, 3, none⟩ = some (encStr to_) := hB3.cell 3
            have eg4 : w3.cell? ⟨E, 4, none⟩ = some (.slice ab b.length cb) := hB3.cell 4
            go_wp2_with fail
            refine ⟨by first | exact ⟨eg2, eg1⟩ | exact ⟨⟨eg2, eg1⟩, ⟨eg2, eg1⟩⟩, ?_⟩
            go_wp2_with fail
            refine ⟨by kernel_rfl, ?_⟩
            go_wp2_with fail
            refine (rd_cut hR3 hDA.good (by omega) nm n).mono ?_
            rintro e w4 ⟨rfl, hP4⟩
            have hF4 := Fs.out w3 w4 _ hD3 hc3 hP4 (Nat.le_trans (ks_cut D nm n) (Nat.succ_le_succ hks))
            clear hD3 hP4 hR3
            go_wp2_with fail
            refine ⟨by kernel_rfl, ?_⟩
            go_wp2_with fail
            go_meet
            case rel => exact ⟨_, rfl, rfl, hF4.1, hF4.2⟩
          by_cases h3k : kd = 3
          · subst h3k
            have ed2 : w2.drew.cell? ⟨E, 2, none⟩ = some (encStr nm) := e2
            have ed1 : w2.drew.cell? ⟨E, 1, none⟩ = some (.int .i64 n) := e1
            have ed3 : w2.drew.cell? ⟨E, 3, none⟩ = some (encStr to_) := e3
            have ed4 : w2.drew.cell? ⟨E, 4, none⟩ = some (.slice ab b.length cb) := e4
            go_wp2_with fail
            refine wp_region_plan (by kernel_rfl) [{ fl := [0, 1, 2, 3, 4, 6, 7, 8, 9, 10], long := [8, 10], ef := 5, keep := [8, 10] }, { fl := [], ef := 11 }] [12, 13] (by kernel_rfl) (fun _ w9 => w9.cell? ⟨E, 2, none⟩ = some (encStr nm) ∧ w9.cell? ⟨E, 3, none⟩ = some (encStr to_)) ?_
            simp only [wpPlan, longOK, keepOK, opsAt_cons, opsAt_nil, consO_some, List.getElem?_toArray, List.getElem?_cons_succ, List.getElem?_cons_zero, and_true, true_and]
            refine ⟨by first | exact ⟨ed2, ed3⟩ | exact ⟨⟨ed2, ed3⟩, ⟨ed2, ed3⟩⟩, ?_⟩
            go_wp2_with fail
            refine ⟨by kernel_rfl, ⟨?_, ?_⟩, ?_⟩
            iterate 2
              · intro _ w9 hw9
                first | (obtain ⟨hw1, hw2, hw3⟩ := hw9; go_simp) | (obtain ⟨hw1, hw2⟩ := hw9; go_simp) | go_simp
            go_wp2_with fail
            refine (x_rename (hDA.keep ((Chg.refl _ w2).drew)) nm to_ hnm htm).mono ?_
            rintro e w3 ⟨rfl, hD3, hc3⟩
            have hc3 : Chg (fun i => ¬ P2 i) w2 w3 := ((Chg.refl _ w2).drew).trans hc3 (fun _ _ h => h)
            obtain ⟨hR3, hB3, hz3, hcv3, _⟩ := Mid.out w3 hc3
            have eg1 : w3.cell? ⟨E, 1, none⟩ = some (.int .i64 n) := hB3.cell 1
            have eg2 : w3.cell? ⟨E, 2, none⟩ = some (encStr nm) := hB3.cell 2
            have eg3 : w3.cell? ⟨E, 3, none⟩ = some (encStr to_) := hB3.cell 3
            have eg4 : w3.cell? ⟨E, 4, none⟩ = some (.slice ab b.length cb) := hB3.cell 4
            go_wp2_with fail
            refine ⟨by first | exact ⟨eg2, eg3⟩ | exact ⟨⟨eg2, eg3⟩, ⟨eg2, eg3⟩⟩, ?_⟩
            go_wp2_with fail
            refine ⟨by kernel_rfl, ?_⟩
            go_wp2_with fail
            refine (rd_rename hR3 hDA.good hmx hz3 nm to_ htm).mono ?_
            rintro e w4 ⟨rfl, hP4⟩
            have hF4 := Fs.out w3 w4 _ hD3 hc3 hP4 (Nat.le_trans (ks_rename D nm to_) (Nat.succ_le_succ hks))
            clear hD3 hP4 hR3
            go_wp2_with fail
            refine ⟨by kernel_rfl, ?_⟩
            go_wp2_with fail
            go_meet
            case rel => exact ⟨_, rfl, rfl, hF4.1, hF4.2⟩
          by_cases h4k : kd = 4
          · subst h4k
            have ed2 : w2.drew.cell? ⟨E, 2, none⟩ = some (encStr nm) := e2
            have ed1 : w2.drew.cell? ⟨E, 1, none⟩ = some (.int .i64 n) := e1
            have ed3 : w2.drew.cell? ⟨E, 3, none⟩ = some (encStr to_) := e3
            have ed4 : w2.drew.cell? ⟨E, 4, none⟩ = some (.slice ab b.length cb) := e4
            go_wp2_with fail
            refine wp_region_plan (by kernel_rfl) [{ fl := [0, 1, 2, 4, 5, 6], long := [6], ef := 3, keep := [6] }, { fl := [], ef := 7 }] [8, 9] (by kernel_rfl) (fun _ w9 => w9.cell? ⟨E, 2, none⟩ = some (encStr nm)) ?_
            simp only [wpPlan, longOK, keepOK, opsAt_cons, opsAt_nil, consO_some, List.getElem?_toArray, List.getElem?_cons_succ, List.getElem?_cons_zero, and_true, true_and]
            refine ⟨by first | exact ed2 | exact ⟨ed2⟩, ?_⟩
            go_wp2_with fail
            refine ⟨by kernel_rfl, ?_, ?_⟩
            iterate 1
              · intro _ w9 hw9
                first | (obtain ⟨hw1, hw2, hw3⟩ := hw9; go_simp) | (obtain ⟨hw1, hw2⟩ := hw9; go_simp) | go_simp
            go_wp2_with fail
            refine (x_remove (hDA.keep ((Chg.refl _ w2).drew)) nm hnm).mono ?_
            rintro e w3 ⟨rfl, hD3, hc3⟩
            have hc3 : Chg (fun i => ¬ P2 i) w2 w3 := ((Chg.refl _ w2).drew).trans hc3 (fun _ _ h => h)
            obtain ⟨hR3, hB3, hz3, hcv3, _⟩ := Mid.out w3 hc3
            have eg1 : w3.cell? ⟨E, 1, none⟩ = some (.int .i64 n) := hB3.cell 1
            have eg2 : w3.cell? ⟨E, 2, none⟩ = some (encStr nm) := hB3.cell 2
            have eg3 : w3.cell? ⟨E, 3, none⟩ = some (encStr to_) := hB3.cell 3
            have eg4 : w3.cell? ⟨E, 4, none⟩ = some (.slice ab b.length cb) := hB3.cell 4
            go_wp2_with fail
            refine ⟨by first | exact eg2 | exact ⟨eg2⟩, ?_⟩
            go_wp2_with fail
            refine ⟨by kernel_rfl, ?_⟩
            go_wp2_with fail
            refine (rd_remove hR3 hDA.good (by omega) hz3 nm).mono ?_
            rintro e w4 ⟨rfl, hP4⟩
            have hF4 := Fs.out w3 w4 _ hD3 hc3 hP4 (Nat.le_trans (ks_remove D nm) (Nat.succ_le_succ hks))
            clear hD3 hP4 hR3
            go_wp2_with fail
            refine ⟨by kernel_rfl, ?_⟩
            go_wp2_with fail
            go_meet
            case rel => exact ⟨_, rfl, rfl, hF4.1, hF4.2⟩
          by_cases h5k : kd = 5
          · subst h5k
            go_wp2_with fail
            refine (x_crash hDA (by omega) n hnb).mono ?_
            rintro e w3 ⟨rfl, hD3, hc3⟩
            obtain ⟨hR3, hB3, hz3, _, _⟩ := Mid.out w3 hc3
            have eg1 : w3.cell? ⟨E, 1, none⟩ = some (.int .i64 n) := hB3.cell 1
            go_wp2_with fail
            refine (rd_crash hR3 hDA.good (by omega) hz3 n).mono ?_
            rintro e w4 ⟨rfl, hP4⟩
            have hF4 := Fs.out w3 w4 _ hD3 hc3 hP4 (show D.ks.length ≤ k + 1 by omega)
            clear hD3 hP4 hR3
            go_wp2_with fail
            go_meet
            case rel => exact ⟨0, rfl, rfl, hF4.1, hF4.2⟩
          · go_wp2_with fail
            refine (x_copy hDA (by omega)).mono ?_
            rintro e w3 ⟨c, rfl, _, hDd, hW, hc3⟩
            have hz3 := hc3.size
            have hcv : (convert 22 22 (.slice (some ⟨w3.heap.size, 0, none⟩) 4 4)).run Try.prog (w3.alloc (.cells #[.int .u8 103, .int .u8 111, .int .u8 110, .int .u8 101] 5)) = .ok (.slice (some ⟨w3.heap.size, 0, none⟩) 4 4) (w3.alloc (.cells #[.int .u8 103, .int .u8 111, .int .u8 110, .int .u8 101] 5 (4, 5))) :=
              Lib.run_convert_bytes_const w3 _ _ _ 4 4 Try.underlying22 Try.underlying5
            have hcB : Chg (fun _ => False) w3 (w3.alloc (.cells #[.int .u8 103, .int .u8 111, .int .u8 110, .int .u8 101] 5 (4, 5))) := (Chg.refl _ w3).alloc _
            have hRo := rowB_const w3 [103, 111, 110, 101] (by decide) #[.int .u8 103, .int .u8 111, .int .u8 110, .int .u8 101] (4, 5) rfl
            have hDB : DiskX (fun i => (P2 i ∨ (w2.heap.size ≤ i ∧ i < w3.heap.size)) ∨ i = w3.heap.size) _ d D := hDd.more hcB (fun i hi => hi.imp id (fun h => by rw [size_al]; omega))
            go_wp2_with fail
            refine (x_append hDB (by omega) [103, 111, 110, 101] _ [103, 111, 110, 101] _ (rowB_src hRo (fun _ => .inr rfl))).mono ?_
            rintro e w4 ⟨rfl, hD4, hc4⟩
            go_wp2_with fail
            refine (x_crash hD4 (Nat.le_trans (ks_append D _ _) (by omega)) 0 (by omega)).mono ?_
            rintro e w5 ⟨rfl, _, hc5⟩
            have hcS : Chg (fun i => ¬ ((P2 i ∨ (w2.heap.size ≤ i ∧ i < w3.heap.size)) ∨ i = w3.heap.size)) w3 w5 := ((hcB.mono (fun _ _ h => h.elim)).trans hc4 (fun _ _ h => h)).trans hc5 (fun _ _ h => h)
            have hW5 : DiskW (fun i => w2.heap.size ≤ i ∧ i < w3.heap.size) w5 c D := by
              obtain ⟨md, pl, hA⟩ := hW
              exact ⟨md, pl, hA.chg hcS (fun i hs hn => hn (.inl (.inr hs)))⟩
            have hc25 : Chg (fun i => ¬ P2 i) w2 w5 := (hc3.mono (fun _ _ h => h.elim)).trans hcS (fun i _ h hp => h (.inl (.inl hp)))
            have hDc : DiskX P2 w5 c D := ⟨_, hW5, fun i hi => ⟨fun h => by have := hDA.lt i hi; omega, by have := hDA.lt i hi; have := hc25.size; omega⟩⟩
            obtain ⟨hR5, hB5, hz5, _, _⟩ := Mid.out w5 hc25
            have hcr5 := hcrA.trans hc25 (fun q hq hn hw => hn (hPw2 q hw))
            have eg2 : w5.cell? ⟨E, 2, none⟩ = some (encStr nm) := hB5.cell 2
            clear hcv hcB hRo hDB hD4 hc4 hc5 hcS hW5 hDd hW hB5
            go_wp2_with fail
            go_meet
            case rel => exact ⟨0, rfl, rfl, ⟨c, D, v, P2, rfl, hDc, hR5, hPX2, hPv2, hPw2, by omega, hz5, hcr5⟩, eg2⟩
        case rest =>
          obtain ⟨r, rfl, rfl, hPl, he2⟩ := hcut
          obtain ⟨wq, hwq⟩ : ∃ wq : World, wq = wc := ⟨wc, rfl⟩
          subst hwq
          clear Mid Fs hDA
          obtain ⟨d', D', v', Pk', rfl, hD, hR, _, _, _, hks', _, hcr'⟩ := id hPl
          have hEl : E < wq.heap.size := World.block_lt_of_cell? _ _ he2
          go_wp2_with fail
          refine (same_any hD hR (by omega)).mono ?_
          rintro e w3 ⟨rfl, hc3⟩
          have he3 : w3.cell? ⟨E, 2, none⟩ = some (encStr nm) := (hc3.cell hEl id).trans he2
          have hD3 := hD.keep hc3
          have hR3 := hR.keep hc3
          have hG3 := hD3.good
          cases hf : D'.fl nm with
          | none =>
            go_wp2_with fail
            refine (x_read_none hD3 nm hnm hf).mono ?_
            rintro e w4 ⟨rfl, hw4⟩
            rw [hw4]
            go_wp2_with fail
            refine (rd_read hR3 hG3 (by omega) nm).mono ?_
            rw [hf]
            rintro e w5 ⟨rfl, hw5⟩
            rw [hw5]
            have hI5 := (hPl.keep hc3).keep ((Chg.refl _ w3).drew)
            rw [show (none : Option Fil).isSome = false from rfl]
            clear hD hR hD3 hR3 hPl
            go_wp2_with fail
            go_roundw
            case rel => exact ⟨k + 1, by go_num, by omega, by omega, hI5⟩
            case measure => simp [RowKit.intOf]; omega
          | some F =>
            go_wp2_with fail
            refine (x_read hD3 nm hf).mono ?_
            rintro e w4 ⟨ao, off, cap, rb, rfl, _, _, _, hc4⟩
            have he4 : w4.cell? ⟨E, 2, none⟩ = some (encStr nm) := (hc4.cell (Nat.lt_of_lt_of_le hEl hc3.size) id).trans he3
            have hR4 := hR3.keep hc4
            go_wp2_with fail
            refine (rd_read hR4 hG3 (by omega) nm).mono ?_
            rw [hf]
            rintro e w5 ⟨rfl, hw5⟩
            rw [hw5]
            have hI5 := ((hPl.keep hc3).keep hc4).keep ((Chg.refl _ w4).drew)
            rw [show (some F).isSome = true from rfl]
            clear hD hR hD3 hR3 hR4 hPl
            go_wp2_with fail
            go_roundw
            case rel => exact ⟨k + 1, by go_num, by omega, by omega, hI5⟩
            case measure => simp [RowKit.intOf]; omega
      · go_wp2_with fail
        all_goals
          go_meet
          case rel => exact hcr
  case rest =>
    clear hK0
    go_wp2_with fail
    refine (htold.out _ hcut).mono ?_
    rintro e w3 ⟨rfl, hc3⟩
    go_wp2_with fail
    go_ret
    exact ⟨rfl, hc3⟩
end Go.Proofs.Ytgcmagoecapgoaa
