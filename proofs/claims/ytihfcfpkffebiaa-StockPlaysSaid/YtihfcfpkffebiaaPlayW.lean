/-
  layer 9: StockPlays, its walk. (Printed by wip/tools/genplayw.py.)
-/
import Derived.Test.YtihfcfpkffebiaaRefJ
import Derived.Test.YtihfcfpkffebiaaSopS
import Derived.Test.YtihfcfpkffebiaaStockK
import Derived.Test.YtihfcfpkffebiaaSwpW
import Derived.Test.YtihfcfpkffebiaaUnitW
namespace Go.Proofs.Ytihfcfpkffebiaa
open Go.RowKit Go.Maps

set_option maxRecDepth 100000 in
theorem stkNewNo (w : World) (c o : Int) (h : mayStk c o = false) :
    Calls Try.prog 13 #[.agg #[.int .i64 c, .int .i64 o]] w fun e w' => e = .returned (.tuple #[.pointer none, .int .i64 1]) ∧ Chg (fun _ => False) w w' := by
  have hc : c < 0 ∨ 1000000 < c ∨ o < 0 ∨ 1000000 < o := by unfold mayStk at h; simp at h; omega
  clear h
  by_cases h1 : c < 0
  · clear hc
    go_enter Try.func13, Try.ntmps13
    go_wp2
    go_ret2
    exact ⟨rfl, (Chg.refl _ w).alloc _⟩
  by_cases h2 : 1000000 < c
  · clear hc
    go_enter Try.func13, Try.ntmps13
    go_wp2
    go_ret2
    exact ⟨rfl, (Chg.refl _ w).alloc _⟩
  by_cases h3 : o < 0
  · clear hc
    go_enter Try.func13, Try.ntmps13
    go_wp2
    go_ret2
    exact ⟨rfl, (Chg.refl _ w).alloc _⟩
  have h4 : 1000000 < o := by omega
  clear hc
  go_enter Try.func13, Try.ntmps13
  go_wp2
  go_ret2
  exact ⟨rfl, (Chg.refl _ w).alloc _⟩

set_option maxRecDepth 100000 in
theorem ref_zero (C O : Int) : (Try.zeroCells55.setIfInBounds 0 (.int .i64 C)).setIfInBounds 1 (.int .i64 O) = arrF 1007 (refCell (Stk.new C O)) := by kernel_rfl

theorem IntsIn.chgB {w w' : World} {ad : Option Addr} {l : List Int} {S : Nat → Prop} (h : IntsIn w ad l) (hc : Chg S w w') (hs : ∀ a, ad = some a → ¬ S a.block) : IntsIn w' ad l :=
  ⟨h.len, fun k n hk => by
    obtain ⟨a, ha, hb, hj⟩ := h.at_ k n hk
    refine ⟨a, ha, Nat.lt_of_lt_of_le hb hc.size, ?_⟩
    have : (a.add k).block = a.block := by unfold Addr.add; split <;> rfl
    rw [hc.cell (by rw [this]; exact hb) (by rw [this]; exact hs a ha)]
    exact hj⟩
theorem intsIn_ownB {w : World} {base : Nat} {v : Value} {g : List Int} (h : w.ownsRow base 3 1 v g.length (g.map encI)) (hlen : g.length ≤ maxLen) : ∃ ad cap, v = .slice ad g.length cap ∧ IntsIn w ad g ∧ ∀ a, ad = some a → base ≤ a.block := by
  obtain ⟨ad, cap, rfl, hI⟩ := intsIn_own h hlen
  refine ⟨ad, cap, rfl, hI, fun a ha => ?_⟩
  subst ha
  exact (h.lt a.block rfl).1
theorem Stk.Good.sweepLen {s : Stk} (_h : s.Good) (t : Int) : (s.sweep t).1.length ≤ 200 := by
  unfold Stk.sweep
  split
  · simp
  · have h1 := sweepL_len t (bookings s.en) ([], s)
    have h2 := bookings_len s.en
    unfold Stk.sweepL
    simp at h1
    omega

set_option maxRecDepth 100000 in
set_option maxHeartbeats 4000000 in
theorem stockPlays_no (w : World) (C O : Int) (ad : Option Addr) (cap : Nat) (l : List SOp) (hmay : mayStk C O = false) :
    Calls Try.prog 9 #[.agg #[.int .i64 C, .int .i64 O], .slice ad l.length cap] w fun e w' => e = .returned (.bool true) ∧ Chg (fun _ => False) w w' := by
  have hB0 := Blk.new w 23 #[.int .i64 C, .int .i64 O]
  have hcB := (Chg.refl (fun _ => False) w).alloc (.cells #[.int .i64 C, .int .i64 O] 23)
  have hmh := Lib.hid hmay
  clear hmay
  go_enter Try.func9, Try.ntmps9
  go_wp2_with fail
  refine (stkNewNo _ C O hmh.out).mono ?_
  rintro e w1 ⟨rfl, hc1⟩
  have hB1 := hB0.chg hc1 id
  have a0 : w1.cell? ⟨w.heap.size, 0, none⟩ = some (.int .i64 C) := by rw [hB1.cell]; rfl
  have a1 : w1.cell? ⟨w.heap.size, 1, none⟩ = some (.int .i64 O) := by rw [hB1.cell]; rfl
  have hck := hcB.trans hc1 (fun _ _ h => h)
  go_wp2_with fail
  refine (mayStock_any _ C O).mono ?_
  rintro e w2 ⟨rfl, hc2⟩
  rw [hmh.out]
  go_wp2_with fail
  refine (told9 _).mono ?_
  rintro e w3 ⟨rfl, hc3⟩
  go_wp2_with fail
  go_ret
  exact ⟨rfl, (hck.trans hc2 (fun _ _ h => h)).trans hc3 (fun _ _ h => h)⟩

set_option maxRecDepth 100000 in
set_option maxHeartbeats 16000000 in
theorem stockPlays_yes (w : World) (C O : Int) (ad : Option Addr) (cap : Nat) (l : List SOp) (hl : SopsIn w ad l) (hmay : mayStk C O = true) :
    Calls Try.prog 9 #[.agg #[.int .i64 C, .int .i64 O], .slice ad l.length cap] w fun e w' => e = .returned (.bool true) ∧ Chg (fun _ => False) w w' := by
  have hmx := hl.len
  unfold maxLen at hmx
  have hB0 := Blk.new w 23 #[.int .i64 C, .int .i64 O]
  have hcB := (Chg.refl (fun _ => False) w).alloc (.cells #[.int .i64 C, .int .i64 O] 23)
  have hCO : 0 ≤ C ∧ C ≤ 1000000 ∧ 0 ≤ O ∧ O ≤ 1000000 := by unfold mayStk at hmay; simp at hmay; omega
  obtain ⟨hC0, hC1, hO0, hO1⟩ := hCO
  have hmh := Lib.hid hmay
  clear hmay
  go_enter Try.func9, Try.ntmps9
  go_wp2_with fail
  refine (new_w _ C O (by omega) (by omega)).mono ?_
  rintro e w0 ⟨b0, mb0, rfl, hS0, hc0, hb, hm⟩
  have hB1 := hB0.chg hc0 id
  have hcB1 := hcB.trans hc0 (fun _ _ h => h)
  have a0 : w0.cell? ⟨w.heap.size, 0, none⟩ = some (.int .i64 C) := by rw [hB1.cell]; rfl
  have a1 : w0.cell? ⟨w.heap.size, 1, none⟩ = some (.int .i64 O) := by rw [hB1.cell]; rfl
  have hbm0 : w.heap.size ≤ b0 ∧ w.heap.size ≤ mb0 := by simp only [alloc_size] at hb hm; omega
  clear hb hm hB0 hcB hc0
  go_wp2_with fail
  clear a0 a1
  refine (mayStock_any _ C O).mono ?_
  rintro e w1 ⟨rfl, hc1⟩
  rw [hmh.out]
  have hS1 := hS0.chg hc1 id id
  have hB2 := hB1.chg hc1 id
  have hck1 := hcB1.trans hc1 (fun _ _ h => h)
  have a0 : w1.cell? ⟨w.heap.size, 0, none⟩ = some (.int .i64 C) := by rw [hB2.cell]; rfl
  have a1 : w1.cell? ⟨w.heap.size, 1, none⟩ = some (.int .i64 O) := by rw [hB2.cell]; rfl
  clear hS0 hB1 hcB1 hc1
  go_wp2_with fail
  clear a0 a1
  rw [ref_zero C O]
  have hX0 : RefAt (w1.alloc (.cells (arrF 1007 (refCell (Stk.new C O))) 55)) w1.heap.size (Stk.new C O) := Blk.new w1 _ _
  have hcX := (Chg.refl (fun _ => False) w1).alloc (.cells (arrF 1007 (refCell (Stk.new C O))) 55)
  have hS2 := hS1.chg hcX id id
  have hck2 : Chg (fun i => w.heap.size ≤ i) w (w1.alloc (.cells (arrF 1007 (refCell (Stk.new C O))) 55)) := (hck1.trans hcX (fun _ _ h => h)).mono (fun _ _ h => h.elim)
  have hG0 : (Stk.new C O).Good := Stk.Good.new (by omega) (by omega)
  have hXz := hck1.size
  clear hS1 hB2 hck1 hcX
  generalize w1.alloc (.cells (arrF 1007 (refCell (Stk.new C O))) 55) = w2 at *
  generalize w1.heap.size = X at *
  generalize Stk.new C O = s0 at *
  go_loopw [5, 8, 9] (fun v5 v8 v9 wr => ∃ (k : Nat) (t : Int) (b mb : Nat) (s : Stk), v5 = .pointer (some ⟨b, 0, none⟩) ∧ v8 = .int .i64 t ∧ v9 = .int .i64 k ∧ k ≤ l.length ∧ k ≤ 80 ∧ 0 ≤ t ∧ t ≤ k * 40 ∧ (w.heap.size ≤ b ∧ w.heap.size ≤ mb) ∧ s.Good ∧ StkAt wr b mb s ∧ RefAt wr X s ∧ Chg (fun i => w.heap.size ≤ i) w wr) (fun _ _ v9 _ => 80 - (RowKit.intOf v9).toNat)
  case atStart => exact ⟨0, 0, b0, mb0, s0, rfl, rfl, rfl, Nat.zero_le _, Nat.zero_le _, by omega, by omega, hbm0, hG0, hS2, hX0, hck2⟩
  case round =>
    clear hS2 hX0 hck2 hG0
    obtain ⟨k, t, b, mb, s, rfl, rfl, rfl, hk1, hk2, ht0, ht1, hbm, hG, hS, hX, hck⟩ := hrel
    have hcF : Chg (fun _ => False) w wr := hck.mono (fun i hi h => by omega)
    by_cases hlt : k < l.length ∧ k < 80
    · obtain ⟨hlt1, hlt2⟩ := hlt
      obtain ⟨o, ho⟩ : ∃ o, l[k]? = some o := ⟨_, List.getElem?_eq_getElem hlt1⟩
      obtain ⟨a, rfl, hab, hat⟩ := (hl.chg hcF (fun i _ h => h)).at_ k o ho
      have g0 : wr.cell? (a.add (k * 9)) = some (.int .i64 o.kd) := hat 0 _ rfl
      have g1 : wr.cell? ⟨(a.add (k * 9)).block, (a.add (k * 9)).off + 1, none⟩ = some (.int .i64 o.o.kd) := hat 1 _ rfl
      have g2 : wr.cell? ⟨(a.add (k * 9)).block, (a.add (k * 9)).off + 2, none⟩ = some (.int .i64 o.o.bk) := hat 2 _ rfl
      have g3 : wr.cell? ⟨(a.add (k * 9)).block, (a.add (k * 9)).off + 3, none⟩ = some (.int .i64 o.o.un) := hat 3 _ rfl
      have g4 : wr.cell? ⟨(a.add (k * 9)).block, (a.add (k * 9)).off + 4, none⟩ = some (.int .i64 o.o.cu) := hat 4 _ rfl
      have g5 : wr.cell? ⟨(a.add (k * 9)).block, (a.add (k * 9)).off + 5, none⟩ = some (.int .i64 o.o.am) := hat 5 _ rfl
      have g6 : wr.cell? ⟨(a.add (k * 9)).block, (a.add (k * 9)).off + 6, none⟩ = some (.int .i64 o.d) := hat 6 _ rfl
      have g7 : wr.cell? ⟨(a.add (k * 9)).block, (a.add (k * 9)).off + 7, none⟩ = some (.int .i64 o.now) := hat 7 _ rfl
      have g8 : wr.cell? ⟨(a.add (k * 9)).block, (a.add (k * 9)).off + 8, none⟩ = some (.bool o.raw) := hat 8 _ rfl
      clear hat ho
      have hcal := (Chg.refl (fun _ => False) wr).alloc (.cells o.row 33)
      have hE := Blk.new wr 33 o.row
      have hSa := hS.chg hcal id id
      have hXa := hX.chg hcal id
      have hcka := hck.trans hcal (fun _ _ h => h.elim)
      unfold SOp.row at hE hSa hXa hcka
      clear hcal hS hX hck hcF
      obtain ⟨m, hm⟩ : ∃ m, wrap64 ((IntKind.u64.wrap o.d).tmod 40) = m := ⟨_, rfl⟩
      have hmb := modK o.d 40 (by omega)
      rw [hm] at hmb
      obtain ⟨hm1, hm2⟩ := hmb
      obtain ⟨okd, oo, od, onow, oraw⟩ := o
      dsimp only at *
      cases oraw with
      | false =>
        by_cases hk0 : okd = 0
        · have kb0 : (okd == 0) = true := by simp [hk0]
          clear hk0
          go_wp2_with fail
          rw [hm]
          generalize hwa : wr.alloc (.cells #[.int .i64 okd, .int .i64 oo.kd, .int .i64 oo.bk, .int .i64 oo.un, .int .i64 oo.cu, .int .i64 oo.am, .int .i64 od, .int .i64 onow, .bool false] 33) = wa at *
          generalize hEe : wr.heap.size = E at *
          clear hwa hEe g0 g1 g2 g3 g4 g5 g6 g7 g8
          have ecell : ∀ w9 : World, w9.heap[E]? = wa.heap[E]? → w9.cell? ⟨E, 1, none⟩ = some (.int .i64 oo.kd) ∧ w9.cell? ⟨E, 2, none⟩ = some (.int .i64 oo.bk) ∧ w9.cell? ⟨E, 3, none⟩ = some (.int .i64 oo.un) ∧ w9.cell? ⟨E, 4, none⟩ = some (.int .i64 oo.cu) ∧ w9.cell? ⟨E, 5, none⟩ = some (.int .i64 oo.am) := fun w9 h9 => by
            have h2 := Blk.keep hE h9
            refine ⟨?_, ?_, ?_, ?_, ?_⟩ <;> rw [h2.cell] <;> rfl
          have ech := Lib.hid ecell
          obtain ⟨d0, d1, d2, d3, d4⟩ := ecell wa rfl
          clear ecell
          have hEz := hE.lt
          have hEb := hE.ne hSa.blk (by decide)
          have hEm : mb ≠ E := hSa.map.ne hE
          refine wp_region_plan (by kernel_rfl) [{ fl := [0, 1, 2, 3, 5, 6, 7, 8], long := [7], ef := 4, keep := [7] }, { fl := [], ef := 9 }] [10] (by kernel_rfl) (fun _ (w9 : World) => w9.heap[E]? = wa.heap[E]?) ?_
          simp only [wpPlan, longOK, keepOK, opsAt_cons, opsAt_nil, consO_some, List.getElem?_toArray, List.getElem?_cons_succ, List.getElem?_cons_zero, and_true, true_and]
          refine ⟨rfl, ?_⟩
          go_wp2_with fail
          refine ⟨by kernel_rfl, ?_, ?_⟩
          · intro _ w9 h9
            obtain ⟨d0, d1, d2, d3, d4⟩ := ech.out w9 h9
            clear h9
            go_simp
          go_wp2_with fail
          refine (stk_do (show StkAt wa.drew b mb s from ⟨hSa.blk, hSa.map, hSa.keys⟩) hG oo (t + m)).mono ?_
          rintro e w2 ⟨rfl, hS2, hc2⟩
          have hc2 := ((Chg.refl (fun i => i = b ∨ i = mb) wa).drew).trans hc2 (fun _ _ h => h)
          have hbx : X ≠ b := Blk.ne hXa hSa.blk (by decide)
          have hbmx : mb ≠ X := hSa.map.ne hXa
          have hX2 := hXa.chg hc2 (by omega)
          have hgk := Lib.hid (hc2.block E hEz (by omega))
          have hck2 := hcka.trans hc2 (fun i _ h => by omega)
          obtain ⟨r, hr⟩ : ∃ r, s.act oo (t + m) = r := ⟨_, rfl⟩
          have hG2 := hG.act oo (t + m)
          have hcD := ref_do hX2 hG oo (t + m)
          rw [hr] at hS2 hG2 hcD ⊢
          clear hr hc2 hXa hSa hcka
          go_wp2_with fail
          refine ⟨hgk.out, ?_⟩
          go_wp2_with fail
          refine ⟨by kernel_rfl, ?_⟩
          go_wp2_with fail
          refine hcD.mono ?_
          rintro e w3 ⟨rfl, hX3, hc3⟩
          have hS3 := hS2.chg hc3 (fun h => hbx h.symm) (fun h => hbmx h)
          have hck3 := hck2.trans hc3 (fun i _ h => by omega)
          clear hcD hX2 hS2 hc3 hck2
          cases hq : (bits .and .i64 (k : Int) 7 == 7) with
          | false =>
            go_wp2_with fail
            refine ⟨by kernel_rfl, ?_⟩
            go_wp2_with fail
            go_roundw
            case rel => exact ⟨k + 1, t + m, b, mb, r.2, rfl, rfl, by go_num, by omega, by omega, by omega, by omega, hbm, hG2, hS3, hX3, hck3⟩
            case measure => simp [RowKit.intOf]; omega
          | true =>
            go_wp2_with fail
            refine ⟨by kernel_rfl, ?_⟩
            go_wp2_with fail
            refine (same_any hS3 hX3 hG2).mono ?_
            rintro e wz ⟨rfl, hcz⟩
            have hSz := hS3.chg hcz id id
            have hXz := hX3.chg hcz id
            have hckz := hck3.trans hcz (fun _ _ h => h.elim)
            go_wp2_with fail
            go_roundw
            case rel => exact ⟨k + 1, t + m, b, mb, r.2, rfl, rfl, by go_num, by omega, by omega, by omega, by omega, hbm, hG2, hSz, hXz, hckz⟩
            case measure => simp [RowKit.intOf]; omega
        by_cases hk1' : okd = 1
        · have kb0 : (okd == 0) = false := by simp [hk0]
          have kb1 : (okd == 1) = true := by simp [hk1']
          clear hk0 hk1'
          go_wp2_with fail
          rw [hm]
          refine (sweep_any hSa hG (t + m)).mono ?_
          rintro e w2 ⟨v2, rfl, hv2, hS2, hc2⟩
          have hbx : X ≠ b := Blk.ne hXa hSa.blk (by decide)
          have hbmx : mb ≠ X := hSa.map.ne hXa
          have hX2 := hXa.chg hc2 (by omega)
          have hck2 := hcka.trans hc2 (fun i _ h => by omega)
          obtain ⟨r, hr⟩ : ∃ r, s.sweep (t + m) = r := ⟨_, rfl⟩
          have hG2 := hG.sweep (t + m)
          have hrl : (s.sweep (t + m)).1.length ≤ 200 := hG.sweepLen (t + m)
          have hcD := ref_sweep hX2 hG (t + m)
          rw [hr] at hS2 hG2 hcD hv2 hrl
          obtain ⟨ad2, cap2, rfl, hI2, hB2⟩ := intsIn_ownB hv2 (by unfold maxLen; omega)
          have hXzz := Blk.lt hXa
          clear hr hc2 hXa hSa hcka g0 g1 g2 g3 g4 g5 g6 g7 g8 hE hv2
          go_wp2_with fail
          refine hcD.mono ?_
          rintro e w3 ⟨v3, rfl, hv3, hX3, hc3⟩
          have hS3 := hS2.chg hc3 (fun h => hbx h.symm) (fun h => hbmx h)
          have hck3 := hck2.trans hc3 (fun i _ h => by omega)
          have hI2' : IntsIn w3 ad2 r.1 := hI2.chgB hc3 (fun a ha => by
            have := hB2 a ha
            omega)
          obtain ⟨ad3, cap3, rfl, hI3⟩ := intsIn_own hv3 (by unfold maxLen; omega)
          clear hcD hX2 hS2 hc3 hck2 hI2 hv3
          go_wp2_with fail
          refine (ints_eq cap2 cap3 hI2' hI3).mono ?_
          rintro e w4 ⟨rfl, hc4⟩
          have hS4 := hS3.chg hc4 id id
          have hX4 := hX3.chg hc4 id
          have hck4 := hck3.trans hc4 (fun _ _ h => h.elim)
          clear hS3 hX3 hck3 hc4
          cases hq : (bits .and .i64 (k : Int) 7 == 7) with
          | false =>
            go_wp2_with fail
            go_roundw
            case rel => exact ⟨k + 1, t + m, b, mb, r.2, rfl, rfl, by go_num, by omega, by omega, by omega, by omega, hbm, hG2, hS4, hX4, hck4⟩
            case measure => simp [RowKit.intOf]; omega
          | true =>
            go_wp2_with fail
            refine (same_any hS4 hX4 hG2).mono ?_
            rintro e wz ⟨rfl, hcz⟩
            have hSz := hS4.chg hcz id id
            have hXz := hX4.chg hcz id
            have hckz := hck4.trans hcz (fun _ _ h => h.elim)
            go_wp2_with fail
            go_roundw
            case rel => exact ⟨k + 1, t + m, b, mb, r.2, rfl, rfl, by go_num, by omega, by omega, by omega, by omega, hbm, hG2, hSz, hXz, hckz⟩
            case measure => simp [RowKit.intOf]; omega
        have kb0 : (okd == 0) = false := by simp [hk0]
        have kb1 : (okd == 1) = false := by simp [hk1']
        clear hk0 hk1'
        go_wp2_with fail
        rw [hm]
        refine (stk_copy hSa).mono ?_
        rintro e w2 ⟨b2, mb2, rfl, hS2, hc2, hb2, hm2⟩
        have hSo := hSa.chg hc2 id id
        have hX2 := hXa.chg hc2 id
        have hck2 := hcka.trans hc2 (fun _ _ h => h.elim)
        have hbz := hSa.blk.lt
        have hmz := hSa.map.lt
        have hXzz := Blk.lt hXa
        have hbx : X ≠ b := Blk.ne hXa hSa.blk (by decide)
        have hbmx : mb ≠ X := hSa.map.ne hXa
        have hzk := hcka.size
        clear hc2 hSa hXa hcka g0 g1 g2 g3 g4 g5 g6 g7 g8 hE
        go_wp2_with fail
        refine (stk_do hSo hG ⟨3, 1, 0, 0, 0⟩ (t + m)).mono ?_
        rintro e w3 ⟨rfl, _, hc3⟩
        have hS3 := hS2.chg hc3 (by omega) (by omega)
        have hX3 := hX2.chg hc3 (by omega)
        have hck3 := hck2.trans hc3 (fun i _ h => by omega)
        have hbm3 : w.heap.size ≤ b2 ∧ w.heap.size ≤ mb2 := by omega
        clear hc3 hSo hS2 hX2 hck2
        cases hq : (bits .and .i64 (k : Int) 7 == 7) with
        | false =>
          go_wp2_with fail
          go_roundw
          case rel => exact ⟨k + 1, t + m, b2, mb2, s, rfl, rfl, by go_num, by omega, by omega, by omega, by omega, hbm3, hG, hS3, hX3, hck3⟩
          case measure => simp [RowKit.intOf]; omega
        | true =>
          go_wp2_with fail
          refine (same_any hS3 hX3 hG).mono ?_
          rintro e wz ⟨rfl, hcz⟩
          have hSz := hS3.chg hcz id id
          have hXz := hX3.chg hcz id
          have hckz := hck3.trans hcz (fun _ _ h => h.elim)
          go_wp2_with fail
          go_roundw
          case rel => exact ⟨k + 1, t + m, b2, mb2, s, rfl, rfl, by go_num, by omega, by omega, by omega, by omega, hbm3, hG, hSz, hXz, hckz⟩
          case measure => simp [RowKit.intOf]; omega
      | true =>
        by_cases hk0 : okd = 0
        · have kb0 : (okd == 0) = true := by simp [hk0]
          clear hk0
          go_wp2_with fail

          generalize hwa : wr.alloc (.cells #[.int .i64 okd, .int .i64 oo.kd, .int .i64 oo.bk, .int .i64 oo.un, .int .i64 oo.cu, .int .i64 oo.am, .int .i64 od, .int .i64 onow, .bool true] 33) = wa at *
          generalize hEe : wr.heap.size = E at *
          clear hwa hEe g0 g1 g2 g3 g4 g5 g6 g7 g8
          have ecell : ∀ w9 : World, w9.heap[E]? = wa.heap[E]? → w9.cell? ⟨E, 1, none⟩ = some (.int .i64 oo.kd) ∧ w9.cell? ⟨E, 2, none⟩ = some (.int .i64 oo.bk) ∧ w9.cell? ⟨E, 3, none⟩ = some (.int .i64 oo.un) ∧ w9.cell? ⟨E, 4, none⟩ = some (.int .i64 oo.cu) ∧ w9.cell? ⟨E, 5, none⟩ = some (.int .i64 oo.am) := fun w9 h9 => by
            have h2 := Blk.keep hE h9
            refine ⟨?_, ?_, ?_, ?_, ?_⟩ <;> rw [h2.cell] <;> rfl
          have ech := Lib.hid ecell
          obtain ⟨d0, d1, d2, d3, d4⟩ := ecell wa rfl
          clear ecell
          have hEz := hE.lt
          have hEb := hE.ne hSa.blk (by decide)
          have hEm : mb ≠ E := hSa.map.ne hE
          refine wp_region_plan (by kernel_rfl) [{ fl := [0, 1, 2, 3, 5, 6, 7, 8], long := [7], ef := 4, keep := [7] }, { fl := [], ef := 9 }] [10] (by kernel_rfl) (fun _ (w9 : World) => w9.heap[E]? = wa.heap[E]?) ?_
          simp only [wpPlan, longOK, keepOK, opsAt_cons, opsAt_nil, consO_some, List.getElem?_toArray, List.getElem?_cons_succ, List.getElem?_cons_zero, and_true, true_and]
          refine ⟨rfl, ?_⟩
          go_wp2_with fail
          refine ⟨by kernel_rfl, ?_, ?_⟩
          · intro _ w9 h9
            obtain ⟨d0, d1, d2, d3, d4⟩ := ech.out w9 h9
            clear h9
            go_simp
          go_wp2_with fail
          refine (stk_do (show StkAt wa.drew b mb s from ⟨hSa.blk, hSa.map, hSa.keys⟩) hG oo onow).mono ?_
          rintro e w2 ⟨rfl, hS2, hc2⟩
          have hc2 := ((Chg.refl (fun i => i = b ∨ i = mb) wa).drew).trans hc2 (fun _ _ h => h)
          have hbx : X ≠ b := Blk.ne hXa hSa.blk (by decide)
          have hbmx : mb ≠ X := hSa.map.ne hXa
          have hX2 := hXa.chg hc2 (by omega)
          have hgk := Lib.hid (hc2.block E hEz (by omega))
          have hck2 := hcka.trans hc2 (fun i _ h => by omega)
          obtain ⟨r, hr⟩ : ∃ r, s.act oo onow = r := ⟨_, rfl⟩
          have hG2 := hG.act oo onow
          have hcD := ref_do hX2 hG oo onow
          rw [hr] at hS2 hG2 hcD ⊢
          clear hr hc2 hXa hSa hcka
          go_wp2_with fail
          refine ⟨hgk.out, ?_⟩
          go_wp2_with fail
          refine ⟨by kernel_rfl, ?_⟩
          go_wp2_with fail
          refine hcD.mono ?_
          rintro e w3 ⟨rfl, hX3, hc3⟩
          have hS3 := hS2.chg hc3 (fun h => hbx h.symm) (fun h => hbmx h)
          have hck3 := hck2.trans hc3 (fun i _ h => by omega)
          clear hcD hX2 hS2 hc3 hck2
          cases hq : (bits .and .i64 (k : Int) 7 == 7) with
          | false =>
            go_wp2_with fail
            refine ⟨by kernel_rfl, ?_⟩
            go_wp2_with fail
            go_roundw
            case rel => exact ⟨k + 1, t + m, b, mb, r.2, rfl, rfl, by go_num, by omega, by omega, by omega, by omega, hbm, hG2, hS3, hX3, hck3⟩
            case measure => simp [RowKit.intOf]; omega
          | true =>
            go_wp2_with fail
            refine ⟨by kernel_rfl, ?_⟩
            go_wp2_with fail
            refine (same_any hS3 hX3 hG2).mono ?_
            rintro e wz ⟨rfl, hcz⟩
            have hSz := hS3.chg hcz id id
            have hXz := hX3.chg hcz id
            have hckz := hck3.trans hcz (fun _ _ h => h.elim)
            go_wp2_with fail
            go_roundw
            case rel => exact ⟨k + 1, t + m, b, mb, r.2, rfl, rfl, by go_num, by omega, by omega, by omega, by omega, hbm, hG2, hSz, hXz, hckz⟩
            case measure => simp [RowKit.intOf]; omega
        by_cases hk1' : okd = 1
        · have kb0 : (okd == 0) = false := by simp [hk0]
          have kb1 : (okd == 1) = true := by simp [hk1']
          clear hk0 hk1'
          go_wp2_with fail

          refine (sweep_any hSa hG onow).mono ?_
          rintro e w2 ⟨v2, rfl, hv2, hS2, hc2⟩
          have hbx : X ≠ b := Blk.ne hXa hSa.blk (by decide)
          have hbmx : mb ≠ X := hSa.map.ne hXa
          have hX2 := hXa.chg hc2 (by omega)
          have hck2 := hcka.trans hc2 (fun i _ h => by omega)
          obtain ⟨r, hr⟩ : ∃ r, s.sweep onow = r := ⟨_, rfl⟩
          have hG2 := hG.sweep onow
          have hrl : (s.sweep onow).1.length ≤ 200 := hG.sweepLen onow
          have hcD := ref_sweep hX2 hG onow
          rw [hr] at hS2 hG2 hcD hv2 hrl
          obtain ⟨ad2, cap2, rfl, hI2, hB2⟩ := intsIn_ownB hv2 (by unfold maxLen; omega)
          have hXzz := Blk.lt hXa
          clear hr hc2 hXa hSa hcka g0 g1 g2 g3 g4 g5 g6 g7 g8 hE hv2
          go_wp2_with fail
          refine hcD.mono ?_
          rintro e w3 ⟨v3, rfl, hv3, hX3, hc3⟩
          have hS3 := hS2.chg hc3 (fun h => hbx h.symm) (fun h => hbmx h)
          have hck3 := hck2.trans hc3 (fun i _ h => by omega)
          have hI2' : IntsIn w3 ad2 r.1 := hI2.chgB hc3 (fun a ha => by
            have := hB2 a ha
            omega)
          obtain ⟨ad3, cap3, rfl, hI3⟩ := intsIn_own hv3 (by unfold maxLen; omega)
          clear hcD hX2 hS2 hc3 hck2 hI2 hv3
          go_wp2_with fail
          refine (ints_eq cap2 cap3 hI2' hI3).mono ?_
          rintro e w4 ⟨rfl, hc4⟩
          have hS4 := hS3.chg hc4 id id
          have hX4 := hX3.chg hc4 id
          have hck4 := hck3.trans hc4 (fun _ _ h => h.elim)
          clear hS3 hX3 hck3 hc4
          cases hq : (bits .and .i64 (k : Int) 7 == 7) with
          | false =>
            go_wp2_with fail
            go_roundw
            case rel => exact ⟨k + 1, t + m, b, mb, r.2, rfl, rfl, by go_num, by omega, by omega, by omega, by omega, hbm, hG2, hS4, hX4, hck4⟩
            case measure => simp [RowKit.intOf]; omega
          | true =>
            go_wp2_with fail
            refine (same_any hS4 hX4 hG2).mono ?_
            rintro e wz ⟨rfl, hcz⟩
            have hSz := hS4.chg hcz id id
            have hXz := hX4.chg hcz id
            have hckz := hck4.trans hcz (fun _ _ h => h.elim)
            go_wp2_with fail
            go_roundw
            case rel => exact ⟨k + 1, t + m, b, mb, r.2, rfl, rfl, by go_num, by omega, by omega, by omega, by omega, hbm, hG2, hSz, hXz, hckz⟩
            case measure => simp [RowKit.intOf]; omega
        have kb0 : (okd == 0) = false := by simp [hk0]
        have kb1 : (okd == 1) = false := by simp [hk1']
        clear hk0 hk1'
        go_wp2_with fail
        rw [hm]
        refine (stk_copy hSa).mono ?_
        rintro e w2 ⟨b2, mb2, rfl, hS2, hc2, hb2, hm2⟩
        have hSo := hSa.chg hc2 id id
        have hX2 := hXa.chg hc2 id
        have hck2 := hcka.trans hc2 (fun _ _ h => h.elim)
        have hbz := hSa.blk.lt
        have hmz := hSa.map.lt
        have hXzz := Blk.lt hXa
        have hbx : X ≠ b := Blk.ne hXa hSa.blk (by decide)
        have hbmx : mb ≠ X := hSa.map.ne hXa
        have hzk := hcka.size
        clear hc2 hSa hXa hcka g0 g1 g2 g3 g4 g5 g6 g7 g8 hE
        go_wp2_with fail
        refine (stk_do hSo hG ⟨3, 1, 0, 0, 0⟩ (t + m)).mono ?_
        rintro e w3 ⟨rfl, _, hc3⟩
        have hS3 := hS2.chg hc3 (by omega) (by omega)
        have hX3 := hX2.chg hc3 (by omega)
        have hck3 := hck2.trans hc3 (fun i _ h => by omega)
        have hbm3 : w.heap.size ≤ b2 ∧ w.heap.size ≤ mb2 := by omega
        clear hc3 hSo hS2 hX2 hck2
        cases hq : (bits .and .i64 (k : Int) 7 == 7) with
        | false =>
          go_wp2_with fail
          go_roundw
          case rel => exact ⟨k + 1, t + m, b2, mb2, s, rfl, rfl, by go_num, by omega, by omega, by omega, by omega, hbm3, hG, hS3, hX3, hck3⟩
          case measure => simp [RowKit.intOf]; omega
        | true =>
          go_wp2_with fail
          refine (same_any hS3 hX3 hG).mono ?_
          rintro e wz ⟨rfl, hcz⟩
          have hSz := hS3.chg hcz id id
          have hXz := hX3.chg hcz id
          have hckz := hck3.trans hcz (fun _ _ h => h.elim)
          go_wp2_with fail
          go_roundw
          case rel => exact ⟨k + 1, t + m, b2, mb2, s, rfl, rfl, by go_num, by omega, by omega, by omega, by omega, hbm3, hG, hSz, hXz, hckz⟩
          case measure => simp [RowKit.intOf]; omega
    · go_wp2_with fail
      all_goals
        refine (told9 _).mono ?_
        rintro e w9 ⟨rfl, hc9⟩
        have hS9 := hS.chg hc9 id id
        have hX9 := hX.chg hc9 id
        have hck9 := hck.trans hc9 (fun _ _ h => h.elim)
        go_wp2_with fail
        refine (same_any hS9 hX9 hG).mono ?_
        rintro e wz ⟨rfl, hcz⟩
        go_wp2_with fail
        go_ret
        exact ⟨rfl, (hck9.trans hcz (fun _ _ h => h.elim)).mono (fun i hi h => by omega)⟩

theorem stockPlays_walk (w : World) (C O : Int) (ad : Option Addr) (cap : Nat) (l : List SOp) (hl : SopsIn w ad l) :
    Calls Try.prog 9 #[.agg #[.int .i64 C, .int .i64 O], .slice ad l.length cap] w fun e w' => e = .returned (.bool true) ∧ Chg (fun _ => False) w w' := by
  cases hmay : mayStk C O with
  | false => exact stockPlays_no w C O ad cap l hmay
  | true => exact stockPlays_yes w C O ad cap l hl hmay
end Go.Proofs.Ytihfcfpkffebiaa
