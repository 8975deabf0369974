/-
  layer 13: TillPlays, its walk.
-/
import Derived.Test.YtddnpjlcmokbiaaRTillK
import Derived.Test.YtddnpjlcmokbiaaTillT
import Derived.Test.YtddnpjlcmokbiaaZRegionG
import Derived.Test.YtddnpjlcmokbiaaInts
import Derived.Deep.DeepCutAuto
import Derived.Deep.CutBlock
namespace Go.Proofs.Ytddnpjlcmokbiaa
open Go.RowKit Go.Maps

theorem TillW.keepX {S T : Nat → Prop} {w w' : World} {b : Nat} {p : Pur} {f : Tab} (h : TillW S w b p f) (hc : Chg T w w') (hd : ∀ i, S i → ¬ T i) : TillW S w' b p f := by
  obtain ⟨lb, mb, lv, t, mt, h1, h2, h3, h4, a1, a2, a3, a4, a5, a6⟩ := h
  exact ⟨lb, mb, lv, t, mt, h1.chg hc (hd _ a1), h2.chg hc (hd _ a2) (hd _ a3) (fun k hk => hd _ (a4 k hk)), h3.chg hc (hd _ a5) (hd _ a6), h4, a1, a2, a3, a4, a5, a6⟩
theorem info_size35 : (Try.prog.info? 48).map (·.size) = some 1012 := by kernel_rfl
theorem row_slice {w : World} {base e size n : Nat} {v : Value} {xs : List Value} (h : w.ownsRow base e size v n xs) : ∃ cap ad, v = .slice ad n cap := by
  rcases h.2 with ⟨h1, h⟩ | ⟨g, cp, _, h1, _⟩
  · exact ⟨_, _, by rw [h1, h]⟩
  · exact ⟨_, _, h1⟩
theorem notW {b : Bool} {p : Prop} (h : b = false) : b = true → p := fun e => by rw [h] at e; cases e

set_option maxRecDepth 100000 in
set_option maxHeartbeats 2000000 in
theorem tilp_no (w : World) (a b c d : Int) (ad : Option Addr) (cap : Nat) (l : List POp) (hmay : (inF a && inF b && inF c && inF d) = false) :
    Calls Try.prog 4 #[.agg #[.int .i64 a, .int .i64 b, .int .i64 c, .int .i64 d], .slice ad l.length cap] w fun e w' => e = .returned (.bool true) ∧ Chg (fun _ => False) w w' := by
  have hB0 := Blk.new w 22 #[.int .i64 a, .int .i64 b, .int .i64 c, .int .i64 d]
  have hcB := (Chg.refl (fun _ => False) w).alloc (.cells #[.int .i64 a, .int .i64 b, .int .i64 c, .int .i64 d] 22)
  have hmh := Lib.hid hmay
  clear hmay
  go_enter Try.func4, Try.ntmps4
  go_wp2_with fail
  refine (tillNew_no _ a b c d hmh.out).mono ?_
  rintro e w1 ⟨rfl, hc1⟩
  have hB1 := hB0.chg hc1 id
  have a0 : w1.cell? ⟨w.heap.size, 0, none⟩ = some (.int .i64 a) := by rw [hB1.cell]; rfl
  have a1 : w1.cell? ⟨w.heap.size, 1, none⟩ = some (.int .i64 b) := by rw [hB1.cell]; rfl
  have a2 : w1.cell? ⟨w.heap.size, 2, none⟩ = some (.int .i64 c) := by rw [hB1.cell]; rfl
  have a3 : w1.cell? ⟨w.heap.size, 3, none⟩ = some (.int .i64 d) := by rw [hB1.cell]; rfl
  have hck := hcB.trans hc1 (fun _ _ h => h)
  go_wp2_with fail
  refine (funds_any _ a b c d).mono ?_
  rintro e w2 ⟨rfl, hc2⟩
  rw [hmh.out]
  go_wp2_with fail
  refine (told13 _).mono ?_
  rintro e w3 ⟨rfl, hc3⟩
  go_wp2_with fail
  go_ret
  exact ⟨rfl, (hck.trans hc2 (fun _ _ h => h)).trans hc3 (fun _ _ h => h)⟩

set_option maxRecDepth 100000 in
set_option maxHeartbeats 4000000 in
theorem tilp_yes (w : World) (f : Int → Int) (hf : ∀ i, 0 ≤ i → i ≤ 3 → 0 ≤ f i ∧ f i ≤ 1099511627776) (ad : Option Addr) (cap : Nat) (l : List POp) (hl : OpsIn w ad l) :
    Calls Try.prog 4 #[fundsVal f, .slice ad l.length cap] w fun e w' => e = .returned (.bool true) ∧ Chg (fun _ => False) w w' := by
  have hmx := hl.len
  unfold maxLen at hmx
  have hB0 := Blk.new w 22 #[.int .i64 (f 0), .int .i64 (f 1), .int .i64 (f 2), .int .i64 (f 3)]
  have hcB := (Chg.refl (fun _ => False) w).alloc (.cells #[.int .i64 (f 0), .int .i64 (f 1), .int .i64 (f 2), .int .i64 (f 3)] 22)
  have hf0 := hf 0 (by omega) (by omega)
  have hf1 := hf 1 (by omega) (by omega)
  have hf2 := hf 2 (by omega) (by omega)
  have hf3 := hf 3 (by omega) (by omega)
  have hG0 : (Pur.new f).Good (f 0 + f 1 + f 2 + f 3) := Pur.new_good fun i h1 h2 => (hf i h1 h2).1
  obtain ⟨T, hT⟩ : ∃ T, f 0 + f 1 + f 2 + f 3 = T := ⟨_, rfl⟩
  have hT2 : T ≤ 1125899906842624 := by omega
  rw [hT] at hG0
  have hmh := Lib.hid (show (inF (f 0) && inF (f 1) && inF (f 2) && inF (f 3)) = true by
    simp [inF, hf0, hf1, hf2, hf3])
  clear hT hf0 hf1 hf2 hf3
  go_enter Try.func4, Try.ntmps4
  unfold fundsVal
  go_wp2_with fail
  refine (tillNew _ f hf).mono ?_
  rintro e w1 ⟨b, rfl, hW1, hc1⟩
  have hz1 := hcB.size
  have hW1 := hW1.here.mono (S' := fun i => w.heap.size ≤ i ∧ i < w1.heap.size) (fun i hi => ⟨Nat.le_trans hz1 hi.1, hi.2⟩)
  have hB1 := hB0.chg hc1 id
  have hck1 := hcB.trans hc1 (fun _ _ h => h)
  have a0 : w1.cell? ⟨w.heap.size, 0, none⟩ = some (.int .i64 (f 0)) := by rw [hB1.cell]; rfl
  have a1 : w1.cell? ⟨w.heap.size, 1, none⟩ = some (.int .i64 (f 1)) := by rw [hB1.cell]; rfl
  have a2 : w1.cell? ⟨w.heap.size, 2, none⟩ = some (.int .i64 (f 2)) := by rw [hB1.cell]; rfl
  have a3 : w1.cell? ⟨w.heap.size, 3, none⟩ = some (.int .i64 (f 3)) := by rw [hB1.cell]; rfl
  clear hB0 hcB hc1 hz1
  go_wp2_with fail
  clear a0 a1 a2 a3
  refine (funds_any _ (f 0) (f 1) (f 2) (f 3)).mono ?_
  rintro e w2 ⟨rfl, hc2⟩
  rw [hmh.out]
  have hB2 := hB1.chg hc2 id
  have hz2 := hc2.size
  have hW2 := (hW1.keep hc2).mono (S' := fun i => w.heap.size ≤ i ∧ i < w2.heap.size) (fun i hi => ⟨hi.1, Nat.lt_of_lt_of_le hi.2 hz2⟩)
  have hck2 := hck1.trans hc2 (fun _ _ h => h)
  have a0 : w2.cell? ⟨w.heap.size, 0, none⟩ = some (.int .i64 (f 0)) := by rw [hB2.cell]; rfl
  have a1 : w2.cell? ⟨w.heap.size, 1, none⟩ = some (.int .i64 (f 1)) := by rw [hB2.cell]; rfl
  have a2 : w2.cell? ⟨w.heap.size, 2, none⟩ = some (.int .i64 (f 2)) := by rw [hB2.cell]; rfl
  have a3 : w2.cell? ⟨w.heap.size, 3, none⟩ = some (.int .i64 (f 3)) := by rw [hB2.cell]; rfl
  clear hB1 hck1 hc2 hW1 hz2
  go_wp2_with fail
  clear a0 a1 a2 a3
  refine (rq_new w2 f).mono ?_
  rintro e w3 ⟨X0, rfl, hQ, hc3, hX0⟩
  have hck3 := hck2.trans hc3 (fun _ _ h => h)
  have hW3 := hW2.keep hc3
  have hz0 := hc3.size
  unfold QBlk Blk at hQ
  rw [show RP.n = 1012 from rfl] at hQ
  obtain ⟨AR, hAe⟩ : ∃ AR, arrF 1012 (qovl RP.g (Pur.new f).ac (Pur.new f).en (.slice none 0 0)) = AR := ⟨_, rfl⟩
  rw [hAe] at hQ
  have hAs : AR.size = 1012 := by rw [← hAe]; exact arrF_size _ _
  have hsz : (Try.prog.info? 48).map (·.size) = some AR.size := by rw [hAs]; exact info_size35
  have hAeh := Lib.hid hAe
  clear hAe hB2
  go_upto_block 0 with (refine wpList_load_row rfl 48 _ rfl X0 rfl 48 AR (0, 0) _ hQ Try.underlying48 rfl hsz ?_)
  rw [rl_fold _ _ _ AR hAeh.out]
  have hX : RTillAt (w3.alloc (.cells (arrF 2420 (rlCell (Pur.new f).ac (Pur.new f).en (.slice none 0 0) (fun _ => 0) 0)) 54)) w3.heap.size (.slice none 0 0) (Pur.new f) (fun _ => 0) ((tkeys (fun _ => 0)).length : Int) := by
    have h0 : ((tkeys (fun _ => 0)).length : Int) = 0 := by
      rw [show tkeys (fun _ => 0) = [] from by unfold tkeys; rw [List.filter_eq_nil_iff]; intro a _; simp]
      rfl
    rw [h0]
    exact ⟨Blk.new w3 _ _, ⟨rfl, .inl ⟨rfl, rfl⟩⟩⟩
  have hcX := (Chg.refl (fun _ => False) w3).alloc (.cells (arrF 2420 (rlCell (Pur.new f).ac (Pur.new f).en (.slice none 0 0) (fun _ => 0) 0)) 54)
  have hW4 := hW3.keep hcX
  have hck4 := hck3.trans hcX (fun _ _ h => h)
  have hzX : w.heap.size ≤ w3.heap.size := hck3.size
  have hW4 := hW4.mono (S' := fun i => w.heap.size ≤ i ∧ i ≠ w3.heap.size ∧ (Value.slice none 0 0).ownBlock ≠ some i) (fun i hi => ⟨hi.1, by omega, by simp [Value.ownBlock]⟩)
  have hck4 := hck4.mono (T := fun i => w.heap.size ≤ i) (fun _ _ h => h.elim)
  have hlo : ∀ k, (Value.slice none 0 0).ownBlock = some k → w.heap.size ≤ k := by intro k hk; simp [Value.ownBlock] at hk
  have hA0 : Ans (fun _ => 0) := fun _ => .inl rfl
  have hln0 : (Pur.new f).ln.length ≤ 0 := Nat.le_refl _
  clear hQ hAs hsz hAeh hcX hW3 hck3 hW2 hck2 hc3 hX0 hz0
  generalize w3.alloc (.cells (arrF 2420 (rlCell (Pur.new f).ac (Pur.new f).en (.slice none 0 0) (fun _ => 0) 0)) 54) = w4 at *
  generalize w3.heap.size = X at *
  generalize Value.slice none 0 0 = lv0 at *
  generalize Pur.new f = p0 at *
  generalize (fun _ => 0 : Tab) = f0 at *
  go_cut [8] (fun _ wx => ∃ (lv : Value) (p : Pur) (g : Tab), TillW (fun i => w.heap.size ≤ i ∧ i ≠ X ∧ lv.ownBlock ≠ some i) wx b p g ∧ RTillAt wx X lv p g (tkeys g).length ∧ p.Good T ∧ p.ln.length ≤ 60 ∧ Ans g ∧ Chg (fun i => w.heap.size ≤ i) w wx)
  case first =>
    go_wp2_with fail
    go_loopw [8] (fun v8 wr => ∃ (k : Nat) (lv : Value) (p : Pur) (g : Tab), v8 = .int .i64 k ∧ k ≤ l.length ∧ k ≤ 60 ∧ TillW (fun i => w.heap.size ≤ i ∧ i ≠ X ∧ lv.ownBlock ≠ some i) wr b p g ∧ RTillAt wr X lv p g (tkeys g).length ∧ (∀ k, lv.ownBlock = some k → w.heap.size ≤ k) ∧ p.Good T ∧ p.ln.length ≤ k ∧ Ans g ∧ Chg (fun i => w.heap.size ≤ i) w wr) (fun v8 _ => 60 - (RowKit.intOf v8).toNat)
    case atStart => exact ⟨0, lv0, p0, f0, rfl, Nat.zero_le _, Nat.zero_le _, hW4, hX, hlo, hG0, hln0, hA0, hck4⟩
    case round =>
      clear hW4 hX hlo hG0 hln0 hA0 hck4
      obtain ⟨k, lv, p, g, rfl, hk1, hk2, hW, hX, hlo, hG, hln, hA, hck⟩ := hrel
      by_cases hlt : k < l.length ∧ k < 60
      · obtain ⟨hlt1, hlt2⟩ := hlt
        have hcF : Chg (fun _ => False) w wr := hck.mono (fun i hi h => by omega)
        obtain ⟨o, ho⟩ : ∃ o, l[k]? = some o := ⟨_, List.getElem?_eq_getElem hlt1⟩
        obtain ⟨a, rfl, hab, hat⟩ := (hl.chg hcF (fun i _ h => h)).at_ k o ho
        have g0 : wr.cell? (a.add (k * 5)) = some (.int .i64 o.kd) := hat 0 _ rfl
        have g1 : wr.cell? ⟨(a.add (k * 5)).block, (a.add (k * 5)).off + 1, none⟩ = some (.int .i64 o.bk) := hat 1 _ rfl
        have g2 : wr.cell? ⟨(a.add (k * 5)).block, (a.add (k * 5)).off + 2, none⟩ = some (.int .i64 o.un) := hat 2 _ rfl
        have g3 : wr.cell? ⟨(a.add (k * 5)).block, (a.add (k * 5)).off + 3, none⟩ = some (.int .i64 o.cu) := hat 3 _ rfl
        have g4 : wr.cell? ⟨(a.add (k * 5)).block, (a.add (k * 5)).off + 4, none⟩ = some (.int .i64 o.am) := hat 4 _ rfl
        clear hat
        obtain ⟨r1, n1, p1, f1, ha1⟩ : ∃ r n p' f', tAsk p g o = (r, n, p', f') := ⟨_, _, _, _, rfl⟩
        have hah := Lib.hid ha1
        have hG1 := tAsk_good (f := g) hG o
        have hln1 := tAsk_len p g o
        have hcnt := tAsk_cnt hW.keys ha1
        have hA1 := tAsk_ans hA ha1
        rw [ha1] at hG1 hln1
        dsimp only at hG1 hln1
        clear ha1
        have hcnth := Lib.hid hcnt
        clear hcnt
        have hkl := tkeys_len g
        have hkl1 := tkeys_len f1
        have hxl := Blk.lt hX.blk
        have hol := own_lt0 hX.own
        have hWh := hW.here
        go_wp2_with fail
        refine (ask_any _ wr b p g o T hWh hG hT2 (by omega) r1 n1 p1 f1 hah.out).mono ?_
        rintro e w2 ⟨rfl, hW2, hc2⟩
        have hX2 := hX.chg hc2 (fun h => h.1.2.1 rfl) (fun k hk h => h.1.2.2 hk)
        have hck2 := hck.trans hc2 (fun i _ h => h.1.1)
        have hzz := hck.size
        have hW2 := hW2.mono (S' := fun i => w.heap.size ≤ i ∧ i ≠ X ∧ lv.ownBlock ≠ some i) (fun i h => by
          rcases h with h | h
          · exact h.1
          · exact ⟨by omega, by omega, fun e => by have := hol i e; omega⟩)
        have hcF2 : Chg (fun _ => False) w w2 := hck2.mono (fun i hi h => by omega)
        obtain ⟨a2, ha2, hab2, hat2⟩ := (hl.chg hcF2 (fun i _ h => h)).at_ k o ho
        injection ha2 with ha2
        subst ha2
        clear g0 g1 g2 g3 g4 hW hX hck hcF hWh hol hxl
        have g0 : w2.cell? (a.add (k * 5)) = some (.int .i64 o.kd) := hat2 0 _ rfl
        have g1 : w2.cell? ⟨(a.add (k * 5)).block, (a.add (k * 5)).off + 1, none⟩ = some (.int .i64 o.bk) := hat2 1 _ rfl
        have g2 : w2.cell? ⟨(a.add (k * 5)).block, (a.add (k * 5)).off + 2, none⟩ = some (.int .i64 o.un) := hat2 2 _ rfl
        have g3 : w2.cell? ⟨(a.add (k * 5)).block, (a.add (k * 5)).off + 3, none⟩ = some (.int .i64 o.cu) := hat2 3 _ rfl
        have g4 : w2.cell? ⟨(a.add (k * 5)).block, (a.add (k * 5)).off + 4, none⟩ = some (.int .i64 o.am) := hat2 4 _ rfl
        clear hat2 hcF2 hab hab2
        go_wp2_with fail
        refine (rlask_any hX2 hG hT2 (by omega) o (by omega) (by omega) r1 n1 p1 f1 hah.out).mono ?_
        rw [← hcnth.out]
        rintro e w3 ⟨rfl, lv3, hX3, hc3, hl3⟩
        have hzz2 := hck2.size
        have hW3 : TillW (fun i => w.heap.size ≤ i ∧ i ≠ X ∧ lv3.ownBlock ≠ some i) w3 b p1 f1 := (hW2.here.keepX hc3 (fun i hi h => by
          rcases h with h | h
          · exact hi.1.2.1 h
          · exact hi.1.2.2 h)).mono (fun i hi => ⟨hi.1.1, hi.1.2.1, fun e => by
          rcases hl3 with h | ⟨k', h, h'⟩
          · exact hi.1.2.2 (by rw [← h]; exact e)
          · rw [h] at e
            injection e with e
            have := hi.2
            omega⟩)
        have hlo3 : ∀ k, lv3.ownBlock = some k → w.heap.size ≤ k := by
          intro k' hk'
          rcases hl3 with h | ⟨k2, h, h'⟩
          · exact hlo k' (by rw [← h]; exact hk')
          · rw [h] at hk'
            injection hk' with hk'
            omega
        have hck3 := hck2.trans hc3 (fun i _ h => by
          rcases h with h | h
          · rw [h]; exact hzX
          · exact hlo i h)
        have cN : w3.drew.cell? ⟨X, 2419, none⟩ = some (.int .i64 (tkeys f1).length) := hX3.table.cnt
        have hcD := (Chg.refl (fun _ => False) w3).drew
        have hW4 := hW3.keep hcD
        have hX4 := hX3.chg hcD id (fun _ _ => id)
        have hck4 := hck3.trans hcD (fun _ _ h => h.elim)
        clear g0 g1 g2 g3 g4 hW2 hX2 hck2 hc2 hc3 hl3 hlo hcnth hah hW3 hX3 hck3 hzz hzz2
        cases n1
        all_goals
          go_wp2_with fail
          refine wp_region_plan (by kernel_rfl) [{ fl := [0, 1, 2, 3, 4, 5, 6, 7, 8, 9, 11, 12, 13, 14, 15], long := [6, 15], ef := 10, keep := [15] }] [16, 17] (by kernel_rfl) (fun _ w9 => w9.cell? ⟨X, 2419, none⟩ = some (.int .i64 (tkeys f1).length)) ?_
          simp only [wpPlan, longOK, keepOK, opsAt_cons, opsAt_nil, consO_some, List.getElem?_toArray, List.getElem?_cons_succ, List.getElem?_cons_zero, and_true, true_and]
          refine ⟨⟨cN, cN⟩, ?_⟩
          go_wp2_with fail
          refine ⟨by kernel_rfl, ⟨?_, ?_⟩, ?_⟩
          · intro _ w9 h9
            go_simp
          · intro _ w9 h9
            go_simp
          go_wp2_with fail
          refine (till_ans hW4).mono ?_
          rintro e w5 ⟨rfl, rfl⟩
          go_wp2_with fail
          refine ⟨cN, ?_⟩
          go_wp2_with fail
          refine ⟨by kernel_rfl, ?_⟩
          go_wp2_with fail
          go_roundw
          case rel => exact ⟨k + 1, lv3, p1, f1, by go_num, by omega, by omega, hW4, hX4, hlo3, hG1, by omega, hA1, hck4⟩
          case measure => simp [RowKit.intOf]; omega
      · go_wp2_with fail
        all_goals
          go_meet
          case rel => exact ⟨lv, p, g, hW, hX, hG, by omega, hA, hck⟩
  case rest =>
    clear hW4 hX hlo hG0 hln0 hA0 hck4
    obtain ⟨lv, p, g, hW, hX, hG, hln, hA, hck⟩ := hcut
    go_wp2_with fail
    refine (till_purse hW (by omega)).mono ?_
    rintro e w2 ⟨b2, rfl, hP2, hc2⟩
    have hW2 := hW.here.keep hc2
    have hX2 := hX.chg hc2 id (fun _ _ => id)
    have hck2 := hck.trans hc2 (fun _ _ h => h.elim)
    have hXlc := Blk.lt hX.blk
    have hlvc := Lib.hid (own_lt0 hX.own)
    have hzc := hck.size
    obtain ⟨cpx, adx, hlx⟩ := row_slice hX2.own
    clear hW hX hck hc2
    subst hlx
    have hXl := Blk.lt hX2.blk
    have hne : b2 ≠ X := by
      obtain ⟨mb, lv2, hPA, _⟩ := hP2
      exact Blk.ne hPA.blk hX2.blk (by decide)
    go_wp2_with fail
    have hcD := (Chg.refl (fun _ => False) w2).drew
    refine wp_region_planX (by kernel_rfl) [0, 1, 3, 7, 15, 31, 7, 95, 255, 511, 1023, 2047, 4095, 8191, 2047, 18431, 51199, 122879, 262143, 524287, 1048575, 2097151, 4194303, 8388607, 2097151, 18874367, 52428799, 119537663, 253755391, 522190847, 1073741823, 2147483647] [{ fl := [0, 1, 2, 3, 6], ef := 4 }, { fl := [5], long := [5], ef := 7, keep := [5] }, { fl := [8, 9, 10, 11, 14, 15, 16], long := [8], ef := 12 }, { fl := [13], long := [13], ef := 17, keep := [13] }, { fl := [18, 19, 20, 21, 24, 25, 26, 27, 28, 29], long := [18, 28, 29], ef := 22, keep := [28, 29] }, { fl := [23, 30], long := [23], ef := 31 }] [] (by kernel_rfl) ?_
    intro opsF hF
    have hW3 := hW2.keep hcD
    have hX3 := hX2.chg hcD id (fun _ _ => id)
    have hP3 := hP2.keep0 hcD
    have hck3 := hck2.trans hcD (fun _ _ h => h.elim)
    have hXl3 : X < w2.drew.heap.size := hXl
    clear hW2 hX2 hP2 hck2 hcD hXl
    generalize w2.drew = w3 at *
    refine wpPlanX_cons (fun _ _ => True) (by simp [keepOK]) ?_
    simp only [longOKN, keepOK, opsAt_cons, opsAt_nil, consO_some, List.getElem?_toArray, List.getElem?_cons_succ, List.getElem?_cons_zero, and_true, true_and]
    go_wp2_with fail
    refine ⟨by rw [hF.out]; kernel_rfl, ?_⟩
    go_wp2_with fail
    refine (till_bytesG hW3 hG hT2 hA).mono ?_
    rintro e w4 ⟨gb, nb1, cb1, rfl, hgl, hcv, hc4⟩
    have hcv4 := hcv w4 rfl
    obtain ⟨ob, hob⟩ : ∃ ob, w4.heap[gb]? = ob := ⟨_, rfl⟩
    rw [hob] at hcv
    have hcvh := Lib.hid hcv
    have hobh := Lib.hid hob
    clear hcv hob
    have hW4 := hW3.keep hc4
    have hX4 := hX3.chg hc4 id (fun _ _ => id)
    have hP4 := hP3.keep0 hc4
    have hck4 := hck3.trans hc4 (fun _ _ h => h.elim)
    have hz4 := hc4.size
    clear hW3 hX3 hP3 hck3 hc4
    go_wp2_with fail
    refine wpPlanX_cons (fun _ (w9 : World) => w9.heap[gb]? = ob) ⟨hobh.out, trivial⟩ ?_
    simp only [longOKN, keepOK, opsAt_cons, opsAt_nil, consO_some, List.getElem?_toArray, List.getElem?_cons_succ, List.getElem?_cons_zero, and_true, true_and]
    go_wp2_with fail
    refine ⟨by rw [hF.out]; kernel_rfl, ?_, ?_⟩
    · intro _ w9 h9
      have hcv9 := hcvh.out w9 h9
      clear h9 hF
      go_simp
    go_wp2_with fail
    refine (rl_bytes hX4 hG hT2 hA rfl).mono ?_
    rintro e w5 ⟨rfl, hc5⟩
    have hgk := (hc5.block gb hgl id).trans hobh.out
    have hW5 := hW4.keep hc5
    have hX5 := hX4.chg hc5 id (fun _ _ => id)
    have hP5 := hP4.keep0 hc5
    have hck5 := hck4.trans hc5 (fun _ _ h => h.elim)
    have hz5 := hc5.size
    clear hW4 hX4 hP4 hck4 hc5 hcvh hcv4 hgl
    go_wp2_with fail
    refine ⟨hgk, ?_⟩
    clear hgk
    refine wpPlanX_cons (fun _ _ => True) (by simp [keepOK]) ?_
    simp only [longOKN, keepOK, opsAt_cons, opsAt_nil, consO_some, List.getElem?_toArray, List.getElem?_cons_succ, List.getElem?_cons_zero, and_true, true_and]
    go_wp2_with fail
    refine ⟨by rw [hF.out]; kernel_rfl, ?_, ?_⟩
    · intro _ w9 _
      clear hF
      go_simp
    go_wp2_with fail
    obtain ⟨mb2, lv2, hPA, hq1, hq2, hq3⟩ := hP5
    refine (pur_bytesG hPA hG hT2).mono ?_
    rintro e w6 ⟨gc, nb2, cb2, rfl, hgl2, hcv, hc6⟩
    have hcv6 := hcv w6 rfl
    obtain ⟨oc, hoc⟩ : ∃ oc, w6.heap[gc]? = oc := ⟨_, rfl⟩
    rw [hoc] at hcv
    have hcvh := Lib.hid hcv
    have hoch := Lib.hid hoc
    clear hcv hoc
    have hW6 := hW5.keep hc6
    have hX6 := hX5.chg hc6 id (fun _ _ => id)
    have hPA6 := hPA.chg hc6 id id (fun _ _ => id)
    have hck6 := hck5.trans hc6 (fun _ _ h => h.elim)
    have hz6 := hc6.size
    clear hW5 hX5 hPA hck5 hc6
    go_wp2_with fail
    refine wpPlanX_cons (fun _ (w9 : World) => w9.heap[gc]? = oc) ⟨hoch.out, trivial⟩ ?_
    simp only [longOKN, keepOK, opsAt_cons, opsAt_nil, consO_some, List.getElem?_toArray, List.getElem?_cons_succ, List.getElem?_cons_zero, and_true, true_and]
    go_wp2_with fail
    refine ⟨by rw [hF.out]; kernel_rfl, ?_, ?_⟩
    · intro _ w9 h9
      have hcv9 := hcvh.out w9 h9
      clear h9 hF
      go_simp
    go_wp2_with fail
    refine (rq_bytes hX6.purse.blk hG hT2).mono ?_
    rintro e w7 ⟨rfl, hc7⟩
    have hgk := (hc7.block gc hgl2 id).trans hoch.out
    have hW7 := hW6.keep hc7
    have hX7 := hX6.chg hc7 id (fun _ _ => id)
    have hPA7 := hPA6.chg hc7 id id (fun _ _ => id)
    have hck7 := hck6.trans hc7 (fun _ _ h => h.elim)
    have hz7 := hc7.size
    clear hW6 hX6 hPA6 hck6 hc7 hcvh hcv6 hoch
    go_wp2_with fail
    refine ⟨hgk, ?_⟩
    clear hgk
    have cL : w7.cell? ⟨X, 1011, none⟩ = some (.slice adx p.ln.length cpx) := hX7.purse.blk.lin
    refine wpPlanX_cons (fun _ (w9 : World) => w9.cell? ⟨X, 1011, none⟩ = some (.slice adx p.ln.length cpx)) ⟨cL, cL, cL, trivial⟩ ?_
    simp only [longOKN, keepOK, opsAt_cons, opsAt_nil, consO_some, List.getElem?_toArray, List.getElem?_cons_succ, List.getElem?_cons_zero, and_true, true_and]
    go_wp2_with fail
    refine ⟨by rw [hF.out]; kernel_rfl, ⟨?_, ?_, ?_⟩, ?_⟩
    · intro _ w9 _
      clear hF
      go_simp
    · intro _ w9 h9
      clear hF
      go_simp
    · intro _ w9 h9
      clear hF
      go_simp
    go_wp2_with fail
    refine (lines_any w7 b2 mb2 lv2 p hPA7 (by omega)).mono ?_
    rintro e w8 ⟨v2, rfl, hrow, hc8, hown⟩
    obtain ⟨cpy, ady, rfl⟩ := row_slice hrow
    have hW8 := hW7.keep hc8
    have hX8 := hX7.chg hc8 id (fun _ _ => id)
    have hPA8 := hPA7.chg hc8 id id (fun _ _ => id)
    have hck8 := hck7.trans hc8 (fun _ _ h => h.elim)
    have hz8 := hc8.size
    have cL8 : w8.cell? ⟨X, 1011, none⟩ = some (.slice adx p.ln.length cpx) := hX8.purse.blk.lin
    clear hW7 hX7 hPA7 hck7 hc8 hrow hown cL
    go_wp2_with fail
    refine ⟨⟨cL8, cL8⟩, ?_⟩
    refine wpPlanX_cons (fun _ _ => True) (by simp [keepOK]) ?_
    simp only [longOKN, keepOK, opsAt_cons, opsAt_nil, consO_some, List.getElem?_toArray, List.getElem?_cons_succ, List.getElem?_cons_zero, and_true, true_and]
    go_wp2_with fail
    refine ⟨by rw [hF.out]; kernel_rfl, ?_, ?_⟩
    · intro _ w9 _
      clear hF
      go_simp
    go_wp2_with fail
    refine wpPlanX_nil ?_
    simp only [longOKN, keepOK, opsAt_cons, opsAt_nil, consO_some, List.getElem?_toArray, List.getElem?_cons_succ, List.getElem?_cons_zero, and_true, true_and]
    go_wp2_with fail
    refine ⟨by rw [hF.out]; kernel_rfl, ?_⟩
    go_wp2_with fail
    refine (do_any w8 b2 mb2 lv2 p ⟨6, 1, 0, 0, 0⟩ T hPA8 hG hT2 (by omega)).mono ?_
    rintro e w9 ⟨rfl, lv9, _, hc9, _⟩
    have hW9 := hW8.keepX hc9 (fun i hi h => by
      rcases h with h | h | h
      · omega
      · omega
      · have := hq3 i h; omega)
    have hX9 := hX8.chg hc9 (fun h => by
      rcases h with h | h | h
      · omega
      · omega
      · have := hq3 _ h; omega) (fun k hk h => by
      have hk2 := hlvc.out k hk
      rcases h with h | h | h
      · omega
      · omega
      · have := hq3 _ h; omega)
    have hck9 := hck8.trans hc9 (fun i _ h => by
      rcases h with h | h | h
      · omega
      · omega
      · have := hq3 _ h; omega)
    clear hW8 hX8 hPA8 hck8 hc9 cL8
    go_wp2_with fail
    have hcD := (Chg.refl (fun _ => False) w9).drew
    refine wp_region_planX (by kernel_rfl) [0, 1, 3, 7, 15, 3, 47, 127, 255, 511] [{ fl := [], ef := 0 }, { fl := [1, 2, 5], ef := 3 }, { fl := [4], long := [4], ef := 6, keep := [4] }, { fl := [7, 8], long := [7], ef := 9 }] [] (by kernel_rfl) ?_
    intro opsF hF
    refine wpPlanX_cons (fun _ _ => True) (by simp [keepOK]) ?_
    simp only [longOKN, keepOK, opsAt_cons, opsAt_nil, consO_some, List.getElem?_toArray, List.getElem?_cons_succ, List.getElem?_cons_zero, and_true, true_and]
    go_wp2_with fail
    refine ⟨by rw [hF.out]; kernel_rfl, ?_⟩
    go_wp2_with fail
    refine (told13 _).mono ?_
    rintro e wa ⟨rfl, hca⟩
    have hca := hcD.trans hca (fun _ _ h => h)
    have hWa := hW9.keep hca
    have hXa := hX9.chg hca id (fun _ _ => id)
    have hcka := hck9.trans hca (fun _ _ h => h.elim)
    clear hW9 hX9 hck9 hca hcD
    go_wp2_with fail
    refine wpPlanX_cons (fun _ _ => True) (by simp [keepOK]) ?_
    simp only [longOKN, keepOK, opsAt_cons, opsAt_nil, consO_some, List.getElem?_toArray, List.getElem?_cons_succ, List.getElem?_cons_zero, and_true, true_and]
    go_wp2_with fail
    refine ⟨by rw [hF.out]; kernel_rfl, ?_⟩
    go_wp2_with fail
    refine (till_bytesG hWa hG hT2 hA).mono ?_
    rintro e wb ⟨gd, nb3, cb3, rfl, hgl3, hcv, hcb⟩
    have hcvb := hcv wb rfl
    obtain ⟨od, hod⟩ : ∃ od, wb.heap[gd]? = od := ⟨_, rfl⟩
    rw [hod] at hcv
    have hcvh := Lib.hid hcv
    have hodh := Lib.hid hod
    clear hcv hod
    have hXb := hXa.chg hcb id (fun _ _ => id)
    have hckb := hcka.trans hcb (fun _ _ h => h.elim)
    clear hWa hXa hcka hcb
    go_wp2_with fail
    refine wpPlanX_cons (fun _ (w9 : World) => w9.heap[gd]? = od) ⟨hodh.out, trivial⟩ ?_
    simp only [longOKN, keepOK, opsAt_cons, opsAt_nil, consO_some, List.getElem?_toArray, List.getElem?_cons_succ, List.getElem?_cons_zero, and_true, true_and]
    go_wp2_with fail
    refine ⟨by rw [hF.out]; kernel_rfl, ?_, ?_⟩
    · intro _ w9 h9
      have hcv9 := hcvh.out w9 h9
      clear h9 hF
      go_simp
    go_wp2_with fail
    refine (rl_bytes hXb hG hT2 hA rfl).mono ?_
    rintro e wz ⟨rfl, hcz⟩
    have hgk := (hcz.block gd hgl3 id).trans hodh.out
    have hckz := hckb.trans hcz (fun _ _ h => h.elim)
    clear hXb hckb hcz hcvh hcvb hodh
    go_wp2_with fail
    refine ⟨hgk, ?_⟩
    clear hgk
    refine wpPlanX_cons (fun _ _ => True) (by simp [keepOK]) ?_
    simp only [longOKN, keepOK, opsAt_cons, opsAt_nil, consO_some, List.getElem?_toArray, List.getElem?_cons_succ, List.getElem?_cons_zero, and_true, true_and]
    go_wp2_with fail
    refine ⟨by rw [hF.out]; kernel_rfl, ?_, ?_⟩
    · intro _ w9 _
      clear hF
      go_simp
    go_wp2_with fail
    refine wpPlanX_nil ?_
    simp only [longOKN, keepOK, opsAt_cons, opsAt_nil, consO_some, List.getElem?_toArray, List.getElem?_cons_succ, List.getElem?_cons_zero, and_true, true_and]
    go_wp2_with fail
    refine ⟨by rw [hF.out]; kernel_rfl, ?_⟩
    go_wp2_with fail
    go_ret
    exact ⟨rfl, hckz.mono (fun i hi h => by omega)⟩

theorem tilp_walk (w : World) (a b c d : Int) (ad : Option Addr) (cap : Nat) (l : List POp) (hl : OpsIn w ad l) :
    Calls Try.prog 4 #[.agg #[.int .i64 a, .int .i64 b, .int .i64 c, .int .i64 d], .slice ad l.length cap] w fun e w' => e = .returned (.bool true) ∧ Chg (fun _ => False) w w' := by
  cases hm : (inF a && inF b && inF c && inF d) with
  | false => exact tilp_no w a b c d ad cap l hm
  | true =>
    have h := tilp_yes w (fun i => if i = 0 then a else if i = 1 then b else if i = 2 then c else d) (by
      simp [inF] at hm
      intro i h0 h3
      have : i = 0 ∨ i = 1 ∨ i = 2 ∨ i = 3 := by omega
      rcases this with rfl | rfl | rfl | rfl <;> simp <;> omega) ad cap l hl
    exact h
end Go.Proofs.Ytddnpjlcmokbiaa
