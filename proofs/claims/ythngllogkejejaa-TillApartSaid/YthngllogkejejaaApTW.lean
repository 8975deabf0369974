/-
  layer 13: TillApart, its walk.
-/
import Derived.Test.YthngllogkejejaaApTP
import Derived.Test.YthngllogkejejaaRTillA
import Derived.Test.YthngllogkejejaaRPurN
import Derived.Test.YthngllogkejejaaRTillN
import Derived.Test.YthngllogkejejaaTillT
import Derived.Test.YthngllogkejejaaInts
namespace Go.Proofs.Ythngllogkejejaa
open Go.RowKit Go.Maps

theorem TillW.keepX {S T : Nat → Prop} {w w' : World} {b : Nat} {p : Pur} {f : Tab} (h : TillW S w b p f) (hc : Chg T w w') (hd : ∀ i, S i → ¬ T i) : TillW S w' b p f := by
  obtain ⟨lb, mb, lv, t, mt, h1, h2, h3, h4, a1, a2, a3, a4, a5, a6⟩ := h
  exact ⟨lb, mb, lv, t, mt, h1.chg hc (hd _ a1), h2.chg hc (hd _ a2) (hd _ a3) (fun k hk => hd _ (a4 k hk)), h3.chg hc (hd _ a5) (hd _ a6), h4, a1, a2, a3, a4, a5, a6⟩

theorem info_size35 : (Try.prog.info? 35).map (·.size) = some 1012 := by kernel_rfl

set_option maxRecDepth 100000 in
set_option maxHeartbeats 1000000 in
theorem tillApart_walk (w : World) (ad : Option Addr) (cap : Nat) (l : List POp) (n : Int) (hl : OpsIn w ad l) :
    Calls Try.prog 3 #[.slice ad l.length cap, .int .i64 n] w fun e w' => e = .returned (.bool true) ∧ Chg (fun _ => False) w w' := by
  have hmx := hl.len
  unfold maxLen at hmx
  obtain ⟨B, hB⟩ : ∃ B, wrap64 (1 + wrap64 ((IntKind.u64.wrap n).tmod 12)) = B := ⟨_, rfl⟩
  have hBb := bk12 n
  rw [hB] at hBb
  obtain ⟨hB1, hB2⟩ := hBb
  obtain ⟨B0, rfl⟩ : ∃ B0 : Nat, B = B0 := ⟨B.toNat, by omega⟩
  have hcA := (Chg.refl (fun _ => False) w).alloc (.cells #[.int .i64 1099511627776, .int .i64 1099511627776, .int .i64 1099511627776, .int .i64 1099511627776] 23)
  have hF0 := Blk.new w 23 #[.int .i64 1099511627776, .int .i64 1099511627776, .int .i64 1099511627776, .int .i64 1099511627776]
  go_enter Try.func3, Try.ntmps3
  go_wp2_with fail
  refine (tillNew _ (fun _ => 1099511627776) (fun _ _ _ => by omega)).mono ?_
  rintro e w0 ⟨b, rfl, hW0, hc0⟩
  have hz1 := hcA.size
  have hW0 := hW0.here.mono (S' := fun i => w.heap.size ≤ i ∧ i < w0.heap.size) (fun i hi => ⟨Nat.le_trans hz1 hi.1, hi.2⟩)
  have hck0 := hcA.trans hc0 (fun _ _ h => h)
  have hF := hF0.chg hc0 id
  have e0 : w0.cell? ⟨w.heap.size, 0, none⟩ = some (.int .i64 1099511627776) := by rw [hF.cell]; rfl
  have e1 : w0.cell? ⟨w.heap.size, 1, none⟩ = some (.int .i64 1099511627776) := by rw [hF.cell]; rfl
  have e2 : w0.cell? ⟨w.heap.size, 2, none⟩ = some (.int .i64 1099511627776) := by rw [hF.cell]; rfl
  have e3 : w0.cell? ⟨w.heap.size, 3, none⟩ = some (.int .i64 1099511627776) := by rw [hF.cell]; rfl
  clear hc0 hcA hF0 hF
  go_wp2_with fail
  rw [hB]
  refine (rq_new _ (fun _ => 1099511627776)).mono ?_
  rintro e w1 ⟨X0, rfl, hQ, hc1, hX0⟩
  have hck1 := hck0.trans hc1 (fun _ _ h => h)
  have hW1 := hW0.keep hc1
  have hz0 := hc1.size
  unfold QBlk Blk at hQ
  rw [show RP.n = 1012 from rfl] at hQ
  obtain ⟨AR, hAe⟩ : ∃ AR, arrF 1012 (qovl RP.g (Pur.new fun _ => 1099511627776).ac (Pur.new fun _ => 1099511627776).en (.slice none 0 0)) = AR := ⟨_, rfl⟩
  rw [hAe] at hQ
  have hAs : AR.size = 1012 := by rw [← hAe]; exact arrF_size _ _
  have hsz : (Try.prog.info? 35).map (·.size) = some AR.size := by rw [hAs]; exact info_size35
  have hAeh := Lib.hid hAe
  clear hAe
  go_wp2_with (refine wpList_load_row rfl 35 _ rfl X0 rfl 35 AR (0, 0) _ hQ Try.underlying35 rfl hsz ?_)
  rw [rl_fold _ _ _ AR hAeh.out]
  have hX : RTillAt (w1.alloc (.cells (arrF 2420 (rlCell (Pur.new fun _ => 1099511627776).ac (Pur.new fun _ => 1099511627776).en (.slice none 0 0) (fun _ => 0) 0)) 43)) w1.heap.size (.slice none 0 0) (Pur.new fun _ => 1099511627776) (fun _ => 0) 0 := ⟨Blk.new w1 _ _, ⟨rfl, .inl ⟨rfl, rfl⟩⟩⟩
  have hcX := (Chg.refl (fun _ => False) w1).alloc (.cells (arrF 2420 (rlCell (Pur.new fun _ => 1099511627776).ac (Pur.new fun _ => 1099511627776).en (.slice none 0 0) (fun _ => 0) 0)) 43)
  have hW2 := hW1.keep hcX
  have hck2 := hck1.trans hcX (fun _ _ h => h)
  have hJ := ApJ.new (B0 : Int)
  have hzX : w.heap.size ≤ w1.heap.size := hck1.size
  have hW2 := hW2.mono (S' := fun i => w.heap.size ≤ i ∧ i ≠ w1.heap.size ∧ (Value.slice none 0 0).ownBlock ≠ some i) (fun i hi => ⟨hi.1, by omega, by simp [Value.ownBlock]⟩)
  have hck2 := hck2.mono (T := fun i => w.heap.size ≤ i) (fun _ _ h => h.elim)
  have hlo : ∀ k, (Value.slice none 0 0).ownBlock = some k → w.heap.size ≤ k := by intro k hk; simp [Value.ownBlock] at hk
  clear hQ hAs hsz hAeh hcX hW1 hck1 hW0 hck0 e0 e1 e2 e3 hc1 hX0 hz0 hz1
  generalize w1.alloc (.cells (arrF 2420 (rlCell (Pur.new fun _ => 1099511627776).ac (Pur.new fun _ => 1099511627776).en (.slice none 0 0) (fun _ => 0) 0)) 43) = w2 at *
  generalize w1.heap.size = X at *
  generalize Value.slice none 0 0 = lv0 at *
  generalize (Pur.new fun _ => 1099511627776) = p0 at *
  generalize (fun _ => 0 : Tab) = f0 at *
  have hBh := Lib.hid hB
  clear hB
  go_loopw [10] (fun v10 wr => ∃ (k : Nat) (lv : Value) (p p' : Pur) (f f' : Tab) (c : Int), v10 = .int .i64 k ∧ k ≤ l.length ∧ k ≤ 40 ∧ 0 ≤ c ∧ c ≤ k ∧ TillW (fun i => w.heap.size ≤ i ∧ i ≠ X ∧ lv.ownBlock ≠ some i) wr b p f ∧ RTillAt wr X lv p' f' c ∧ (∀ k, lv.ownBlock = some k → w.heap.size ≤ k) ∧ ApJ p p' f f' (B0 : Int) k ∧ Chg (fun i => w.heap.size ≤ i) w wr) (fun v10 _ => 40 - (RowKit.intOf v10).toNat)
  case atStart => exact ⟨0, lv0, p0, p0, f0, f0, 0, rfl, Nat.zero_le _, Nat.zero_le _, by omega, by omega, hW2, hX, hlo, hJ, hck2⟩
  case round =>
    clear hW2 hX hlo hJ hck2
    obtain ⟨k, lv, p, p', f, f', c, rfl, hk1, hk2, hc0, hc1, hW, hX, hlo, hA, hck⟩ := hrel
    have hcF : Chg (fun _ => False) w wr := hck.mono (fun i hi h => by omega)
    by_cases hlt : k < l.length ∧ k < 40
    · obtain ⟨hlt1, hlt2⟩ := hlt
      obtain ⟨o, ho⟩ : ∃ o, l[k]? = some o := ⟨_, List.getElem?_eq_getElem hlt1⟩
      obtain ⟨a, rfl, hab, hat⟩ := (hl.chg hcF (fun i _ h => h)).at_ k o ho
      have g0 : wr.cell? (a.add (k * 5)) = some (.int .i64 o.kd) := hat 0 _ rfl
      have g1 : wr.cell? ⟨(a.add (k * 5)).block, (a.add (k * 5)).off + 1, none⟩ = some (.int .i64 o.bk) := hat 1 _ rfl
      have g2 : wr.cell? ⟨(a.add (k * 5)).block, (a.add (k * 5)).off + 2, none⟩ = some (.int .i64 o.un) := hat 2 _ rfl
      have g3 : wr.cell? ⟨(a.add (k * 5)).block, (a.add (k * 5)).off + 3, none⟩ = some (.int .i64 o.cu) := hat 3 _ rfl
      have g4 : wr.cell? ⟨(a.add (k * 5)).block, (a.add (k * 5)).off + 4, none⟩ = some (.int .i64 o.am) := hat 4 _ rfl
      clear hat
      by_cases ham : 1073741824 < o.am
      · go_wp2_with fail
        go_roundw
        case rel => exact ⟨k + 1, lv, p, p', f, f', c, by go_num, by omega, by omega, by omega, by omega, hW, hX, hlo, hA.skip, hck⟩
        case measure => simp [RowKit.intOf]; omega
      have ham2 : o.am ≤ 1073741824 := by omega
      have ham2h := Lib.hid ham2
      have hamb : decide (1073741824 < o.am) = false := decide_eq_false ham
      clear ham ham2
      obtain ⟨r1, n1, p1, f1, ha1⟩ : ∃ r n p' f', tAsk p f o = (r, n, p', f') := ⟨_, _, _, _, rfl⟩
      have hah := Lib.hid ha1
      have hln := hA.ln
      have hln' := hA.ln'
      have hxl := Blk.lt hX.blk
      have hol := own_lt0 hX.own
      have hWh := hW.here
      go_wp2_with fail
      refine (ask_any _ wr b p f o _ hWh hA.g (by omega) (by omega) r1 n1 p1 f1 hah.out).mono ?_
      rintro e w2 ⟨rfl, hW2, hc2⟩
      have hX2 := hX.chg hc2 (fun h => h.1.2.1 rfl) (fun k hk h => h.1.2.2 hk)
      have hck2 := hck.trans hc2 (fun i _ h => h.1.1)
      have hzz := hck.size
      have hW2 := hW2.mono (S' := fun i => w.heap.size ≤ i ∧ i ≠ X ∧ lv.ownBlock ≠ some i) (fun i h => by
        rcases h with h | h
        · exact h.1
        · exact ⟨by omega, by omega, fun e => by have := hol i e; omega⟩)
      have hcF2 : Chg (fun _ => False) w w2 := hck2.mono (fun i hi h => by omega)
      obtain ⟨a2, ha2, hab2, hat2⟩ := (hl.chg hcF2 (fun i _ h => h)).at_ k o ho
      injection ha2 with ha2
      subst ha2
      clear g0 g1 g2 g3 g4 hW hX hck hcF hWh hol hxl
      have g0 : w2.cell? (a.add (k * 5)) = some (.int .i64 o.kd) := hat2 0 _ rfl
      have g1 : w2.cell? ⟨(a.add (k * 5)).block, (a.add (k * 5)).off + 1, none⟩ = some (.int .i64 o.bk) := hat2 1 _ rfl
      have g2 : w2.cell? ⟨(a.add (k * 5)).block, (a.add (k * 5)).off + 2, none⟩ = some (.int .i64 o.un) := hat2 2 _ rfl
      have g3 : w2.cell? ⟨(a.add (k * 5)).block, (a.add (k * 5)).off + 3, none⟩ = some (.int .i64 o.cu) := hat2 3 _ rfl
      have g4 : w2.cell? ⟨(a.add (k * 5)).block, (a.add (k * 5)).off + 4, none⟩ = some (.int .i64 o.am) := hat2 4 _ rfl
      clear hat2 hcF2
      by_cases hb : o.bk = (B0 : Int)
      · have hbb : (o.bk == (B0 : Int)) = true := by simp [hb]
        obtain ⟨e1, e2, hA2⟩ := hA.same (by omega) o hb ham2h.out
        rw [ha1] at e1 e2 hA2
        obtain ⟨r2, n2, p2, f2, ha2⟩ : ∃ r n p'' f'', tAsk p' f' o = (r, n, p'', f'') := ⟨_, _, _, _, rfl⟩
        rw [ha2] at e1 e2 hA2
        dsimp only at e1 e2 hA2
        subst e1
        subst e2
        have hah2 := Lib.hid ha2
        clear ha1 ha2 hb
        go_wp2_with fail
        refine (rlask_any hX2 hA.g' (by omega) (by omega) o hc0 (by omega) _ _ p2 f2 hah2.out).mono ?_
        rintro e w3 ⟨rfl, lv3, hX3, hc3, hl3⟩
        have hzz2 := hck2.size
        have hW3 : TillW (fun i => w.heap.size ≤ i ∧ i ≠ X ∧ lv3.ownBlock ≠ some i) w3 b p1 f1 := (hW2.here.keepX hc3 (fun i hi h => by
          rcases h with h | h
          · exact hi.1.2.1 h
          · exact hi.1.2.2 h)).mono (fun i hi => ⟨hi.1.1, hi.1.2.1, fun e => by
          rcases hl3 with h | ⟨k', h, h'⟩
          · exact hi.1.2.2 (by rw [← h]; exact e)
          · rw [h] at e
            injection e with e
            have := hi.2
            omega⟩)
        have hlo3 : ∀ k, lv3.ownBlock = some k → w.heap.size ≤ k := by
          intro k' hk'
          rcases hl3 with h | ⟨k2, h, h'⟩
          · exact hlo k' (by rw [← h]; exact hk')
          · rw [h] at hk'
            injection hk' with hk'
            omega
        have hck3 := hck2.trans hc3 (fun i _ h => by
          rcases h with h | h
          · rw [h]; exact hzX
          · exact hlo i h)
        have hcc : 0 ≤ (if n1 = true then c + 1 else c) ∧ (if n1 = true then c + 1 else c) ≤ ((k + 1 : Nat) : Int) := by split <;> omega
        cases n1
        all_goals
          go_wp2_with fail
          go_roundw
          case rel => exact ⟨k + 1, lv3, p1, p2, f1, f2, _, by go_num, by omega, by omega, hcc.1, hcc.2, hW3, hX3, hlo3, hA2, hck3⟩
          case measure => simp [RowKit.intOf]; omega
      · have hbb : (o.bk == (B0 : Int)) = false := by simp [hb]
        have hA2 := hA.other o hb ham2h.out
        rw [ha1] at hA2
        dsimp only at hA2
        clear ha1 hb
        go_wp2_with fail
        go_roundw
        case rel => exact ⟨k + 1, lv, p1, p', f1, f', c, by go_num, by omega, by omega, by omega, by omega, hW2, hX2, hlo, hA2, hck2⟩
        case measure => simp [RowKit.intOf]; omega
    · go_wp2_with fail
      all_goals
        clear hlt hcF
        refine (till_purse hW (by have := hA.ln; omega)).mono ?_
        rintro e w2 ⟨b2, rfl, hP2, hc2⟩
        have hX2 := hX.chg hc2 id (fun _ _ => id)
        have hck2 := hck.trans hc2 (fun _ _ h => h.elim)
        obtain ⟨y, hy⟩ : ∃ y, p'.en (B0 : Int) = y := ⟨_, rfl⟩
        have hen := hA.en
        rw [hy] at hen
        have henh := Lib.hid hen
        have hyh := Lib.hid hy
        clear hen hy
        have hX2h := Lib.hid hX2
        have cc : ∀ w9 : World, w9.heap[X]? = w2.heap[X]? → w9.cell? ⟨X, 6 + B0 * 5, none⟩ = some (.int .i64 y.st) ∧ w9.cell? ⟨X, 6 + B0 * 5 + 1, none⟩ = some (.int .i64 y.un) ∧ w9.cell? ⟨X, 6 + B0 * 5 + 2, none⟩ = some (.int .i64 y.til) ∧ w9.cell? ⟨X, 6 + B0 * 5 + 3, none⟩ = some (.int .i64 y.cu) ∧ w9.cell? ⟨X, 6 + B0 * 5 + 4, none⟩ = some (.int .i64 y.am) := fun w9 h9 =>
          QBlk.cells (R := RQ f' c) (Blk.keep hX2h.out.purse.blk h9) B0 (by omega) hyh.out
        have cch := Lib.hid cc
        have hXl := Blk.lt hX2.blk
        clear cc hX2
        go_wp2_with fail
        refine wp_region_plan (by kernel_rfl) [{ fl := [], ef := 0 }, { fl := [1, 2, 3, 4, 5, 6, 7, 9, 10, 11, 12, 13, 14, 15], long := [15], ef := 8, keep := [15] }, { fl := [], ef := 16 }] [17, 18] (by kernel_rfl) (fun _ (w9 : World) => w9.heap[X]? = w2.heap[X]?) ?_
        simp only [wpPlan, longOK, keepOK, opsAt_cons, opsAt_nil, consO_some, List.getElem?_toArray, List.getElem?_cons_succ, List.getElem?_cons_zero, and_true, true_and]
        go_wp2_with fail
        refine ⟨by kernel_rfl, ?_⟩
        go_wp2_with fail
        refine (told13 _).mono ?_
        rintro e w3 ⟨rfl, hc3⟩
        have hc3 := ((Chg.refl (fun _ => False) w2).drew).trans hc3 (fun _ _ h => h)
        have hP3 := hP2.keep0 hc3
        have hb3 := Lib.hid (hc3.block X hXl id)
        obtain ⟨d0, d1, d2, d3, d4⟩ := cch.out w3 hb3.out
        go_wp2_with fail
        refine ⟨hb3.out, ?_⟩
        go_wp2_with fail
        refine ⟨by kernel_rfl, ?_, ?_⟩
        · intro _ w9 h9
          obtain ⟨d0, d1, d2, d3, d4⟩ := cch.out w9 h9
          clear h9
          go_simp
        go_wp2_with fail
        refine (entry_w hP3 hA.g B0 (by omega) y henh.out).mono ?_
        rintro e w4 ⟨rfl, hc4⟩
        have hc4 := hc3.trans hc4 (fun _ _ h => h)
        have hb4 := Lib.hid (hc4.block X hXl id)
        obtain ⟨d0', d1', d2', d3', d4'⟩ := cch.out w4 hb4.out
        unfold Ent.val Ent.row
        go_wp2_with fail
        refine ⟨hb4.out, ?_⟩
        go_wp2_with fail
        refine ⟨by kernel_rfl, ?_⟩
        go_wp2_with fail
        refine ⟨by kernel_rfl, ?_⟩
        go_wp2_with fail
        go_ret
        exact ⟨rfl, (hck2.trans hc4 (fun _ _ h => h.elim)).mono (fun i hi h => by omega)⟩
end Go.Proofs.Ythngllogkejejaa
