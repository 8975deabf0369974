/-
  layer 9: StockUnits, its walk.
-/
import Derived.Test.YtihfcfpkffebiaaUnitP
import Derived.Test.YtihfcfpkffebiaaSopS
namespace Go.Proofs.Ytihfcfpkffebiaa
open Go.RowKit Go.Maps

def mayStk (c o : Int) : Bool := decide (0 ≤ c) && decide (c ≤ 1000000) && decide (0 ≤ o) && decide (o ≤ 1000000)
set_option maxRecDepth 100000 in
theorem mayStock_any (w : World) (c o : Int) : Calls Try.prog 11 #[.agg #[.int .i64 c, .int .i64 o]] w fun e w' => e = .returned (.bool (mayStk c o)) ∧ Chg (fun _ => False) w w' := by
  by_cases h1 : 0 ≤ c <;> by_cases h2 : c ≤ 1000000 <;> by_cases h3 : 0 ≤ o <;> by_cases h4 : o ≤ 1000000
  all_goals try (exfalso; omega)
  all_goals
    go_enter Try.func11, Try.ntmps11
    go_wp2
    go_ret
    exact ⟨by unfold mayStk; simp [*], (Chg.refl _ w).alloc _⟩

set_option maxRecDepth 100000 in
set_option maxHeartbeats 4000000 in
theorem stockUnits_walk (w : World) (C O : Int) (ad : Option Addr) (cap : Nat) (l : List SOp) (hl : SopsIn w ad l) :
    Calls Try.prog 3 #[.agg #[.int .i64 C, .int .i64 O], .slice ad l.length cap] w fun e w' => e = .returned (.bool true) ∧ Chg (fun _ => False) w w' := by
  have hmx := hl.len
  unfold maxLen at hmx
  have hB0 := Blk.new w 23 #[.int .i64 C, .int .i64 O]
  have hcB := (Chg.refl (fun _ => False) w).alloc (.cells #[.int .i64 C, .int .i64 O] 23)
  cases hmay : mayStk C O with
  | false =>
    have hmh := Lib.hid hmay
    clear hmay
    go_enter Try.func3, Try.ntmps3
    go_wp2_with fail
    refine (mayStock_any _ C O).mono ?_
    rintro e w1 ⟨rfl, hc1⟩
    rw [hmh.out]
    go_wp2_with fail
    refine (told9 _).mono ?_
    rintro e w2 ⟨rfl, hc2⟩
    go_wp2_with fail
    go_ret
    exact ⟨rfl, (hcB.trans hc1 (fun _ _ h => h)).trans hc2 (fun _ _ h => h)⟩
  | true =>
    have hCO : 0 ≤ C ∧ C ≤ 1000000 ∧ 0 ≤ O ∧ O ≤ 1000000 := by unfold mayStk at hmay; simp at hmay; omega
    obtain ⟨hC0, hC1, hO0, hO1⟩ := hCO
    have hmh := Lib.hid hmay
    clear hmay
    go_enter Try.func3, Try.ntmps3
    go_wp2_with fail
    refine (mayStock_any _ C O).mono ?_
    rintro e w1 ⟨rfl, hc1⟩
    rw [hmh.out]
    have hB1 := hB0.chg hc1 id
    have hcB1 := hcB.trans hc1 (fun _ _ h => h)
    have a0 : w1.cell? ⟨w.heap.size, 0, none⟩ = some (.int .i64 C) := by rw [hB1.cell]; rfl
    have a1 : w1.cell? ⟨w.heap.size, 1, none⟩ = some (.int .i64 O) := by rw [hB1.cell]; rfl
    clear hB0 hcB hc1
    go_wp2_with fail
    refine (new_w _ C O (by omega) (by omega)).mono ?_
    rintro e w0 ⟨b, mb, rfl, hS0, hc0, hb, hm⟩
    have hz := hB1.lt
    have hbm : w.heap.size + 1 ≤ b ∧ w.heap.size + 1 ≤ mb := by omega
    have hA := hB1.chg hc0 id
    have hck0 : Chg (fun i => w.heap.size ≤ i) w w0 := (hcB1.trans hc0 (fun _ _ h => h)).mono (fun _ _ h => h.elim)
    have hG0 : (Stk.new C O).Good := Stk.Good.new (by omega) (by omega)
    have hK0 : (Stk.new C O).cap = C ∧ (Stk.new C O).over = O := ⟨rfl, rfl⟩
    clear hb hm hB1 hcB1 hc0 a0 a1 hz
    generalize Stk.new C O = s0 at *
    go_wp2_with fail
    go_loopw [7, 8] (fun v7 v wr => ∃ (k : Nat) (t : Int) (s : Stk), v7 = .int .i64 t ∧ v = .int .i64 k ∧ k ≤ l.length ∧ k ≤ 80 ∧ 0 ≤ t ∧ t ≤ k * 40 ∧ s.Good ∧ s.cap = C ∧ s.over = O ∧ StkAt wr b mb s ∧ Blk wr w.heap.size 23 #[.int .i64 C, .int .i64 O] ∧ Chg (fun i => w.heap.size ≤ i) w wr) (fun _ v _ => 80 - (RowKit.intOf v).toNat)
    case atStart => exact ⟨0, 0, s0, rfl, rfl, Nat.zero_le _, Nat.zero_le _, by omega, by omega, hG0, hK0.1, hK0.2, hS0, hA, hck0⟩
    case round =>
      clear hG0 hS0 hA hck0 hK0
      obtain ⟨k, t, s, rfl, rfl, hk1, hk2, ht0, ht1, hG, hC, hO, hS, hA, hck⟩ := hrel
      have hcF : Chg (fun _ => False) w wr := hck.mono (fun i hi h => by omega)
      by_cases hlt : k < l.length ∧ k < 80
      · obtain ⟨hlt1, hlt2⟩ := hlt
        obtain ⟨o, ho⟩ : ∃ o, l[k]? = some o := ⟨_, List.getElem?_eq_getElem hlt1⟩
        obtain ⟨a, rfl, hab, hat⟩ := (hl.chg hcF (fun i _ h => h)).at_ k o ho
        have g0 : wr.cell? (a.add (k * 9)) = some (.int .i64 o.kd) := hat 0 _ rfl
        have g1 : wr.cell? ⟨(a.add (k * 9)).block, (a.add (k * 9)).off + 1, none⟩ = some (.int .i64 o.o.kd) := hat 1 _ rfl
        have g2 : wr.cell? ⟨(a.add (k * 9)).block, (a.add (k * 9)).off + 2, none⟩ = some (.int .i64 o.o.bk) := hat 2 _ rfl
        have g3 : wr.cell? ⟨(a.add (k * 9)).block, (a.add (k * 9)).off + 3, none⟩ = some (.int .i64 o.o.un) := hat 3 _ rfl
        have g4 : wr.cell? ⟨(a.add (k * 9)).block, (a.add (k * 9)).off + 4, none⟩ = some (.int .i64 o.o.cu) := hat 4 _ rfl
        have g5 : wr.cell? ⟨(a.add (k * 9)).block, (a.add (k * 9)).off + 5, none⟩ = some (.int .i64 o.o.am) := hat 5 _ rfl
        have g6 : wr.cell? ⟨(a.add (k * 9)).block, (a.add (k * 9)).off + 6, none⟩ = some (.int .i64 o.d) := hat 6 _ rfl
        have g7 : wr.cell? ⟨(a.add (k * 9)).block, (a.add (k * 9)).off + 7, none⟩ = some (.int .i64 o.now) := hat 7 _ rfl
        have g8 : wr.cell? ⟨(a.add (k * 9)).block, (a.add (k * 9)).off + 8, none⟩ = some (.bool o.raw) := hat 8 _ rfl
        clear hat
        obtain ⟨m, hm⟩ : ∃ m, wrap64 ((IntKind.u64.wrap o.d).tmod 40) = m := ⟨_, rfl⟩
        have hmb := modK o.d 40 (by omega)
        rw [hm] at hmb
        obtain ⟨hm1, hm2⟩ := hmb
        have hcal := (Chg.refl (fun _ => False) wr).alloc (.cells o.row 33)
        unfold SOp.row at hcal
        have hSa := hS.chg hcal id id
        have hAa := hA.chg hcal id
        have hcka := hck.trans hcal (fun _ _ h => h.elim)
        clear hS hA hck hcal hcF
        have hCh := Lib.hid hC
        have hOh := Lib.hid hO
        clear hC hO
        have hstep : ∃ s1 : Stk, s1.Good ∧ s1.cap = C ∧ s1.over = O ∧ s1 = (if o.kd = 1 then (s.sweep (t + m)).2 else (s.act o.o (t + m)).2) := by
          refine ⟨_, ?_, ?_, ?_, rfl⟩
          · split
            · exact hG.sweep _
            · exact hG.act _ _
          · split
            · rw [(Stk.sweep_conf _ _).1, hCh.out]
            · rw [(Stk.act_conf _ _ _).1, hCh.out]
          · split
            · rw [(Stk.sweep_conf _ _).2, hOh.out]
            · rw [(Stk.act_conf _ _ _).2, hOh.out]
        obtain ⟨s1, hG1, hC1', hO1', hs1⟩ := hstep
        have hall := hG1.all
        have hh1 := (hG1.ofN 1 0 (by omega)).2.2
        have hh2 := (hG1.ofN 2 0 (by omega)).2.2
        have hfb := hG1.bound
        rw [hC1', hO1'] at hall
        obtain ⟨hf0, hp1, hp2, hsum⟩ := hall
        by_cases hkd : o.kd = 1
        all_goals
          first | rw [if_pos hkd] at hs1 | rw [if_neg hkd] at hs1
          first | (have hkb : (o.kd == 1) = true := by simp [hkd]) | (have hkb : (o.kd == 1) = false := by simp [hkd])
          clear hkd
          have hs1h := Lib.hid hs1.symm
          clear hs1
          have hsumh := Lib.hid hsum
          clear hsum
          go_wp2_with fail
          rw [hm]
          first
            | refine (sweep_w hSa hG (by omega) (t + m) _ s1 rfl hs1h.out).mono ?_
              rintro e w2 ⟨v2, rfl, _, hS2, hc2⟩
            | refine (do_w hSa hG (by omega) o.o (t + m) _ s1 rfl hs1h.out).mono ?_
              rintro e w2 ⟨rfl, hS2, hc2⟩
          have hA2 := hAa.chg hc2 (by omega)
          have hck2 := hcka.trans hc2 (fun i _ h => by omega)
          clear hSa hAa hcka hc2 hG hmh hs1h hCh hOh g0 g1 g2 g3 g4 g5 g6 g7 g8
          go_wp2_with fail
          refine (stk_free hS2).mono ?_
          rintro e w3 ⟨rfl, rfl⟩
          go_wp2_with fail
          refine (stk_held hS2 hG1).mono ?_
          rintro e w4 ⟨rfl, hc4⟩
          have hS4 := hS2.chg hc4 id id
          have hA4 := hA2.chg hc4 id
          have hck4 := hck2.trans hc4 (fun _ _ h => h.elim)
          clear hS2 hA2 hck2 hc4
          go_wp2_with fail
          refine (stk_conf hS4 hG1).mono ?_
          rintro e w5 ⟨rfl, hc5⟩
          have hS5 := hS4.chg hc5 id id
          have hA5 := hA4.chg hc5 id
          have hck5 := hck4.trans hc5 (fun _ _ h => h.elim)
          clear hS4 hA4 hck4 hc5
          obtain ⟨H1, hH1⟩ : ∃ H1, s1.of 1 = H1 := ⟨_, rfl⟩
          obtain ⟨H2, hH2⟩ : ∃ H2, s1.of 2 = H2 := ⟨_, rfl⟩
          have hsum := hsumh.out
          rw [hH1] at hp1 hh1 hsum ⊢
          rw [hH2] at hp2 hh2 hsum ⊢
          have hH1h := Lib.hid hH1
          have hH2h := Lib.hid hH2
          have n0 : decide (s1.free < 0) = false := by simp; omega
          have n1 : decide (H1 < 0) = false := by simp; omega
          have n2 : decide (H2 < 0) = false := by simp; omega
          have n3 : (s1.free + H1 + H2 == C + O) = true := by simp [hsum]
          have n4 : (s1.free + H1 + H2 != C + O) = false := by simp [hsum]
          have a0 : w5.cell? ⟨w.heap.size, 0, none⟩ = some (.int .i64 C) := by rw [hA5.cell]; rfl
          have a1 : w5.cell? ⟨w.heap.size, 1, none⟩ = some (.int .i64 O) := by rw [hA5.cell]; rfl
          clear hH1 hH2 hsum hsumh
          go_wp2_with fail
          go_loopw [13, 14, 15] (fun v13 v14 v wx => ∃ j : Nat, v13 = .int .i64 (s1.ofN 1 j) ∧ v14 = .int .i64 (s1.ofN 2 j) ∧ v = .int .i64 ((j : Int) + 1) ∧ j ≤ 12 ∧ Chg (fun _ => False) w5 wx) (fun _ _ v _ => 13 - (RowKit.intOf v).toNat)
          case atStart => exact ⟨0, rfl, rfl, rfl, Nat.zero_le _, Chg.refl _ _⟩
          case round =>
            obtain ⟨j, rfl, rfl, rfl, hj, hcx⟩ := hrel
            have hSx := hS5.chg hcx id id
            have hb1 := hG1.ofN 1 j (by omega)
            have hb2 := hG1.ofN 2 j (by omega)
            by_cases hlt : j < 12
            · have e1 := Lib.hid (s1.ofN_succ 1 j)
              have e2 := Lib.hid (s1.ofN_succ 2 j)
              obtain ⟨x, hx⟩ : ∃ x, s1.en ((j : Int) + 1) = x := ⟨_, rfl⟩
              have hxu := hG1.un ((j : Int) + 1)
              rw [hx] at hxu
              obtain ⟨hxu0, hxu1⟩ := hxu
              have hxh := Lib.hid hx
              clear hx
              go_wp2_with fail
              refine (stk_entry hSx hG1 ((j : Int) + 1) (by omega) x hxh.out).mono ?_
              rintro e w7 ⟨rfl, hc7⟩
              have hcx7 := hcx.trans hc7 (fun _ _ h => h)
              have hcx8 := hcx7.alloc (.cells x.row 40)
              unfold Ent.row at hcx8
              unfold Ent.val Ent.row
              obtain ⟨S1, hS1⟩ : ∃ S1, s1.ofN 1 j = S1 := ⟨_, rfl⟩
              obtain ⟨S2, hS2⟩ : ∃ S2, s1.ofN 2 j = S2 := ⟨_, rfl⟩
              rw [hS1] at hb1 ⊢
              rw [hS2] at hb2 ⊢
              have hS1h := Lib.hid hS1
              have hS2h := Lib.hid hS2
              clear hS1 hS2
              by_cases hx1 : x.st = 1
              · have b1 : (x.st == 1) = true := by simp [hx1]
                have b2 : (x.st == 2) = false := by simp [hx1]
                have hx1h := Lib.hid hx1
                clear hx1
                go_wp2_with fail
                go_roundw
                case rel => exact ⟨j + 1, by rw [e1.out, hxh.out, if_pos hx1h.out, hS1h.out], by rw [e2.out, hxh.out, if_neg (by rw [hx1h.out]; decide), hS2h.out]; simp, by go_num, by omega, hcx8⟩
                case measure => simp [RowKit.intOf]; omega
              · by_cases hx2 : x.st = 2
                · have b1 : (x.st == 1) = false := by simp [hx1]
                  have b2 : (x.st == 2) = true := by simp [hx2]
                  have hx2h := Lib.hid hx2
                  clear hx1 hx2
                  go_wp2_with fail
                  go_roundw
                  case rel => exact ⟨j + 1, by rw [e1.out, hxh.out, if_neg (by rw [hx2h.out]; decide), hS1h.out]; simp, by rw [e2.out, hxh.out, if_pos hx2h.out, hS2h.out], by go_num, by omega, hcx8⟩
                  case measure => simp [RowKit.intOf]; omega
                · have b1 : (x.st == 1) = false := by simp [hx1]
                  have b2 : (x.st == 2) = false := by simp [hx2]
                  have hx1h := Lib.hid hx1
                  have hx2h := Lib.hid hx2
                  clear hx1 hx2
                  go_wp2_with fail
                  go_roundw
                  case rel => exact ⟨j + 1, by rw [e1.out, hxh.out, if_neg hx1h.out, hS1h.out]; simp, by rw [e2.out, hxh.out, if_neg hx2h.out, hS2h.out]; simp, by go_num, by omega, hcx8⟩
                  case measure => simp [RowKit.intOf]; omega
            · have hj12 : j = 12 := by omega
              subst hj12
              have hS6 := hSx
              have hA6 := hA5.chg hcx id
              have hck6 := hck5.trans hcx (fun _ _ h => h.elim)
              rw [hH1h.out] at hb1
              rw [hH2h.out] at hb2
              have m1 : decide (H1 < s1.ofN 1 12) = false := by simp; omega
              have m2 : decide (H2 < s1.ofN 2 12) = false := by simp; omega
              go_wp2_with fail
              go_roundw
              case rel => exact ⟨k + 1, t + m, s1, rfl, by go_num, by omega, by omega, by omega, by omega, hG1, hC1', hO1', hS6, hA6, hck6⟩
              case measure => simp [RowKit.intOf]; omega
      · go_wp2_with fail
        all_goals
          refine (told9 _).mono ?_
          rintro e w9 ⟨rfl, hc9⟩
          go_wp2_with fail
          go_ret
          exact ⟨rfl, (hck.trans hc9 (fun _ _ h => h.elim)).mono (fun i hi h => by omega)⟩
end Go.Proofs.Ytihfcfpkffebiaa
