/-
  layer 9: StockGone, its walk. (Printed by wip/tools/gensgon.py.)
-/
import Derived.Test.YtihfcfpkffebiaaSGonP
import Derived.Test.YtihfcfpkffebiaaSopS
import Derived.Test.YtihfcfpkffebiaaMayRef
namespace Go.Proofs.Ytihfcfpkffebiaa
open Go.RowKit Go.Maps

set_option maxRecDepth 100000 in
set_option maxHeartbeats 4000000 in
theorem stockGone_walk (w : World) (ad : Option Addr) (cap : Nat) (l : List SOp) (n2 : Int) (ad2 : Option Addr) (cap2 : Nat) (l2 : List SOp) (hl : SopsIn w ad l) (hl2 : SopsIn w ad2 l2) :
    Calls Try.prog 4 #[.slice ad l.length cap, .int .i64 n2, .slice ad2 l2.length cap2] w fun e w' => e = .returned (.bool true) ∧ Chg (fun _ => False) w w' := by
  have hmx := hl.len
  have hmx2 := hl2.len
  unfold maxLen at hmx hmx2
  obtain ⟨b0, hb0⟩ : ∃ b0, wrap64 (1 + wrap64 ((IntKind.u64.wrap n2).tmod 12)) = b0 := ⟨_, rfl⟩
  have hB := bk12 n2
  rw [hb0] at hB
  have hB : 1 ≤ b0 ∧ b0 ≤ 200 := by omega
  go_enter Try.func4, Try.ntmps4
  go_wp2_with fail
  refine (new_w _ 20 3 (by omega) (by omega)).mono ?_
  rintro e w0 ⟨b, mb, rfl, hS0, hc0, hb, hm⟩
  have hbm : w.heap.size ≤ b ∧ w.heap.size ≤ mb := ⟨hb, hm⟩
  have hck0 : Chg (fun i => w.heap.size ≤ i) w w0 := hc0.mono (fun _ _ h => h.elim)
  have hG0 : (Stk.new 20 3).Good := Stk.Good.new (by omega) (by omega)
  clear hb hm hc0
  generalize Stk.new 20 3 = s0 at *
  go_wp2_with fail
  rw [hb0]
  go_loopw [10, 11] (fun v10 v wr => ∃ (k : Nat) (t : Int) (s : Stk), v10 = .int .i64 t ∧ v = .int .i64 k ∧ k ≤ l.length ∧ k ≤ 40 ∧ 0 ≤ t ∧ t ≤ k * 40 ∧ s.Good ∧ StkAt wr b mb s ∧ Chg (fun i => w.heap.size ≤ i) w wr) (fun _ v _ => 40 - (RowKit.intOf v).toNat)
  case atStart => exact ⟨0, 0, s0, rfl, rfl, Nat.zero_le _, Nat.zero_le _, by omega, by omega, hG0, hS0, hck0⟩
  case round =>
    clear hG0 hS0 hck0
    obtain ⟨k, t, s, rfl, rfl, hk1, hk2, ht0, ht1, hG, hS, hck⟩ := hrel
    have hcF : Chg (fun _ => False) w wr := hck.mono (fun i hi h => by omega)
    by_cases hlt : k < l.length ∧ k < 40
    · obtain ⟨hlt1, hlt2⟩ := hlt
      obtain ⟨o, ho⟩ : ∃ o, l[k]? = some o := ⟨_, List.getElem?_eq_getElem hlt1⟩
      obtain ⟨a, rfl, hab, hat⟩ := (hl.chg hcF (fun i _ h => h)).at_ k o ho
      have g0 : wr.cell? (a.add (k * 9)) = some (.int .i64 o.kd) := hat 0 _ rfl
      have g1 : wr.cell? ⟨(a.add (k * 9)).block, (a.add (k * 9)).off + 1, none⟩ = some (.int .i64 o.o.kd) := hat 1 _ rfl
      have g2 : wr.cell? ⟨(a.add (k * 9)).block, (a.add (k * 9)).off + 2, none⟩ = some (.int .i64 o.o.bk) := hat 2 _ rfl
      have g3 : wr.cell? ⟨(a.add (k * 9)).block, (a.add (k * 9)).off + 3, none⟩ = some (.int .i64 o.o.un) := hat 3 _ rfl
      have g4 : wr.cell? ⟨(a.add (k * 9)).block, (a.add (k * 9)).off + 4, none⟩ = some (.int .i64 o.o.cu) := hat 4 _ rfl
      have g5 : wr.cell? ⟨(a.add (k * 9)).block, (a.add (k * 9)).off + 5, none⟩ = some (.int .i64 o.o.am) := hat 5 _ rfl
      have g6 : wr.cell? ⟨(a.add (k * 9)).block, (a.add (k * 9)).off + 6, none⟩ = some (.int .i64 o.d) := hat 6 _ rfl
      clear hat
      obtain ⟨m, hm⟩ : ∃ m, wrap64 ((IntKind.u64.wrap o.d).tmod 40) = m := ⟨_, rfl⟩
      have hmb := modK o.d 40 (by omega)
      rw [hm] at hmb
      obtain ⟨hm1, hm2⟩ := hmb
      go_wp2_with fail
      rw [hm]
      refine (do_w hS hG hbm o.o (t + m) _ _ rfl rfl).mono ?_
      rintro e w2 ⟨rfl, hS2, hc2⟩
      have hck2 := hck.trans hc2 (fun i _ h => h)
      have hG2 := hG.act o.o (t + m)
      clear hm hb0 g0 g1 g2 g3 g4 g5 g6
      go_wp2_with fail
      go_roundw
      case rel => exact ⟨k + 1, t + m, _, rfl, by go_num, by omega, by omega, by omega, by omega, hG2, hS2, hck2⟩
      case measure => simp [RowKit.intOf]; omega
    · go_wp2_with fail
      all_goals
        obtain ⟨h1, h2⟩ := Stk.act_rel s hB (t := t) ht0 (by omega)
        have hGg := hG.act ⟨3, b0, 0, 0, 0⟩ t
        refine (do_w hS hG hbm ⟨3, b0, 0, 0, 0⟩ t 1 _ h1 rfl).mono ?_
        rintro e w3 ⟨rfl, hS3, hc3⟩
        have hck3 := hck.trans hc3 (fun i _ h => h)
        generalize (s.act ⟨3, b0, 0, 0, 0⟩ t).2 = s3 at *
        clear h1 hG hS hck hc3 hcF
        go_wp2_with fail
        go_loopw [10, 12] (fun v10 v wx => ∃ (k : Nat) (t : Int) (s : Stk), v10 = .int .i64 t ∧ v = .int .i64 k ∧ k ≤ l2.length ∧ k ≤ 40 ∧ 0 ≤ t ∧ t ≤ 1600 + k * 40 ∧ s.Good ∧ s.en b0 = Ent.gone ∧ StkAt wx b mb s ∧ Chg (fun i => w.heap.size ≤ i) w wx) (fun _ v _ => 40 - (RowKit.intOf v).toNat)
        case atStart => exact ⟨0, t, s3, rfl, rfl, Nat.zero_le _, Nat.zero_le _, by omega, by omega, hGg, h2, hS3, hck3⟩
        case round =>
          clear hGg h2 hS3 hck3 ht0 ht1 hk1 hk2 hlt
          obtain ⟨k, t, s, rfl, rfl, hk1, hk2, ht0, ht1, hG, hg, hS, hck⟩ := hrel
          have hcF : Chg (fun _ => False) w wr := hck.mono (fun i hi h => by omega)
          by_cases hlt : k < l2.length ∧ k < 40
          · obtain ⟨hlt1, hlt2⟩ := hlt
            obtain ⟨o, ho⟩ : ∃ o, l2[k]? = some o := ⟨_, List.getElem?_eq_getElem hlt1⟩
            obtain ⟨a, rfl, hab, hat⟩ := (hl2.chg hcF (fun i _ h => h)).at_ k o ho
            have g0 : wr.cell? (a.add (k * 9)) = some (.int .i64 o.kd) := hat 0 _ rfl
            have g1 : wr.cell? ⟨(a.add (k * 9)).block, (a.add (k * 9)).off + 1, none⟩ = some (.int .i64 o.o.kd) := hat 1 _ rfl
            have g2 : wr.cell? ⟨(a.add (k * 9)).block, (a.add (k * 9)).off + 2, none⟩ = some (.int .i64 o.o.bk) := hat 2 _ rfl
            have g3 : wr.cell? ⟨(a.add (k * 9)).block, (a.add (k * 9)).off + 3, none⟩ = some (.int .i64 o.o.un) := hat 3 _ rfl
            have g4 : wr.cell? ⟨(a.add (k * 9)).block, (a.add (k * 9)).off + 4, none⟩ = some (.int .i64 o.o.cu) := hat 4 _ rfl
            have g5 : wr.cell? ⟨(a.add (k * 9)).block, (a.add (k * 9)).off + 5, none⟩ = some (.int .i64 o.o.am) := hat 5 _ rfl
            have g6 : wr.cell? ⟨(a.add (k * 9)).block, (a.add (k * 9)).off + 6, none⟩ = some (.int .i64 o.d) := hat 6 _ rfl
            have hO := Blk.new wr 31 o.o.row
            have hcal := (Chg.refl (fun _ => False) wr).alloc (.cells o.o.row 31)
            have hcx := hcF.trans hcal (fun _ _ h => h)
            obtain ⟨a', ha', hab', hat'⟩ := (hl2.chg hcx (fun i _ h => h)).at_ k o ho
            injection ha' with ha'
            subst ha'
            have x0 : (wr.alloc (.cells #[.int .i64 o.o.kd, .int .i64 o.o.bk, .int .i64 o.o.un, .int .i64 o.o.cu, .int .i64 o.o.am] 31)).cell? (a.add (k * 9)) = some (.int .i64 o.kd) := hat' 0 _ rfl
            have hSa := hS.chg hcal id id
            have hcka := hck.trans hcal (fun _ _ h => h.elim)
            unfold POp.row at hcal
            clear hat hat' hcx hcal hcF
            obtain ⟨m, hm⟩ : ∃ m, wrap64 ((IntKind.u64.wrap o.d).tmod 40) = m := ⟨_, rfl⟩
            have hmb := modK o.d 40 (by omega)
            rw [hm] at hmb
            obtain ⟨hm1, hm2⟩ := hmb
            by_cases hkd : o.kd = 1
            · have hkb : (o.kd == 1) = true := by simp [hkd]
              have hgs := hG.sweep_gone hg (t + m)
              have hGs := hG.sweep (t + m)
              clear hkd
              go_wp2_with fail
              rw [hm]
              refine (sweep_w hSa hG hbm (t + m) _ _ rfl rfl).mono ?_
              rintro e w2 ⟨v2, rfl, _, hS2, hc2⟩
              have hck2 := hcka.trans hc2 (fun i _ h => h)
              go_wp2_with fail
              go_roundw
              case rel => exact ⟨k + 1, t + m, _, rfl, by go_num, by omega, by omega, by omega, by omega, hGs, hgs, hS2, hck2⟩
              case measure => simp [RowKit.intOf]; omega
            · have hkb : (o.kd == 1) = false := by simp [hkd]
              clear hkd
              obtain ⟨hg1, hact⟩ := Stk.act_gone s hg o.o (t := t + m) (by omega) (by omega)
              have hG1 := hG.act o.o (t + m)
              go_wp2_with fail
              rw [hm]
              have hbl := hS.blk.lt
              have hml := hS.map.lt
              refine (stk_do hSa hG o.o (t + m)).mono ?_
              rintro e w2 ⟨rfl, hS2, hc2⟩
              have hO2 := hO.chg hc2 (by omega)
              have hck2 := hcka.trans hc2 (fun i _ h => by omega)
              have q0 : w2.cell? ⟨wr.heap.size, 0, none⟩ = some (.int .i64 o.o.kd) := by rw [hO2.cell]; rfl
              have q1 : w2.cell? ⟨wr.heap.size, 1, none⟩ = some (.int .i64 o.o.bk) := by rw [hO2.cell]; rfl
              have q2 : w2.cell? ⟨wr.heap.size, 2, none⟩ = some (.int .i64 o.o.un) := by rw [hO2.cell]; rfl
              have q3 : w2.cell? ⟨wr.heap.size, 3, none⟩ = some (.int .i64 o.o.cu) := by rw [hO2.cell]; rfl
              have q4 : w2.cell? ⟨wr.heap.size, 4, none⟩ = some (.int .i64 o.o.am) := by rw [hO2.cell]; rfl
              clear hO hO2 hc2 hSa hcka x0 g0 g1 g2 g3 g4 g5 g6 hS hck
              generalize (s.act o.o (t + m)).2 = s1 at *
              generalize (s.act o.o (t + m)).1 = r at *
              by_cases hb : o.o.bk = b0
              · have hbb : (o.o.bk == b0) = true := by simp [hb]
                replace hact := hact hb
                clear hb
                by_cases h3 : o.o.kd = 3
                · have h3b : (o.o.kd == 3) = true := by simp [h3]
                  cases hmm : mayOp o.o with
                  | true =>
                    rw [if_pos ⟨h3, hmm⟩] at hact
                    subst hact
                    clear h3
                    have hmh := Lib.hid hmm
                    clear hmm
                    go_wp2_with fail
                    refine (mayRef_any o.o w2).mono ?_
                    rintro e w4 ⟨rfl, hc4⟩
                    replace hS2 := hS2.chg hc4 id id
                    replace hck2 := hck2.trans hc4 (fun _ _ h => h.elim)
                    rw [hmh.out]
                    clear q0 q1 q2 q3 q4
                    go_wp2_with fail
                    refine (stk_entry hS2 hG1 b0 hB Ent.gone hg1).mono ?_
                    rintro e w9 ⟨rfl, hc9⟩
                    have hS9 := hS2.chg hc9 id id
                    have hck9 := hck2.trans hc9 (fun _ _ h => h.elim)
                    unfold Ent.val Ent.row Ent.gone
                    go_wp2_with fail
                    go_roundw
                    case rel => exact ⟨k + 1, t + m, s1, rfl, by go_num, by omega, by omega, by omega, by omega, hG1, hg1, hS9, hck9⟩
                    case measure => simp [RowKit.intOf]; omega
                  | false =>
                    rw [if_neg (by simp [hmm])] at hact
                    subst hact
                    clear h3
                    have hmh := Lib.hid hmm
                    clear hmm
                    go_wp2_with fail
                    refine (mayRef_any o.o w2).mono ?_
                    rintro e w4 ⟨rfl, hc4⟩
                    replace hS2 := hS2.chg hc4 id id
                    replace hck2 := hck2.trans hc4 (fun _ _ h => h.elim)
                    rw [hmh.out]
                    clear q0 q1 q2 q3 q4
                    go_wp2_with fail
                    refine (stk_entry hS2 hG1 b0 hB Ent.gone hg1).mono ?_
                    rintro e w9 ⟨rfl, hc9⟩
                    have hS9 := hS2.chg hc9 id id
                    have hck9 := hck2.trans hc9 (fun _ _ h => h.elim)
                    unfold Ent.val Ent.row Ent.gone
                    go_wp2_with fail
                    go_roundw
                    case rel => exact ⟨k + 1, t + m, s1, rfl, by go_num, by omega, by omega, by omega, by omega, hG1, hg1, hS9, hck9⟩
                    case measure => simp [RowKit.intOf]; omega
                · have h3b : (o.o.kd == 3) = false := by simp [h3]
                  rw [if_neg (by simp [h3])] at hact
                  subst hact
                  clear h3
                  go_wp2_with fail
                  refine (stk_entry hS2 hG1 b0 hB Ent.gone hg1).mono ?_
                  rintro e w9 ⟨rfl, hc9⟩
                  have hS9 := hS2.chg hc9 id id
                  have hck9 := hck2.trans hc9 (fun _ _ h => h.elim)
                  unfold Ent.val Ent.row Ent.gone
                  go_wp2_with fail
                  go_roundw
                  case rel => exact ⟨k + 1, t + m, s1, rfl, by go_num, by omega, by omega, by omega, by omega, hG1, hg1, hS9, hck9⟩
                  case measure => simp [RowKit.intOf]; omega
              · have hbb : (o.o.bk == b0) = false := by simp [hb]
                clear hb hact
                go_wp2_with fail
                refine (stk_entry hS2 hG1 b0 hB Ent.gone hg1).mono ?_
                rintro e w9 ⟨rfl, hc9⟩
                have hS9 := hS2.chg hc9 id id
                have hck9 := hck2.trans hc9 (fun _ _ h => h.elim)
                unfold Ent.val Ent.row Ent.gone
                go_wp2_with fail
                go_roundw
                case rel => exact ⟨k + 1, t + m, s1, rfl, by go_num, by omega, by omega, by omega, by omega, hG1, hg1, hS9, hck9⟩
                case measure => simp [RowKit.intOf]; omega
          · go_wp2_with fail
            all_goals
              refine (told9 _).mono ?_
              rintro e w9 ⟨rfl, hc9⟩
              go_wp2_with fail
              go_ret
              exact ⟨rfl, (hck.trans hc9 (fun _ _ h => h.elim)).mono (fun i hi h => by omega)⟩
end Go.Proofs.Ytihfcfpkffebiaa
