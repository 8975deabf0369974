/-
  layer 9: StockCopies, its walk. (Printed by wip/tools/gencopw.py.)
-/
import Derived.Test.YtihfcfpkffebiaaSGonP
import Derived.Test.YtihfcfpkffebiaaSopS
import Derived.Test.YtihfcfpkffebiaaStockJ
import Derived.Test.YtihfcfpkffebiaaStockK
namespace Go.Proofs.Ytihfcfpkffebiaa
open Go.RowKit Go.Maps

theorem Stk.bytes_ne (s : Stk) : s.bytes ≠ [] := by
  have := nb_ne s.cap
  unfold Stk.bytes
  simp [this]

theorem stk_bytesS {w : World} {b mb : Nat} {s : Stk} (h : StkAt w b mb s) (hG : s.Good) :
    Calls Try.prog 21 #[.pointer (some ⟨b, 0, none⟩)] w fun e w' => ∃ g n cap, e = .returned (.slice (some ⟨g, 0, none⟩) n cap) ∧
      (convert 48 9 (.slice (some ⟨g, 0, none⟩) n cap)).run Try.prog w' = .ok (.string ⟨s.bytes.toArray⟩) w' ∧ Chg (fun _ => False) w w' := by
  refine (stk_bytes h hG).mono ?_
  rintro e w' ⟨v, rfl, hown, hc⟩
  obtain ⟨g, cap, rfl, _, _, hcell⟩ := bytes_cells hown s.bytes_ne
  exact ⟨g, _, cap, rfl, bytes_str hcell, hc⟩

set_option maxRecDepth 100000 in
set_option maxHeartbeats 4000000 in
theorem stockCopies_walk (w : World) (ad : Option Addr) (cap : Nat) (l : List SOp) (ad2 : Option Addr) (cap2 : Nat) (l2 : List SOp) (hl : SopsIn w ad l) (hl2 : SopsIn w ad2 l2) :
    Calls Try.prog 8 #[.slice ad l.length cap, .slice ad2 l2.length cap2] w fun e w' => e = .returned (.bool true) ∧ Chg (fun _ => False) w w' := by
  have hmx := hl.len
  have hmx2 := hl2.len
  unfold maxLen at hmx hmx2
  go_enter Try.func8, Try.ntmps8
  go_wp2_with fail
  refine (new_w _ 30 5 (by omega) (by omega)).mono ?_
  rintro e w0 ⟨b, mb, rfl, hS0, hc0, hb, hm⟩
  have hbm : w.heap.size ≤ b ∧ w.heap.size ≤ mb := ⟨hb, hm⟩
  have hck0 : Chg (fun i => w.heap.size ≤ i) w w0 := hc0.mono (fun _ _ h => h.elim)
  have hG0 : (Stk.new 30 5).Good := Stk.Good.new (by omega) (by omega)
  clear hb hm hc0
  generalize Stk.new 30 5 = s0 at *
  go_wp2_with fail
  go_loopw [7, 8] (fun v7 v wr => ∃ (k : Nat) (t : Int) (s : Stk), v7 = .int .i64 t ∧ v = .int .i64 k ∧ k ≤ l.length ∧ k ≤ 30 ∧ 0 ≤ t ∧ t ≤ k * 20 ∧ s.Good ∧ StkAt wr b mb s ∧ Chg (fun i => w.heap.size ≤ i) w wr) (fun _ v _ => 30 - (RowKit.intOf v).toNat)
  case atStart => exact ⟨0, 0, s0, rfl, rfl, Nat.zero_le _, Nat.zero_le _, by omega, by omega, hG0, hS0, hck0⟩
  case round =>
    clear hG0 hS0 hck0
    obtain ⟨k, t, s, rfl, rfl, hk1, hk2, ht0, ht1, hG, hS, hck⟩ := hrel
    have hcF : Chg (fun _ => False) w wr := hck.mono (fun i hi h => by omega)
    by_cases hlt : k < l.length ∧ k < 30
    · obtain ⟨hlt1, hlt2⟩ := hlt
      obtain ⟨o, ho⟩ : ∃ o, l[k]? = some o := ⟨_, List.getElem?_eq_getElem hlt1⟩
      obtain ⟨a, rfl, hab, hat⟩ := (hl.chg hcF (fun i _ h => h)).at_ k o ho
      have g0 : wr.cell? (a.add (k * 9)) = some (.int .i64 o.kd) := hat 0 _ rfl
      have g1 : wr.cell? ⟨(a.add (k * 9)).block, (a.add (k * 9)).off + 1, none⟩ = some (.int .i64 o.o.kd) := hat 1 _ rfl
      have g2 : wr.cell? ⟨(a.add (k * 9)).block, (a.add (k * 9)).off + 2, none⟩ = some (.int .i64 o.o.bk) := hat 2 _ rfl
      have g3 : wr.cell? ⟨(a.add (k * 9)).block, (a.add (k * 9)).off + 3, none⟩ = some (.int .i64 o.o.un) := hat 3 _ rfl
      have g4 : wr.cell? ⟨(a.add (k * 9)).block, (a.add (k * 9)).off + 4, none⟩ = some (.int .i64 o.o.cu) := hat 4 _ rfl
      have g5 : wr.cell? ⟨(a.add (k * 9)).block, (a.add (k * 9)).off + 5, none⟩ = some (.int .i64 o.o.am) := hat 5 _ rfl
      have g6 : wr.cell? ⟨(a.add (k * 9)).block, (a.add (k * 9)).off + 6, none⟩ = some (.int .i64 o.d) := hat 6 _ rfl
      clear hat
      obtain ⟨m, hm⟩ : ∃ m, wrap64 ((IntKind.u64.wrap o.d).tmod 20) = m := ⟨_, rfl⟩
      have hmb := modK o.d 20 (by omega)
      rw [hm] at hmb
      obtain ⟨hm1, hm2⟩ := hmb
      go_wp2_with fail
      rw [hm]
      refine (do_w hS hG hbm o.o (t + m) _ _ rfl rfl).mono ?_
      rintro e w2 ⟨rfl, hS2, hc2⟩
      have hck2 := hck.trans hc2 (fun i _ h => h)
      have hG2 := hG.act o.o (t + m)
      clear hm g0 g1 g2 g3 g4 g5 g6
      go_wp2_with fail
      go_roundw
      case rel => exact ⟨k + 1, t + m, _, rfl, by go_num, by omega, by omega, by omega, by omega, hG2, hS2, hck2⟩
      case measure => simp [RowKit.intOf]; omega
    · go_wp2_with fail
      all_goals
        clear hlt hcF
        refine (stk_bytesS hS hG).mono ?_
        rintro e w1 ⟨g1, n1, p1, rfl, hv1, hc1⟩
        have hS1 := hS.chg hc1 id id
        have hck1 := hck.trans hc1 (fun _ _ h => h.elim)
        clear hS hck hc1
        go_wp2_with fail
        refine (stk_copy hS1).mono ?_
        rintro e w2 ⟨b2, mb2, rfl, hT2, hc2, hb2, hm2⟩
        have hzb := hS1.blk.lt
        have hzm := hS1.map.lt
        have hS2 := hS1.chg hc2 id id
        have hck2 := hck1.trans hc2 (fun _ _ h => h.elim)
        have hbb : w.heap.size ≤ b2 ∧ w.heap.size ≤ mb2 ∧ b ≠ b2 ∧ b ≠ mb2 ∧ mb ≠ b2 ∧ mb ≠ mb2 := by have := hck1.size; omega
        clear hv1 hS1 hck1 hc2 hb2 hm2 hzb hzm
        obtain ⟨e1, e2, e3, e4, e5, e6⟩ := hbb
        go_wp2_with fail
        refine (stk_bytesS hT2 hG).mono ?_
        rintro e w3 ⟨g3, n3, p3, rfl, hv3, hc3⟩
        have hS3 := hS2.chg hc3 id id
        have hT3 := hT2.chg hc3 id id
        have hck3 := hck2.trans hc3 (fun _ _ h => h.elim)
        clear hS2 hT2 hck2 hc3
        go_wp2_with fail
        clear hv3
        go_loopw [11] (fun v wx => ∃ (k : Nat) (s2 : Stk), v = .int .i64 k ∧ k ≤ l2.length ∧ k ≤ 30 ∧ s2.Good ∧ StkAt wx b2 mb2 s2 ∧ StkAt wx b mb s ∧ Chg (fun i => w.heap.size ≤ i) w wx) (fun v _ => 30 - (RowKit.intOf v).toNat)
        case atStart => exact ⟨0, s, rfl, Nat.zero_le _, Nat.zero_le _, hG, hT3, hS3, hck3⟩
        case round =>
          clear hT3 hS3 hck3
          obtain ⟨wq, rfl⟩ : ∃ wq : World, wq = wr := ⟨wr, rfl⟩
          obtain ⟨k2, s2, rfl, hk3, hk4, hG2, hT, hS, hck⟩ := hrel
          have hcF : Chg (fun _ => False) w wq := hck.mono (fun i hi h => by omega)
          by_cases hlt : k2 < l2.length ∧ k2 < 30
          · obtain ⟨hlt1, hlt2⟩ := hlt
            obtain ⟨o, ho⟩ : ∃ o, l2[k2]? = some o := ⟨_, List.getElem?_eq_getElem hlt1⟩
            obtain ⟨a, rfl, hab, hat⟩ := (hl2.chg hcF (fun i _ h => h)).at_ k2 o ho
            have g0 : wq.cell? (a.add (k2 * 9)) = some (.int .i64 o.kd) := hat 0 _ rfl
            have g1 : wq.cell? ⟨(a.add (k2 * 9)).block, (a.add (k2 * 9)).off + 1, none⟩ = some (.int .i64 o.o.kd) := hat 1 _ rfl
            have g2 : wq.cell? ⟨(a.add (k2 * 9)).block, (a.add (k2 * 9)).off + 2, none⟩ = some (.int .i64 o.o.bk) := hat 2 _ rfl
            have g3 : wq.cell? ⟨(a.add (k2 * 9)).block, (a.add (k2 * 9)).off + 3, none⟩ = some (.int .i64 o.o.un) := hat 3 _ rfl
            have g4 : wq.cell? ⟨(a.add (k2 * 9)).block, (a.add (k2 * 9)).off + 4, none⟩ = some (.int .i64 o.o.cu) := hat 4 _ rfl
            have g5 : wq.cell? ⟨(a.add (k2 * 9)).block, (a.add (k2 * 9)).off + 5, none⟩ = some (.int .i64 o.o.am) := hat 5 _ rfl
            have g6 : wq.cell? ⟨(a.add (k2 * 9)).block, (a.add (k2 * 9)).off + 6, none⟩ = some (.int .i64 o.d) := hat 6 _ rfl
            clear hat
            go_wp2_with fail
            refine (stk_do hT hG2 o.o t).mono ?_
            rintro e w4 ⟨rfl, hT4, hc4⟩
            have hG4 := hG2.act o.o t
            have hS4 := hS.chg hc4 (by omega) (by omega)
            have hck4 := hck.trans hc4 (fun i _ h => by omega)
            clear g0 g1 g2 g3 g4 g5 g6 hS hT hc4 hck
            generalize (s2.act o.o t).2 = s4 at *
            go_wp2_with fail
            refine (sweep_any hT4 hG4 (t + k2)).mono ?_
            rintro e w5 ⟨v5, rfl, _, hT5, hc5⟩
            have hG5 := hG4.sweep (t + k2)
            have hS5 := hS4.chg hc5 (by omega) (by omega)
            have hck5 := hck4.trans hc5 (fun i _ h => by omega)
            clear hS4 hT4 hc5 hck4
            go_wp2_with fail
            go_roundw
            case rel => exact ⟨k2 + 1, _, by go_num, by omega, by omega, hG5, hT5, hS5, hck5⟩
            case measure => simp [RowKit.intOf]; omega
          · go_wp2_with fail
            all_goals
              clear hlt hcF
              refine (stk_bytesS hS hG).mono ?_
              rintro e w6 ⟨g6, n6, p6, rfl, hv6, hc6⟩
              have hS6 := hS.chg hc6 id id
              have hT6 := hT.chg hc6 id id
              have hck6 := hck.trans hc6 (fun _ _ h => h.elim)
              clear hS hT hck hc6
              go_wp2_with fail
              clear hv6
              refine (stk_bytesS hT6 hG2).mono ?_
              rintro e w7 ⟨g7, n7, p7, rfl, hv7, hc7⟩
              have hS7 := hS6.chg hc7 id id
              have hT7 := hT6.chg hc7 id id
              have hck7 := hck6.trans hc7 (fun _ _ h => h.elim)
              clear hS6 hT6 hck6 hc7
              obtain ⟨r1, r2⟩ := Stk.act_rel s (b := 77) (t := t) (by omega) ht0 (by omega)
              have hGr := hG.act ⟨3, 77, 0, 0, 0⟩ t
              have r1h := Lib.hid r1
              have r2h := Lib.hid r2
              clear r1 r2
              go_wp2_with fail
              clear hv7
              refine (stk_do hS7 hG ⟨3, 77, 0, 0, 0⟩ t).mono ?_
              rintro e w8 ⟨rfl, hS8, hc8⟩
              have hT8 := hT7.chg hc8 (by omega) (by omega)
              have hck8 := hck7.trans hc8 (fun i _ h => by omega)
              clear hS7 hT7 hck7 hc8
              go_wp2_with fail
              refine (told9 _).mono ?_
              rintro e w9 ⟨rfl, hc9⟩
              have hS9 := hS8.chg hc9 id id
              have hT9 := hT8.chg hc9 id id
              have hck9 := hck8.trans hc9 (fun _ _ h => h.elim)
              clear hS8 hT8 hck8 hc9
              go_wp2_with fail
              refine (stk_bytesS hT9 hG2).mono ?_
              rintro e wa ⟨ga, na, pa, rfl, hva, hca⟩
              have hSa := hS9.chg hca id id
              have hcka := hck9.trans hca (fun _ _ h => h.elim)
              clear hS9 hT9 hck9 hca
              go_wp2_with fail
              clear hva
              refine (stk_entry hSa hGr 77 (by omega) Ent.gone r2h.out).mono ?_
              rintro e wb ⟨rfl, hcb⟩
              have hfd : ∀ w1, (Instr.field 40 (.agg #[.int .i64 3, .int .i64 0, .int .i64 0, .int .i64 0, .int .i64 0]) 0).run Try.prog w1 = .ok (.int .i64 3) w1 := fun w1 => by kernel_rfl
              unfold Ent.val Ent.row Ent.gone
              go_wp2_with fail
              go_ret
              exact ⟨rfl, (hcka.trans hcb (fun _ _ h => h.elim)).mono (fun i hi h => by omega)⟩
end Go.Proofs.Ytihfcfpkffebiaa
