/-
  layer 12: HostLate, its walk. (Printed by wip/tools/genlate.py.)
-/
import Derived.Test.YtdeoipioinnkcaaLateP
import Derived.Test.YtdeoipioinnkcaaHostT
import Derived.Test.YtdeoipioinnkcaaSopH
namespace Go.Proofs.Ytdeoipioinnkcaa
open Go.RowKit Go.Maps

set_option maxRecDepth 100000 in
set_option maxHeartbeats 16000000 in
theorem hostLate_walk (w : World) (ad : Option Addr) (cap : Nat) (l : List SOp) (ad2 : Option Addr) (cap2 : Nat) (m : List Int) (n : Int) (hl : SopsIn w ad l) (hm : IntsIn w ad2 m) :
    Calls Try.prog 3 #[.slice ad l.length cap, .slice ad2 m.length cap2, .int .i64 n] w fun e w' => e = .returned (.bool true) ∧ Chg (fun _ => False) w w' := by
  have hmx := hl.len
  have hmx2 := hm.len
  unfold maxLen at hmx hmx2
  obtain ⟨U0, hU0⟩ : ∃ U0, wrap64 ((IntKind.u64.wrap n).tmod 1000) = U0 := ⟨_, rfl⟩
  have hUb := modK n 1000 (by omega)
  rw [hU0] at hUb
  obtain ⟨hU1, hU2⟩ := hUb
  go_enter Try.func3, Try.ntmps3
  go_wp2_with fail
  refine (hostNew _ 2000 0 (by omega) (by omega)).mono ?_
  rintro e w0 ⟨b, rfl, hW0, hc0⟩
  have hck0 : Chg (fun i => w.heap.size ≤ i) w w0 := hc0.mono (fun _ _ h => h.elim)
  have hL0 : LateI (Stk.new 2000 0) (fun _ => 0) 150 false := ⟨Stk.Good.new (by omega) (by omega), fun h => absurd rfl h, fun h => by cases h⟩
  have hW0 := hW0.here
  generalize Stk.new 2000 0 = s0 at *
  generalize (fun _ => 0 : Tab) = f0 at *
  clear hc0
  go_wp2_with fail
  rw [hU0]
  generalize 1 + U0 = U at *
  go_loopw [10, 11, 12] (fun v10 v11 v12 wr => ∃ (k : Nat) (T : Int) (v : Bool) (s : Stk) (f : Tab), v10 = .int .i64 T ∧ v11 = .bool v ∧ v12 = .int .i64 k ∧ k ≤ m.length ∧ k ≤ 20 ∧ 0 ≤ T ∧ T ≤ k * 7 ∧ HostW (fun i => w.heap.size ≤ i ∧ i < w0.heap.size) wr b s f ∧ LateI s f 150 v ∧ w0.heap.size ≤ wr.heap.size ∧ Chg (fun i => w.heap.size ≤ i) w wr) (fun _ _ v12 _ => 20 - (RowKit.intOf v12).toNat)
  case atStart => exact ⟨0, 0, false, s0, f0, rfl, rfl, rfl, Nat.zero_le _, Nat.zero_le _, by omega, by omega, hW0, hL0, Nat.le_refl _, hck0⟩
  case round =>
    clear hW0 hL0
    have hzw := hck0.size
    obtain ⟨k, T, v, s, f, rfl, rfl, rfl, hk1, hk2, hT0, hT1, hW, hL, hwz, hck⟩ := hrel
    have hcF : Chg (fun _ => False) w wr := hck.mono (fun i hi h => by omega)
    by_cases hlt : k < m.length ∧ k < 20
    · obtain ⟨hlt1, hlt2⟩ := hlt
      obtain ⟨x, hx⟩ : ∃ x, m[k]? = some x := ⟨_, List.getElem?_eq_getElem hlt1⟩
      obtain ⟨d, rfl, hdb, hdat⟩ := (hm.chg hcF (fun _ _ h => h)).at_ k x hx
      have g0 : wr.cell? (d.add k) = some (.int .i64 x) := hdat
      have gA : ∀ o, (wr.alloc o).cell? (d.add k) = some (.int .i64 x) := fun o => by
        have e : (d.add k).block = d.block := by unfold Addr.add; split <;> rfl
        rw [((Chg.refl (fun _ => False) wr).alloc o).cell (by rw [e]; exact hdb) id]; exact hdat
      clear hdat hcF hx
      obtain ⟨c, hc⟩ : ∃ c, wrap64 ((IntKind.u64.wrap x).tmod 3) = c := ⟨_, rfl⟩
      have hcb := modK x 3 (by omega)
      rw [hc] at hcb
      have hch := Lib.hid hc
      clear hc
      have hcc : c = 0 ∨ c = 1 ∨ c = 2 := by omega
      clear hcb
      cases v
      · rcases hcc with hc | hc | hc
        · have hce := hch.out
          rw [hc] at hce
          go_wp2_with fail
          have hc7 : Chg (fun _ => False) wr ((wr.alloc (.cells #[.int .i64 1, .int .i64 150, .int .i64 U, .int .i64 0, .int .i64 0, .int .i64 2, .int .i64 150, .int .i64 0, .int .i64 0, .int .i64 0, .int .i64 3, .int .i64 150, .int .i64 0, .int .i64 0, .int .i64 0] 31)).alloc (.cells #[.int .i64 1, .int .i64 150, .int .i64 U, .int .i64 0, .int .i64 0] 31)) := ((Chg.refl _ wr).alloc _).alloc _
          have hO := Blk.new (wr.alloc (.cells #[.int .i64 1, .int .i64 150, .int .i64 U, .int .i64 0, .int .i64 0, .int .i64 2, .int .i64 150, .int .i64 0, .int .i64 0, .int .i64 0, .int .i64 3, .int .i64 150, .int .i64 0, .int .i64 0, .int .i64 0] 31)) 31 #[.int .i64 1, .int .i64 150, .int .i64 U, .int .i64 0, .int .i64 0]
          rw [alloc_size] at hO
          generalize (wr.alloc (.cells #[.int .i64 1, .int .i64 150, .int .i64 U, .int .i64 0, .int .i64 0, .int .i64 2, .int .i64 150, .int .i64 0, .int .i64 0, .int .i64 0, .int .i64 3, .int .i64 150, .int .i64 0, .int .i64 0, .int .i64 0] 31)).alloc (.cells #[.int .i64 1, .int .i64 150, .int .i64 U, .int .i64 0, .int .i64 0] 31) = w7 at *
          have hW7 := hW.keep hc7
          have hL8 := hL.keep ⟨1, 150, U, 0, 0⟩ (t := T) (by omega) (by omega) rfl (by show (1 : Int) ≠ 3; decide)
          obtain ⟨r8, n8, s8, f8, ha8⟩ : ∃ r n s' f', hAsk s f ⟨1, 150, U, 0, 0⟩ T = (r, n, s', f') := ⟨_, _, _, _, rfl⟩
          rw [ha8] at hL8
          dsimp only at hL8
          refine (hask_any _ w7 b s f ⟨1, 150, U, 0, 0⟩ T hW7 hL.good r8 n8 s8 f8 ha8).mono ?_
          rintro e w8 ⟨rfl, hW8, hc8⟩
          clear ha8
          have hO8 := hO.chg hc8 (fun h => by have := h.2; omega)
          have hck8 := (hck.trans hc7 (fun _ _ h => h.elim)).trans hc8 (fun i _ h => h.1)
          have q0 : w8.cell? ⟨wr.heap.size + 1, 0, none⟩ = some (.int .i64 1) := by rw [hO8.cell]; rfl
          have q1 : w8.cell? ⟨wr.heap.size + 1, 1, none⟩ = some (.int .i64 150) := by rw [hO8.cell]; rfl
          have q2 : w8.cell? ⟨wr.heap.size + 1, 2, none⟩ = some (.int .i64 U) := by rw [hO8.cell]; rfl
          have q3 : w8.cell? ⟨wr.heap.size + 1, 3, none⟩ = some (.int .i64 0) := by rw [hO8.cell]; rfl
          have q4 : w8.cell? ⟨wr.heap.size + 1, 4, none⟩ = some (.int .i64 0) := by rw [hO8.cell]; rfl
          have hz7 := hc7.size
          have hz8 := hc8.size
          clear hW hL hck hc7 hW7 hc8 hO g0 gA
          have hcF8 : Chg (fun _ => False) w w8 := hck8.mono (fun i hi h => by omega)
          by_cases hkl : k < l.length
          · obtain ⟨o, ho⟩ : ∃ o, l[k]? = some o := ⟨_, List.getElem?_eq_getElem hkl⟩
            obtain ⟨a, rfl, hab, hat⟩ := (hl.chg hcF8 (fun i _ h => h)).at_ k o ho
            have g1 : w8.cell? ⟨(a.add (k * 9)).block, (a.add (k * 9)).off + 1, none⟩ = some (.int .i64 o.o.kd) := hat 1 _ rfl
            have g2 : w8.cell? ⟨(a.add (k * 9)).block, (a.add (k * 9)).off + 2, none⟩ = some (.int .i64 o.o.bk) := hat 2 _ rfl
            have g3 : w8.cell? ⟨(a.add (k * 9)).block, (a.add (k * 9)).off + 3, none⟩ = some (.int .i64 o.o.un) := hat 3 _ rfl
            have g4 : w8.cell? ⟨(a.add (k * 9)).block, (a.add (k * 9)).off + 4, none⟩ = some (.int .i64 o.o.cu) := hat 4 _ rfl
            have g5 : w8.cell? ⟨(a.add (k * 9)).block, (a.add (k * 9)).off + 5, none⟩ = some (.int .i64 o.o.am) := hat 5 _ rfl
            clear hat hcF8
            by_cases hb : o.o.bk = 150
            · have hbb : (o.o.bk == 150) = true := by simp [hb]
              have hbn : (o.o.bk != 150) = false := by simp [hb]
              clear hb
              go_wp2_with fail
              refine (host_stock hW8).mono ?_
              rintro e wb ⟨b2, mb2, rfl, hC, hcb, _, _⟩
              have hWb := hW8.keep hcb
              have hckb := hck8.trans hcb (fun _ _ h => h.elim)
              obtain ⟨y, hy⟩ : ∃ y, s8.en 150 = y := ⟨_, rfl⟩
              have hyh := Lib.hid hy
              clear hy
              go_wp2_with fail
              refine (stk_entry hC hL8.good 150 (by omega) y hyh.out).mono ?_
              rintro e wc ⟨rfl, hcc⟩
              have hWc := hWb.keep hcc
              have hzb := hcb.size
              have hzc := hcc.size
              have hzd : w0.heap.size ≤ (wc.alloc (.cells (y).row 40)).heap.size := by rw [alloc_size]; omega
              have hckc := (hckb.trans hcc (fun _ _ h => h.elim)).alloc (.cells (y).row 40)
              have hWd := hWc.keep ((Chg.refl (fun _ => False) wc).alloc (.cells (y).row 40))
              unfold Ent.row at hckc hWd hzd
              unfold Ent.val Ent.row

              go_wp2_with fail
              go_roundw
              case rel => exact ⟨k + 1, T + 7, false, _, _, rfl, rfl, by go_num, by omega, by omega, by omega, by omega, hWd, hL8, hzd, hckc⟩
              case measure => simp [RowKit.intOf]; omega
            · have hbb : (o.o.bk == 150) = false := by simp [hb]
              have hbn : (o.o.bk != 150) = true := by simp [hb]
              have hL9 := hL8.other o.o T hb
              obtain ⟨r9, n9, s9, f9, ha9⟩ : ∃ r n s' f', hAsk s8 f8 o.o T = (r, n, s', f') := ⟨_, _, _, _, rfl⟩
              rw [ha9] at hL9
              dsimp only at hL9
              have hah := Lib.hid ha9
              clear hb ha9
              go_wp2_with fail
              refine (hask_any _ w8 b s8 f8 o.o T hW8 hL8.good r9 n9 s9 f9 hah.out).mono ?_
              rintro e w9 ⟨rfl, hW9, hc9⟩
              have hck9 := hck8.trans hc9 (fun i _ h => h.1)
              have hz9 := hc9.size
              clear hW8 hck8 hc9 g1 g2 g3 g4 g5 q0 q1 q2 q3 q4 hL8
              go_wp2_with fail
              refine (host_stock hW9).mono ?_
              rintro e wb ⟨b2, mb2, rfl, hC, hcb, _, _⟩
              have hWb := hW9.keep hcb
              have hckb := hck9.trans hcb (fun _ _ h => h.elim)
              obtain ⟨y, hy⟩ : ∃ y, s9.en 150 = y := ⟨_, rfl⟩
              have hyh := Lib.hid hy
              clear hy
              go_wp2_with fail
              refine (stk_entry hC hL9.good 150 (by omega) y hyh.out).mono ?_
              rintro e wc ⟨rfl, hcc⟩
              have hWc := hWb.keep hcc
              have hzb := hcb.size
              have hzc := hcc.size
              have hzd : w0.heap.size ≤ (wc.alloc (.cells (y).row 40)).heap.size := by rw [alloc_size]; omega
              have hckc := (hckb.trans hcc (fun _ _ h => h.elim)).alloc (.cells (y).row 40)
              have hWd := hWc.keep ((Chg.refl (fun _ => False) wc).alloc (.cells (y).row 40))
              unfold Ent.row at hckc hWd hzd
              unfold Ent.val Ent.row

              go_wp2_with fail
              go_roundw
              case rel => exact ⟨k + 1, T + 7, false, _, _, rfl, rfl, by go_num, by omega, by omega, by omega, by omega, hWd, hL9, hzd, hckc⟩
              case measure => simp [RowKit.intOf]; omega
          · go_wp2_with fail
            refine (host_stock hW8).mono ?_
            rintro e wb ⟨b2, mb2, rfl, hC, hcb, _, _⟩
            have hWb := hW8.keep hcb
            have hckb := hck8.trans hcb (fun _ _ h => h.elim)
            obtain ⟨y, hy⟩ : ∃ y, s8.en 150 = y := ⟨_, rfl⟩
            have hyh := Lib.hid hy
            clear hy
            go_wp2_with fail
            refine (stk_entry hC hL8.good 150 (by omega) y hyh.out).mono ?_
            rintro e wc ⟨rfl, hcc⟩
            have hWc := hWb.keep hcc
            have hzb := hcb.size
            have hzc := hcc.size
            have hzd : w0.heap.size ≤ (wc.alloc (.cells (y).row 40)).heap.size := by rw [alloc_size]; omega
            have hckc := (hckb.trans hcc (fun _ _ h => h.elim)).alloc (.cells (y).row 40)
            have hWd := hWc.keep ((Chg.refl (fun _ => False) wc).alloc (.cells (y).row 40))
            unfold Ent.row at hckc hWd hzd
            unfold Ent.val Ent.row

            go_wp2_with fail
            go_roundw
            case rel => exact ⟨k + 1, T + 7, false, _, _, rfl, rfl, by go_num, by omega, by omega, by omega, by omega, hWd, hL8, hzd, hckc⟩
            case measure => simp [RowKit.intOf]; omega
        · have hce := hch.out
          rw [hc] at hce
          go_wp2_with fail
          have hc7 : Chg (fun _ => False) wr ((wr.alloc (.cells #[.int .i64 1, .int .i64 150, .int .i64 U, .int .i64 0, .int .i64 0, .int .i64 2, .int .i64 150, .int .i64 0, .int .i64 0, .int .i64 0, .int .i64 3, .int .i64 150, .int .i64 0, .int .i64 0, .int .i64 0] 31)).alloc (.cells #[.int .i64 2, .int .i64 150, .int .i64 0, .int .i64 0, .int .i64 0] 31)) := ((Chg.refl _ wr).alloc _).alloc _
          have hO := Blk.new (wr.alloc (.cells #[.int .i64 1, .int .i64 150, .int .i64 U, .int .i64 0, .int .i64 0, .int .i64 2, .int .i64 150, .int .i64 0, .int .i64 0, .int .i64 0, .int .i64 3, .int .i64 150, .int .i64 0, .int .i64 0, .int .i64 0] 31)) 31 #[.int .i64 2, .int .i64 150, .int .i64 0, .int .i64 0, .int .i64 0]
          rw [alloc_size] at hO
          generalize (wr.alloc (.cells #[.int .i64 1, .int .i64 150, .int .i64 U, .int .i64 0, .int .i64 0, .int .i64 2, .int .i64 150, .int .i64 0, .int .i64 0, .int .i64 0, .int .i64 3, .int .i64 150, .int .i64 0, .int .i64 0, .int .i64 0] 31)).alloc (.cells #[.int .i64 2, .int .i64 150, .int .i64 0, .int .i64 0, .int .i64 0] 31) = w7 at *
          have hW7 := hW.keep hc7
          have hL8 := hL.keep ⟨2, 150, 0, 0, 0⟩ (t := T) (by omega) (by omega) rfl (by show (2 : Int) ≠ 3; decide)
          obtain ⟨r8, n8, s8, f8, ha8⟩ : ∃ r n s' f', hAsk s f ⟨2, 150, 0, 0, 0⟩ T = (r, n, s', f') := ⟨_, _, _, _, rfl⟩
          rw [ha8] at hL8
          dsimp only at hL8
          refine (hask_any _ w7 b s f ⟨2, 150, 0, 0, 0⟩ T hW7 hL.good r8 n8 s8 f8 ha8).mono ?_
          rintro e w8 ⟨rfl, hW8, hc8⟩
          clear ha8
          have hO8 := hO.chg hc8 (fun h => by have := h.2; omega)
          have hck8 := (hck.trans hc7 (fun _ _ h => h.elim)).trans hc8 (fun i _ h => h.1)
          have q0 : w8.cell? ⟨wr.heap.size + 1, 0, none⟩ = some (.int .i64 2) := by rw [hO8.cell]; rfl
          have q1 : w8.cell? ⟨wr.heap.size + 1, 1, none⟩ = some (.int .i64 150) := by rw [hO8.cell]; rfl
          have q2 : w8.cell? ⟨wr.heap.size + 1, 2, none⟩ = some (.int .i64 0) := by rw [hO8.cell]; rfl
          have q3 : w8.cell? ⟨wr.heap.size + 1, 3, none⟩ = some (.int .i64 0) := by rw [hO8.cell]; rfl
          have q4 : w8.cell? ⟨wr.heap.size + 1, 4, none⟩ = some (.int .i64 0) := by rw [hO8.cell]; rfl
          have hz7 := hc7.size
          have hz8 := hc8.size
          clear hW hL hck hc7 hW7 hc8 hO g0 gA
          have hcF8 : Chg (fun _ => False) w w8 := hck8.mono (fun i hi h => by omega)
          by_cases hkl : k < l.length
          · obtain ⟨o, ho⟩ : ∃ o, l[k]? = some o := ⟨_, List.getElem?_eq_getElem hkl⟩
            obtain ⟨a, rfl, hab, hat⟩ := (hl.chg hcF8 (fun i _ h => h)).at_ k o ho
            have g1 : w8.cell? ⟨(a.add (k * 9)).block, (a.add (k * 9)).off + 1, none⟩ = some (.int .i64 o.o.kd) := hat 1 _ rfl
            have g2 : w8.cell? ⟨(a.add (k * 9)).block, (a.add (k * 9)).off + 2, none⟩ = some (.int .i64 o.o.bk) := hat 2 _ rfl
            have g3 : w8.cell? ⟨(a.add (k * 9)).block, (a.add (k * 9)).off + 3, none⟩ = some (.int .i64 o.o.un) := hat 3 _ rfl
            have g4 : w8.cell? ⟨(a.add (k * 9)).block, (a.add (k * 9)).off + 4, none⟩ = some (.int .i64 o.o.cu) := hat 4 _ rfl
            have g5 : w8.cell? ⟨(a.add (k * 9)).block, (a.add (k * 9)).off + 5, none⟩ = some (.int .i64 o.o.am) := hat 5 _ rfl
            clear hat hcF8
            by_cases hb : o.o.bk = 150
            · have hbb : (o.o.bk == 150) = true := by simp [hb]
              have hbn : (o.o.bk != 150) = false := by simp [hb]
              clear hb
              go_wp2_with fail
              refine (host_stock hW8).mono ?_
              rintro e wb ⟨b2, mb2, rfl, hC, hcb, _, _⟩
              have hWb := hW8.keep hcb
              have hckb := hck8.trans hcb (fun _ _ h => h.elim)
              obtain ⟨y, hy⟩ : ∃ y, s8.en 150 = y := ⟨_, rfl⟩
              have hyh := Lib.hid hy
              clear hy
              go_wp2_with fail
              refine (stk_entry hC hL8.good 150 (by omega) y hyh.out).mono ?_
              rintro e wc ⟨rfl, hcc⟩
              have hWc := hWb.keep hcc
              have hzb := hcb.size
              have hzc := hcc.size
              have hzd : w0.heap.size ≤ (wc.alloc (.cells (y).row 40)).heap.size := by rw [alloc_size]; omega
              have hckc := (hckb.trans hcc (fun _ _ h => h.elim)).alloc (.cells (y).row 40)
              have hWd := hWc.keep ((Chg.refl (fun _ => False) wc).alloc (.cells (y).row 40))
              unfold Ent.row at hckc hWd hzd
              unfold Ent.val Ent.row

              go_wp2_with fail
              go_roundw
              case rel => exact ⟨k + 1, T + 7, false, _, _, rfl, rfl, by go_num, by omega, by omega, by omega, by omega, hWd, hL8, hzd, hckc⟩
              case measure => simp [RowKit.intOf]; omega
            · have hbb : (o.o.bk == 150) = false := by simp [hb]
              have hbn : (o.o.bk != 150) = true := by simp [hb]
              have hL9 := hL8.other o.o T hb
              obtain ⟨r9, n9, s9, f9, ha9⟩ : ∃ r n s' f', hAsk s8 f8 o.o T = (r, n, s', f') := ⟨_, _, _, _, rfl⟩
              rw [ha9] at hL9
              dsimp only at hL9
              have hah := Lib.hid ha9
              clear hb ha9
              go_wp2_with fail
              refine (hask_any _ w8 b s8 f8 o.o T hW8 hL8.good r9 n9 s9 f9 hah.out).mono ?_
              rintro e w9 ⟨rfl, hW9, hc9⟩
              have hck9 := hck8.trans hc9 (fun i _ h => h.1)
              have hz9 := hc9.size
              clear hW8 hck8 hc9 g1 g2 g3 g4 g5 q0 q1 q2 q3 q4 hL8
              go_wp2_with fail
              refine (host_stock hW9).mono ?_
              rintro e wb ⟨b2, mb2, rfl, hC, hcb, _, _⟩
              have hWb := hW9.keep hcb
              have hckb := hck9.trans hcb (fun _ _ h => h.elim)
              obtain ⟨y, hy⟩ : ∃ y, s9.en 150 = y := ⟨_, rfl⟩
              have hyh := Lib.hid hy
              clear hy
              go_wp2_with fail
              refine (stk_entry hC hL9.good 150 (by omega) y hyh.out).mono ?_
              rintro e wc ⟨rfl, hcc⟩
              have hWc := hWb.keep hcc
              have hzb := hcb.size
              have hzc := hcc.size
              have hzd : w0.heap.size ≤ (wc.alloc (.cells (y).row 40)).heap.size := by rw [alloc_size]; omega
              have hckc := (hckb.trans hcc (fun _ _ h => h.elim)).alloc (.cells (y).row 40)
              have hWd := hWc.keep ((Chg.refl (fun _ => False) wc).alloc (.cells (y).row 40))
              unfold Ent.row at hckc hWd hzd
              unfold Ent.val Ent.row

              go_wp2_with fail
              go_roundw
              case rel => exact ⟨k + 1, T + 7, false, _, _, rfl, rfl, by go_num, by omega, by omega, by omega, by omega, hWd, hL9, hzd, hckc⟩
              case measure => simp [RowKit.intOf]; omega
          · go_wp2_with fail
            refine (host_stock hW8).mono ?_
            rintro e wb ⟨b2, mb2, rfl, hC, hcb, _, _⟩
            have hWb := hW8.keep hcb
            have hckb := hck8.trans hcb (fun _ _ h => h.elim)
            obtain ⟨y, hy⟩ : ∃ y, s8.en 150 = y := ⟨_, rfl⟩
            have hyh := Lib.hid hy
            clear hy
            go_wp2_with fail
            refine (stk_entry hC hL8.good 150 (by omega) y hyh.out).mono ?_
            rintro e wc ⟨rfl, hcc⟩
            have hWc := hWb.keep hcc
            have hzb := hcb.size
            have hzc := hcc.size
            have hzd : w0.heap.size ≤ (wc.alloc (.cells (y).row 40)).heap.size := by rw [alloc_size]; omega
            have hckc := (hckb.trans hcc (fun _ _ h => h.elim)).alloc (.cells (y).row 40)
            have hWd := hWc.keep ((Chg.refl (fun _ => False) wc).alloc (.cells (y).row 40))
            unfold Ent.row at hckc hWd hzd
            unfold Ent.val Ent.row

            go_wp2_with fail
            go_roundw
            case rel => exact ⟨k + 1, T + 7, false, _, _, rfl, rfl, by go_num, by omega, by omega, by omega, by omega, hWd, hL8, hzd, hckc⟩
            case measure => simp [RowKit.intOf]; omega
        · have hce := hch.out
          rw [hc] at hce
          go_wp2_with fail
          have hc7 : Chg (fun _ => False) wr ((wr.alloc (.cells #[.int .i64 1, .int .i64 150, .int .i64 U, .int .i64 0, .int .i64 0, .int .i64 2, .int .i64 150, .int .i64 0, .int .i64 0, .int .i64 0, .int .i64 3, .int .i64 150, .int .i64 0, .int .i64 0, .int .i64 0] 31)).alloc (.cells #[.int .i64 3, .int .i64 150, .int .i64 0, .int .i64 0, .int .i64 0] 31)) := ((Chg.refl _ wr).alloc _).alloc _
          have hO := Blk.new (wr.alloc (.cells #[.int .i64 1, .int .i64 150, .int .i64 U, .int .i64 0, .int .i64 0, .int .i64 2, .int .i64 150, .int .i64 0, .int .i64 0, .int .i64 0, .int .i64 3, .int .i64 150, .int .i64 0, .int .i64 0, .int .i64 0] 31)) 31 #[.int .i64 3, .int .i64 150, .int .i64 0, .int .i64 0, .int .i64 0]
          rw [alloc_size] at hO
          generalize (wr.alloc (.cells #[.int .i64 1, .int .i64 150, .int .i64 U, .int .i64 0, .int .i64 0, .int .i64 2, .int .i64 150, .int .i64 0, .int .i64 0, .int .i64 0, .int .i64 3, .int .i64 150, .int .i64 0, .int .i64 0, .int .i64 0] 31)).alloc (.cells #[.int .i64 3, .int .i64 150, .int .i64 0, .int .i64 0, .int .i64 0] 31) = w7 at *
          have hW7 := hW.keep hc7
          have hL8 := hL.release (t := T) (by omega) (by omega) (by omega)
          obtain ⟨r8, n8, s8, f8, ha8⟩ : ∃ r n s' f', hAsk s f ⟨3, 150, 0, 0, 0⟩ T = (r, n, s', f') := ⟨_, _, _, _, rfl⟩
          rw [ha8] at hL8
          dsimp only at hL8
          refine (hask_any _ w7 b s f ⟨3, 150, 0, 0, 0⟩ T hW7 hL.good r8 n8 s8 f8 ha8).mono ?_
          rintro e w8 ⟨rfl, hW8, hc8⟩
          clear ha8
          have hO8 := hO.chg hc8 (fun h => by have := h.2; omega)
          have hck8 := (hck.trans hc7 (fun _ _ h => h.elim)).trans hc8 (fun i _ h => h.1)
          have q0 : w8.cell? ⟨wr.heap.size + 1, 0, none⟩ = some (.int .i64 3) := by rw [hO8.cell]; rfl
          have q1 : w8.cell? ⟨wr.heap.size + 1, 1, none⟩ = some (.int .i64 150) := by rw [hO8.cell]; rfl
          have q2 : w8.cell? ⟨wr.heap.size + 1, 2, none⟩ = some (.int .i64 0) := by rw [hO8.cell]; rfl
          have q3 : w8.cell? ⟨wr.heap.size + 1, 3, none⟩ = some (.int .i64 0) := by rw [hO8.cell]; rfl
          have q4 : w8.cell? ⟨wr.heap.size + 1, 4, none⟩ = some (.int .i64 0) := by rw [hO8.cell]; rfl
          have hz7 := hc7.size
          have hz8 := hc8.size
          clear hW hL hck hc7 hW7 hc8 hO g0 gA
          have hcF8 : Chg (fun _ => False) w w8 := hck8.mono (fun i hi h => by omega)
          by_cases hkl : k < l.length
          · obtain ⟨o, ho⟩ : ∃ o, l[k]? = some o := ⟨_, List.getElem?_eq_getElem hkl⟩
            obtain ⟨a, rfl, hab, hat⟩ := (hl.chg hcF8 (fun i _ h => h)).at_ k o ho
            have g1 : w8.cell? ⟨(a.add (k * 9)).block, (a.add (k * 9)).off + 1, none⟩ = some (.int .i64 o.o.kd) := hat 1 _ rfl
            have g2 : w8.cell? ⟨(a.add (k * 9)).block, (a.add (k * 9)).off + 2, none⟩ = some (.int .i64 o.o.bk) := hat 2 _ rfl
            have g3 : w8.cell? ⟨(a.add (k * 9)).block, (a.add (k * 9)).off + 3, none⟩ = some (.int .i64 o.o.un) := hat 3 _ rfl
            have g4 : w8.cell? ⟨(a.add (k * 9)).block, (a.add (k * 9)).off + 4, none⟩ = some (.int .i64 o.o.cu) := hat 4 _ rfl
            have g5 : w8.cell? ⟨(a.add (k * 9)).block, (a.add (k * 9)).off + 5, none⟩ = some (.int .i64 o.o.am) := hat 5 _ rfl
            clear hat hcF8
            by_cases hb : o.o.bk = 150
            · have hbb : (o.o.bk == 150) = true := by simp [hb]
              have hbn : (o.o.bk != 150) = false := by simp [hb]
              clear hb
              go_wp2_with fail
              refine (host_stock hW8).mono ?_
              rintro e wb ⟨b2, mb2, rfl, hC, hcb, _, _⟩
              have hWb := hW8.keep hcb
              have hckb := hck8.trans hcb (fun _ _ h => h.elim)
              go_wp2_with fail
              refine (stk_entry hC hL8.good 150 (by omega) Ent.gone (hL8.gone rfl)).mono ?_
              rintro e wc ⟨rfl, hcc⟩
              have hWc := hWb.keep hcc
              have hzb := hcb.size
              have hzc := hcc.size
              have hzd : w0.heap.size ≤ (wc.alloc (.cells (Ent.gone).row 40)).heap.size := by rw [alloc_size]; omega
              have hckc := (hckb.trans hcc (fun _ _ h => h.elim)).alloc (.cells (Ent.gone).row 40)
              have hWd := hWc.keep ((Chg.refl (fun _ => False) wc).alloc (.cells (Ent.gone).row 40))
              unfold Ent.row at hckc hWd hzd
              unfold Ent.val Ent.row
              unfold Ent.gone at hckc hWd hzd ⊢
              go_wp2_with fail
              go_roundw
              case rel => exact ⟨k + 1, T + 7, true, _, _, rfl, rfl, by go_num, by omega, by omega, by omega, by omega, hWd, hL8, hzd, hckc⟩
              case measure => simp [RowKit.intOf]; omega
            · have hbb : (o.o.bk == 150) = false := by simp [hb]
              have hbn : (o.o.bk != 150) = true := by simp [hb]
              have hL9 := hL8.other o.o T hb
              obtain ⟨r9, n9, s9, f9, ha9⟩ : ∃ r n s' f', hAsk s8 f8 o.o T = (r, n, s', f') := ⟨_, _, _, _, rfl⟩
              rw [ha9] at hL9
              dsimp only at hL9
              have hah := Lib.hid ha9
              clear hb ha9
              go_wp2_with fail
              refine (hask_any _ w8 b s8 f8 o.o T hW8 hL8.good r9 n9 s9 f9 hah.out).mono ?_
              rintro e w9 ⟨rfl, hW9, hc9⟩
              have hck9 := hck8.trans hc9 (fun i _ h => h.1)
              have hz9 := hc9.size
              clear hW8 hck8 hc9 g1 g2 g3 g4 g5 q0 q1 q2 q3 q4 hL8
              go_wp2_with fail
              refine (host_stock hW9).mono ?_
              rintro e wb ⟨b2, mb2, rfl, hC, hcb, _, _⟩
              have hWb := hW9.keep hcb
              have hckb := hck9.trans hcb (fun _ _ h => h.elim)
              go_wp2_with fail
              refine (stk_entry hC hL9.good 150 (by omega) Ent.gone (hL9.gone rfl)).mono ?_
              rintro e wc ⟨rfl, hcc⟩
              have hWc := hWb.keep hcc
              have hzb := hcb.size
              have hzc := hcc.size
              have hzd : w0.heap.size ≤ (wc.alloc (.cells (Ent.gone).row 40)).heap.size := by rw [alloc_size]; omega
              have hckc := (hckb.trans hcc (fun _ _ h => h.elim)).alloc (.cells (Ent.gone).row 40)
              have hWd := hWc.keep ((Chg.refl (fun _ => False) wc).alloc (.cells (Ent.gone).row 40))
              unfold Ent.row at hckc hWd hzd
              unfold Ent.val Ent.row
              unfold Ent.gone at hckc hWd hzd ⊢
              go_wp2_with fail
              go_roundw
              case rel => exact ⟨k + 1, T + 7, true, _, _, rfl, rfl, by go_num, by omega, by omega, by omega, by omega, hWd, hL9, hzd, hckc⟩
              case measure => simp [RowKit.intOf]; omega
          · go_wp2_with fail
            refine (host_stock hW8).mono ?_
            rintro e wb ⟨b2, mb2, rfl, hC, hcb, _, _⟩
            have hWb := hW8.keep hcb
            have hckb := hck8.trans hcb (fun _ _ h => h.elim)
            go_wp2_with fail
            refine (stk_entry hC hL8.good 150 (by omega) Ent.gone (hL8.gone rfl)).mono ?_
            rintro e wc ⟨rfl, hcc⟩
            have hWc := hWb.keep hcc
            have hzb := hcb.size
            have hzc := hcc.size
            have hzd : w0.heap.size ≤ (wc.alloc (.cells (Ent.gone).row 40)).heap.size := by rw [alloc_size]; omega
            have hckc := (hckb.trans hcc (fun _ _ h => h.elim)).alloc (.cells (Ent.gone).row 40)
            have hWd := hWc.keep ((Chg.refl (fun _ => False) wc).alloc (.cells (Ent.gone).row 40))
            unfold Ent.row at hckc hWd hzd
            unfold Ent.val Ent.row
            unfold Ent.gone at hckc hWd hzd ⊢
            go_wp2_with fail
            go_roundw
            case rel => exact ⟨k + 1, T + 7, true, _, _, rfl, rfl, by go_num, by omega, by omega, by omega, by omega, hWd, hL8, hzd, hckc⟩
            case measure => simp [RowKit.intOf]; omega
      · rcases hcc with hc | hc | hc
        · have hce := hch.out
          rw [hc] at hce
          go_wp2_with fail
          have hc7 : Chg (fun _ => False) wr ((wr.alloc (.cells #[.int .i64 1, .int .i64 150, .int .i64 U, .int .i64 0, .int .i64 0, .int .i64 2, .int .i64 150, .int .i64 0, .int .i64 0, .int .i64 0, .int .i64 3, .int .i64 150, .int .i64 0, .int .i64 0, .int .i64 0] 31)).alloc (.cells #[.int .i64 1, .int .i64 150, .int .i64 U, .int .i64 0, .int .i64 0] 31)) := ((Chg.refl _ wr).alloc _).alloc _
          have hO := Blk.new (wr.alloc (.cells #[.int .i64 1, .int .i64 150, .int .i64 U, .int .i64 0, .int .i64 0, .int .i64 2, .int .i64 150, .int .i64 0, .int .i64 0, .int .i64 0, .int .i64 3, .int .i64 150, .int .i64 0, .int .i64 0, .int .i64 0] 31)) 31 #[.int .i64 1, .int .i64 150, .int .i64 U, .int .i64 0, .int .i64 0]
          rw [alloc_size] at hO
          generalize (wr.alloc (.cells #[.int .i64 1, .int .i64 150, .int .i64 U, .int .i64 0, .int .i64 0, .int .i64 2, .int .i64 150, .int .i64 0, .int .i64 0, .int .i64 0, .int .i64 3, .int .i64 150, .int .i64 0, .int .i64 0, .int .i64 0] 31)).alloc (.cells #[.int .i64 1, .int .i64 150, .int .i64 U, .int .i64 0, .int .i64 0] 31) = w7 at *
          have hW7 := hW.keep hc7
          have hL8 := hL.keep ⟨1, 150, U, 0, 0⟩ (t := T) (by omega) (by omega) rfl (by show (1 : Int) ≠ 3; decide)
          obtain ⟨r8, n8, s8, f8, ha8⟩ : ∃ r n s' f', hAsk s f ⟨1, 150, U, 0, 0⟩ T = (r, n, s', f') := ⟨_, _, _, _, rfl⟩
          rw [ha8] at hL8
          dsimp only at hL8
          refine (hask_any _ w7 b s f ⟨1, 150, U, 0, 0⟩ T hW7 hL.good r8 n8 s8 f8 ha8).mono ?_
          rintro e w8 ⟨rfl, hW8, hc8⟩
          clear ha8
          have hO8 := hO.chg hc8 (fun h => by have := h.2; omega)
          have hck8 := (hck.trans hc7 (fun _ _ h => h.elim)).trans hc8 (fun i _ h => h.1)
          have q0 : w8.cell? ⟨wr.heap.size + 1, 0, none⟩ = some (.int .i64 1) := by rw [hO8.cell]; rfl
          have q1 : w8.cell? ⟨wr.heap.size + 1, 1, none⟩ = some (.int .i64 150) := by rw [hO8.cell]; rfl
          have q2 : w8.cell? ⟨wr.heap.size + 1, 2, none⟩ = some (.int .i64 U) := by rw [hO8.cell]; rfl
          have q3 : w8.cell? ⟨wr.heap.size + 1, 3, none⟩ = some (.int .i64 0) := by rw [hO8.cell]; rfl
          have q4 : w8.cell? ⟨wr.heap.size + 1, 4, none⟩ = some (.int .i64 0) := by rw [hO8.cell]; rfl
          have hz7 := hc7.size
          have hz8 := hc8.size
          clear hW hL hck hc7 hW7 hc8 hO g0 gA
          have hcF8 : Chg (fun _ => False) w w8 := hck8.mono (fun i hi h => by omega)
          by_cases hkl : k < l.length
          · obtain ⟨o, ho⟩ : ∃ o, l[k]? = some o := ⟨_, List.getElem?_eq_getElem hkl⟩
            obtain ⟨a, rfl, hab, hat⟩ := (hl.chg hcF8 (fun i _ h => h)).at_ k o ho
            have g1 : w8.cell? ⟨(a.add (k * 9)).block, (a.add (k * 9)).off + 1, none⟩ = some (.int .i64 o.o.kd) := hat 1 _ rfl
            have g2 : w8.cell? ⟨(a.add (k * 9)).block, (a.add (k * 9)).off + 2, none⟩ = some (.int .i64 o.o.bk) := hat 2 _ rfl
            have g3 : w8.cell? ⟨(a.add (k * 9)).block, (a.add (k * 9)).off + 3, none⟩ = some (.int .i64 o.o.un) := hat 3 _ rfl
            have g4 : w8.cell? ⟨(a.add (k * 9)).block, (a.add (k * 9)).off + 4, none⟩ = some (.int .i64 o.o.cu) := hat 4 _ rfl
            have g5 : w8.cell? ⟨(a.add (k * 9)).block, (a.add (k * 9)).off + 5, none⟩ = some (.int .i64 o.o.am) := hat 5 _ rfl
            clear hat hcF8
            by_cases hb : o.o.bk = 150
            · have hbb : (o.o.bk == 150) = true := by simp [hb]
              have hbn : (o.o.bk != 150) = false := by simp [hb]
              clear hb
              go_wp2_with fail
              refine (host_stock hW8).mono ?_
              rintro e wb ⟨b2, mb2, rfl, hC, hcb, _, _⟩
              have hWb := hW8.keep hcb
              have hckb := hck8.trans hcb (fun _ _ h => h.elim)
              go_wp2_with fail
              refine (stk_entry hC hL8.good 150 (by omega) Ent.gone (hL8.gone rfl)).mono ?_
              rintro e wc ⟨rfl, hcc⟩
              have hWc := hWb.keep hcc
              have hzb := hcb.size
              have hzc := hcc.size
              have hzd : w0.heap.size ≤ (wc.alloc (.cells (Ent.gone).row 40)).heap.size := by rw [alloc_size]; omega
              have hckc := (hckb.trans hcc (fun _ _ h => h.elim)).alloc (.cells (Ent.gone).row 40)
              have hWd := hWc.keep ((Chg.refl (fun _ => False) wc).alloc (.cells (Ent.gone).row 40))
              unfold Ent.row at hckc hWd hzd
              unfold Ent.val Ent.row
              unfold Ent.gone at hckc hWd hzd ⊢
              go_wp2_with fail
              go_roundw
              case rel => exact ⟨k + 1, T + 7, true, _, _, rfl, rfl, by go_num, by omega, by omega, by omega, by omega, hWd, hL8, hzd, hckc⟩
              case measure => simp [RowKit.intOf]; omega
            · have hbb : (o.o.bk == 150) = false := by simp [hb]
              have hbn : (o.o.bk != 150) = true := by simp [hb]
              have hL9 := hL8.other o.o T hb
              obtain ⟨r9, n9, s9, f9, ha9⟩ : ∃ r n s' f', hAsk s8 f8 o.o T = (r, n, s', f') := ⟨_, _, _, _, rfl⟩
              rw [ha9] at hL9
              dsimp only at hL9
              have hah := Lib.hid ha9
              clear hb ha9
              go_wp2_with fail
              refine (hask_any _ w8 b s8 f8 o.o T hW8 hL8.good r9 n9 s9 f9 hah.out).mono ?_
              rintro e w9 ⟨rfl, hW9, hc9⟩
              have hck9 := hck8.trans hc9 (fun i _ h => h.1)
              have hz9 := hc9.size
              clear hW8 hck8 hc9 g1 g2 g3 g4 g5 q0 q1 q2 q3 q4 hL8
              go_wp2_with fail
              refine (host_stock hW9).mono ?_
              rintro e wb ⟨b2, mb2, rfl, hC, hcb, _, _⟩
              have hWb := hW9.keep hcb
              have hckb := hck9.trans hcb (fun _ _ h => h.elim)
              go_wp2_with fail
              refine (stk_entry hC hL9.good 150 (by omega) Ent.gone (hL9.gone rfl)).mono ?_
              rintro e wc ⟨rfl, hcc⟩
              have hWc := hWb.keep hcc
              have hzb := hcb.size
              have hzc := hcc.size
              have hzd : w0.heap.size ≤ (wc.alloc (.cells (Ent.gone).row 40)).heap.size := by rw [alloc_size]; omega
              have hckc := (hckb.trans hcc (fun _ _ h => h.elim)).alloc (.cells (Ent.gone).row 40)
              have hWd := hWc.keep ((Chg.refl (fun _ => False) wc).alloc (.cells (Ent.gone).row 40))
              unfold Ent.row at hckc hWd hzd
              unfold Ent.val Ent.row
              unfold Ent.gone at hckc hWd hzd ⊢
              go_wp2_with fail
              go_roundw
              case rel => exact ⟨k + 1, T + 7, true, _, _, rfl, rfl, by go_num, by omega, by omega, by omega, by omega, hWd, hL9, hzd, hckc⟩
              case measure => simp [RowKit.intOf]; omega
          · go_wp2_with fail
            refine (host_stock hW8).mono ?_
            rintro e wb ⟨b2, mb2, rfl, hC, hcb, _, _⟩
            have hWb := hW8.keep hcb
            have hckb := hck8.trans hcb (fun _ _ h => h.elim)
            go_wp2_with fail
            refine (stk_entry hC hL8.good 150 (by omega) Ent.gone (hL8.gone rfl)).mono ?_
            rintro e wc ⟨rfl, hcc⟩
            have hWc := hWb.keep hcc
            have hzb := hcb.size
            have hzc := hcc.size
            have hzd : w0.heap.size ≤ (wc.alloc (.cells (Ent.gone).row 40)).heap.size := by rw [alloc_size]; omega
            have hckc := (hckb.trans hcc (fun _ _ h => h.elim)).alloc (.cells (Ent.gone).row 40)
            have hWd := hWc.keep ((Chg.refl (fun _ => False) wc).alloc (.cells (Ent.gone).row 40))
            unfold Ent.row at hckc hWd hzd
            unfold Ent.val Ent.row
            unfold Ent.gone at hckc hWd hzd ⊢
            go_wp2_with fail
            go_roundw
            case rel => exact ⟨k + 1, T + 7, true, _, _, rfl, rfl, by go_num, by omega, by omega, by omega, by omega, hWd, hL8, hzd, hckc⟩
            case measure => simp [RowKit.intOf]; omega
        · have hce := hch.out
          rw [hc] at hce
          go_wp2_with fail
          have hc7 : Chg (fun _ => False) wr ((wr.alloc (.cells #[.int .i64 1, .int .i64 150, .int .i64 U, .int .i64 0, .int .i64 0, .int .i64 2, .int .i64 150, .int .i64 0, .int .i64 0, .int .i64 0, .int .i64 3, .int .i64 150, .int .i64 0, .int .i64 0, .int .i64 0] 31)).alloc (.cells #[.int .i64 2, .int .i64 150, .int .i64 0, .int .i64 0, .int .i64 0] 31)) := ((Chg.refl _ wr).alloc _).alloc _
          have hO := Blk.new (wr.alloc (.cells #[.int .i64 1, .int .i64 150, .int .i64 U, .int .i64 0, .int .i64 0, .int .i64 2, .int .i64 150, .int .i64 0, .int .i64 0, .int .i64 0, .int .i64 3, .int .i64 150, .int .i64 0, .int .i64 0, .int .i64 0] 31)) 31 #[.int .i64 2, .int .i64 150, .int .i64 0, .int .i64 0, .int .i64 0]
          rw [alloc_size] at hO
          generalize (wr.alloc (.cells #[.int .i64 1, .int .i64 150, .int .i64 U, .int .i64 0, .int .i64 0, .int .i64 2, .int .i64 150, .int .i64 0, .int .i64 0, .int .i64 0, .int .i64 3, .int .i64 150, .int .i64 0, .int .i64 0, .int .i64 0] 31)).alloc (.cells #[.int .i64 2, .int .i64 150, .int .i64 0, .int .i64 0, .int .i64 0] 31) = w7 at *
          have hW7 := hW.keep hc7
          have hL8 := hL.keep ⟨2, 150, 0, 0, 0⟩ (t := T) (by omega) (by omega) rfl (by show (2 : Int) ≠ 3; decide)
          obtain ⟨r8, n8, s8, f8, ha8⟩ : ∃ r n s' f', hAsk s f ⟨2, 150, 0, 0, 0⟩ T = (r, n, s', f') := ⟨_, _, _, _, rfl⟩
          rw [ha8] at hL8
          dsimp only at hL8
          refine (hask_any _ w7 b s f ⟨2, 150, 0, 0, 0⟩ T hW7 hL.good r8 n8 s8 f8 ha8).mono ?_
          rintro e w8 ⟨rfl, hW8, hc8⟩
          clear ha8
          have hO8 := hO.chg hc8 (fun h => by have := h.2; omega)
          have hck8 := (hck.trans hc7 (fun _ _ h => h.elim)).trans hc8 (fun i _ h => h.1)
          have q0 : w8.cell? ⟨wr.heap.size + 1, 0, none⟩ = some (.int .i64 2) := by rw [hO8.cell]; rfl
          have q1 : w8.cell? ⟨wr.heap.size + 1, 1, none⟩ = some (.int .i64 150) := by rw [hO8.cell]; rfl
          have q2 : w8.cell? ⟨wr.heap.size + 1, 2, none⟩ = some (.int .i64 0) := by rw [hO8.cell]; rfl
          have q3 : w8.cell? ⟨wr.heap.size + 1, 3, none⟩ = some (.int .i64 0) := by rw [hO8.cell]; rfl
          have q4 : w8.cell? ⟨wr.heap.size + 1, 4, none⟩ = some (.int .i64 0) := by rw [hO8.cell]; rfl
          have hz7 := hc7.size
          have hz8 := hc8.size
          clear hW hL hck hc7 hW7 hc8 hO g0 gA
          have hcF8 : Chg (fun _ => False) w w8 := hck8.mono (fun i hi h => by omega)
          by_cases hkl : k < l.length
          · obtain ⟨o, ho⟩ : ∃ o, l[k]? = some o := ⟨_, List.getElem?_eq_getElem hkl⟩
            obtain ⟨a, rfl, hab, hat⟩ := (hl.chg hcF8 (fun i _ h => h)).at_ k o ho
            have g1 : w8.cell? ⟨(a.add (k * 9)).block, (a.add (k * 9)).off + 1, none⟩ = some (.int .i64 o.o.kd) := hat 1 _ rfl
            have g2 : w8.cell? ⟨(a.add (k * 9)).block, (a.add (k * 9)).off + 2, none⟩ = some (.int .i64 o.o.bk) := hat 2 _ rfl
            have g3 : w8.cell? ⟨(a.add (k * 9)).block, (a.add (k * 9)).off + 3, none⟩ = some (.int .i64 o.o.un) := hat 3 _ rfl
            have g4 : w8.cell? ⟨(a.add (k * 9)).block, (a.add (k * 9)).off + 4, none⟩ = some (.int .i64 o.o.cu) := hat 4 _ rfl
            have g5 : w8.cell? ⟨(a.add (k * 9)).block, (a.add (k * 9)).off + 5, none⟩ = some (.int .i64 o.o.am) := hat 5 _ rfl
            clear hat hcF8
            by_cases hb : o.o.bk = 150
            · have hbb : (o.o.bk == 150) = true := by simp [hb]
              have hbn : (o.o.bk != 150) = false := by simp [hb]
              clear hb
              go_wp2_with fail
              refine (host_stock hW8).mono ?_
              rintro e wb ⟨b2, mb2, rfl, hC, hcb, _, _⟩
              have hWb := hW8.keep hcb
              have hckb := hck8.trans hcb (fun _ _ h => h.elim)
              go_wp2_with fail
              refine (stk_entry hC hL8.good 150 (by omega) Ent.gone (hL8.gone rfl)).mono ?_
              rintro e wc ⟨rfl, hcc⟩
              have hWc := hWb.keep hcc
              have hzb := hcb.size
              have hzc := hcc.size
              have hzd : w0.heap.size ≤ (wc.alloc (.cells (Ent.gone).row 40)).heap.size := by rw [alloc_size]; omega
              have hckc := (hckb.trans hcc (fun _ _ h => h.elim)).alloc (.cells (Ent.gone).row 40)
              have hWd := hWc.keep ((Chg.refl (fun _ => False) wc).alloc (.cells (Ent.gone).row 40))
              unfold Ent.row at hckc hWd hzd
              unfold Ent.val Ent.row
              unfold Ent.gone at hckc hWd hzd ⊢
              go_wp2_with fail
              go_roundw
              case rel => exact ⟨k + 1, T + 7, true, _, _, rfl, rfl, by go_num, by omega, by omega, by omega, by omega, hWd, hL8, hzd, hckc⟩
              case measure => simp [RowKit.intOf]; omega
            · have hbb : (o.o.bk == 150) = false := by simp [hb]
              have hbn : (o.o.bk != 150) = true := by simp [hb]
              have hL9 := hL8.other o.o T hb
              obtain ⟨r9, n9, s9, f9, ha9⟩ : ∃ r n s' f', hAsk s8 f8 o.o T = (r, n, s', f') := ⟨_, _, _, _, rfl⟩
              rw [ha9] at hL9
              dsimp only at hL9
              have hah := Lib.hid ha9
              clear hb ha9
              go_wp2_with fail
              refine (hask_any _ w8 b s8 f8 o.o T hW8 hL8.good r9 n9 s9 f9 hah.out).mono ?_
              rintro e w9 ⟨rfl, hW9, hc9⟩
              have hck9 := hck8.trans hc9 (fun i _ h => h.1)
              have hz9 := hc9.size
              clear hW8 hck8 hc9 g1 g2 g3 g4 g5 q0 q1 q2 q3 q4 hL8
              go_wp2_with fail
              refine (host_stock hW9).mono ?_
              rintro e wb ⟨b2, mb2, rfl, hC, hcb, _, _⟩
              have hWb := hW9.keep hcb
              have hckb := hck9.trans hcb (fun _ _ h => h.elim)
              go_wp2_with fail
              refine (stk_entry hC hL9.good 150 (by omega) Ent.gone (hL9.gone rfl)).mono ?_
              rintro e wc ⟨rfl, hcc⟩
              have hWc := hWb.keep hcc
              have hzb := hcb.size
              have hzc := hcc.size
              have hzd : w0.heap.size ≤ (wc.alloc (.cells (Ent.gone).row 40)).heap.size := by rw [alloc_size]; omega
              have hckc := (hckb.trans hcc (fun _ _ h => h.elim)).alloc (.cells (Ent.gone).row 40)
              have hWd := hWc.keep ((Chg.refl (fun _ => False) wc).alloc (.cells (Ent.gone).row 40))
              unfold Ent.row at hckc hWd hzd
              unfold Ent.val Ent.row
              unfold Ent.gone at hckc hWd hzd ⊢
              go_wp2_with fail
              go_roundw
              case rel => exact ⟨k + 1, T + 7, true, _, _, rfl, rfl, by go_num, by omega, by omega, by omega, by omega, hWd, hL9, hzd, hckc⟩
              case measure => simp [RowKit.intOf]; omega
          · go_wp2_with fail
            refine (host_stock hW8).mono ?_
            rintro e wb ⟨b2, mb2, rfl, hC, hcb, _, _⟩
            have hWb := hW8.keep hcb
            have hckb := hck8.trans hcb (fun _ _ h => h.elim)
            go_wp2_with fail
            refine (stk_entry hC hL8.good 150 (by omega) Ent.gone (hL8.gone rfl)).mono ?_
            rintro e wc ⟨rfl, hcc⟩
            have hWc := hWb.keep hcc
            have hzb := hcb.size
            have hzc := hcc.size
            have hzd : w0.heap.size ≤ (wc.alloc (.cells (Ent.gone).row 40)).heap.size := by rw [alloc_size]; omega
            have hckc := (hckb.trans hcc (fun _ _ h => h.elim)).alloc (.cells (Ent.gone).row 40)
            have hWd := hWc.keep ((Chg.refl (fun _ => False) wc).alloc (.cells (Ent.gone).row 40))
            unfold Ent.row at hckc hWd hzd
            unfold Ent.val Ent.row
            unfold Ent.gone at hckc hWd hzd ⊢
            go_wp2_with fail
            go_roundw
            case rel => exact ⟨k + 1, T + 7, true, _, _, rfl, rfl, by go_num, by omega, by omega, by omega, by omega, hWd, hL8, hzd, hckc⟩
            case measure => simp [RowKit.intOf]; omega
        · have hce := hch.out
          rw [hc] at hce
          go_wp2_with fail
          have hc7 : Chg (fun _ => False) wr ((wr.alloc (.cells #[.int .i64 1, .int .i64 150, .int .i64 U, .int .i64 0, .int .i64 0, .int .i64 2, .int .i64 150, .int .i64 0, .int .i64 0, .int .i64 0, .int .i64 3, .int .i64 150, .int .i64 0, .int .i64 0, .int .i64 0] 31)).alloc (.cells #[.int .i64 3, .int .i64 150, .int .i64 0, .int .i64 0, .int .i64 0] 31)) := ((Chg.refl _ wr).alloc _).alloc _
          have hO := Blk.new (wr.alloc (.cells #[.int .i64 1, .int .i64 150, .int .i64 U, .int .i64 0, .int .i64 0, .int .i64 2, .int .i64 150, .int .i64 0, .int .i64 0, .int .i64 0, .int .i64 3, .int .i64 150, .int .i64 0, .int .i64 0, .int .i64 0] 31)) 31 #[.int .i64 3, .int .i64 150, .int .i64 0, .int .i64 0, .int .i64 0]
          rw [alloc_size] at hO
          generalize (wr.alloc (.cells #[.int .i64 1, .int .i64 150, .int .i64 U, .int .i64 0, .int .i64 0, .int .i64 2, .int .i64 150, .int .i64 0, .int .i64 0, .int .i64 0, .int .i64 3, .int .i64 150, .int .i64 0, .int .i64 0, .int .i64 0] 31)).alloc (.cells #[.int .i64 3, .int .i64 150, .int .i64 0, .int .i64 0, .int .i64 0] 31) = w7 at *
          have hW7 := hW.keep hc7
          have hL8 := hL.release (t := T) (by omega) (by omega) (by omega)
          obtain ⟨r8, n8, s8, f8, ha8⟩ : ∃ r n s' f', hAsk s f ⟨3, 150, 0, 0, 0⟩ T = (r, n, s', f') := ⟨_, _, _, _, rfl⟩
          rw [ha8] at hL8
          dsimp only at hL8
          refine (hask_any _ w7 b s f ⟨3, 150, 0, 0, 0⟩ T hW7 hL.good r8 n8 s8 f8 ha8).mono ?_
          rintro e w8 ⟨rfl, hW8, hc8⟩
          clear ha8
          have hO8 := hO.chg hc8 (fun h => by have := h.2; omega)
          have hck8 := (hck.trans hc7 (fun _ _ h => h.elim)).trans hc8 (fun i _ h => h.1)
          have q0 : w8.cell? ⟨wr.heap.size + 1, 0, none⟩ = some (.int .i64 3) := by rw [hO8.cell]; rfl
          have q1 : w8.cell? ⟨wr.heap.size + 1, 1, none⟩ = some (.int .i64 150) := by rw [hO8.cell]; rfl
          have q2 : w8.cell? ⟨wr.heap.size + 1, 2, none⟩ = some (.int .i64 0) := by rw [hO8.cell]; rfl
          have q3 : w8.cell? ⟨wr.heap.size + 1, 3, none⟩ = some (.int .i64 0) := by rw [hO8.cell]; rfl
          have q4 : w8.cell? ⟨wr.heap.size + 1, 4, none⟩ = some (.int .i64 0) := by rw [hO8.cell]; rfl
          have hz7 := hc7.size
          have hz8 := hc8.size
          clear hW hL hck hc7 hW7 hc8 hO g0 gA
          have hcF8 : Chg (fun _ => False) w w8 := hck8.mono (fun i hi h => by omega)
          by_cases hkl : k < l.length
          · obtain ⟨o, ho⟩ : ∃ o, l[k]? = some o := ⟨_, List.getElem?_eq_getElem hkl⟩
            obtain ⟨a, rfl, hab, hat⟩ := (hl.chg hcF8 (fun i _ h => h)).at_ k o ho
            have g1 : w8.cell? ⟨(a.add (k * 9)).block, (a.add (k * 9)).off + 1, none⟩ = some (.int .i64 o.o.kd) := hat 1 _ rfl
            have g2 : w8.cell? ⟨(a.add (k * 9)).block, (a.add (k * 9)).off + 2, none⟩ = some (.int .i64 o.o.bk) := hat 2 _ rfl
            have g3 : w8.cell? ⟨(a.add (k * 9)).block, (a.add (k * 9)).off + 3, none⟩ = some (.int .i64 o.o.un) := hat 3 _ rfl
            have g4 : w8.cell? ⟨(a.add (k * 9)).block, (a.add (k * 9)).off + 4, none⟩ = some (.int .i64 o.o.cu) := hat 4 _ rfl
            have g5 : w8.cell? ⟨(a.add (k * 9)).block, (a.add (k * 9)).off + 5, none⟩ = some (.int .i64 o.o.am) := hat 5 _ rfl
            clear hat hcF8
            by_cases hb : o.o.bk = 150
            · have hbb : (o.o.bk == 150) = true := by simp [hb]
              have hbn : (o.o.bk != 150) = false := by simp [hb]
              clear hb
              go_wp2_with fail
              refine (host_stock hW8).mono ?_
              rintro e wb ⟨b2, mb2, rfl, hC, hcb, _, _⟩
              have hWb := hW8.keep hcb
              have hckb := hck8.trans hcb (fun _ _ h => h.elim)
              go_wp2_with fail
              refine (stk_entry hC hL8.good 150 (by omega) Ent.gone (hL8.gone rfl)).mono ?_
              rintro e wc ⟨rfl, hcc⟩
              have hWc := hWb.keep hcc
              have hzb := hcb.size
              have hzc := hcc.size
              have hzd : w0.heap.size ≤ (wc.alloc (.cells (Ent.gone).row 40)).heap.size := by rw [alloc_size]; omega
              have hckc := (hckb.trans hcc (fun _ _ h => h.elim)).alloc (.cells (Ent.gone).row 40)
              have hWd := hWc.keep ((Chg.refl (fun _ => False) wc).alloc (.cells (Ent.gone).row 40))
              unfold Ent.row at hckc hWd hzd
              unfold Ent.val Ent.row
              unfold Ent.gone at hckc hWd hzd ⊢
              go_wp2_with fail
              go_roundw
              case rel => exact ⟨k + 1, T + 7, true, _, _, rfl, rfl, by go_num, by omega, by omega, by omega, by omega, hWd, hL8, hzd, hckc⟩
              case measure => simp [RowKit.intOf]; omega
            · have hbb : (o.o.bk == 150) = false := by simp [hb]
              have hbn : (o.o.bk != 150) = true := by simp [hb]
              have hL9 := hL8.other o.o T hb
              obtain ⟨r9, n9, s9, f9, ha9⟩ : ∃ r n s' f', hAsk s8 f8 o.o T = (r, n, s', f') := ⟨_, _, _, _, rfl⟩
              rw [ha9] at hL9
              dsimp only at hL9
              have hah := Lib.hid ha9
              clear hb ha9
              go_wp2_with fail
              refine (hask_any _ w8 b s8 f8 o.o T hW8 hL8.good r9 n9 s9 f9 hah.out).mono ?_
              rintro e w9 ⟨rfl, hW9, hc9⟩
              have hck9 := hck8.trans hc9 (fun i _ h => h.1)
              have hz9 := hc9.size
              clear hW8 hck8 hc9 g1 g2 g3 g4 g5 q0 q1 q2 q3 q4 hL8
              go_wp2_with fail
              refine (host_stock hW9).mono ?_
              rintro e wb ⟨b2, mb2, rfl, hC, hcb, _, _⟩
              have hWb := hW9.keep hcb
              have hckb := hck9.trans hcb (fun _ _ h => h.elim)
              go_wp2_with fail
              refine (stk_entry hC hL9.good 150 (by omega) Ent.gone (hL9.gone rfl)).mono ?_
              rintro e wc ⟨rfl, hcc⟩
              have hWc := hWb.keep hcc
              have hzb := hcb.size
              have hzc := hcc.size
              have hzd : w0.heap.size ≤ (wc.alloc (.cells (Ent.gone).row 40)).heap.size := by rw [alloc_size]; omega
              have hckc := (hckb.trans hcc (fun _ _ h => h.elim)).alloc (.cells (Ent.gone).row 40)
              have hWd := hWc.keep ((Chg.refl (fun _ => False) wc).alloc (.cells (Ent.gone).row 40))
              unfold Ent.row at hckc hWd hzd
              unfold Ent.val Ent.row
              unfold Ent.gone at hckc hWd hzd ⊢
              go_wp2_with fail
              go_roundw
              case rel => exact ⟨k + 1, T + 7, true, _, _, rfl, rfl, by go_num, by omega, by omega, by omega, by omega, hWd, hL9, hzd, hckc⟩
              case measure => simp [RowKit.intOf]; omega
          · go_wp2_with fail
            refine (host_stock hW8).mono ?_
            rintro e wb ⟨b2, mb2, rfl, hC, hcb, _, _⟩
            have hWb := hW8.keep hcb
            have hckb := hck8.trans hcb (fun _ _ h => h.elim)
            go_wp2_with fail
            refine (stk_entry hC hL8.good 150 (by omega) Ent.gone (hL8.gone rfl)).mono ?_
            rintro e wc ⟨rfl, hcc⟩
            have hWc := hWb.keep hcc
            have hzb := hcb.size
            have hzc := hcc.size
            have hzd : w0.heap.size ≤ (wc.alloc (.cells (Ent.gone).row 40)).heap.size := by rw [alloc_size]; omega
            have hckc := (hckb.trans hcc (fun _ _ h => h.elim)).alloc (.cells (Ent.gone).row 40)
            have hWd := hWc.keep ((Chg.refl (fun _ => False) wc).alloc (.cells (Ent.gone).row 40))
            unfold Ent.row at hckc hWd hzd
            unfold Ent.val Ent.row
            unfold Ent.gone at hckc hWd hzd ⊢
            go_wp2_with fail
            go_roundw
            case rel => exact ⟨k + 1, T + 7, true, _, _, rfl, rfl, by go_num, by omega, by omega, by omega, by omega, hWd, hL8, hzd, hckc⟩
            case measure => simp [RowKit.intOf]; omega
    · go_wp2_with fail
      all_goals
        refine (told12 _).mono ?_
        rintro e wt ⟨rfl, hct⟩
        go_wp2_with fail
        go_ret
        exact ⟨rfl, hcF.trans hct (fun _ _ h => h)⟩
end Go.Proofs.Ytdeoipioinnkcaa
