/-
  layer 12: HostApart, its walk.
-/
import Derived.Test.YtdeoipioinnkcaaApartP
import Derived.Test.YtdeoipioinnkcaaHostT
import Derived.Test.YtdeoipioinnkcaaRHostA
import Derived.Test.YtdeoipioinnkcaaSopH
namespace Go.Proofs.Ytdeoipioinnkcaa
open Go.RowKit Go.Maps

set_option maxRecDepth 100000 in
theorem rh_zero : (Try.zeroCells53.setIfInBounds 0 (.int .i64 1000000)).setIfInBounds 1 (.int .i64 0) = arrF 2415 (rhCell (Stk.new 1000000 0) (fun _ => 0) 0) := by kernel_rfl

set_option maxRecDepth 100000 in
set_option maxHeartbeats 1000000 in
theorem hostApart_walk (w : World) (ad : Option Addr) (cap : Nat) (l : List SOp) (n : Int) (hl : SopsIn w ad l) :
    Calls Try.prog 4 #[.slice ad l.length cap, .int .i64 n] w fun e w' => e = .returned (.bool true) ∧ Chg (fun _ => False) w w' := by
  have hmx := hl.len
  unfold maxLen at hmx
  obtain ⟨B, hB⟩ : ∃ B, wrap64 (1 + wrap64 ((IntKind.u64.wrap n).tmod 12)) = B := ⟨_, rfl⟩
  have hBb := bk12 n
  rw [hB] at hBb
  obtain ⟨hB1, hB2⟩ := hBb
  obtain ⟨B0, rfl⟩ : ∃ B0 : Nat, B = B0 := ⟨B.toNat, by omega⟩
  go_enter Try.func4, Try.ntmps4
  go_wp2_with fail
  refine (hostNew _ 1000000 0 (by omega) (by omega)).mono ?_
  rintro e w0 ⟨b, rfl, hW0, hc0⟩
  have hck0 : Chg (fun i => w.heap.size ≤ i) w w0 := hc0.mono (fun _ _ h => h.elim)
  have hW0 := hW0.here
  clear hc0
  go_wp2_with fail
  rw [hB]
  rw [rh_zero]
  have hX0 : RHostAt (w0.alloc (.cells (arrF 2415 (rhCell (Stk.new 1000000 0) (fun _ => 0) 0)) 53)) w0.heap.size (Stk.new 1000000 0) (fun _ => 0) 0 := Blk.new w0 _ _
  have hcX := (Chg.refl (fun _ => False) w0).alloc (.cells (arrF 2415 (rhCell (Stk.new 1000000 0) (fun _ => 0) 0)) 53)
  have hW1 := hW0.keep hcX
  have hck1 := hck0.trans hcX (fun _ _ h => h.elim)
  have hA0 := ApI.new (B0 : Int)
  have hz0 := hck0.size
  clear hW0 hck0 hcX
  generalize w0.alloc (.cells (arrF 2415 (rhCell (Stk.new 1000000 0) (fun _ => 0) 0)) 53) = w1 at *
  generalize w0.heap.size = X at *
  generalize Stk.new 1000000 0 = s0 at *
  generalize (fun _ => 0 : Tab) = f0 at *
  have hBh := Lib.hid hB
  clear hB
  go_loopw [9, 10] (fun v9 v10 wr => ∃ (k : Nat) (T : Int) (s s' : Stk) (f f' : Tab) (c : Int), v9 = .int .i64 T ∧ v10 = .int .i64 k ∧ k ≤ l.length ∧ k ≤ 40 ∧ 0 ≤ T ∧ T ≤ k * 30 ∧ 0 ≤ c ∧ c ≤ k ∧ HostW (fun i => w.heap.size ≤ i ∧ i < X) wr b s f ∧ RHostAt wr X s' f' c ∧ ApI s s' f f' (B0 : Int) k ∧ Chg (fun i => w.heap.size ≤ i) w wr) (fun _ v10 _ => 40 - (RowKit.intOf v10).toNat)
  case atStart => exact ⟨0, 0, s0, s0, f0, f0, 0, rfl, rfl, Nat.zero_le _, Nat.zero_le _, by omega, by omega, by omega, by omega, hW1, hX0, hA0, hck1⟩
  case round =>
    clear hW1 hX0 hA0 hck1
    obtain ⟨k, T, s, s', f, f', c, rfl, rfl, hk1, hk2, hT0, hT1, hc0, hc1, hW, hX, hA, hck⟩ := hrel
    have hcF : Chg (fun _ => False) w wr := hck.mono (fun i hi h => by omega)
    by_cases hlt : k < l.length ∧ k < 40
    · obtain ⟨hlt1, hlt2⟩ := hlt
      obtain ⟨o, ho⟩ : ∃ o, l[k]? = some o := ⟨_, List.getElem?_eq_getElem hlt1⟩
      obtain ⟨a, rfl, hab, hat⟩ := (hl.chg hcF (fun i _ h => h)).at_ k o ho
      have g1 : wr.cell? ⟨(a.add (k * 9)).block, (a.add (k * 9)).off + 1, none⟩ = some (.int .i64 o.o.kd) := hat 1 _ rfl
      have g2 : wr.cell? ⟨(a.add (k * 9)).block, (a.add (k * 9)).off + 2, none⟩ = some (.int .i64 o.o.bk) := hat 2 _ rfl
      have g3 : wr.cell? ⟨(a.add (k * 9)).block, (a.add (k * 9)).off + 3, none⟩ = some (.int .i64 o.o.un) := hat 3 _ rfl
      have g4 : wr.cell? ⟨(a.add (k * 9)).block, (a.add (k * 9)).off + 4, none⟩ = some (.int .i64 o.o.cu) := hat 4 _ rfl
      have g5 : wr.cell? ⟨(a.add (k * 9)).block, (a.add (k * 9)).off + 5, none⟩ = some (.int .i64 o.o.am) := hat 5 _ rfl
      have g6 : wr.cell? ⟨(a.add (k * 9)).block, (a.add (k * 9)).off + 6, none⟩ = some (.int .i64 o.d) := hat 6 _ rfl
      clear hat
      obtain ⟨m, hm⟩ : ∃ m, wrap64 ((IntKind.u64.wrap o.d).tmod 30) = m := ⟨_, rfl⟩
      have hmb := modK o.d 30 (by omega)
      rw [hm] at hmb
      obtain ⟨hm1, hm2⟩ := hmb
      obtain ⟨r1, n1, s1, f1, ha1⟩ : ∃ r n s' f', hAsk s f o.o (T + m) = (r, n, s', f') := ⟨_, _, _, _, rfl⟩
      have hah := Lib.hid ha1
      go_wp2_with fail
      rw [hm]
      refine (hask_any _ wr b s f o.o (T + m) hW hA.g r1 n1 s1 f1 hah.out).mono ?_
      rintro e w2 ⟨rfl, hW2, hc2⟩
      have hX2 := hX.chg hc2 (fun h => by have := h.2; omega)
      have hck2 := hck.trans hc2 (fun i _ h => h.1)
      have hcF2 : Chg (fun _ => False) w w2 := hck2.mono (fun i hi h => by omega)
      obtain ⟨a2, ha2, hab2, hat2⟩ := (hl.chg hcF2 (fun i _ h => h)).at_ k o ho
      injection ha2 with ha2
      subst ha2
      clear hm g1 g2 g3 g4 g5 g6 hW hX hck hcF
      have g1 : w2.cell? ⟨(a.add (k * 9)).block, (a.add (k * 9)).off + 1, none⟩ = some (.int .i64 o.o.kd) := hat2 1 _ rfl
      have g2 : w2.cell? ⟨(a.add (k * 9)).block, (a.add (k * 9)).off + 2, none⟩ = some (.int .i64 o.o.bk) := hat2 2 _ rfl
      have g3 : w2.cell? ⟨(a.add (k * 9)).block, (a.add (k * 9)).off + 3, none⟩ = some (.int .i64 o.o.un) := hat2 3 _ rfl
      have g4 : w2.cell? ⟨(a.add (k * 9)).block, (a.add (k * 9)).off + 4, none⟩ = some (.int .i64 o.o.cu) := hat2 4 _ rfl
      have g5 : w2.cell? ⟨(a.add (k * 9)).block, (a.add (k * 9)).off + 5, none⟩ = some (.int .i64 o.o.am) := hat2 5 _ rfl
      have g6 : w2.cell? ⟨(a.add (k * 9)).block, (a.add (k * 9)).off + 6, none⟩ = some (.int .i64 o.d) := hat2 6 _ rfl
      clear hat2 hcF2
      by_cases hb : o.o.bk = (B0 : Int)
      · have hbb : (o.o.bk == (B0 : Int)) = true := by simp [hb]
        obtain ⟨e1, e2, hA2⟩ := hA.same (by omega) o.o (T + m) hb
        rw [ha1] at e1 e2 hA2
        obtain ⟨r2, n2, s2, f2, ha2⟩ : ∃ r n s'' f'', hAsk s' f' o.o (T + m) = (r, n, s'', f'') := ⟨_, _, _, _, rfl⟩
        rw [ha2] at e1 e2 hA2
        dsimp only at e1 e2 hA2
        subst e1
        subst e2
        have hah2 := Lib.hid ha2
        clear ha1 ha2 hb
        go_wp2_with fail
        refine (rask_any hX2 hA.g' o.o (T + m) hc0 (by omega) _ _ s2 f2 hah2.out).mono ?_
        rintro e w3 ⟨rfl, hX3, hc3⟩
        have hzz := hc2.size
        have hW3 : HostW (fun i => w.heap.size ≤ i ∧ i < X) w3 b s1 f1 := hW2.keepX hc3 (fun i hi h => by omega)
        have hck3 := hck2.trans hc3 (fun i _ h => by omega)
        have hcc : 0 ≤ (if n1 = true then c + 1 else c) ∧ (if n1 = true then c + 1 else c) ≤ ((k + 1 : Nat) : Int) := by split <;> omega
        cases n1
        all_goals
          go_wp2_with fail
          go_roundw
          case rel => exact ⟨k + 1, T + m, s1, s2, f1, f2, _, rfl, by go_num, by omega, by omega, by omega, by omega, hcc.1, hcc.2, hW3, hX3, hA2, hck3⟩
          case measure => simp [RowKit.intOf]; omega
      · have hbb : (o.o.bk == (B0 : Int)) = false := by simp [hb]
        have hA2 := hA.other o.o (T + m) hb
        rw [ha1] at hA2
        dsimp only at hA2
        clear ha1 hb
        go_wp2_with fail
        go_roundw
        case rel => exact ⟨k + 1, T + m, s1, s', f1, f', c, rfl, by go_num, by omega, by omega, by omega, by omega, by omega, by omega, hW2, hX2, hA2, hck2⟩
        case measure => simp [RowKit.intOf]; omega
    · go_wp2_with fail
      all_goals
        clear hlt hcF
        refine (host_stock hW).mono ?_
        rintro e w2 ⟨b2, mb2, rfl, hC2, hc2, hb2, hmb2⟩
        have hX2 := hX.chg hc2 id
        have hck2 := hck.trans hc2 (fun _ _ h => h.elim)
        obtain ⟨y, hy⟩ : ∃ y, s'.en (B0 : Int) = y := ⟨_, rfl⟩
        have hen := hA.en
        rw [hy] at hen
        have henh := Lib.hid hen
        have hyh := Lib.hid hy
        clear hen hy
        have hX2h := Lib.hid hX2
        have cc : ∀ w9 : World, w9.heap[X]? = w2.heap[X]? → w9.cell? ⟨X, 2 + B0 * 5, none⟩ = some (.int .i64 y.st) ∧ w9.cell? ⟨X, 2 + B0 * 5 + 1, none⟩ = some (.int .i64 y.un) ∧ w9.cell? ⟨X, 2 + B0 * 5 + 2, none⟩ = some (.int .i64 y.til) ∧ w9.cell? ⟨X, 2 + B0 * 5 + 3, none⟩ = some (.int .i64 y.cu) ∧ w9.cell? ⟨X, 2 + B0 * 5 + 4, none⟩ = some (.int .i64 y.am) := fun w9 h9 =>
          RefAt.cells (RHostAt.stock (show RHostAt w9 X s' f' c from Blk.keep hX2h.out h9)) B0 (by omega) rfl hyh.out
        have cch := Lib.hid cc
        have hXl := Blk.lt hX2
        clear cc hX2
        go_wp2_with fail
        refine wp_region_plan (by kernel_rfl) [{ fl := [], ef := 0 }, { fl := [1, 2, 3, 4, 5, 6, 7, 9, 10, 11, 12, 13, 14, 15], long := [15], ef := 8, keep := [15] }, { fl := [], ef := 16 }] [17, 18] (by kernel_rfl) (fun _ (w9 : World) => w9.heap[X]? = w2.heap[X]?) ?_
        simp only [wpPlan, longOK, keepOK, opsAt_cons, opsAt_nil, consO_some, List.getElem?_toArray, List.getElem?_cons_succ, List.getElem?_cons_zero, and_true, true_and]
        go_wp2_with fail
        refine ⟨by kernel_rfl, ?_⟩
        go_wp2_with fail
        refine (told12 _).mono ?_
        rintro e w3 ⟨rfl, hc3⟩
        have hc3 := ((Chg.refl (fun _ => False) w2).drew).trans hc3 (fun _ _ h => h)
        have hC3 := hC2.chg hc3 id id
        have hb3 := Lib.hid (hc3.block X hXl id)
        obtain ⟨d0, d1, d2, d3, d4⟩ := cch.out w3 hb3.out
        go_wp2_with fail
        refine ⟨hb3.out, ?_⟩
        go_wp2_with fail
        refine ⟨by kernel_rfl, ?_, ?_⟩
        · intro _ w9 h9
          obtain ⟨d0, d1, d2, d3, d4⟩ := cch.out w9 h9
          clear h9
          go_simp
        go_wp2_with fail
        refine (stk_entry hC3 hA.g B0 (by omega) y henh.out).mono ?_
        rintro e w4 ⟨rfl, hc4⟩
        have hc4 := hc3.trans hc4 (fun _ _ h => h)
        have hb4 := Lib.hid (hc4.block X hXl id)
        obtain ⟨d0', d1', d2', d3', d4'⟩ := cch.out w4 hb4.out
        unfold Ent.val Ent.row
        go_wp2_with fail
        refine ⟨hb4.out, ?_⟩
        go_wp2_with fail
        refine ⟨by kernel_rfl, ?_⟩
        go_wp2_with fail
        refine ⟨by kernel_rfl, ?_⟩
        go_wp2_with fail
        go_ret
        exact ⟨rfl, (hck2.trans hc4 (fun _ _ h => h.elim)).mono (fun i hi h => by omega)⟩
end Go.Proofs.Ytdeoipioinnkcaa
