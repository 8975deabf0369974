/-
  layer 9: StockSweeps, its walk.
-/
import Derived.Test.YtihfcfpkffebiaaSwpR
import Derived.Test.YtihfcfpkffebiaaMayRef
namespace Go.Proofs.Ytihfcfpkffebiaa
open Go.RowKit Go.Maps

theorem intsIn_own {w : World} {base : Nat} {v : Value} {g : List Int} (h : w.ownsRow base 3 1 v g.length (g.map encI)) (hlen : g.length ≤ maxLen) : ∃ ad cap, v = .slice ad g.length cap ∧ IntsIn w ad g := by
  rcases h.2 with ⟨rfl, h0⟩ | ⟨b, cap, cur, rfl, hb, hh, r⟩
  · refine ⟨none, 0, by rw [h0], hlen, fun k n hk => ?_⟩
    have := (List.getElem?_eq_some_iff.1 hk).1
    omega
  · refine ⟨_, _, rfl, hlen, fun k n hk => ⟨_, rfl, (Array.getElem?_eq_some_iff.1 hh).1, ?_⟩⟩
    exact own_cells_i h k _ (by rw [List.getElem?_map, hk]; rfl)

def swC (l : List Int) (i : Nat) : Int := match l[i]? with | some x => wrap64 ((IntKind.u64.wrap x).tmod 3) | none => 0

set_option maxRecDepth 100000 in
set_option maxHeartbeats 4000000 in
theorem stockSweeps_walk (w : World) (ad : Option Addr) (cap : Nat) (l : List Int) (n2 : Int) (hl : IntsIn w ad l) :
    Calls Try.prog 7 #[.slice ad l.length cap, .int .i64 n2] w fun e w' => e = .returned (.bool true) ∧ Chg (fun _ => False) w w' := by
  have hmx := hl.len
  unfold maxLen at hmx
  obtain ⟨T, hT⟩ : ∃ T, wrap64 ((IntKind.u64.wrap n2).tmod 90) = T := ⟨_, rfl⟩
  have hTb := modK n2 90 (by omega)
  rw [hT] at hTb
  obtain ⟨hT1, hT2⟩ := hTb
  go_enter Try.func7, Try.ntmps7
  go_wp2_with fail
  refine (new_w _ 1000 0 (by omega) (by omega)).mono ?_
  rintro e w0 ⟨b, mb, rfl, hS0, hc0, hb, hm⟩
  have hbm : w.heap.size ≤ b ∧ w.heap.size ≤ mb := ⟨hb, hm⟩
  have hck0 : Chg (fun i => w.heap.size ≤ i) w w0 := hc0.mono (fun _ _ h => h.elim)
  clear hb hm hc0
  go_wp2_with fail
  obtain ⟨N, hN⟩ : ∃ N : Nat, min ((l.length : Nat) : Int) 30 = (N : Int) := ⟨min l.length 30, by omega⟩
  rw [hN]
  have hNl : N ≤ l.length := by omega
  have hN3 : N ≤ 30 := by omega
  clear hN
  go_loopw [8] (fun v wr => ∃ (k : Nat) (s : Stk), v = .int .i64 k ∧ k ≤ N ∧ s.SwL (swC l) k ∧ StkAt wr b mb s ∧ Chg (fun i => w.heap.size ≤ i) w wr) (fun v _ => 30 - (RowKit.intOf v).toNat)
  case atStart => exact ⟨0, _, rfl, Nat.zero_le _, Stk.SwL.new _, hS0, hck0⟩
  case round =>
    clear hS0 hck0
    obtain ⟨k, s, rfl, hk, hL, hS, hck⟩ := hrel
    by_cases hlt : k < N
    · obtain ⟨x, hx⟩ : ∃ x, l[k]? = some x := ⟨_, List.getElem?_eq_getElem (by omega)⟩
      obtain ⟨ab, rfl, hbb, hat⟩ := hl.at_ k x hx
      have hblk : (ab.add k).block = ab.block := by unfold Addr.add; split <;> rfl
      obtain ⟨m, hm⟩ : ∃ m, wrap64 ((IntKind.u64.wrap x).tmod 3) = m := ⟨_, rfl⟩
      have hmb := modK x 3 (by omega)
      rw [hm] at hmb
      have hcm : swC l k = m := by unfold swC; rw [hx]; exact hm
      have hkl : k < l.length := by omega
      go_wp2_with fail
      have hh := hL.hold (n := k) (by omega)
      have hg1 := hL.good.act ⟨1, (k : Int) + 1, 2, 0, 0⟩ k
      refine (do_w hS hL.good hbm ⟨1, (k : Int) + 1, 2, 0, 0⟩ k 1 _ (by rw [hh]) rfl).mono ?_
      rintro e w1 ⟨rfl, hS1, hc1⟩
      have hck1 := hck.trans hc1 (fun _ _ h => h)
      have hcF1 : Chg (fun _ => False) w w1 := hck1.mono (fun i hi h => by omega)
      have g0 : w1.cell? (ab.add k) = some (.int .i64 x) := by rw [hcF1.cell (by rw [hblk]; exact hbb) (fun h => h)]; exact hat
      have hz := hL.zero (n := k) (by omega)
      have ho := hL.one (n := k) (by omega)
      have ht := hL.two (n := k) (by omega)
      rw [hcm] at hz ho ht
      generalize (s.act ⟨1, (k : Int) + 1, 2, 0, 0⟩ k).2 = s1 at *
      clear hh hS hck hc1 hat hcF1
      have hm3 : m = 0 ∨ m = 1 ∨ m = 2 := by omega
      rcases hm3 with rfl | rfl | rfl
      · have hzz := hz rfl
        clear hz ho ht
        go_wp2_with fail
        go_roundw
        case rel => exact ⟨k + 1, _, by go_num, by omega, hzz, hS1, hck1⟩
        case measure => simp [RowKit.intOf]; omega
      · obtain ⟨h1, h2⟩ := ho rfl
        clear hz ho ht
        go_wp2_with fail
        have hcal := (Chg.refl (fun _ => False) w1).alloc (.cells #[.int .i64 0, .int .i64 2, .int .i64 3] 3)
        have hSa := hS1.chg hcal id id
        have hcka : Chg (fun i => w.heap.size ≤ i) w (w1.alloc (.cells #[.int .i64 0, .int .i64 2, .int .i64 3] 3)) := hck1.trans hcal (fun _ _ h => h.elim)
        refine (do_w hSa hg1 hbm ⟨2, (k : Int) + 1, 0, 0, 0⟩ k 1 _ h1 rfl).mono ?_
        rintro e w2 ⟨rfl, hS2, hc2⟩
        have hck2 := hcka.trans hc2 (fun _ _ h => h)
        go_wp2_with fail
        go_roundw
        case rel => exact ⟨k + 1, _, by go_num, by omega, h2, hS2, hck2⟩
        case measure => simp [RowKit.intOf]; omega
      · obtain ⟨h1, h2⟩ := ht rfl
        clear hz ho ht
        go_wp2_with fail
        have hcal := (Chg.refl (fun _ => False) w1).alloc (.cells #[.int .i64 0, .int .i64 2, .int .i64 3] 3)
        have hSa := hS1.chg hcal id id
        have hcka : Chg (fun i => w.heap.size ≤ i) w (w1.alloc (.cells #[.int .i64 0, .int .i64 2, .int .i64 3] 3)) := hck1.trans hcal (fun _ _ h => h.elim)
        refine (do_w hSa hg1 hbm ⟨3, (k : Int) + 1, 0, 0, 0⟩ k 1 _ h1 rfl).mono ?_
        rintro e w2 ⟨rfl, hS2, hc2⟩
        have hck2 := hcka.trans hc2 (fun _ _ h => h)
        go_wp2_with fail
        go_roundw
        case rel => exact ⟨k + 1, _, by go_num, by omega, h2, hS2, hck2⟩
        case measure => simp [RowKit.intOf]; omega
    · have hkN : k = N := by omega
      subst hkN
      go_wp2_with fail
      rw [hT]
      obtain ⟨hw1, hw2, hw3, hw4⟩ := hL.swept hN3 (t := 30 + T) (by omega) (by omega)
      refine (sweep_w hS hL.good hbm (30 + T) _ _ hw1 rfl).mono ?_
      rintro e w3 ⟨v3, rfl, hown, hS3, hc3⟩
      have hck3 := hck.trans hc3 (fun _ _ h => h)
      have hgl := swG_len (swC l) (30 + T) k
      have hgn := swG_nth (swC l) (30 + T) k
      obtain ⟨g, hg⟩ : ∃ g, swG (swC l) (30 + T) k = g := ⟨_, rfl⟩
      rw [hg] at hown hgl hgn
      obtain ⟨ad3, cap3, rfl, hI3⟩ := intsIn_own hown (by unfold maxLen; omega)
      have hgh := Lib.hid hg
      generalize (s.sweep (30 + T)).2 = s3 at *
      clear hg hw1 hL hS hck hc3 hown hlt
      have hfd0 : ∀ (e : Ent) w1, (Instr.field 40 e.val 0).run Try.prog w1 = .ok (.int .i64 e.st) w1 := fun e w1 => by kernel_rfl
      go_wp2_with fail
      go_loopw [12, 13] (fun v12 v13 wr => ∃ i : Nat, v12 = .int .i64 ((swG (swC l) (30 + T) i).length : Nat) ∧ v13 = .int .i64 i ∧ i ≤ k ∧ Chg (fun _ => False) w3 wr) (fun _ v _ => 30 - (RowKit.intOf v).toNat)
      case atStart => exact ⟨0, rfl, rfl, Nat.zero_le _, Chg.refl _ _⟩
      case round =>
        obtain ⟨i, rfl, rfl, hi, hcx⟩ := hrel
        have hSx := hS3.chg hcx id id
        by_cases hlt : i < k
        · obtain ⟨x, hx⟩ : ∃ x, l[i]? = some x := ⟨_, List.getElem?_eq_getElem (by omega)⟩
          obtain ⟨ab, rfl, hbb, hat⟩ := hl.at_ i x hx
          have hblk : (ab.add i).block = ab.block := by unfold Addr.add; split <;> rfl
          obtain ⟨m, hm⟩ : ∃ m, wrap64 ((IntKind.u64.wrap x).tmod 3) = m := ⟨_, rfl⟩
          have hmb := modK x 3 (by omega)
          rw [hm] at hmb
          have hcm : swC l i = m := by unfold swC; rw [hx]; exact hm
          have hkl : i < l.length := by omega
          have hcF1 : Chg (fun _ => False) w wr := (hck3.trans hcx (fun _ _ h => h.elim)).mono (fun i hi h => by omega)
          have g0 : wr.cell? (ab.add i) = some (.int .i64 x) := by rw [hcF1.cell (by rw [hblk]; exact hbb) (fun h => h)]; exact hat
          have hcal := (Chg.refl (fun _ => False) wr).alloc (.cells #[.int .i64 1, .int .i64 2, .int .i64 3] 3)
          have gA : (wr.alloc (.cells #[.int .i64 1, .int .i64 2, .int .i64 3] 3)).cell? (ab.add i) = some (.int .i64 x) := by rw [(hcF1.trans hcal (fun _ _ h => h)).cell (by rw [hblk]; exact hbb) (fun h => h)]; exact hat
          have hSa := hSx.chg hcal id id
          have hen := hw2 i hlt
          have hgi := hgn i hlt
          have hj := swG_len (swC l) (30 + T) i
          have hj2 := swG_succ (swC l) (30 + T) i
          generalize (swG (swC l) (30 + T) i).length = j at *
          clear hat
          have hm3 : (m = 0 ∧ (i : Int) + 60 ≤ 30 + T) ∨ (m = 0 ∧ ¬ ((i : Int) + 60 ≤ 30 + T)) ∨ m = 1 ∨ m = 2 := by omega
          rcases hm3 with ⟨rfl, hov⟩ | ⟨rfl, hov⟩ | rfl | rfl
          · have hovb : swOv (swC l) (30 + T) i = true := by unfold swOv; rw [hcm]; simp [hov]
            have hgj := hgi hovb
            have hjl := (List.getElem?_eq_some_iff.1 hgj).1
            obtain ⟨a3, rfl, hb3, hat3⟩ := hI3.at_ j _ hgj
            have hblk3 : (a3.add j).block = a3.block := by unfold Addr.add; split <;> rfl
            have g1 : wr.cell? (a3.add j) = some (.int .i64 ((i : Int) + 1)) := by rw [hcx.cell (by rw [hblk3]; exact hb3) (fun h => h)]; exact hat3
            clear hgi hgj
            go_wp2_with fail
            have hfd := hfd0 Ent.gone
            refine (stk_entry hSa hw3 ((i : Int) + 1) (by omega) Ent.gone (by rw [hen, if_pos hovb])).mono ?_
            rintro e w5 ⟨rfl, hc5⟩
            have hcx5 := (hcx.trans hcal (fun _ _ h => h)).trans hc5 (fun _ _ h => h)
            unfold Ent.val Ent.row at hfd ⊢
            try unfold Ent.gone at hfd ⊢
            go_wp2_with fail
            go_roundw
            case rel => exact ⟨i + 1, by rw [hj2, hovb]; simp, by go_num, by omega, hcx5⟩
            case measure => simp [RowKit.intOf]; omega
          · have hovb : swOv (swC l) (30 + T) i = false := by unfold swOv; rw [hcm]; simp; omega
            clear hgi hgn
            go_wp2_with fail
            have hfd := hfd0 ⟨1, 2, (i : Int) + 60, 0, 0⟩
            refine (stk_entry hSa hw3 ((i : Int) + 1) (by omega) ⟨1, 2, (i : Int) + 60, 0, 0⟩ (by rw [hen, if_neg (by rw [hovb]; decide)]; unfold swE; rw [if_pos hcm])).mono ?_
            rintro e w5 ⟨rfl, hc5⟩
            have hcx5 := (hcx.trans hcal (fun _ _ h => h)).trans hc5 (fun _ _ h => h)
            unfold Ent.val Ent.row at hfd ⊢
            try unfold Ent.gone at hfd ⊢
            go_wp2_with fail
            go_roundw
            case rel => exact ⟨i + 1, by rw [hj2, hovb]; simp, by go_num, by omega, hcx5⟩
            case measure => simp [RowKit.intOf]; omega
          · have hovb : swOv (swC l) (30 + T) i = false := by unfold swOv; rw [hcm]; simp
            clear hgi hgn
            go_wp2_with fail
            have hfd := hfd0 ⟨2, 2, 0, 0, 0⟩
            refine (stk_entry hSa hw3 ((i : Int) + 1) (by omega) ⟨2, 2, 0, 0, 0⟩ (by rw [hen, if_neg (by rw [hovb]; decide)]; unfold swE; rw [if_neg (by rw [hcm]; decide), if_pos hcm])).mono ?_
            rintro e w5 ⟨rfl, hc5⟩
            have hcx5 := (hcx.trans hcal (fun _ _ h => h)).trans hc5 (fun _ _ h => h)
            unfold Ent.val Ent.row at hfd ⊢
            try unfold Ent.gone at hfd ⊢
            go_wp2_with fail
            go_roundw
            case rel => exact ⟨i + 1, by rw [hj2, hovb]; simp, by go_num, by omega, hcx5⟩
            case measure => simp [RowKit.intOf]; omega
          · have hovb : swOv (swC l) (30 + T) i = false := by unfold swOv; rw [hcm]; simp
            clear hgi hgn
            go_wp2_with fail
            have hfd := hfd0 Ent.gone
            refine (stk_entry hSa hw3 ((i : Int) + 1) (by omega) Ent.gone (by rw [hen, if_neg (by rw [hovb]; decide)]; unfold swE; rw [if_neg (by rw [hcm]; decide), if_neg (by rw [hcm]; decide)])).mono ?_
            rintro e w5 ⟨rfl, hc5⟩
            have hcx5 := (hcx.trans hcal (fun _ _ h => h)).trans hc5 (fun _ _ h => h)
            unfold Ent.val Ent.row at hfd ⊢
            try unfold Ent.gone at hfd ⊢
            go_wp2_with fail
            go_roundw
            case rel => exact ⟨i + 1, by rw [hj2, hovb]; simp, by go_num, by omega, hcx5⟩
            case measure => simp [RowKit.intOf]; omega
        · have hik : i = k := by omega
          subst hik
          rw [hgh.out]
          go_wp2_with fail
          refine (told9 _).mono ?_
          rintro e w6 ⟨rfl, hc6⟩
          have hS6 := hSx.chg hc6 id id
          go_wp2_with fail
          refine (sweep_w hS6 hw3 hbm (30 + T) _ _ hw4 rfl).mono ?_
          rintro e w7 ⟨v7, rfl, hown7, _, hc7⟩
          obtain ⟨ad7, cap7, rfl, _⟩ := intsIn_own (g := []) hown7 (by unfold maxLen; decide)
          have hcZ : Chg (fun i => w.heap.size ≤ i) w w7 := ((hck3.trans hcx (fun _ _ h => h.elim)).trans hc6 (fun _ _ h => h.elim)).trans hc7 (fun _ _ h => h)
          go_wp2_with fail
          refine (mayRef_any ⟨3, 1, 0, 0, 0⟩ _).mono ?_
          rintro e w8 ⟨rfl, hc8⟩
          rw [show mayOp ⟨3, 1, 0, 0, 0⟩ = true by decide]
          go_wp2_with fail
          go_ret
          exact ⟨rfl, (hcZ.trans hc8 (fun _ _ h => h.elim)).mono (fun i hi h => by omega)⟩
end Go.Proofs.Ytihfcfpkffebiaa
