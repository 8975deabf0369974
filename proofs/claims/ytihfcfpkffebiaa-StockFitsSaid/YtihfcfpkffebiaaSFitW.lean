/-
  layer 9: StockFits, its walk.
-/
import Derived.Test.YtihfcfpkffebiaaSFitP
namespace Go.Proofs.Ytihfcfpkffebiaa
open Go.RowKit Go.Maps

set_option maxRecDepth 100000 in
set_option maxHeartbeats 4000000 in
theorem stockFits_walk (w : World) (n1 n2 : Int) (ad : Option Addr) (cap : Nat) (l : List Int) (hl : IntsIn w ad l) :
    Calls Try.prog 6 #[.int .i64 n1, .int .i64 n2, .slice ad l.length cap] w fun e w' => e = .returned (.bool true) ∧ Chg (fun _ => False) w w' := by
  have hmx := hl.len
  unfold maxLen at hmx
  obtain ⟨C, hC⟩ : ∃ C, wrap64 ((IntKind.u64.wrap n1).tmod 41) = C := ⟨_, rfl⟩
  obtain ⟨O, hO⟩ : ∃ O, wrap64 ((IntKind.u64.wrap n2).tmod 11) = O := ⟨_, rfl⟩
  have hCb := modK n1 41 (by omega)
  have hOb := modK n2 11 (by omega)
  rw [hC] at hCb
  rw [hO] at hOb
  obtain ⟨hC1, hC2⟩ := hCb
  obtain ⟨hO1, hO2⟩ := hOb
  go_enter Try.func6, Try.ntmps6
  go_wp2_with fail
  rw [hC, hO]
  have hA0 := Blk.new w 23 #[.int .i64 C, .int .i64 O]
  have hcA := (Chg.refl (fun i => w.heap.size ≤ i) w).alloc (.cells #[.int .i64 C, .int .i64 O] 23)
  refine (new_w _ C O (by omega) (by omega)).mono ?_
  rintro e w0 ⟨b, mb, rfl, hS0, hc0, hb, hm⟩
  have hbm : w.heap.size + 1 ≤ b ∧ w.heap.size + 1 ≤ mb := by simp only [alloc_size] at hb hm; exact ⟨hb, hm⟩
  have hA := hA0.chg hc0 id
  have hck0 : Chg (fun i => w.heap.size ≤ i) w w0 := hcA.trans hc0 (fun _ _ h => h.elim)
  have a0 : w0.cell? ⟨w.heap.size, 0, none⟩ = some (.int .i64 C) := by rw [hA.cell]; rfl
  have a1 : w0.cell? ⟨w.heap.size, 1, none⟩ = some (.int .i64 O) := by rw [hA.cell]; rfl
  have hF0 : (Stk.new C O).Fits C O 0 := Stk.Fits.new (by omega) (by omega)
  clear hb hm hA0 hcA hc0
  go_wp2_with fail
  clear a0 a1
  go_loopw [10, 11] (fun v10 v wr => ∃ (k : Nat) (f : Int) (s : Stk), v10 = .int .i64 f ∧ v = .int .i64 k ∧ k ≤ l.length ∧ k ≤ 30 ∧ s.free = f ∧ s.Fits C O k ∧ StkAt wr b mb s ∧ Blk wr w.heap.size 23 #[.int .i64 C, .int .i64 O] ∧ Chg (fun i => w.heap.size ≤ i) w wr) (fun _ v _ => 30 - (RowKit.intOf v).toNat)
  case atStart => exact ⟨0, _, _, rfl, rfl, Nat.zero_le _, Nat.zero_le _, rfl, hF0, hS0, hA, hck0⟩
  case round =>
    clear hF0 hS0 hA hck0
    obtain ⟨k, f, s, rfl, rfl, hk1, hk2, hf, hF, hS, hA, hck⟩ := hrel
    have hcF : Chg (fun _ => False) w wr := hck.mono (fun i hi h => by omega)
    have hfr := hF.range
    rw [hf] at hfr
    obtain ⟨hfr1, hfr2⟩ := hfr
    by_cases hlt : k < l.length ∧ k < 30
    · obtain ⟨hlt1, hlt2⟩ := hlt
      obtain ⟨x, hx⟩ : ∃ x, l[k]? = some x := ⟨_, List.getElem?_eq_getElem hlt1⟩
      obtain ⟨ab, rfl, hbb, hat⟩ := hl.at_ k x hx
      have hblk : (ab.add k).block = ab.block := by unfold Addr.add; split <;> rfl
      have g0 : wr.cell? (ab.add k) = some (.int .i64 x) := by rw [hcF.cell (by rw [hblk]; exact hbb) (fun h => h)]; exact hat
      obtain ⟨m, hm⟩ : ∃ m, wrap64 ((IntKind.u64.wrap x).tmod 15) = m := ⟨_, rfl⟩
      have hmb := modK x 15 (by omega)
      rw [hm] at hmb
      obtain ⟨hm1, hm2⟩ := hmb
      go_wp2_with fail
      rw [hm]
      obtain ⟨u, hu⟩ : ∃ u, 1 + m = u := ⟨_, rfl⟩
      rw [hu]
      have hub : 1 ≤ u ∧ u ≤ 15 := by omega
      obtain ⟨hu1, hu2⟩ := hub
      clear hu hm hm1 hm2 g0 hat hblk
      have hcase : ∃ r s1 f1, (s.act ⟨1, (k : Int) + 1, u, 0, 0⟩ k).1 = r ∧ (s.act ⟨1, (k : Int) + 1, u, 0, 0⟩ k).2 = s1 ∧ s1.free = f1 ∧ s1.Fits C O (k + 1) ∧ ((r = 1 ∧ u ≤ f ∧ f1 = f - u ∧ (s1.en ((k : Int) + 1)).un = u) ∨ (r = 2 ∧ f < u ∧ f1 = f)) := by
        by_cases h : u ≤ f
        · obtain ⟨h1, h2, h3, h4⟩ := hF.yes (u := u) (by omega) ⟨hu1, hu2⟩ (by omega)
          exact ⟨_, _, _, rfl, rfl, rfl, h3, .inl ⟨h1, h, by rw [h2, hf], h4⟩⟩
        · obtain ⟨h1, h2, h3⟩ := hF.no (u := u) (by omega) ⟨hu1, hu2⟩ (by omega)
          exact ⟨_, _, _, rfl, rfl, rfl, h3, .inr ⟨h1, by omega, by rw [h2, hf]⟩⟩
      obtain ⟨r, s1, f1, hr, hs1, hf1, hF1, hcase⟩ := hcase
      refine (do_w hS hF.good hbm ⟨1, (k : Int) + 1, u, 0, 0⟩ k r s1 hr hs1).mono ?_
      rintro e w1 ⟨rfl, hS1, hc1⟩
      have hA1 := hA.chg hc1 (by omega)
      have hck1 : Chg (fun i => w.heap.size ≤ i) w w1 := hck.trans hc1 (fun i _ h => by omega)
      clear hr hs1 hF hS hA hck hc1 hf
      have hcell : ∀ w', Chg (fun _ => False) w1 w' → w'.cell? ⟨w.heap.size, 0, none⟩ = some (.int .i64 C) ∧ w'.cell? ⟨w.heap.size, 1, none⟩ = some (.int .i64 O) := fun w' hc => by
        have h := hA1.chg hc id
        exact ⟨by rw [h.cell]; rfl, by rw [h.cell]; rfl⟩
      have hfr := hF1.range
      have hheld := hF1.held
      rw [hf1] at hfr hheld
      have hcell0 := hcell _ (Chg.refl _ w1)
      have hcellh := Lib.hid hcell
      clear hcell
      rcases hcase with ⟨rfl, hle, rfl, hun⟩ | ⟨rfl, hle, rfl⟩
      · have b1 : decide (u ≤ f) = true := by simp [hle]
        go_wp2_with fail
        refine wp_region_plan (by kernel_rfl) [{ fl := [0, 2], ef := 1 }, { fl := [3, 4, 5, 7, 8, 9, 10, 11, 12, 13], long := [8, 10], ef := 6, keep := [8, 10] }] [14, 15] (by kernel_rfl) (fun _ w9 => w9.cell? ⟨w.heap.size, 0, none⟩ = some (.int .i64 C) ∧ w9.cell? ⟨w.heap.size, 1, none⟩ = some (.int .i64 O)) ?_
        simp only [wpPlan, longOK, keepOK, opsAt_cons, opsAt_nil, consO_some, List.getElem?_toArray, List.getElem?_cons_succ, List.getElem?_cons_zero, and_true, true_and]
        go_wp2_with fail
        refine ⟨by kernel_rfl, ?_⟩
        go_wp2_with fail
        have hcd : Chg (fun _ => False) w1 w1.drew := (Chg.refl _ w1).drew
        have hSd := hS1.chg hcd id id
        have hckd : Chg (fun i => w.heap.size ≤ i) w w1.drew := hck1.trans hcd (fun _ _ h => h.elim)
        have hAd := hA1.chg hcd id
        have hcell0 := hcellh.out _ hcd
        generalize w1.drew = w3 at *
        refine (stk_free hSd).mono ?_
        rintro e w' ⟨rfl, rfl⟩
        rw [hf1]
        go_wp2_with fail
        refine ⟨⟨hcell0, hcell0⟩, ?_⟩
        go_wp2_with fail
        refine ⟨by kernel_rfl, ⟨?_, ?_⟩, ?_⟩
        · intro _ w9 ⟨h1, h2⟩
          go_simp
        · intro _ w9 ⟨h1, h2⟩
          go_simp
        go_wp2_with fail
        refine (stk_held hSd hF1.good).mono ?_
        rintro e w2 ⟨rfl, hc2⟩
        rw [hheld]
        have hcell2 := hcellh.out _ (hcd.trans hc2 (fun _ _ h => h))
        go_wp2_with fail
        refine ⟨⟨hcell2, hcell2⟩, ?_⟩
        go_wp2_with fail
        refine ⟨by kernel_rfl, ?_⟩
        go_wp2_with fail
        · have hck2 : Chg (fun i => w.heap.size ≤ i) w w2 := hckd.trans hc2 (fun _ _ h => h.elim)
          have hS2 := hSd.chg hc2 id id
          have hA2 := hAd.chg hc2 id
          obtain ⟨h1, h2, h3⟩ := hF1.rel (by omega) hun
          refine (do_w hS2 hF1.good hbm ⟨3, (k : Int) + 1, 0, 0, 0⟩ k 1 _ h1 rfl).mono ?_
          rintro e w4 ⟨rfl, hS4, hc4⟩
          have hA4 := hA2.chg hc4 (by omega)
          have hck4 : Chg (fun i => w.heap.size ≤ i) w w4 := hck2.trans hc4 (fun i _ h => by omega)
          go_wp2_with fail
          go_roundw
          case rel => exact ⟨k + 1, _, _, rfl, by go_num, by omega, by omega, by rw [h2, hf1]; omega, h3, hS4, hA4, hck4⟩
          case measure => simp [RowKit.intOf]; omega
        · have hck2 : Chg (fun i => w.heap.size ≤ i) w w2 := hckd.trans hc2 (fun _ _ h => h.elim)
          have hS2 := hSd.chg hc2 id id
          have hA2 := hAd.chg hc2 id
          go_roundw
          case rel => exact ⟨k + 1, _, _, rfl, by go_num, by omega, by omega, hf1, hF1, hS2, hA2, hck2⟩
          case measure => simp [RowKit.intOf]; omega
      · have b1 : decide (u ≤ f1) = false := by simp; omega
        go_wp2_with fail
        refine wp_region_plan (by kernel_rfl) [{ fl := [0, 2], ef := 1 }, { fl := [3, 4, 5, 7, 8, 9, 10, 11, 12, 13], long := [8, 10], ef := 6, keep := [8, 10] }] [14, 15] (by kernel_rfl) (fun _ w9 => w9.cell? ⟨w.heap.size, 0, none⟩ = some (.int .i64 C) ∧ w9.cell? ⟨w.heap.size, 1, none⟩ = some (.int .i64 O)) ?_
        simp only [wpPlan, longOK, keepOK, opsAt_cons, opsAt_nil, consO_some, List.getElem?_toArray, List.getElem?_cons_succ, List.getElem?_cons_zero, and_true, true_and]
        go_wp2_with fail
        refine ⟨by kernel_rfl, ?_⟩
        go_wp2_with fail
        have hcd : Chg (fun _ => False) w1 w1.drew := (Chg.refl _ w1).drew
        have hSd := hS1.chg hcd id id
        have hckd : Chg (fun i => w.heap.size ≤ i) w w1.drew := hck1.trans hcd (fun _ _ h => h.elim)
        have hAd := hA1.chg hcd id
        have hcell0 := hcellh.out _ hcd
        generalize w1.drew = w3 at *
        refine (stk_free hSd).mono ?_
        rintro e w' ⟨rfl, rfl⟩
        rw [hf1]
        go_wp2_with fail
        refine ⟨⟨hcell0, hcell0⟩, ?_⟩
        go_wp2_with fail
        refine ⟨by kernel_rfl, ⟨?_, ?_⟩, ?_⟩
        · intro _ w9 ⟨h1, h2⟩
          go_simp
        · intro _ w9 ⟨h1, h2⟩
          go_simp
        go_wp2_with fail
        refine (stk_held hSd hF1.good).mono ?_
        rintro e w2 ⟨rfl, hc2⟩
        rw [hheld]
        have hcell2 := hcellh.out _ (hcd.trans hc2 (fun _ _ h => h))
        go_wp2_with fail
        refine ⟨⟨hcell2, hcell2⟩, ?_⟩
        go_wp2_with fail
        refine ⟨by kernel_rfl, ?_⟩
        go_wp2_with fail
        have hck2 : Chg (fun i => w.heap.size ≤ i) w w2 := hckd.trans hc2 (fun _ _ h => h.elim)
        have hS2 := hSd.chg hc2 id id
        have hA2 := hAd.chg hc2 id
        go_roundw
        case rel => exact ⟨k + 1, _, _, rfl, by go_num, by omega, by omega, hf1, hF1, hS2, hA2, hck2⟩
        case measure => simp [RowKit.intOf]; omega
    · go_wp2_with fail
      all_goals
        refine (told9 _).mono ?_
        rintro e wt ⟨rfl, hct⟩
        have hSt := hS.chg hct id id
        go_wp2_with fail
        refine (stk_free hSt).mono ?_
        rintro e w' ⟨rfl, rfl⟩
        rw [hf]
        go_wp2_with fail
        go_ret
        exact ⟨rfl, hcF.trans hct (fun _ _ h => h)⟩
end Go.Proofs.Ytihfcfpkffebiaa
