/-
  SealElder: its walk.
-/
import Derived.Test.YtpbjompopgdbjaaSealU
import Derived.Test.YtpbjompopgdbjaaSEldP
import Derived.Test.YtpbjompopgdbjaaRowR
namespace Go.Proofs.Ytpbjompopgdbjaa
open Go.RowKit Go.Maps

theorem flat_bound (c : Nat) : ∀ (l : List Rec), (∀ b ∈ l, b.length ≤ c) → (flat l).length ≤ (6 + c) * l.length
  | [], _ => Nat.le_refl _
  | b :: l, h => by
    have h1 := flat_bound c l (fun x hx => h x (List.mem_cons_of_mem _ hx))
    have h2 := h b (List.mem_cons_self ..)
    rw [flat_cons, List.length_append, frm_len, List.length_cons, Nat.mul_succ]
    omega
theorem x_read_row {P : Nat → Prop} {w : World} {d : Nat} {D : Dsk} (h : DiskX P w d D) (n : Nam) (hn : n.length ≤ maxLen) :
    Calls Try.prog 18 #[.pointer (some ⟨d, 0, none⟩), encStr n] w fun e w' => ∃ ao off cap rb ec, e = .returned (.tuple #[.slice ao (bsF (D.fl n)).length cap, .int .i64 ec]) ∧ RowB w' ao off cap rb (bsF (D.fl n)) ∧ (cap = 0 ∨ (w.heap.size ≤ rb ∧ rb < w'.heap.size)) ∧ DiskX P w' d D ∧ Chg (fun _ => False) w w' := by
  cases hf : D.fl n with
  | none =>
    refine (x_read_none h n hn hf).mono ?_
    rintro e w1 ⟨rfl, rfl⟩
    exact ⟨none, 0, 0, 0, 5, rfl, ⟨⟨Nat.le_refl _, fun h0 => absurd h0 (Nat.lt_irrefl 0), fun h0 => absurd h0 (Nat.lt_irrefl 0), rfl, fun j u hj => by simp [bsF, bcells] at hj, fun j hj => by omega⟩, by unfold maxLen; omega⟩, .inl rfl, h, Chg.refl _ _⟩
  | some f =>
    refine (x_read h n hf).mono ?_
    rintro e w1 ⟨ao, off, cap, rb, rfl, hR, hb, hD, hc⟩
    exact ⟨ao, off, cap, rb, 0, rfl, hR, hb, hD, hc⟩

set_option maxRecDepth 100000 in
set_option maxHeartbeats 4000000 in
theorem seld_walk (w : World) (a0 : Option Addr) (c0 : Nat) (l0 : List Rec) (h0 : RowsB w a0 l0) (a1 : Option Addr) (c1 : Nat) (l1 : List Rec) (h1 : RowsB w a1 l1) :
    Calls Try.prog 4 #[.slice a0 l0.length c0, .slice a1 l1.length c1] w fun e w' => e = .returned (.bool true) ∧ Chg (fun _ => False) w w' := by
  have fin : ∀ wq, Chg (fun i => ¬ i < w.heap.size) w wq → Chg (fun _ => False) w wq := fun wq hc => hc.mono (fun i hi h => h hi)
  have told : ∀ wq, Chg (fun i => ¬ i < w.heap.size) w wq → Calls Try.prog 11 #[] wq fun e w' => e = .returned (.bool true) ∧ Chg (fun _ => False) w w' := fun wq hq => (told6 wq).mono (by
    rintro e w' ⟨rfl, hc⟩
    exact ⟨rfl, fin _ (hq.trans hc (fun _ _ h => h.elim))⟩)
  have htold := Lib.hid told
  clear told
  go_enter Try.func4, Try.ntmps4
  go_wp2_with fail
  refine (s_new w 1000000 (by omega)).mono ?_
  rintro e w0 ⟨d, rfl, hD0, hc0⟩
  have hc0 : Chg (fun i => ¬ i < w.heap.size) w w0 := hc0.mono (fun _ _ h => h.elim)
  by_cases hl0 : 8 < l0.length
  · go_wp2_with fail
    refine (htold.out _ hc0).mono ?_
    rintro e w1 ⟨rfl, hc1⟩
    go_wp2_with fail
    go_ret
    exact ⟨rfl, hc1⟩
  by_cases hl1 : 4 < l1.length
  · go_wp2_with fail
    refine (htold.out _ hc0).mono ?_
    rintro e w1 ⟨rfl, hc1⟩
    go_wp2_with fail
    go_ret
    exact ⟨rfl, hc1⟩
  go_wp2_with fail
  refine (s_open hD0).mono ?_
  rintro e w1 ⟨j, g0, ad1, cp1, ad2, cp2, _, hj, rfl, B, hB, hBg, _, _, hS, hc1⟩
  have hc1 := hc0.trans hc1 (fun i hi hs h => hs h)
  have hj0 : j = 0 := Nat.le_zero.1 hj
  subst hj0
  have hS : SealW (fun i => i < w.heap.size ∨ B i) w1 g0 d 1000000 0 [] [] 0 := hS
  rw [show (([] : List Rec).take 0).length = 0 from rfl, show ([] : List Rec).length = 0 from rfl]
  go_wp2_with fail
  go_loopw [11, 12, 13] (fun v11 _ _ wr => ∃ i : Nat, v11 = .int .i64 i ∧ i ≤ l0.length + l1.length ∧ (∀ (j : Nat) (b : Rec), j < i → (l0 ++ l1)[j]? = some b → 1 ≤ b.length ∧ b.length ≤ 40) ∧ wr = w1) (fun v11 _ _ _ => 100 - (RowKit.intOf v11).toNat)
  case atStart => exact ⟨0, rfl, Nat.zero_le _, fun j b h => absurd h (Nat.not_lt_zero _), rfl⟩
  case round =>
    obtain ⟨i, rfl, hi, hpre, rfl⟩ := hrel
    by_cases hlt : i < l0.length
    · obtain ⟨b, hb⟩ : ∃ b, l0[i]? = some b := ⟨_, List.getElem?_eq_getElem hlt⟩
      obtain ⟨_, a, ao, c, rfl, _, k0, _⟩ := (h0.chg hc1 (fun i hi h => h hi)) i b hb
      have hab : (l0 ++ l1)[i]? = some b := by rw [List.getElem?_append_left hlt]; exact hb
      have Hab := Lib.hid hab
      clear hb hab
      by_cases hb1 : b.length < 1
      · go_wp2_with fail
        refine (htold.out _ hc1).mono ?_
        rintro e w2 ⟨rfl, hc2⟩
        go_wp2_with fail
        go_ret
        exact ⟨rfl, hc2⟩
      by_cases hb2 : 40 < b.length
      · go_wp2_with fail
        refine (htold.out _ hc1).mono ?_
        rintro e w2 ⟨rfl, hc2⟩
        go_wp2_with fail
        go_ret
        exact ⟨rfl, hc2⟩
      have hpre2 : ∀ (j : Nat) (b : Rec), j < i + 1 → (l0 ++ l1)[j]? = some b → 1 ≤ b.length ∧ b.length ≤ 40 := fun j x hj hx => by
        by_cases hji : j = i
        · subst hji
          rw [Hab.out] at hx
          cases hx
          omega
        · exact hpre j x (by omega) hx
      go_wp2_with fail
      go_roundw
      case rel => exact ⟨i + 1, by go_num, by omega, hpre2, trivial⟩
      case measure => simp [RowKit.intOf]; omega
    · by_cases hlt2 : i < l0.length + l1.length
      · obtain ⟨q, hq⟩ : ∃ q, i = l0.length + q := ⟨i - l0.length, by omega⟩
        obtain ⟨b, hb⟩ : ∃ b, l1[q]? = some b := ⟨_, List.getElem?_eq_getElem (by omega)⟩
        obtain ⟨_, a, ao, c, rfl, _, k0, _⟩ := (h1.chg hc1 (fun i hi h => h hi)) q b hb
        have hab : (l0 ++ l1)[i]? = some b := by rw [List.getElem?_append_right (by omega), hq, Nat.add_sub_cancel_left]; exact hb
        have Hab := Lib.hid hab
        have hqi : ((i : Int) - l0.length) = (q : Int) := by omega
        clear hb hab hq
        by_cases hb1 : b.length < 1
        · go_wp2_with fail
          refine (htold.out _ hc1).mono ?_
          rintro e w2 ⟨rfl, hc2⟩
          go_wp2_with fail
          go_ret
          exact ⟨rfl, hc2⟩
        by_cases hb2 : 40 < b.length
        · go_wp2_with fail
          refine (htold.out _ hc1).mono ?_
          rintro e w2 ⟨rfl, hc2⟩
          go_wp2_with fail
          go_ret
          exact ⟨rfl, hc2⟩
        have hpre2 : ∀ (j : Nat) (b : Rec), j < i + 1 → (l0 ++ l1)[j]? = some b → 1 ≤ b.length ∧ b.length ≤ 40 := fun j x hj hx => by
          by_cases hji : j = i
          · subst hji
            rw [Hab.out] at hx
            cases hx
            omega
          · exact hpre j x (by omega) hx
        go_wp2_with fail
        go_roundw
        case rel => exact ⟨i + 1, by go_num, by omega, hpre2, trivial⟩
        case measure => simp [RowKit.intOf]; omega

      · have hie : i = l0.length + l1.length := by omega
        have hk0 : ∀ b ∈ l0, 1 ≤ b.length ∧ b.length ≤ 40 := fun b hb => by
          obtain ⟨j, hj, rfl⟩ := List.getElem_of_mem hb
          exact hpre j _ (by omega) (by rw [List.getElem?_append_left hj]; exact List.getElem?_eq_getElem hj)
        have hk1 : ∀ b ∈ l1, 1 ≤ b.length ∧ b.length ≤ 40 := fun b hb => by
          obtain ⟨j, hj, rfl⟩ := List.getElem_of_mem hb
          exact hpre (l0.length + j) _ (by omega) (by rw [List.getElem?_append_right (by omega), Nat.add_sub_cancel_left]; exact List.getElem?_eq_getElem hj)
        have hf0 := flat_bound 40 l0 (fun b hb => (hk0 b hb).2)
        have hf1 := flat_bound 40 l1 (fun b hb => (hk1 b hb).2)
        clear hpre hie
        have Hk := Lib.hid (And.intro hk0 hk1)
        have Hf := Lib.hid (And.intro hf0 hf1)
        clear hk0 hk1 hf0 hf1
        go_wp2_with fail
        go_loopw [14] (fun v14 wr => ∃ k : Nat, v14 = .int .i64 k ∧ k ≤ l0.length ∧ SealW (fun i => i < w.heap.size ∨ B i) wr g0 d 1000000 0 [] (l0.take k) 0 ∧ Chg (fun i => ¬ i < w.heap.size) w wr) (fun v14 _ => 100 - (RowKit.intOf v14).toNat)
        case atStart => exact ⟨0, rfl, Nat.zero_le _, hS, hc1⟩
        case round =>
          clear hS hc1
          obtain ⟨k, rfl, hk, hS, hcr⟩ := hrel
          have hg0 := (hB g0 hBg).1
          by_cases hkl : k < l0.length
          · obtain ⟨b, hb⟩ : ∃ b, l0[k]? = some b := ⟨_, List.getElem?_eq_getElem hkl⟩
            obtain ⟨_, a, ao, c, rfl, _, k0, hby⟩ := (h0.chg hcr (fun i hi h => h hi)) k b hb
            have hsn : l0.take (k + 1) = l0.take k ++ [b] := by rw [List.take_add_one, hb]; rfl
            have hbm := Hk.out.1 b (List.mem_of_getElem? hb)
            have Hsn := Lib.hid hsn
            have Hb := Lib.hid (And.intro hbm hb)
            clear hsn hbm hb
            go_wp2_with fail
            refine (s_put hS hby c ⟨Hb.out.1.1, by have := Hb.out.1.2; omega⟩ (by rw [List.length_take]; omega) ?_).mono ?_
            · have h1 := flat_take_mono l0 (i := k) (j := l0.length) (by omega)
              rw [List.take_length] at h1
              have h2 := Hf.out.1
              have h3 := Hb.out.1.2
              have h4 : (flat ([] : List Rec)).length = 0 := rfl
              omega
            rintro e w3 ⟨rfl, hS3, hc3⟩
            have hc3 := hcr.trans hc3 (fun k hk hs h => by
              rcases hs with hs | rfl
              · exact hs (.inl h)
              · exact hg0 h)
            rw [← Hsn.out] at hS3
            go_wp2_with fail
            go_roundw
            case rel => exact ⟨k + 1, by go_num, by omega, hS3, hc3⟩
            case measure => simp [RowKit.intOf]; omega
          · have hke : k = l0.length := by omega
            subst hke
            rw [List.take_length] at hS
            go_wp2_with fail
            refine (s_sync hS).mono ?_
            rintro e w2 ⟨rfl, hS2, hc2⟩
            have hc2 := hcr.trans hc2 (fun k hk hs h => hs (.inl h))
            clear hS hcr
            have hg0w := (hB g0 hBg).1
            obtain ⟨D, hD, hPg, hL, hR, hroom⟩ := hS2
            go_wp2_with fail
            refine (x_read_row hD nLog (by decide)).mono ?_
            rintro e w3 ⟨ao, off, cap, rb, ec, rfl, hRow, hfr, hD3, hc3⟩
            have hcw3 := hc2.trans hc3 (fun _ _ h => h.elim)
            obtain ⟨Q, hQ⟩ : ∃ Q : Nat → Prop, Q = fun i => (i < w.heap.size ∨ B i) ∨ (w2.heap.size ≤ i ∧ i < w3.heap.size) := ⟨_, rfl⟩
            have hQP : ∀ i, i < w.heap.size → Q i := fun i hi => by rw [hQ]; exact .inl (.inl hi)
            have hQg : Q g0 := by rw [hQ]; exact .inl hPg
            have hQr : 0 < cap → Q rb := fun h0 => by
              rw [hQ]
              rcases hfr with h | h
              · omega
              · exact .inr h
            have hgl : g0 < w2.heap.size := hL.lt
            have hrg : 0 < cap → rb ≠ g0 := fun h0 h => by rcases hfr with h1 | h1 <;> omega
            have hS3 : SealW Q w3 g0 d 1000000 0 [] l0 l0.length := ⟨D, hD.more hc3 (fun i hi => by rw [hQ] at hi; exact hi), hQg, Blk.chg hL hc3 id, hR, hroom⟩
            obtain ⟨bb, hbb⟩ : ∃ bb, bsF (D.fl nLog) = bb := ⟨_, rfl⟩
            have hlog := hR.log
            rw [hbb] at hRow hlog ⊢
            have hu1 : bb.length ≤ 16 + (flat l0).length := by rw [← hbb, lenF_bs]; exact hR.logLen
            have hrows3 := h1.chg hcw3 (fun i hi h => h hi)
            clear hD hL hR hroom hfr hc3 hc2 hD3 hbb
            clear D
            go_wp2_with fail
            refine (s_save_log hS3 hrows3 c1 (by omega) (fun b hb => ⟨(Hk.out.2 b hb).1, by have := (Hk.out.2 b hb).2; omega⟩) (by omega) ?_).mono ?_
            · have h3 := Hf.out.1
              have h4 := Hf.out.2
              have h5 : (flat ([] : List Rec)).length = 0 := rfl
              omega
            rintro e w4 ⟨rfl, ⟨D, hD, hR, hroom, hlog4⟩, hc4⟩
            have hRow4 := hRow.keep hc4.size (fun h0 => hc4.block rb (hRow.came.lt h0) (fun hs => by
              rcases hs with hs | hs
              · exact hs (hQr h0)
              · exact hrg h0 hs))
            have hcw4 := hcw3.trans hc4 (fun k hk hs h => by
              rcases hs with hs | rfl
              · exact hs (hQP k h)
              · exact hg0w h)
            have hR : Rep D 1 l1 [] 0 := hR
            have hused : (D.used : Int) + bb.length ≤ D.room := by
              have h2 := hR.used
              have h3 := hR.snapLen
              have h4 : lenF (D.fl nLog) = 0 := by rw [← lenF_bs, hlog4]; rfl
              have h5 := Hf.out.1
              have h6 := Hf.out.2
              omega
            obtain ⟨D1, D2, e1, e2, hE, hroom2, hks⟩ := hR.elder (by decide) (b := bb) (by
              rcases hlog with ⟨h, _⟩ | h
              · exact .inl h
              · exact .inr ⟨0, l0, by decide, by decide, by decide, fun b hb => ⟨(Hk.out.1 b hb).1, by have := (Hk.out.1 b hb).2; omega⟩, h⟩) hlog4 hused
            have hmx := ks_len hR.good (fun n hn => (hR.ks n hn).imp id (.inl (b := n = nNext)))
            clear hS3 hRow hc4 hcw3 hrows3 hlog hlog4 hused hR
            go_wp2_with fail
            refine (x_append hD (by omega) nLog ao bb cap (rowB_src hRow4 hQr)).mono ?_
            rw [e1]
            rintro e w5 ⟨rfl, hD5, hc5⟩
            have hcw5 := hcw4.trans hc5 (fun k hk hs h => hs (hQP k h))
            clear hRow4 hc5 hcw4 hD hmx
            go_wp2_with fail
            refine (x_sync hD5 nLog (by decide)).mono ?_
            rw [show ((((0 : Int), D1).2).sync nLog).2 = D2 from e2]
            rintro e w6 ⟨rfl, hD6, hc6⟩
            have hcw6 := hcw5.trans hc6 (fun k hk hs h => hs (hQP k h))
            clear hD5 hc6 hcw5
            obtain ⟨so, lo, tl, D3, f1, f2, f3, f4, f5, f6, f7, f8, f9, f10⟩ := hE.reopen
            go_wp2_with fail
            refine (open_any hD6 so lo f1 f2 f5 f6).mono ?_
            rw [f8, f7, f4, f3]
            rintro e w7 ⟨g2, ad3, cp3, ad4, cp4, rfl, B2, hB2, hg2B, hg7, hr7, _, hD7, hc7⟩
            have hcw7 := hcw6.trans hc7 (fun k hk hs h => hs (hQP k h))
            have hg2w : ¬ g2 < w.heap.size := fun h => (hB2 g2 hg2B).1 (hQP g2 h)
            have hS7 : SealW (fun i => Q i ∨ B2 i) w7 g2 d 1000000 1 l1 [] 0 := ⟨D3, hD7, .inr hg2B, hg7, f9, by rw [f10, hroom2, hroom]⟩
            clear hD6 hc7 hcw6 f1 f2 f3 f4 f5 f6 f7 f8 f9 f10 hE e1 e2 hD7 hg7
            rw [show ([] : List Rec).length = 0 from rfl]
            have hcv : (convert 31 31 (.slice (some ⟨w7.heap.size, 0, none⟩) 1 1)).run Try.prog (w7.alloc (.cells #[.int .u8 122] 5)) = .ok (.slice (some ⟨w7.heap.size, 0, none⟩) 1 1) (w7.alloc (.cells #[.int .u8 122] 5 (1, 2))) :=
              Lib.run_convert_bytes_const w7 _ _ _ 1 1 Try.underlying31 Try.underlying5
            have hcA : Chg (fun _ => False) w7 (w7.alloc (.cells #[.int .u8 122] 5 (1, 2))) := (Chg.refl _ w7).alloc _
            have hRA := (rowB_const w7 [122] (by decide) #[.int .u8 122] (1, 2) rfl).byt
            have hS7 := hS7.keep hcA
            have hr7 := hr7.chg hcA (fun _ _ => id)
            have hcw7 := hcw7.trans hcA (fun _ _ h => h.elim)
            go_wp2_with fail
            generalize w7.alloc (.cells #[.int .u8 122] 5 (1, 2)) = wA at *
            refine (s_put hS7 hRA _ ⟨by decide, by decide⟩ (by decide) ?_).mono ?_
            · have h6 := Hf.out.2
              have h5 : (flat ([] : List Rec)).length = 0 := rfl
              have h4 : ([122] : List UInt8).length = 1 := rfl
              omega
            rintro e w8 ⟨rfl, hS8, hc8⟩
            have hr8 := hr7.chg hc8 (fun i hB hs => by
              rcases hs with hs | rfl
              · exact hs (.inr hB.1)
              · exact hB.2 rfl)
            have hcw8 := hcw7.trans hc8 (fun k hk hs h => by
              rcases hs with hs | rfl
              · exact hs (.inl (hQP k h))
              · exact hg2w h)
            clear hcv hcA hRA hS7 hr7 hcw7 hc8
            go_wp2_with fail
            refine (s_open hS8.pre).mono ?_
            rintro e w9 ⟨j, g3, ad5, cp5, ad6, cp6, hj1, hj2, rfl, B3, hB3, _, hr9, hz9, _, hc9⟩
            have hj : j = 1 := by
              have : (([] : List Rec) ++ [[122]]).length = 1 := rfl
              omega
            subst hj
            have hr89 := hr8.chg hc9 (fun i hB hs => hs (.inr hB.1))
            have hcw9 := hcw8.trans hc9 (fun k hk hs h => hs (.inl (hQP k h)))
            have hz9 : RowsIn w9 _ ad6 [[122]] := hz9
            have hln1 : (List.take 1 (([] : List Rec) ++ ([[122]] : List Rec))).length = 1 := rfl
            rw [hln1]
            clear hr8 hcw8 hc9 hS8
            go_wp2_with fail
            refine (told6 w9).mono ?_
            rintro e w10 ⟨rfl, hc10⟩
            have hcw10 := hcw9.trans hc10 (fun _ _ h => h.elim)
            have hr10 := hr89.chg hc10 (fun _ _ => id)
            have hs10 := hr9.chg hc10 (fun _ _ => id)
            have hz10 := hz9.chg hc10 (fun _ _ => id)
            have hl10 := h1.chg hcw10 (fun i hi h => h hi)
            clear hr89 hr9 hz9 hcw9 hc10
            go_wp2_with fail
            refine (texts_any hl10 c1 (by omega)).mono ?_
            rintro e w11 ⟨ao1, cq1, rfl, hT, _, hc11⟩
            have hcw11 := hcw10.trans hc11 (fun _ _ h => h.elim)
            have hr11 := hr10.chg hc11 (fun _ _ => id)
            have hs11 := hs10.chg hc11 (fun _ _ => id)
            have hz11 := hz10.chg hc11 (fun _ _ => id)
            clear hr10 hs10 hz10 hl10 hcw10 hc11
            go_wp2_with fail
            refine (Texts_eq hr11.rowsB hT _ _ (by omega)).mono ?_
            rintro e w12 ⟨rfl, hc12⟩
            have hcw12 := hcw11.trans hc12 (fun _ _ h => h.elim)
            have hs12 := hs11.chg hc12 (fun _ _ => id)
            have hz12 := hz11.chg hc12 (fun _ _ => id)
            have hl12 := h1.chg hcw12 (fun i hi h => h hi)
            clear hr11 hs11 hz11 hcw11 hc12 hT
            go_wp2_with fail
            refine (texts_any hl12 c1 (by omega)).mono ?_
            rintro e w13 ⟨ao2, cq2, rfl, hT, _, hc13⟩
            have hcw13 := hcw12.trans hc13 (fun _ _ h => h.elim)
            have hs13 := hs12.chg hc13 (fun _ _ => id)
            have hz13 := hz12.chg hc13 (fun _ _ => id)
            clear hs12 hz12 hl12 hcw12 hc13
            go_wp2_with fail
            refine (Texts_eq hs13.rowsB hT _ _ (by omega)).mono ?_
            rintro e w14 ⟨rfl, hc14⟩
            have hcw14 := hcw13.trans hc14 (fun _ _ h => h.elim)
            have hz14 := hz13.chg hc14 (fun _ _ => id)
            clear hs13 hz13 hcw13 hc14 hT
            obtain ⟨aa, az, oa, ca, ra, rfl, _, _, m0, hRa, _, _⟩ := hz14 0 [122] rfl
            have v1 : (convert 31 9 (.slice az 1 ca)).run Try.prog w14 = .ok (.string ⟨#[122]⟩) w14 := conv_str hRa
            have m0 : w14.cell? aa = some (.slice az 1 ca) := m0
            clear hz14 hRa
            go_wp2_with fail
            go_ret
            exact ⟨rfl, fin _ hcw14⟩
end Go.Proofs.Ytpbjompopgdbjaa
