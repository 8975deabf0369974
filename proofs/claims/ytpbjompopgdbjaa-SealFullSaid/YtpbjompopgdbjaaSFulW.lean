/-
  SealFull: its walk.
-/
import Derived.Test.YtpbjompopgdbjaaSealV
import Derived.Test.YtpbjompopgdbjaaRowR
import Derived.Test.YtpbjompopgdbjaaInts
namespace Go.Proofs.Ytpbjompopgdbjaa
open Go.RowKit Go.Maps

set_option maxRecDepth 100000 in
set_option maxHeartbeats 4000000 in
theorem sful_walk (w : World) (n0 : Int) (a0 : Option Addr) (c0 : Nat) (l0 : List Rec) (h0 : RowsB w a0 l0) (a1 : Option Addr) (c1 : Nat) (l1 : List Rec) (h1 : RowsB w a1 l1) :
    Calls Try.prog 5 #[.int .i64 n0, .slice a0 l0.length c0, .slice a1 l1.length c1] w fun e w' => e = .returned (.bool true) ∧ Chg (fun _ => False) w w' := by
  have fin : ∀ wq, Chg (fun i => ¬ i < w.heap.size) w wq → Chg (fun _ => False) w wq := fun wq hc => hc.mono (fun i hi h => h hi)
  have told : ∀ wq, Chg (fun i => ¬ i < w.heap.size) w wq → Calls Try.prog 11 #[] wq fun e w' => e = .returned (.bool true) ∧ Chg (fun _ => False) w w' := fun wq hq => (told6 wq).mono (by
    rintro e w' ⟨rfl, hc⟩
    exact ⟨rfl, fin _ (hq.trans hc (fun _ _ h => h.elim))⟩)
  have htold := Lib.hid told
  clear told
  obtain ⟨r, hr⟩ : ∃ r, wrap64 ((IntKind.u64.wrap n0).tmod 341) = r := ⟨_, rfl⟩
  have hrb := modK n0 341 (by omega)
  rw [hr] at hrb
  obtain ⟨hr1, hr2⟩ := hrb
  go_enter Try.func5, Try.ntmps5
  go_wp2_with fail
  rw [hr]
  obtain ⟨rm, hrm⟩ : ∃ rm, 60 + r = rm := ⟨_, rfl⟩
  rw [hrm]
  refine (s_new w rm (by omega)).mono ?_
  rintro e w0 ⟨d, rfl, hD0, hc0⟩
  have hc0 : Chg (fun i => ¬ i < w.heap.size) w w0 := hc0.mono (fun _ _ h => h.elim)
  clear hr hr1 hr2 hrm
  by_cases hl0 : 40 < l0.length
  · go_wp2_with fail
    refine (htold.out _ hc0).mono ?_
    rintro e w1 ⟨rfl, hc1⟩
    go_wp2_with fail
    go_ret
    exact ⟨rfl, hc1⟩
  by_cases hl1 : 6 < l1.length
  · go_wp2_with fail
    refine (htold.out _ hc0).mono ?_
    rintro e w1 ⟨rfl, hc1⟩
    go_wp2_with fail
    go_ret
    exact ⟨rfl, hc1⟩
  go_wp2_with fail
  refine (s_open hD0).mono ?_
  rintro e w1 ⟨j, g0, ad1, cp1, ad2, cp2, _, hj, rfl, B, hB, hBg, _, _, hS, hc1⟩
  have hc1 := hc0.trans hc1 (fun i hi hs h => hs h)
  have hj0 : j = 0 := Nat.le_zero.1 hj
  subst hj0
  have hS : SealW (fun i => i < w.heap.size ∨ B i) w1 g0 d rm 0 [] [] 0 := hS
  rw [show (([] : List Rec).take 0).length = 0 from rfl, show ([] : List Rec).length = 0 from rfl]
  go_wp2_with fail
  go_loopw [15, 16, 17] (fun v15 _ _ wr => ∃ i : Nat, v15 = .int .i64 i ∧ i ≤ l0.length + l1.length ∧ (∀ (j : Nat) (b : Rec), j < i → (l0 ++ l1)[j]? = some b → 1 ≤ b.length ∧ b.length ≤ 40) ∧ wr = w1) (fun v15 _ _ _ => 100 - (RowKit.intOf v15).toNat)
  case atStart => exact ⟨0, rfl, Nat.zero_le _, fun j b h => absurd h (Nat.not_lt_zero _), rfl⟩
  case round =>
    obtain ⟨i, rfl, hi, hpre, rfl⟩ := hrel
    by_cases hlt : i < l0.length
    · obtain ⟨b, hb⟩ : ∃ b, l0[i]? = some b := ⟨_, List.getElem?_eq_getElem hlt⟩
      obtain ⟨_, a, ao, c, rfl, _, k0, _⟩ := (h0.chg hc1 (fun i hi h => h hi)) i b hb
      have hab : (l0 ++ l1)[i]? = some b := by rw [List.getElem?_append_left hlt]; exact hb
      have Hab := Lib.hid hab
      clear hb hab
      by_cases hb1 : b.length < 1
      · go_wp2_with fail
        refine (htold.out _ hc1).mono ?_
        rintro e w2 ⟨rfl, hc2⟩
        go_wp2_with fail
        go_ret
        exact ⟨rfl, hc2⟩
      by_cases hb2 : 40 < b.length
      · go_wp2_with fail
        refine (htold.out _ hc1).mono ?_
        rintro e w2 ⟨rfl, hc2⟩
        go_wp2_with fail
        go_ret
        exact ⟨rfl, hc2⟩
      have hpre2 : ∀ (j : Nat) (b : Rec), j < i + 1 → (l0 ++ l1)[j]? = some b → 1 ≤ b.length ∧ b.length ≤ 40 := fun j x hj hx => by
        by_cases hji : j = i
        · subst hji
          rw [Hab.out] at hx
          cases hx
          omega
        · exact hpre j x (by omega) hx
      go_wp2_with fail
      go_roundw
      case rel => exact ⟨i + 1, by go_num, by omega, hpre2, trivial⟩
      case measure => simp [RowKit.intOf]; omega
    · by_cases hlt2 : i < l0.length + l1.length
      · obtain ⟨q, hq⟩ : ∃ q, i = l0.length + q := ⟨i - l0.length, by omega⟩
        obtain ⟨b, hb⟩ : ∃ b, l1[q]? = some b := ⟨_, List.getElem?_eq_getElem (by omega)⟩
        obtain ⟨_, a, ao, c, rfl, _, k0, _⟩ := (h1.chg hc1 (fun i hi h => h hi)) q b hb
        have hab : (l0 ++ l1)[i]? = some b := by rw [List.getElem?_append_right (by omega), hq, Nat.add_sub_cancel_left]; exact hb
        have Hab := Lib.hid hab
        have hqi : ((i : Int) - l0.length) = (q : Int) := by omega
        clear hb hab hq
        by_cases hb1 : b.length < 1
        · go_wp2_with fail
          refine (htold.out _ hc1).mono ?_
          rintro e w2 ⟨rfl, hc2⟩
          go_wp2_with fail
          go_ret
          exact ⟨rfl, hc2⟩
        by_cases hb2 : 40 < b.length
        · go_wp2_with fail
          refine (htold.out _ hc1).mono ?_
          rintro e w2 ⟨rfl, hc2⟩
          go_wp2_with fail
          go_ret
          exact ⟨rfl, hc2⟩
        have hpre2 : ∀ (j : Nat) (b : Rec), j < i + 1 → (l0 ++ l1)[j]? = some b → 1 ≤ b.length ∧ b.length ≤ 40 := fun j x hj hx => by
          by_cases hji : j = i
          · subst hji
            rw [Hab.out] at hx
            cases hx
            omega
          · exact hpre j x (by omega) hx
        go_wp2_with fail
        go_roundw
        case rel => exact ⟨i + 1, by go_num, by omega, hpre2, trivial⟩
        case measure => simp [RowKit.intOf]; omega

      · have hie : i = l0.length + l1.length := by omega
        have hk0 : ∀ b ∈ l0, 1 ≤ b.length ∧ b.length ≤ 40 := fun b hb => by
          obtain ⟨j, hj, rfl⟩ := List.getElem_of_mem hb
          exact hpre j _ (by omega) (by rw [List.getElem?_append_left hj]; exact List.getElem?_eq_getElem hj)
        have hk1 : ∀ b ∈ l1, 1 ≤ b.length ∧ b.length ≤ 40 := fun b hb => by
          obtain ⟨j, hj, rfl⟩ := List.getElem_of_mem hb
          exact hpre (l0.length + j) _ (by omega) (by rw [List.getElem?_append_right (by omega), Nat.add_sub_cancel_left]; exact List.getElem?_eq_getElem hj)
        clear hpre hie
        have Hk := Lib.hid (And.intro hk0 hk1)
        clear hk0 hk1
        have hg0 := (hB g0 hBg).1
        have hg1 := (hB g0 hBg).2.2
        obtain ⟨B1, hB1⟩ : ∃ B1, B1 = wr.heap.size := ⟨_, rfl⟩
        have hgB : g0 < B1 := by omega
        have hwB : w.heap.size ≤ B1 := by have := hc1.size; omega
        go_wp2_with fail
        go_loopw [14, 18, 19] (fun v14 v18 _ wr => ∃ (k : Nat) (recs : List Rec) (Pk : Nat → Prop), v18 = .int .i64 k ∧ k ≤ l0.length ∧ recs.length ≤ k ∧ TxtO wr B1 v14 recs ∧ (∀ b ∈ recs, b.length ≤ 40) ∧ (∀ q, v14.ownBlock = some q → Pk q) ∧ (∀ q, q < w.heap.size → Pk q) ∧ SealW Pk wr g0 d rm 0 [] recs 0 ∧ B1 ≤ wr.heap.size ∧ Chg (fun q => ¬ q < w.heap.size) w wr) (fun _ v18 _ _ => 100 - (RowKit.intOf v18).toNat)
        case atStart => exact ⟨0, [], _, rfl, Nat.zero_le _, Nat.zero_le _, TxtO.nil _ _, fun b hb => (by cases hb), fun q hq => (by simp [Value.ownBlock] at hq), fun q hq => .inl hq, hS, by omega, hc1⟩
        case round =>
          clear hS hB1
          obtain ⟨k, recs, Pk, rfl, hk, hrk, hT, hr40, hPv, hPw, hS, hBr, hcr⟩ := hrel
          obtain ⟨at0, ct0, rfl⟩ := hT.slice
          by_cases hkl : k < l0.length
          · obtain ⟨b, hb⟩ : ∃ b, l0[k]? = some b := ⟨_, List.getElem?_eq_getElem hkl⟩
            obtain ⟨_, a, ao, c, rfl, _, k0, hby⟩ := (h0.chg hcr (fun i hi h => h hi)) k b hb
            have hbm := Lib.hid (Hk.out.1 b (List.mem_of_getElem? hb))
            have Hb := Lib.hid hb
            have hob : ∀ q, (Value.slice at0 recs.length ct0).ownBlock = some q → Pk q ∧ q ≠ g0 ∧ ¬ q < w.heap.size := fun q hq => by
              have := hT.block hq
              exact ⟨hPv q hq, by omega, by omega⟩
            clear hb hPv
            go_wp2_with fail
            refine (s_putF hS hby c ⟨hbm.out.1, by have := hbm.out.2; omega⟩ (by omega)).mono ?_
            rintro e w3 ⟨r3, rfl, hcase, hc3⟩
            have hT3 : TxtO w3 B1 _ recs := own_chg hT hc3 (fun q hq hs => by
              have hb := hob q hq
              rcases hs with hs | rfl
              · exact hs hb.1
              · exact hb.2.1 rfl)
            have hcr3 := hcr.trans hc3 (fun q hq hs h => by
              rcases hs with hs | rfl
              · exact hs (hPw q h)
              · exact hg0 h)
            have hBr3 : B1 ≤ w3.heap.size := by have := hc3.size; omega
            clear hS hT hc3 k0 hby hBr hcr
            rcases hcase with ⟨rfl, hS⟩ | ⟨rfl, hS⟩
            · go_wp2_with fail
              refine (s_used hS).mono ?_
              rintro e w4 ⟨u, rfl, hu, hS4, hc4⟩
              have hT4 := hT3.chg hc4 (fun _ _ _ => id)
              have hcr4 := hcr3.trans hc4 (fun _ _ h => h.elim)
              obtain ⟨_, a', ao', c', ea, _, k4, hby4⟩ := (h0.chg hcr4 (fun i hi h => h hi)) k b Hb.out
              cases ea
              have hv := hby4.conv b.length (Nat.le_refl _) c' (w' := w4) (fun i _ => rfl)
              rw [List.take_length] at hv
              have hcA : Chg (fun _ => False) w4 (w4.alloc (.cells #[encStr b] 9)) := (Chg.refl _ w4).alloc _
              have HT := Lib.hid (hT4.chg hcA (fun _ _ _ => id))
              have hcell : (w4.alloc (.cells #[encStr b] 9)).cell? ⟨w4.heap.size, 0, none⟩ = some (encStr b) := by rw [(Blk.new w4 _ _).cell]; rfl
              have hBr4 : B1 ≤ w4.heap.size := by have := hc4.size; omega
              have hcrA := hcr4.trans hcA (fun _ _ h => h.elim)
              clear hT3 hT4 hc4 hcr4 hcr3 hBr3 hby4 hS
              go_wp2_with (at_builtin; go_loud (refine wpList_append_txt2 rfl _ _ rfl (by exact HT.out) rfl rfl (by exact hcell) (by rw [size_al]; omega) (by omega) ?_; intro v' w5 hv5 hc5 hvv hnb; obtain ⟨ad5, cp5, rfl⟩ := hvv))
              have hc5 : Chg (fun i => (Value.slice at0 recs.length ct0).ownBlock = some i) (w4.alloc (.cells #[encStr b] 9)) w5 := hc5
              have hcw5 := hcrA.trans hc5 (fun i _ hk => (hob i hk).2.2)
              have hz5 := hc5.size
              rw [size_al] at hz5
              have hS5 : SealW (fun q => Pk q ∨ (w4.heap.size ≤ q ∧ q < w5.heap.size)) w5 g0 d rm 0 [] (recs ++ [b]) 0 :=
                hS4.touch ((hcA.mono (fun _ _ h => h.elim)).trans hc5 (fun i _ h => ⟨(hob i h).1, (hob i h).2.1⟩)) (fun _ h => h) (.inl hS4.pg)
              have hPv5 : ∀ q, (Value.slice (some ad5) (recs.length + 1) cp5).ownBlock = some q → Pk q ∨ (w4.heap.size ≤ q ∧ q < w5.heap.size) := fun q hq => by
                rcases hnb with hn | hn
                · rw [hn] at hq
                  exact .inl (hob q hq).1
                · have h2 := (hv5.block hq).2
                  rw [hn] at hq
                  cases hq
                  rw [size_al] at h2 ⊢
                  exact .inr ⟨by omega, h2⟩
              go_roundw
              case rel => exact ⟨k + 1, recs ++ [b], _, by go_num, by omega, by rw [List.length_append]; show _ + 1 ≤ _; omega, hv5, fun x hx => by
                  rcases List.mem_append.1 hx with hx | hx
                  · exact hr40 x hx
                  · simp at hx; subst hx; exact hbm.out.2, hPv5, fun q hq => .inl (hPw q hq), hS5, by omega, hcw5⟩
              case measure => simp [RowKit.intOf]; omega
            · go_wp2_with fail
              refine (s_used hS).mono ?_
              rintro e w4 ⟨u, rfl, hu, hS4, hc4⟩
              have hT4 := hT3.chg hc4 (fun _ _ _ => id)
              have hcr4 := hcr3.trans hc4 (fun _ _ h => h.elim)
              have hBr4 : B1 ≤ w4.heap.size := by have := hc4.size; omega
              clear hT3 hc4 hcr3 hBr3 hS
              go_wp2_with fail
              go_roundw
              case rel => exact ⟨k + 1, recs, Pk, by go_num, by omega, by omega, hT4, hr40, fun q hq => (hob q hq).1, hPw, hS4, hBr4, hcr4⟩
              case measure => simp [RowKit.intOf]; omega
          · have hke : k = l0.length := by omega
            subst hke
            go_wp2_with fail
            refine (s_sync hS).mono ?_
            rintro e w2 ⟨rfl, hS2, hc2⟩
            have hT2 : TxtO w2 B1 _ recs := own_chg hT hc2 (fun q hq hs => hs (hPv q hq))
            have hcr2 := hcr.trans hc2 (fun q hq hs h => hs (hPw q h))
            clear hS hcr hT hc2
            go_wp2_with fail
            refine (s_len hS2).mono ?_
            rintro e w2' ⟨rfl, rfl⟩
            go_wp2_with fail
            refine (s_saveF hS2 (h1.chg hcr2 (fun i hi h => h hi)) c1 (by omega) (fun b hb => ⟨(Hk.out.2 b hb).1, by have := (Hk.out.2 b hb).2; omega⟩) (by omega)).mono ?_
            rintro e w3 ⟨r3, rfl, hcase, hc3⟩
            have hg0' := hg0
            have hT3 : TxtO w3 B1 _ recs := own_chg hT2 hc3 (fun q hq hs => by
              have hb := hT2.block hq
              rcases hs with hs | rfl
              · exact hs (hPv q hq)
              · omega)
            have hcr3 := hcr2.trans hc3 (fun q hq hs h => by
              rcases hs with hs | rfl
              · exact hs (hPw q h)
              · exact hg0 h)
            clear hS2 hcr2 hT2 hc3
            rcases hcase with ⟨rfl, hS⟩ | ⟨rfl, hS⟩
            · go_wp2_with fail
              refine (s_open hS.pre).mono ?_
              rintro e w4 ⟨j, g3, ad5, cp5, ad6, cp6, hj1, hj2, rfl, B3, hB3, _, hr4, _, _, hc4⟩
              have hj : j = 0 := Nat.le_zero.1 hj2
              subst hj
              have hcr4 := hcr3.trans hc4 (fun q hq hs h => hs (hPw q h))
              have hln0 : (List.take 0 ([] : List Rec)).length = 0 := rfl
              rw [hln0]
              clear hS hT3 hcr3 hc4 hln0
              go_wp2_with fail
              refine (told6 w4).mono ?_
              rintro e w5 ⟨rfl, hc5⟩
              have hcr5 := hcr4.trans hc5 (fun _ _ h => h.elim)
              have hr5 := hr4.chg hc5 (fun _ _ => id)
              have hl5 := h1.chg hcr5 (fun i hi h => h hi)
              clear hcr4 hc5 hr4
              go_wp2_with fail
              refine (texts_any hl5 c1 (by omega)).mono ?_
              rintro e w6 ⟨ao1, cq1, rfl, hT, _, hc6⟩
              have hcr6 := hcr5.trans hc6 (fun _ _ h => h.elim)
              have hr6 := hr5.chg hc6 (fun _ _ => id)
              clear hcr5 hc6 hr5 hl5
              go_wp2_with fail
              refine (Texts_eq hr6.rowsB hT _ _ (by omega)).mono ?_
              rintro e w7 ⟨rfl, hc7⟩
              have hcr7 := hcr6.trans hc7 (fun _ _ h => h.elim)
              clear hcr6 hc7 hr6 hT
              go_wp2_with fail
              go_ret
              exact ⟨rfl, fin _ hcr7⟩
            · go_wp2_with fail
              refine (s_open hS.pre).mono ?_
              rintro e w4 ⟨j, g3, ad5, cp5, ad6, cp6, hj1, hj2, rfl, B3, hB3, _, _, hr4, hS4, hc4⟩
              have hj : j = recs.length := by omega
              subst hj
              rw [List.take_length] at hr4 hS4 ⊢
              have hcr4 := hcr3.trans hc4 (fun q hq hs h => hs (hPw q h))
              have hT4 : TxtO w4 B1 _ recs := own_chg hT3 hc4 (fun q hq hs => hs (hPv q hq))
              have hln0 : ([] : List Rec).length = 0 := rfl
              rw [hln0]
              clear hS hT3 hcr3 hc4 hln0
              go_wp2_with fail
              refine (s_none hS4).mono ?_
              rintro e w4' ⟨rfl, rfl⟩
              clear hS4
              go_wp2_with fail
              refine (told6 _).mono ?_
              rintro e w5 ⟨rfl, hc5⟩
              have hcr5 := hcr4.trans hc5 (fun _ _ h => h.elim)
              have hr5 := hr4.chg hc5 (fun _ _ => id)
              have hT5 := hT4.chg hc5 (fun _ _ _ => id)
              obtain ⟨ao, cp, e5, hs5, _⟩ := hT5.strIn (fun b hb => by have := hr40 b hb; unfold maxLen; omega)
              cases e5
              clear hcr4 hc5 hr4 hT4
              go_wp2_with fail
              refine (Texts_eq hr5.rowsB hs5 _ _ (by omega)).mono ?_
              rintro e w6 ⟨rfl, hc6⟩
              have hcr6 := hcr5.trans hc6 (fun _ _ h => h.elim)
              clear hcr5 hc6 hr5 hT5 hs5
              go_wp2_with fail
              go_ret
              exact ⟨rfl, fin _ hcr6⟩
end Go.Proofs.Ytpbjompopgdbjaa
