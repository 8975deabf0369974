/-
  layer 11: TableKeys, its walk.
-/
import Derived.Test.YtajefffhdeljfaaTabP
import Derived.Test.YtajefffhdeljfaaInts
import Derived.Test.YtajefffhdeljfaaArrG
import Derived.Deep.DeepCutAuto
import Derived.Deep.CutBlock
namespace Go.Proofs.Ytajefffhdeljfaa
open Go.RowKit Go.Maps

set_option maxRecDepth 100000 in
set_option maxHeartbeats 2000000 in
theorem tkeys_walk (w : World) (ad : Option Addr) (cap : Nat) (l : List Int) (hl : IntsIn w ad l) :
    Calls Try.prog 7 #[.slice ad l.length cap] w fun e w' => e = .returned (.bool true) ∧ Chg (fun _ => False) w w' := by
  have hmx := hl.len
  unfold maxLen at hmx
  have heq := eq2
  go_enter Try.func7, Try.ntmps7
  go_wp2_with fail
  refine (tabNew w).mono ?_
  rintro e w0 ⟨t, mt, rfl, hT0, hc0, ht, hmt⟩
  have hc0 : Chg (fun i => w.heap.size ≤ i) w w0 := hc0.mono (fun _ _ h => h.elim)
  go_upto_block 0 with (fail)
  go_cut [4] (fun _ wx => ∃ f, TabAt wx t mt f ∧ Ans f ∧ Chg (fun i => w.heap.size ≤ i) w wx)
  case first =>
    go_wp2_with fail
    go_loopw [4] (fun v4 wr => ∃ (k : Nat) (f : Tab), v4 = .int .i64 k ∧ k ≤ l.length ∧ k ≤ 80 ∧ TabAt wr t mt f ∧ Ans f ∧ Chg (fun i => w.heap.size ≤ i) w wr) (fun v4 _ => 80 - (RowKit.intOf v4).toNat)
    case atStart => exact ⟨0, _, rfl, Nat.zero_le _, Nat.zero_le _, hT0, fun _ => .inl rfl, hc0⟩
    case round =>
      clear hT0 hc0
      obtain ⟨k, f, rfl, hk1, hk2, hT, hA, hck⟩ := hrel
      by_cases hlt : k < l.length ∧ k < 80
      · obtain ⟨hlt1, hlt2⟩ := hlt
        obtain ⟨x, hx⟩ : ∃ x, l[k]? = some x := ⟨_, List.getElem?_eq_getElem hlt1⟩
        have hcF : Chg (fun _ => False) w wr := hck.mono (fun i hi h => by omega)
        obtain ⟨d, rfl, hdb, hdat⟩ := (hl.chg hcF (fun i _ h => h)).at_ k x hx
        have hdc : ∀ o, (wr.alloc o).cell? (d.add k) = some (.int .i64 x) := fun o => by
          have e : (d.add k).block = d.block := by unfold Addr.add; split <;> rfl
          rw [((Chg.refl (fun _ => False) wr).alloc o).cell (by rw [e]; exact hdb) id]; exact hdat
        clear hcF
        go_wp2_with fail
        all_goals
          refine (tput_any _ t mt f ⟨_, _, _, _, _⟩ _ (hT.chg ((Chg.refl (fun _ => False) wr).alloc _) id id)).mono ?_
          rintro e w1 ⟨rfl, hT1, hc1⟩
          have hck1 := (hck.alloc _).trans hc1 (fun i _ h => by omega)
          clear hdat hdc hck hc1
          go_wp2_with fail
          go_roundw
          case rel => exact ⟨k + 1, _, by go_num, by omega, by omega, hT1, hA.put _ _, hck1⟩
          case measure => simp [RowKit.intOf]; omega
      · go_wp2_with fail
        all_goals
          go_meet
          case rel => exact ⟨f, hT, hA, hck⟩
  case rest =>
    clear hT0 hc0
    obtain ⟨f, hT, hA, hck⟩ := hcut
    go_wp2_with fail
    refine (keys_any hT).mono ?_
    rintro e w5 ⟨ad5, cap5, rfl, hK, hfr, hc5⟩
    have hT5 := hT.chg hc5 id id
    have hck5 := hck.trans hc5 (fun _ _ h => h.elim)
    clear hT hck hc5
    go_wp2_with fail
    go_loopw [8] (fun v8 wr => ∃ j : Nat, v8 = .int .i64 j ∧ j ≤ (tkeys f).length ∧ Chg (fun _ => False) w5 wr) (fun v8 _ => ((tkeys f).length : Nat) - (RowKit.intOf v8).toNat)
    case atStart => exact ⟨0, rfl, Nat.zero_le _, Chg.refl _ _⟩
    case round =>
      obtain ⟨j, rfl, hj, hcj⟩ := hrel
      have hlen := tkeys_len f
      have hTj := hT5.chg hcj id id
      by_cases hjl : j < (tkeys f).length
      · obtain ⟨⟨b, d⟩, hp⟩ : ∃ p, (tkeys f)[j]? = some p := ⟨_, List.getElem?_eq_getElem hjl⟩
        have hne := (tkeys_ne hT5.keys (b, d)).1 (List.mem_of_getElem? hp)
        obtain ⟨⟨hb1, hb2⟩, hd1, hd2⟩ := hT5.keys _ hne
        simp only at hb1 hb2 hd1 hd2
        have hKr := hK.chg hcj (fun a ha => ⟨(hfr a ha).2, id⟩)
        obtain ⟨g, rfl, k0, k1⟩ := hKr j _ hp
        obtain ⟨a, ha⟩ : ∃ a, f (b, d) = a := ⟨_, rfl⟩
        have ha12 : a = 1 ∨ a = 2 := by have := hA (b, d); omega
        have hah := Lib.hid ha
        have hbi : isI b := ⟨by omega, by omega⟩
        have hdi : isI d := ⟨by omega, by omega⟩
        clear ha hne hA
        rcases j with _ | i
        · have hpos : decide ((0 : Int) > 0) = false := rfl
          simp only [Nat.zero_mul, Nat.zero_add] at k0 k1
          go_wp2_with fail
          refine wp_region_plan (by kernel_rfl) [] [0, 1, 2, 3, 4, 5, 6, 7, 8, 9, 10, 11, 12, 13, 14, 15, 16, 17, 18, 19, 20, 21, 22, 23, 24, 25, 26, 27, 28, 29, 30, 31, 32, 33, 34, 35, 36, 37, 38, 39, 40, 41, 42, 43] (by kernel_rfl) (fun _ _ => True) ?_
          simp only [wpPlan, opsAt_cons, opsAt_nil, consO_some, List.getElem?_toArray, List.getElem?_cons_succ, List.getElem?_cons_zero]
          go_wp2_with fail
          all_goals refine ⟨by kernel_rfl, ?_⟩
          all_goals go_wp2_with fail
          all_goals
            refine wp_region_plan (by kernel_rfl) [{ fl := [0, 1, 2, 3, 4, 5, 6, 7, 8, 9, 10, 11], ef := 12 }] [13, 14, 15, 16, 17] (by kernel_rfl) (fun _ _ => True) ?_
            simp only [wpPlan, longOK, keepOK, opsAt_cons, opsAt_nil, consO_some, List.getElem?_toArray, List.getElem?_cons_succ, List.getElem?_cons_zero, true_and]
            go_wp2_with fail
            refine ⟨by kernel_rfl, ?_⟩
            go_wp2_with fail
            refine (find_as _ t mt f ⟨d, b, 0, 0, 0⟩ a ((hTj.chg (Chg.refl (fun _ => False) wr).drew id id).chg (Chg.refl (fun _ => False) wr.drew).drew id id) hbi hdi hah.out).mono ?_
            rintro e w7 ⟨rfl, hc7⟩
            have hc7 := hcj.drew.drew.trans hc7 (fun _ _ h => h)
            rcases ha12 with rfl | rfl
            all_goals
              go_wp2_with fail
              refine ⟨by kernel_rfl, ?_⟩
              go_wp2_with fail
              go_roundw
              case rel => exact ⟨0 + 1, by go_num, by omega, hc7⟩
              case measure => simp [RowKit.intOf]; omega
        · obtain ⟨⟨b0, d0⟩, hp0⟩ : ∃ p, (tkeys f)[i]? = some p := ⟨_, List.getElem?_eq_getElem (by omega)⟩
          obtain ⟨g0, hg0, l0, l1⟩ := hKr i _ hp0
          cases hg0
          have hr := tkeys_next hp0 hp
          simp only at hr l0 l1 k0 k1
          by_cases hbb : b = b0
          · subst hbb
            have hr : d0 < d := by omega
            go_wp2_with fail
            refine wp_region_plan (by kernel_rfl) [] [0, 1, 2, 3, 4, 5, 6, 7, 8, 9, 10, 11, 12, 13, 14, 15, 16, 17, 18, 19, 20, 21, 22, 23, 24, 25, 26, 27, 28, 29, 30, 31, 32, 33, 34, 35, 36, 37, 38, 39, 40, 41, 42, 43] (by kernel_rfl) (fun _ _ => True) ?_
            simp only [wpPlan, opsAt_cons, opsAt_nil, consO_some, List.getElem?_toArray, List.getElem?_cons_succ, List.getElem?_cons_zero]
            go_wp2_with fail
            all_goals refine ⟨by kernel_rfl, ?_⟩
            all_goals go_wp2_with fail
            all_goals
              clear l0 l1 hp0 hp hKr hK hfr
              refine wp_region_plan (by kernel_rfl) [{ fl := [0, 1, 2, 3, 4, 5, 6, 7, 8, 9, 10, 11], ef := 12 }] [13, 14, 15, 16, 17] (by kernel_rfl) (fun _ _ => True) ?_
              simp only [wpPlan, longOK, keepOK, opsAt_cons, opsAt_nil, consO_some, List.getElem?_toArray, List.getElem?_cons_succ, List.getElem?_cons_zero, true_and]
              go_wp2_with fail
              refine ⟨by kernel_rfl, ?_⟩
              go_wp2_with fail
              refine (find_as _ t mt f ⟨d, b, 0, 0, 0⟩ a ((hTj.chg (Chg.refl (fun _ => False) wr).drew id id).chg (Chg.refl (fun _ => False) wr.drew).drew id id) hbi hdi hah.out).mono ?_
              rintro e w7 ⟨rfl, hc7⟩
              have hc7 := hcj.drew.drew.trans hc7 (fun _ _ h => h)
              rcases ha12 with rfl | rfl
              all_goals
                go_wp2_with fail
                refine ⟨by kernel_rfl, ?_⟩
                go_wp2_with fail
                go_roundw
                case rel => exact ⟨i + 1 + 1, by go_num, by omega, hc7⟩
                case measure => simp [RowKit.intOf]; omega
          · have hr : b0 < b := by omega
            have hnb : (b == b0) = false := by simp; omega
            have hlb : decide (b < b0) = false := by simp; omega
            go_wp2_with fail
            refine wp_region_plan (by kernel_rfl) [] [0, 1, 2, 3, 4, 5, 6, 7, 8, 9, 10, 11, 12, 13, 14, 15, 16, 17, 18, 19, 20, 21, 22, 23, 24, 25, 26, 27, 28, 29, 30, 31, 32, 33, 34, 35, 36, 37, 38, 39, 40, 41, 42, 43] (by kernel_rfl) (fun _ _ => True) ?_
            simp only [wpPlan, opsAt_cons, opsAt_nil, consO_some, List.getElem?_toArray, List.getElem?_cons_succ, List.getElem?_cons_zero]
            go_wp2_with fail
            all_goals refine ⟨by kernel_rfl, ?_⟩
            all_goals go_wp2_with fail
            all_goals
              clear l0 l1 hp0 hp hKr hK hfr
              refine wp_region_plan (by kernel_rfl) [{ fl := [0, 1, 2, 3, 4, 5, 6, 7, 8, 9, 10, 11], ef := 12 }] [13, 14, 15, 16, 17] (by kernel_rfl) (fun _ _ => True) ?_
              simp only [wpPlan, longOK, keepOK, opsAt_cons, opsAt_nil, consO_some, List.getElem?_toArray, List.getElem?_cons_succ, List.getElem?_cons_zero, true_and]
              go_wp2_with fail
              refine ⟨by kernel_rfl, ?_⟩
              go_wp2_with fail
              refine (find_as _ t mt f ⟨d, b, 0, 0, 0⟩ a ((hTj.chg (Chg.refl (fun _ => False) wr).drew id id).chg (Chg.refl (fun _ => False) wr.drew).drew id id) hbi hdi hah.out).mono ?_
              rintro e w7 ⟨rfl, hc7⟩
              have hc7 := hcj.drew.drew.trans hc7 (fun _ _ h => h)
              rcases ha12 with rfl | rfl
              all_goals
                go_wp2_with fail
                refine ⟨by kernel_rfl, ?_⟩
                go_wp2_with fail
                go_roundw
                case rel => exact ⟨i + 1 + 1, by go_num, by omega, hc7⟩
                case measure => simp [RowKit.intOf]; omega
      · go_wp2_with fail
        refine (told11 wr).mono ?_
        rintro e w6 ⟨rfl, hc6⟩
        go_wp2_with fail
        refine (len_keys w6 t mt f (hTj.chg hc6 id id)).mono ?_
        rintro e w7 ⟨rfl, rfl⟩
        go_wp2_with fail
        go_ret
        exact ⟨rfl, ((hck5.trans hcj (fun _ _ h => h.elim)).trans hc6 (fun _ _ h => h.elim)).mono (fun i hi h => by omega)⟩
end Go.Proofs.Ytajefffhdeljfaa
