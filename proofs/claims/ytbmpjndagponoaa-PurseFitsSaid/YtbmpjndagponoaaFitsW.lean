/-
  layer 10: PurseFits, its walk.
-/
import Derived.Test.YtbmpjndagponoaaPurseL
import Derived.Test.YtbmpjndagponoaaFitsP
import Derived.Test.YtbmpjndagponoaaInts
namespace Go.Proofs.Ytbmpjndagponoaa
open Go.RowKit Go.Maps

theorem fitF_ok (F : Int) (hF : 0 ≤ F ∧ F ≤ 500) : ∀ i, 0 ≤ i → i ≤ 3 → 0 ≤ (fun i : Int => if i = 1 then F else 0) i ∧ (fun i : Int => if i = 1 then F else 0) i ≤ 1099511627776 := by
  intro i _ _
  show 0 ≤ (if i = 1 then F else 0) ∧ (if i = 1 then F else 0) ≤ 1099511627776
  split <;> omega

set_option maxRecDepth 100000 in
set_option maxHeartbeats 4000000 in
theorem fits_walk (w : World) (n : Int) (ad : Option Addr) (cap : Nat) (l : List Int) (hl : IntsIn w ad l) :
    Calls Try.prog 6 #[.int .i64 n, .slice ad l.length cap] w fun e w' => e = .returned (.bool true) ∧ Chg (fun _ => False) w w' := by
  have hmx := hl.len
  unfold maxLen at hmx
  obtain ⟨F, hFe⟩ : ∃ F, F = wrap64 ((IntKind.u64.wrap n).tmod 501) := ⟨_, rfl⟩
  have hF := modK n 501 (by omega)
  rw [← hFe] at hF
  obtain ⟨hF1, hF2⟩ := hF
  have hFh := Lib.hid hFe
  clear hFe
  go_enter Try.func6, Try.ntmps6
  go_wp2_with fail
  rw [← hFh.out]
  refine (new_w w (fun i => if i = 1 then F else 0) (fitF_ok F (by omega))).mono ?_
  rintro e w2 ⟨q, rfl, hPB, hcB⟩
  go_wp2_with fail
  go_loopw [8, 9, 10, 11] (fun v8 v9 v10 v wr => ∃ (k : Nat) (h a t : Int) (e : Ent) (p : Pur), v8 = .int .i64 h ∧ v9 = .int .i64 a ∧ v10 = .int .i64 t ∧ v = .int .i64 k ∧ k ≤ l.length ∧ k ≤ 30 ∧ PurW w.heap.size wr q p ∧ Lay F k e h a t (3 * k) p ∧ Chg (fun i => w.heap.size ≤ i) w wr) (fun _ _ _ v _ => 30 - (intOf v).toNat)
  case atStart => exact ⟨0, _, _, _, _, _, rfl, rfl, rfl, rfl, Nat.zero_le _, Nat.zero_le _, hPB, Lay.new hF1, hcB.mono (fun _ _ h => h.elim)⟩
  case round =>
    clear hPB hcB
    obtain ⟨k, h, a, t, e, p, rfl, rfl, rfl, rfl, hk1, hk2, hPk, L, hck⟩ := hrel
    have hcF : Chg (fun _ => False) w wr := hck.mono (fun i hi h => by omega)
    obtain ⟨hs1, hs2, hs3, hs4⟩ := L.sum
    have hsh := Lib.hid hs1
    have hb1 : h ≤ 500 := by omega
    have hb2 : a ≤ 500 := by omega
    have hb3 : t ≤ 500 := by omega
    clear hs1
    by_cases hlt : k < l.length ∧ k < 30
    · obtain ⟨hlt1, hlt2⟩ := hlt
      obtain ⟨x, hx⟩ : ∃ x, l[k]? = some x := ⟨_, List.getElem?_eq_getElem hlt1⟩
      obtain ⟨b, rfl, hbb, hat⟩ := hl.at_ k x hx
      have hblk : (b.add k).block = b.block := by unfold Addr.add; split <;> rfl
      have hcell : ∀ w', Chg (fun _ => False) w w' → w'.cell? (b.add k) = some (.int .i64 x) := fun w' hc => by rw [hc.cell (by rw [hblk]; exact hbb) (fun h => h)]; exact hat
      have hcellh := Lib.hid hcell
      have g0 := hcell wr hcF
      clear hcell hat hbb hblk
      obtain ⟨m, hm⟩ : ∃ m, wrap64 ((IntKind.u64.wrap x).tmod 90) = m := ⟨_, rfl⟩
      have hmb := modK x 90 (by omega)
      rw [hm] at hmb
      obtain ⟨hm1, hm2⟩ := hmb
      obtain ⟨c, hc⟩ : ∃ c, wrap64 ((IntKind.u64.wrap x).tmod 4) = c := ⟨_, rfl⟩
      have hcb := modK x 4 (by omega)
      rw [hc] at hcb
      obtain ⟨hc1, hc2⟩ := hcb
      have hch := Lib.hid hc
      clear hc
      go_wp2_with fail
      rw [hm]
      have hmh := Lib.hid hm
      clear hm g0
      by_cases hle : m ≤ h
      · have hleb : decide (m ≤ h) = true := by simp [hle]
        obtain ⟨hr, L1⟩ := L.auth (by omega) (by omega) hle
        have hlen := L.len
        refine (do_w w.heap.size wr q _ ⟨4, (k : Int) + 1, 0, 1, m⟩ _ hPk L.good (by omega) (by omega) _ _ hr rfl).mono ?_
        rintro e w3 ⟨rfl, hP1, hc3⟩
        have hck1 := hck.trans hc3 (fun _ _ h => h)
        have hcF1 : Chg (fun _ => False) w w3 := hck1.mono (fun i hi h => by omega)
        have g0 := hcellh.out w3 hcF1
        generalize (p.act ⟨4, (k : Int) + 1, 0, 1, m⟩).2 = p1 at *
        clear hPk L hck hcF hc3 hr
        have : c = 0 ∨ c = 1 ∨ c = 2 ∨ c = 3 := by omega
        rcases this with hc | hc | hc | hc
        · have hce := hch.out
          rw [hc] at hce
          obtain ⟨hs5, hs6, hs7, hs8⟩ := L1.sum
          have hs9 := Lib.hid hs5
          clear hs5
          go_wp2_with fail
          refine (balance_i hP1 1 (by omega)).mono ?_
          rintro e w' ⟨rfl, rfl⟩
          rw [L1.a1]
          go_wp2_with fail
          refine (reserved_w hP1).mono ?_
          rintro e w' ⟨rfl, rfl⟩
          rw [L1.a4]
          go_wp2_with fail
          refine (takings_w hP1).mono ?_
          rintro e w' ⟨rfl, rfl⟩
          rw [L1.a5]
          go_wp2_with fail
          refine (balance_i hP1 0 (by omega)).mono ?_
          rintro e w' ⟨rfl, rfl⟩
          rw [L1.a0]
          go_wp2_with fail
          go_roundw
          case rel => exact ⟨k + 1, _, _, _, _, _, rfl, rfl, rfl, by go_num, by omega, by omega, hP1, L1.up (by omega) (by omega) (by omega) (by omega) (by omega), hck1⟩
          case measure => simp [intOf]; omega
        · have hce := hch.out
          rw [hc] at hce
          obtain ⟨hs5, hs6, hs7, hs8⟩ := L1.sum
          clear hs5
          go_wp2_with fail
          obtain ⟨hr, L2⟩ := L1.capt (by omega)
          have hlen := L1.len
          refine (do_w w.heap.size _ q _ ⟨5, (k : Int) + 1, 0, 0, 0⟩ _ hP1 L1.good (by omega) (by omega) _ _ hr rfl).mono ?_
          rintro e w4 ⟨rfl, hP2, hc9⟩
          have hck2 := hck1.trans hc9 (fun _ _ h => h)
          obtain ⟨hs10, hs11, hs12, hs13⟩ := L2.sum
          clear hc9 hr hlen hs10
          go_wp2_with fail
          refine (balance_i hP2 1 (by omega)).mono ?_
          rintro e w' ⟨rfl, rfl⟩
          rw [L2.a1]
          go_wp2_with fail
          refine (reserved_w hP2).mono ?_
          rintro e w' ⟨rfl, rfl⟩
          rw [L2.a4]
          go_wp2_with fail
          refine (takings_w hP2).mono ?_
          rintro e w' ⟨rfl, rfl⟩
          rw [L2.a5]
          go_wp2_with fail
          refine (balance_i hP2 0 (by omega)).mono ?_
          rintro e w' ⟨rfl, rfl⟩
          rw [L2.a0]
          go_wp2_with fail
          go_roundw
          case rel => exact ⟨k + 1, _, _, _, _, _, rfl, rfl, rfl, by go_num, by omega, by omega, hP2, L2.up (by omega) (by omega) (by omega) (by omega) (by omega), hck2⟩
          case measure => simp [intOf]; omega
        · have hce := hch.out
          rw [hc] at hce
          obtain ⟨hs5, hs6, hs7, hs8⟩ := L1.sum
          clear hs5
          go_wp2_with fail
          obtain ⟨hr, L2⟩ := L1.void4 (by omega)
          have hlen := L1.len
          refine (do_w w.heap.size _ q _ ⟨6, (k : Int) + 1, 0, 0, 0⟩ _ hP1 L1.good (by omega) (by omega) _ _ hr rfl).mono ?_
          rintro e w4 ⟨rfl, hP2, hc9⟩
          have hck2 := hck1.trans hc9 (fun _ _ h => h)
          obtain ⟨hs10, hs11, hs12, hs13⟩ := L2.sum
          clear hc9 hr hlen hs10
          go_wp2_with fail
          refine (balance_i hP2 1 (by omega)).mono ?_
          rintro e w' ⟨rfl, rfl⟩
          rw [L2.a1]
          go_wp2_with fail
          refine (reserved_w hP2).mono ?_
          rintro e w' ⟨rfl, rfl⟩
          rw [L2.a4]
          go_wp2_with fail
          refine (takings_w hP2).mono ?_
          rintro e w' ⟨rfl, rfl⟩
          rw [L2.a5]
          go_wp2_with fail
          refine (balance_i hP2 0 (by omega)).mono ?_
          rintro e w' ⟨rfl, rfl⟩
          rw [L2.a0]
          go_wp2_with fail
          go_roundw
          case rel => exact ⟨k + 1, _, _, _, _, _, rfl, rfl, rfl, by go_num, by omega, by omega, hP2, L2.up (by omega) (by omega) (by omega) (by omega) (by omega), hck2⟩
          case measure => simp [intOf]; omega
        · have hce := hch.out
          rw [hc] at hce
          obtain ⟨hs5, hs6, hs7, hs8⟩ := L1.sum
          clear hs5
          go_wp2_with fail
          obtain ⟨hr, L2⟩ := L1.capt (by omega)
          have hlen := L1.len
          refine (do_w w.heap.size _ q _ ⟨5, (k : Int) + 1, 0, 0, 0⟩ _ hP1 L1.good (by omega) (by omega) _ _ hr rfl).mono ?_
          rintro e w4 ⟨rfl, hP2, hc9⟩
          have hck2 := hck1.trans hc9 (fun _ _ h => h)
          obtain ⟨hs10, hs11, hs12, hs13⟩ := L2.sum
          clear hc9 hr hlen hs10
          go_wp2_with fail
          obtain ⟨hr, L3⟩ := L2.void5 (by omega)
          have hlen := L2.len
          refine (do_w w.heap.size _ q _ ⟨6, (k : Int) + 1, 0, 0, 0⟩ _ hP2 L2.good (by omega) (by omega) _ _ hr rfl).mono ?_
          rintro e w5 ⟨rfl, hP3, hc9⟩
          have hck3 := hck2.trans hc9 (fun _ _ h => h)
          obtain ⟨hs10, hs11, hs12, hs13⟩ := L3.sum
          clear hc9 hr hlen hs10
          go_wp2_with fail
          refine (balance_i hP3 1 (by omega)).mono ?_
          rintro e w' ⟨rfl, rfl⟩
          rw [L3.a1]
          go_wp2_with fail
          refine (reserved_w hP3).mono ?_
          rintro e w' ⟨rfl, rfl⟩
          rw [L3.a4]
          go_wp2_with fail
          refine (takings_w hP3).mono ?_
          rintro e w' ⟨rfl, rfl⟩
          rw [L3.a5]
          go_wp2_with fail
          refine (balance_i hP3 0 (by omega)).mono ?_
          rintro e w' ⟨rfl, rfl⟩
          rw [L3.a0]
          go_wp2_with fail
          go_roundw
          case rel => exact ⟨k + 1, _, _, _, _, _, rfl, rfl, rfl, by go_num, by omega, by omega, hP3, L3.up (by omega) (by omega) (by omega) (by omega) (by omega), hck3⟩
          case measure => simp [intOf]; omega
      · have hleb : decide (m ≤ h) = false := by simp; omega
        obtain ⟨hr, L1⟩ := L.refuse (m := m) (by omega) (by omega) (by omega)
        have hlen := L.len
        refine (do_w w.heap.size wr q _ ⟨4, (k : Int) + 1, 0, 1, m⟩ _ hPk L.good (by omega) (by omega) _ _ hr rfl).mono ?_
        rintro e w3 ⟨rfl, hP1, hc3⟩
        have hck1 := hck.trans hc3 (fun _ _ h => h)
        generalize (p.act ⟨4, (k : Int) + 1, 0, 1, m⟩).2 = p1 at *
        clear hPk L hck hcF hc3 hr
        go_wp2_with fail
        obtain ⟨hr, L2⟩ := L1.late (by omega)
        have hlen := L1.len
        refine (do_w w.heap.size _ q _ ⟨5, (k : Int) + 1, 0, 0, 0⟩ _ hP1 L1.good (by omega) (by omega) _ _ hr rfl).mono ?_
        rintro e w4 ⟨rfl, hP2, hc9⟩
        have hck2 := hck1.trans hc9 (fun _ _ h => h)
        obtain ⟨hs10, hs11, hs12, hs13⟩ := L2.sum
        clear hc9 hr hlen hs10
        go_wp2_with fail
        refine (balance_i hP2 1 (by omega)).mono ?_
        rintro e w' ⟨rfl, rfl⟩
        rw [L2.a1]
        go_wp2_with fail
        refine (reserved_w hP2).mono ?_
        rintro e w' ⟨rfl, rfl⟩
        rw [L2.a4]
        go_wp2_with fail
        refine (takings_w hP2).mono ?_
        rintro e w' ⟨rfl, rfl⟩
        rw [L2.a5]
        go_wp2_with fail
        refine (balance_i hP2 0 (by omega)).mono ?_
        rintro e w' ⟨rfl, rfl⟩
        rw [L2.a0]
        go_wp2_with fail
        go_roundw
        case rel => exact ⟨k + 1, _, _, _, _, _, rfl, rfl, rfl, by go_num, by omega, by omega, hP2, L2.up (by omega) (by omega) (by omega) (by omega) (by omega), hck2⟩
        case measure => simp [intOf]; omega
    · have hfb : (h + a + t == F) = true := by simp [hsh.out]
      go_wp2_with fail
      all_goals
        refine (told10 _).mono ?_
        rintro e wt ⟨rfl, hct⟩
        go_wp2
        go_ret
        exact ⟨rfl, hcF.trans hct (fun _ _ h => h)⟩
end Go.Proofs.Ytbmpjndagponoaa
