/-
  SealMany: its walk.
-/
import Derived.Test.YtpbjompopgdbjaaSealX
import Derived.Test.YtpbjompopgdbjaaRowI
namespace Go.Proofs.Ytpbjompopgdbjaa
open Go.RowKit Go.Maps

theorem i64_and1 (n : Nat) (hn : n ≤ 100) : bits .and .i64 (n : Int) 1 = ((n % 2 : Nat) : Int) := by
  show IntKind.i64.wrap ((BitVec.ofInt 64 (n : Int) &&& BitVec.ofInt 64 1).toNat : Int) = _
  rw [BitVec.toNat_and, ofInt_64 n (by omega), show (BitVec.ofInt 64 1).toNat = 1 from by decide, Nat.and_one_is_mod, IntKind.wrap_i64]
  omega

namespace Man
def rec (i k : Nat) : Rec := [UInt8.ofNat i, UInt8.ofNat k]
def recs (i : Nat) : Nat → List Rec
  | 0 => []
  | k + 1 => recs i k ++ [rec i k]
theorem recs_len (i : Nat) : ∀ k, (recs i k).length = k
  | 0 => rfl
  | k + 1 => by show (recs i k ++ [rec i k]).length = _; rw [List.length_append, recs_len i k]; rfl
theorem recs_flat (i : Nat) : ∀ k, (flat (recs i k)).length = 8 * k
  | 0 => rfl
  | k + 1 => by
    show (flat (recs i k ++ [rec i k])).length = _
    rw [flat_app, flat_one, List.length_append, recs_flat i k, frm_len]
    show _ + (6 + 2) = _
    omega
theorem recs_get (i : Nat) : ∀ k j, j < k → (recs i k)[j]? = some (rec i j)
  | 0, _, h => absurd h (Nat.not_lt_zero _)
  | k + 1, j, h => by
    show (recs i k ++ [rec i k])[j]? = _
    by_cases hj : j < k
    · rw [List.getElem?_append_left (by rw [recs_len]; exact hj), recs_get i k j hj]
    · have : j = k := by omega
      subst this
      rw [List.getElem?_append_right (by rw [recs_len]; exact Nat.le_refl _), recs_len, Nat.sub_self]
      rfl
end Man

/-- A byte of a row. -/
theorem RowB.get {w : World} {ao : Option Addr} {off cap rb : Nat} {bs : List UInt8} (h : RowB w ao off cap rb bs) (hl : 1 ≤ bs.length) : ao = some ⟨rb, off, none⟩ ∧ ∀ j b, bs[j]? = some b → w.cell? ⟨rb, off + j, none⟩ = some (.int .u8 b.toNat) := by
  have hle := h.came.le
  refine ⟨h.came.addr (by omega), fun j b hj => h.came.olds j _ ?_⟩
  unfold bcells
  rw [List.getElem?_map, hj]
  rfl
theorem rows_one (w : World) (b : Rec) (C : Array Value) (hC : C = (bcells b).toArray) (hb : b.length ≤ 1000) : RowsB ((w.alloc (.cells C 5)).alloc (.cells #[.slice (some ⟨w.heap.size, 0, none⟩) b.length b.length] 31)) (some ⟨w.heap.size + 1, 0, none⟩) [b] := by
  intro i x hi
  match i, hi with
  | 0, hi =>
    cases hi
    have hB := Blk.new (w.alloc (.cells C 5)) 31 #[.slice (some ⟨w.heap.size, 0, none⟩) b.length b.length]
    rw [size_al] at hB
    exact ⟨by unfold maxLen; omega, ⟨w.heap.size + 1, 0, none⟩, some ⟨w.heap.size, 0, none⟩, _, rfl, hB.lt, hB.cell 0, (rowB_const w b (by omega) C (0, 0) hC).byt.chg ((Chg.refl (fun _ => False) _).alloc _) (fun _ _ => id)⟩
  | i + 1, hi => simp at hi

set_option maxRecDepth 100000 in
set_option maxHeartbeats 4000000 in
theorem sman_walk (w : World) (a0 : Option Addr) (c0 : Nat) (l0 : List Int) (h0 : IntsIn w a0 l0) :
    Calls Try.prog 6 #[.slice a0 l0.length c0] w fun e w' => e = .returned (.bool true) ∧ Chg (fun _ => False) w w' := by
  go_enter Try.func6, Try.ntmps6
  go_wp2_with fail
  refine (s_new w 1000000 (by omega)).mono ?_
  rintro e w0 ⟨d, rfl, hD0, hc0⟩
  have hc0 : Chg (fun i => ¬ i < w.heap.size) w w0 := hc0.mono (fun _ _ h => h.elim)
  go_wp2_with fail
  refine (s_open hD0).mono ?_
  rintro e w1 ⟨j, g0, ad1, cp1, ad2, cp2, _, hj, rfl, B, hB, hBg, _, _, hS, hc1⟩
  have hc1 := hc0.trans hc1 (fun i hi hs h => hs h)
  have hj0 : j = 0 := Nat.le_zero.1 hj
  subst hj0
  have hS : SealW (fun i => i < w.heap.size ∨ B i) w1 g0 d 1000000 0 [] [] 0 := hS
  rw [show (([] : List Rec).take 0).length = 0 from rfl, show ([] : List Rec).length = 0 from rfl]
  go_wp2_with fail
  go_loopw [5, 9, 10] (fun v5 v9 v10 wr => ∃ (i n g : Nat) (P : Nat → Prop) (st recs : List Rec) (sy : Nat), v10 = .int .i64 i ∧ i ≤ 10 ∧ v9 = .int .i64 n ∧ v5 = .pointer (some ⟨g, 0, none⟩) ∧ recs.length = n ∧ n ≤ 5 ∧ (flat recs).length ≤ 40 ∧ (flat st).length ≤ 40 ∧ (∀ i, i < w.heap.size → P i) ∧ ¬ g < w.heap.size ∧ SealW P wr g d 1000000 i st recs sy ∧ Chg (fun i => ¬ i < w.heap.size) w wr) (fun _ _ v10 _ => 100 - (RowKit.intOf v10).toNat)
  case atStart => exact ⟨0, 0, g0, _, [], [], 0, rfl, by omega, rfl, rfl, rfl, by omega, by decide, by decide, fun i hi => .inl hi, (hB g0 hBg).1, hS, hc1⟩
  case round =>
    clear hS hc1 hB hBg hc0 hD0
    obtain ⟨i, n, g, P, st, recs, sy, rfl, hi, rfl, rfl, hrn, hn5, hrf, hsf, hP, hgw, hS, hcr⟩ := hrel
    have fin : ∀ wq, Chg (fun i => ¬ i < w.heap.size) w wq → Chg (fun _ => False) w wq := fun wq hc => hc.mono (fun i hi h => h hi)
    by_cases hgo : i < l0.length ∧ i < 10
    · obtain ⟨h1, h2⟩ := hgo
      obtain ⟨x, hx⟩ : ∃ x, l0[i]? = some x := ⟨_, List.getElem?_eq_getElem h1⟩
      obtain ⟨a, rfl, _, k0⟩ := (h0.chg hcr (fun i hi h => h hi)).at_ i x hx
      obtain ⟨n1, hn1⟩ : ∃ n1 : Nat, wrap64 ((IntKind.u64.wrap x).tmod 6) = n1 := ⟨(wrap64 ((IntKind.u64.wrap x).tmod 6)).toNat, by have := modK x 6 (by omega); omega⟩
      have hn16 : n1 < 6 := by have := modK x 6 (by omega); omega
      have hbc : (#[.int .u8 (i : Int)] : Array Value) = (bcells [UInt8.ofNat i]).toArray := by simp [bcells, Nat.mod_eq_of_lt (show i < 256 by omega)]
      have hRows := rows_one wr [UInt8.ofNat i] #[.int .u8 i] hbc (by show 1 ≤ 1000; omega)
      have hcA : Chg (fun _ => False) wr ((wr.alloc (.cells #[.int .u8 i] 5)).alloc (.cells #[.slice (some ⟨wr.heap.size, 0, none⟩) 1 1] 31)) := ((Chg.refl _ wr).alloc _).alloc _
      have hSA := hS.keep hcA
      have hcrA := hcr.trans hcA (fun _ _ h => h.elim)
      clear hx hS hbc
      go_wp2_with fail
      refine (s_save hSA hRows _ (by simp) (fun b hb => by simp at hb; subst hb; exact ⟨by simp, by simp⟩) (by omega) ?_).mono ?_
      · have : (flat [[UInt8.ofNat i]]).length = 7 := by rw [flat_one, frm_len]; rfl
        omega
      rintro e w2 ⟨rfl, hS2, hc2⟩
      have hc2 := hcrA.trans hc2 (fun k hk hs h => by
        rcases hs with hs | rfl
        · exact hs (hP k h)
        · exact hgw h)
      clear hSA hRows hcA hcrA hcr k0
      go_wp2_with fail
      go_loopw [11] (fun v11 wr => ∃ k : Nat, v11 = .int .i64 k ∧ k ≤ n1 ∧ SealW P wr g d 1000000 (i + 1) [[UInt8.ofNat i]] (Man.recs i k) 0 ∧ Chg (fun i => ¬ i < w.heap.size) w wr) (fun v11 _ => 100 - (RowKit.intOf v11).toNat)
      case atStart => exact ⟨0, rfl, Nat.zero_le _, hS2, hc2⟩
      case round =>
        clear hS2 hc2
        obtain ⟨k, rfl, hk, hS, hcr⟩ := hrel
        have hsf1 : (flat [[UInt8.ofNat i]]).length = 7 := by rw [flat_one, frm_len]; rfl
        have hrl := Man.recs_len i k
        have hrf2 := Man.recs_flat i k
        by_cases hkn : k < n1
        · have hbc : (#[.int .u8 (i : Int), .int .u8 (k : Int)] : Array Value) = (bcells (Man.rec i k)).toArray := by simp [Man.rec, bcells, Nat.mod_eq_of_lt (show i < 256 by omega), Nat.mod_eq_of_lt (show k < 256 by omega)]
          have hBy := (rowB_const wr (Man.rec i k) (by show 2 ≤ _; omega) #[.int .u8 i, .int .u8 k] (0, 0) hbc).byt
          have hcA : Chg (fun _ => False) wr (wr.alloc (.cells #[.int .u8 i, .int .u8 k] 5)) := (Chg.refl _ wr).alloc _
          have hSA := hS.keep hcA
          have hcrA := hcr.trans hcA (fun _ _ h => h.elim)
          have Hl := Lib.hid (And.intro hrl hrf2)
          clear hrl hrf2 hS hbc
          go_wp2_with fail
          refine (s_put hSA hBy _ ⟨by show 1 ≤ 2; omega, by show 2 ≤ 1000; omega⟩ (by rw [Hl.out.1]; omega) ?_).mono ?_
          · rw [Hl.out.2, show (Man.rec i k).length = 2 from rfl]
            omega
          rintro e w3 ⟨rfl, hS3, hc3⟩
          have hc3 := hcrA.trans hc3 (fun k hk hs h => by
            rcases hs with hs | rfl
            · exact hs (hP k h)
            · exact hgw h)
          go_wp2_with fail
          go_roundw
          case rel => exact ⟨k + 1, by go_num, by omega, hS3, hc3⟩
          case measure => simp [RowKit.intOf]; omega
        · have hke : k = n1 := by omega
          subst hke
          go_wp2_with fail
          refine (s_len hS).mono ?_
          rw [hrl]
          rintro e w3 ⟨rfl, rfl⟩
          go_wp2_with fail
          refine (s_sync hS).mono ?_
          rw [hrl]
          rintro e w4 ⟨rfl, hS4, hc4⟩
          have hc4 := hcr.trans hc4 (fun k hk hs h => hs (hP k h))
          have hand := i64_and1 i (by omega)
          have Hl := Lib.hid (And.intro hrl hrf2)
          clear hrl hrf2 hS hcr
          by_cases hodd : i % 2 = 1
          · have hb : (bits .and .i64 (i : Int) 1 == 1) = true := by rw [hand, hodd]; rfl
            clear hand
            go_wp2_with fail
            refine (s_crash hS4 0 (by omega)).mono ?_
            rintro e w5 ⟨rfl, hD5, hc5⟩
            have hc5 := hc4.trans hc5 (fun k hk hs h => hs (hP k h))
            go_wp2_with fail
            refine (s_open hD5).mono ?_
            rintro e w6 ⟨j, g2, ad3, cp3, ad4, cp4, hj1, hj2, rfl, B, hB, hBg, hr1, hr2, hS6, hc6⟩
            have hc6 := hc5.trans hc6 (fun k hk hs h => hs (hP k h))
            have htk : (Man.recs i k).take j = Man.recs i k := List.take_of_length_le (by rw [Hl.out.1]; omega)
            rw [htk] at hr2 hS6 ⊢
            rw [Hl.out.1, show ([[UInt8.ofNat i]] : List Rec).length = 1 from rfl]
            obtain ⟨aa, ao, oa, ca, ra, rfl, _, _, m0, hRa, _, _⟩ := hr1 0 [UInt8.ofNat i] rfl
            obtain ⟨rfl, hga⟩ := hRa.get (by show 1 ≤ 1; omega)
            have n0 := hga 0 (UInt8.ofNat i) rfl
            rw [u8n, Nat.mod_eq_of_lt (show i < 256 by omega)] at n0
            have n0 : w6.cell? ⟨ra, oa, none⟩ = some (.int .u8 i) := n0
            have m0 : w6.cell? aa = some (.slice (some ⟨ra, oa, none⟩) 1 ca) := m0
            have HS6 := Lib.hid hS6
            have Hr2 := Lib.hid hr2
            have hg2w : ¬ g2 < w.heap.size := fun h => (hB g2 hBg).1 (hP g2 h)
            have HB := Lib.hid (And.intro hc6 hg2w)
            clear htk hr1 hr2 hS6 hRa hga hD5 hc5 hS4 hc4 hc6 hg2w hB
            go_wp2_with fail
            refine (s_len HS6.out).mono ?_
            rw [Hl.out.1]
            rintro e w7 ⟨rfl, rfl⟩
            clear m0 n0
            go_wp2_with fail
            go_loopw [16] (fun v16 wr => ∃ m : Nat, v16 = .int .i64 m ∧ m ≤ k ∧ wr = w7) (fun v16 _ => 100 - (RowKit.intOf v16).toNat)
            case atStart => exact ⟨0, rfl, Nat.zero_le _, rfl⟩
            case round =>
              obtain ⟨m, rfl, hm, rfl⟩ := hrel
              by_cases hmk : m < k
              · obtain ⟨bb, bo, ob, cb, rb, rfl, _, _, p0, hRb, _, _⟩ := Hr2.out m _ (Man.recs_get i k m hmk)
                obtain ⟨rfl, hgb⟩ := hRb.get (by show 1 ≤ 2; omega)
                have q0 := hgb 0 (UInt8.ofNat i) rfl
                have q1 := hgb 1 (UInt8.ofNat m) rfl
                rw [u8n, Nat.mod_eq_of_lt (show i < 256 by omega)] at q0
                rw [u8n, Nat.mod_eq_of_lt (show m < 256 by omega)] at q1
                have q0 : wr.cell? ⟨rb, ob, none⟩ = some (.int .u8 i) := q0
                have p0 : wr.cell? (bb.add m) = some (.slice (some ⟨rb, ob, none⟩) 2 cb) := p0
                clear hRb hgb
                go_wp2_with fail
                go_roundw
                case rel => exact ⟨m + 1, by go_num, by omega, trivial⟩
                case measure => simp [RowKit.intOf]; omega
              · have hmk2 : m = k := by omega
                subst hmk2
                go_wp2_with fail
                go_roundw
                case rel => exact ⟨i + 1, m, g2, fun x => P x ∨ B x, [[UInt8.ofNat i]], Man.recs i m, (Man.recs i m).length, by go_num, by omega, rfl, rfl, Hl.out.1, by omega, by rw [Hl.out.2]; omega, by omega, fun x hx => .inl (hP x hx), HB.out.2, by push_cast; exact HS6.out, HB.out.1⟩
                case measure => simp [RowKit.intOf]; omega
          · have hb : (bits .and .i64 (i : Int) 1 == 1) = false := by rw [hand, show i % 2 = 0 by omega]; rfl
            clear hand
            go_wp2_with fail
            go_roundw
            case rel => exact ⟨i + 1, k, g, P, [[UInt8.ofNat i]], Man.recs i k, k, by go_num, by omega, rfl, rfl, Hl.out.1, by omega, by rw [Hl.out.2]; omega, by omega, hP, hgw, by push_cast; exact hS4, hc4⟩
            case measure => simp [RowKit.intOf]; omega
    · have e1 : ¬ (i < l0.length ∧ i < 10) := hgo
      have HS := Lib.hid (And.intro hS hcr)
      have Hr := Lib.hid hrn
      go_wp2_with fail
      all_goals
        refine (told6 wr).mono ?_
        rintro e w2 ⟨rfl, hc2⟩
        have hc2' := HS.out.2.trans hc2 (fun _ _ h => h.elim)
        have hS2 := HS.out.1.keep hc2
        go_wp2_with fail
        refine (s_len hS2).mono ?_
        rw [Hr.out]
        rintro e w3 ⟨rfl, rfl⟩
        go_wp2_with fail
        go_ret
        exact ⟨rfl, fin _ hc2'⟩
end Go.Proofs.Ytpbjompopgdbjaa
