/-
  frame: Put, One by their contracts.
-/
import Derived.Test.YtpbjompopgdbjaaSumA
import Derived.Test.YtpbjompopgdbjaaByt
import Derived.Test.YtpbjompopgdbjaaRegionC
namespace Go.Proofs.Ytpbjompopgdbjaa
open Go.RowKit Go.Maps

theorem hdr_cells (C n : Nat) (hC : C < 4294967296) (hn : n ≤ 1000) : bcells [UInt8.ofNat C, UInt8.ofNat (C / 256), UInt8.ofNat (C / 65536), UInt8.ofNat (C / 16777216), UInt8.ofNat n, UInt8.ofNat (n / 256)] =
    [.int .u8 ((C : Int) % 256), .int .u8 ((C : Int) / 256 % 256), .int .u8 ((C : Int) / 65536 % 256), .int .u8 ((C : Int) / 16777216), .int .u8 ((n : Int) % 256), .int .u8 ((n : Int) / 256)] := by
  unfold bcells
  simp only [List.map_cons, List.map_nil, u8n, Nat.mod_eq_of_lt (show C / 16777216 < 256 by omega), Nat.mod_eq_of_lt (show n / 256 < 256 by omega)]
  rfl

set_option maxRecDepth 100000 in
set_option maxHeartbeats 1000000 in
theorem put_any {w : World} {ad : Option Addr} {b : List UInt8} (h : BytIn w ad b) (c : Nat) (hb : okR b) :
    Calls Try.prog 34 #[.slice ad b.length c] w fun e w' => ∃ ao off cap rb, e = .returned (.tuple #[.slice ao (frm b).length cap, .int .i64 0]) ∧ RowB w' ao off cap rb (frm b) ∧
      Chg (fun _ => False) w w' ∧ w.heap.size ≤ rb ∧ rb < w'.heap.size := by
  have hb1 := hb.1
  have hb2 := hb.2
  go_enter Try.func34, Try.ntmps34
  go_wp2_with fail
  refine (sum_any h c (by omega)).mono ?_
  rintro e w1 ⟨rfl, rfl⟩
  have hcl := crc_lt b
  have hR := rowB_const w1 (hdr b) (by rw [hdr_len]; omega) _ (0, 0) rfl
  unfold hdr at hR
  rw [hdr_cells _ _ hcl hb2] at hR
  have HC := Lib.hid (show frm b = [UInt8.ofNat (crc b), UInt8.ofNat (crc b / 256), UInt8.ofNat (crc b / 65536), UInt8.ofNat (crc b / 16777216), UInt8.ofNat b.length, UInt8.ofNat (b.length / 256)] ++ b from rfl)
  generalize crc b = C at *
  have hc0 := (Chg.refl (fun _ => False) w1).alloc (.cells #[.int .u8 ((C : Int) % 256), .int .u8 ((C : Int) / 256 % 256), .int .u8 ((C : Int) / 65536 % 256), .int .u8 ((C : Int) / 16777216), .int .u8 ((b.length : Int) % 256), .int .u8 ((b.length : Int) / 256)] 5)
  have hS := h.src c (w' := w1.alloc (.cells #[.int .u8 ((C : Int) % 256), .int .u8 ((C : Int) / 256 % 256), .int .u8 ((C : Int) / 65536 % 256), .int .u8 ((C : Int) / 16777216), .int .u8 ((b.length : Int) % 256), .int .u8 ((b.length : Int) / 256)] 5)) (fun i hi => hc0.block i hi id)
  go_wp2_with (at_builtin; go_loud (refine wpList_append_row rfl _ _ rfl (by exact hR) rfl _ b rfl (by exact hS) (by simp; omega) ?_))
  intro ao off cap rb w2 hR2 hc2 hrb
  have hcl2 : Chg (fun _ => False) w1 w2 := hc0.trans hc2 (fun i hi h => by omega)
  have hz := hc2.size
  simp at hz
  go_wp2_with fail
  go_ret2
  refine ⟨ao, off, cap, rb, ?_, by rw [HC.out]; exact hR2, hcl2, by omega, by omega⟩
  rw [HC.out]
  rfl

set_option maxRecDepth 100000 in
theorem put_bad {w : World} (ad : Option Addr) (n c : Nat) (hb : n < 1 ∨ 1000 < n) (hn : n ≤ maxLen) :
    Calls Try.prog 34 #[.slice ad n c] w fun e w' => e = .returned (.tuple #[.slice none 0 0, .int .i64 1]) ∧ w' = w := by
  unfold maxLen at hn
  by_cases h1 : n < 1
  · go_enter Try.func34, Try.ntmps34
    go_wp2
    go_ret2
    exact ⟨rfl, rfl⟩
  · have h2 : 1000 < n := by omega
    go_enter Try.func34, Try.ntmps34
    go_wp2
    go_ret2
    exact ⟨rfl, rfl⟩

theorem sum_or {C : Nat} (h : C < 4294967296) : bits .or .u32 (bits .or .u32 (bits .or .u32 ((C : Int) % 256) ((C : Int) / 256 % 256 * 256)) ((C : Int) / 65536 % 256 * 65536)) ((C : Int) / 16777216 % 256 * 16777216) = (C : Int) := by
  have b1 : C % 256 ||| C / 256 % 256 * 256 < 2 ^ 16 := Nat.or_lt_two_pow (by omega) (by omega)
  have b2 : C % 256 ||| C / 256 % 256 * 256 ||| C / 65536 % 256 * 65536 < 2 ^ 24 := Nat.or_lt_two_pow (by omega) (by omega)
  have h1 := u32_or_nat (C % 256) (C / 256 % 256 * 256) (by omega) (by omega)
  have h2 := u32_or_nat (C % 256 ||| C / 256 % 256 * 256) (C / 65536 % 256 * 65536) (by omega) (by omega)
  have h3 := u32_or_nat (C % 256 ||| C / 256 % 256 * 256 ||| C / 65536 % 256 * 65536) (C / 16777216 % 256 * 16777216) (by omega) (by omega)
  rw [sum32 h, ← h2, ← h1] at h3
  exact h3
theorem byt_at {w : World} {a : Addr} {l pre m post : List UInt8} (h : BytIn w (some a) l) (hl : l = pre ++ (m ++ post)) {j : Nat} {b : UInt8} (hb : m[j]? = some b) : w.cell? (a.add (pre.length + j)) = some (.int .u8 b.toNat) := by
  have hj := (List.getElem?_eq_some_iff.1 hb).1
  obtain ⟨a', e, _, hc⟩ := h (pre.length + j) b (by
    rw [hl, List.getElem?_append_right (by omega), Nat.add_sub_cancel_left, List.getElem?_append_left hj]
    exact hb)
  cases e
  exact hc

set_option maxRecDepth 100000 in
set_option maxHeartbeats 1000000 in
theorem one_yes {w : World} {ad : Option Addr} {l pre x post : List UInt8} (h : BytIn w ad l) (c : Nat) (hc : l.length ≤ c) (hcm : c ≤ maxLen) (hl : l = pre ++ (frm x ++ post)) (hx : okR x) (hlen : l.length ≤ 1000000) :
    Calls Try.prog 65 #[.slice ad l.length c, .int .i64 pre.length] w fun e w' => ∃ ao off cap rb, e = .returned (.tuple #[.slice ao x.length cap, .int .i64 ((pre.length + 6 + x.length : Nat) : Int)]) ∧ RowB w' ao off cap rb x ∧
      Chg (fun _ => False) w w' ∧ w.heap.size ≤ rb ∧ rb < w'.heap.size := by
  have hx1 := hx.1
  have hx2 := hx.2
  have hll : l.length = pre.length + (6 + x.length + post.length) := by rw [hl, List.length_append, List.length_append, frm_len]
  obtain ⟨a, rfl⟩ := h.some (by omega)
  have hl2 : l = pre ++ (hdr x ++ (x ++ post)) := by rw [hl]; unfold frm; rw [List.append_assoc]
  have k0 := byt_at h hl2 (show (hdr x)[0]? = some (UInt8.ofNat (crc x)) from rfl)
  have k1 := byt_at h hl2 (show (hdr x)[1]? = some (UInt8.ofNat (crc x / 256)) from rfl)
  have k2 := byt_at h hl2 (show (hdr x)[2]? = some (UInt8.ofNat (crc x / 65536)) from rfl)
  have k3 := byt_at h hl2 (show (hdr x)[3]? = some (UInt8.ofNat (crc x / 16777216)) from rfl)
  have k4 := byt_at h hl2 (show (hdr x)[4]? = some (UInt8.ofNat x.length) from rfl)
  have k5 := byt_at h hl2 (show (hdr x)[5]? = some (UInt8.ofNat (x.length / 256)) from rfl)
  rw [u8n] at k0 k1 k2 k3 k4 k5
  have hX : BytIn w (some (a.add (pre.length + 6))) x := by
    have := h.sub (pre.length + 6) x.length
    have e : (l.drop (pre.length + 6)).take x.length = x := by
      rw [hl2, ← List.append_assoc, show pre.length + 6 = (pre ++ hdr x).length by rw [List.length_append, hdr_len], List.drop_left, List.take_left]
    rw [e] at this
    exact this
  have hadd := fun k => Go.Deep.add_add a pre.length k
  generalize pre.length = p at *
  clear hl hl2
  unfold maxLen at hcm
  have hcx := crc_lt x
  have K := Lib.hid (And.intro k0 (And.intro k1 (And.intro k2 (And.intro k3 (And.intro k4 k5)))))
  clear k0 k1 k2 k3 k4 k5 hadd
  go_enter Try.func65, Try.ntmps65
  go_wp2_with fail
  have hd : Chg (fun _ => False) w w.drew := (Chg.refl _ w).drew
  have k4 : w.drew.cell? ⟨a.block, a.off + (p + 3 + 1), none⟩ = some (.int .u8 ((x.length : Int) % 256)) := by rw [← add_succ]; exact K.out.2.2.2.2.1
  have k5 : w.drew.cell? ⟨a.block, a.off + (p + 4 + 1), none⟩ = some (.int .u8 ((x.length : Int) / 256 % 256)) := by rw [← add_succ]; exact K.out.2.2.2.2.2
  have hlenx : bits .or .i64 ((x.length : Int) % 256) ((x.length : Int) / 256 % 256 * 256) = (x.length : Int) := by
    have h1 := i64_or_nat (x.length % 256) (x.length / 256 % 256 * 256) (by omega) (by omega)
    rw [len16 hx2] at h1
    exact h1
  refine wp_region_plan (by kernel_rfl) [{ fl := [0, 1, 2, 3, 4, 5, 6, 7, 8, 9, 10, 11, 12, 13], long := [5, 11], ef := 14 }] [] (by kernel_rfl) (fun _ _ => True) ?_
  simp only [wpPlan, longOK, keepOK, opsAt_cons, opsAt_nil, consO_some, List.getElem?_toArray, List.getElem?_cons_succ, List.getElem?_cons_zero, and_true, true_and]
  obtain ⟨w1, hw1⟩ : ∃ w1, w.drew = w1 := ⟨_, rfl⟩
  have Hw1 := Lib.hid hw1
  rw [hw1] at k4 k5 hd ⊢
  clear hw1
  go_wp2_with fail
  refine ⟨by kernel_rfl, ⟨?_, ?_⟩, ?_⟩
  · intro _ w9 _
    clear k4 k5 hlenx
    go_simp
    exact IntWalk.i64_in _ (by omega)
  · intro _ w9 _
    clear k4 k5 hlenx
    go_simp
    exact IntWalk.i64_in _ (by omega)
  clear k4 k5 hlenx
  go_wp2_with fail
  refine ⟨by kernel_rfl, ?_⟩
  have hd2 : Chg (fun _ => False) w w1.drew := hd.drew
  have k0 : w1.drew.cell? (a.add p) = some (.int .u8 ((crc x : Int) % 256)) := by rw [← Hw1.out]; exact K.out.1
  have k1 : w1.drew.cell? ⟨a.block, a.off + (p + 1), none⟩ = some (.int .u8 ((crc x : Int) / 256 % 256)) := by rw [← Hw1.out, ← add_succ]; exact K.out.2.1
  have k2 : w1.drew.cell? ⟨a.block, a.off + (p + 1 + 1), none⟩ = some (.int .u8 ((crc x : Int) / 65536 % 256)) := by rw [← Hw1.out, ← add_succ]; exact K.out.2.2.1
  have k3 : w1.drew.cell? ⟨a.block, a.off + (p + 2 + 1), none⟩ = some (.int .u8 ((crc x : Int) / 16777216 % 256)) := by rw [← Hw1.out, ← add_succ]; exact K.out.2.2.2.1
  go_wp2_with fail
  rw [show p + 6 + x.length - (p + 6) = x.length by omega]
  refine wp_region_plan (by kernel_rfl) [{ fl := [0, 1, 2, 3, 4, 5, 6, 7, 8, 9, 10, 11, 12, 13, 14, 15, 16, 17, 18, 19, 20, 21, 22, 23, 24, 25, 26, 27, 28], long := [4, 10, 18, 26], ef := 29 }] [] (by kernel_rfl) (fun _ _ => True) ?_
  simp only [wpPlan, longOK, keepOK, opsAt_cons, opsAt_nil, consO_some, List.getElem?_toArray, List.getElem?_cons_succ, List.getElem?_cons_zero, and_true, true_and]
  generalize w1.drew = w2 at *
  generalize hC : crc x = C at *
  have HC := Lib.hid hC
  clear hC
  have hsum := sum_or hcx
  go_wp2_with fail
  refine ⟨by kernel_rfl, ⟨?_, ?_, ?_, ?_⟩, ?_⟩
  iterate 4
    · intro _ w9 _
      clear k0 k1 k2 k3 hsum
      go_simp
      rw [IntKind.wrap_u32]
      omega
  clear k0 k1 k2 k3
  go_wp2_with fail
  refine ⟨by kernel_rfl, ?_⟩
  clear hsum
  go_wp2_with fail
  have hX2 := hX.chg hd2 (fun _ _ => id)
  refine (sum_any hX2 _ (by omega)).mono ?_
  rw [HC.out]
  rintro e w3 ⟨rfl, rfl⟩
  have hc0 : Chg (fun _ => False) w3 (w3.alloc (.cells #[] 5)) := (Chg.refl _ w3).alloc _
  rw [show p + 6 = p + 5 + 1 from rfl, add_succ] at hX2
  have hS := hX2.src (c - (p + 6)) (w' := w3.alloc (.cells #[] 5)) (fun i hi => hc0.block i hi id)
  go_wp2_with (at_builtin; go_loud (refine wpList_append_row rfl _ _ rfl (rowB_nil _ _ 0 w3.heap.size) rfl _ x rfl hS (by simp; omega) ?_))
  intro ao off cap rb w4 hR4 hc4 hrb
  have hz4 := hc4.size
  simp at hz4
  have hz2 := hd2.size
  have hle := hR4.came.le
  have hcl4 : Chg (fun _ => False) w w4 := (hd2.trans hc0 (fun _ _ h => h)).trans hc4 (fun i hi h => by omega)
  go_wp2_with fail
  go_ret2
  exact ⟨ao, off, cap, rb, by push_cast; rfl, hR4, hcl4, by omega, by omega⟩

set_option maxRecDepth 100000 in
set_option maxHeartbeats 1000000 in
theorem one_no {w : World} {ad : Option Addr} {l pre t : List UInt8} (h : BytIn w ad l) (c : Nat) (hc : l.length ≤ c) (hcm : c ≤ maxLen) (hl : l = pre ++ t) (ht : torn t) (hlen : l.length ≤ 1000000) :
    Calls Try.prog 65 #[.slice ad l.length c, .int .i64 pre.length] w fun e w' => e = .returned (.tuple #[.slice none 0 0, .int .i64 (-1)]) ∧ Chg (fun _ => False) w w' := by
  have hll : l.length = pre.length + t.length := by rw [hl, List.length_append]
  unfold maxLen at hcm
  by_cases h6 : t.length < 6
  · clear hl
    generalize pre.length = p at *
    go_enter Try.func65, Try.ntmps65
    go_wp2_with fail
    go_ret2
    exact ⟨rfl, Chg.refl _ w⟩
  · obtain ⟨x, k, hx, rfl, hk⟩ : ∃ x k, okR x ∧ t = (frm x).take k ∧ k < 6 + x.length := by
      rcases ht with rfl | h
      · exact absurd (by decide) h6
      · exact h
    have hx1 := hx.1
    have hx2 := hx.2
    have hkl : ((frm x).take k).length = k := by rw [List.length_take, frm_len]; omega
    rw [hkl] at hll h6
    obtain ⟨a, rfl⟩ := h.some (by omega)
    have hl2 : l = pre ++ (hdr x ++ x.take (k - 6)) := by
      rw [hl]
      unfold frm
      rw [List.take_append, List.take_of_length_le (by rw [hdr_len]; omega), hdr_len]
    have k4 := byt_at h hl2 (show (hdr x)[4]? = some (UInt8.ofNat x.length) from rfl)
    have k5 := byt_at h hl2 (show (hdr x)[5]? = some (UInt8.ofNat (x.length / 256)) from rfl)
    rw [u8n] at k4 k5
    generalize pre.length = p at *
    clear hl hl2 hkl
    have K := Lib.hid (And.intro k4 k5)
    clear k4 k5
    have hd : Chg (fun _ => False) w w.drew := (Chg.refl _ w).drew
    have k4 : w.drew.cell? ⟨a.block, a.off + (p + 3 + 1), none⟩ = some (.int .u8 ((x.length : Int) % 256)) := by rw [← add_succ]; exact K.out.1
    have k5 : w.drew.cell? ⟨a.block, a.off + (p + 4 + 1), none⟩ = some (.int .u8 ((x.length : Int) / 256 % 256)) := by rw [← add_succ]; exact K.out.2
    have hlenx : bits .or .i64 ((x.length : Int) % 256) ((x.length : Int) / 256 % 256 * 256) = (x.length : Int) := by
      have h1 := i64_or_nat (x.length % 256) (x.length / 256 % 256 * 256) (by omega) (by omega)
      rw [len16 hx2] at h1
      exact h1
    go_enter Try.func65, Try.ntmps65
    go_wp2_with fail
    refine wp_region_plan (by kernel_rfl) [{ fl := [0, 1, 2, 3, 4, 5, 6, 7, 8, 9, 10, 11, 12, 13], long := [5, 11], ef := 14 }] [] (by kernel_rfl) (fun _ _ => True) ?_
    simp only [wpPlan, longOK, keepOK, opsAt_cons, opsAt_nil, consO_some, List.getElem?_toArray, List.getElem?_cons_succ, List.getElem?_cons_zero, and_true, true_and]
    generalize w.drew = w1 at *
    go_wp2_with fail
    refine ⟨by kernel_rfl, ⟨?_, ?_⟩, ?_⟩
    · intro _ w9 _
      clear k4 k5 hlenx
      go_simp
      exact IntWalk.i64_in _ (by omega)
    · intro _ w9 _
      clear k4 k5 hlenx
      go_simp
      exact IntWalk.i64_in _ (by omega)
    clear k4 k5 hlenx
    go_wp2_with fail
    refine ⟨by kernel_rfl, ?_⟩
    go_wp2_with fail
    go_ret2
    exact ⟨rfl, hd⟩
end Go.Proofs.Ytpbjompopgdbjaa

namespace Go.Proofs.Ytpbjompopgdbjaa
open Go.RowKit Go.Maps

theorem idx_str {l : List UInt8} {k : Nat} {b : UInt8} (h : l[k]? = some b) : ∀ w9 : World, (Instr.index 9 (encStr l) (.int .i64 k)).run Try.prog w9 = .ok (.int .u8 b.toNat) w9 := fun w9 => by
  have hk := (List.getElem?_eq_some_iff.1 h).1
  have hsz : (⟨l.toArray⟩ : ByteArray).size = l.length := by show l.toArray.size = _; simp
  show (Instr.index 9 (.string ⟨l.toArray⟩) (.int .i64 k)).run Try.prog w9 = _
  rw [run_index_string w9 9 ⟨l.toArray⟩ .i64 k Try.underlying9, dif_pos (by rw [hsz]; omega)]
  have : (⟨l.toArray⟩ : ByteArray)[(k : Int).toNat]'(by rw [hsz]; simpa using hk) = b := by
    show l.toArray[(k : Int).toNat] = b
    simp only [Int.toNat_natCast, List.getElem_toArray]
    exact (List.getElem?_eq_some_iff.1 h).2
  rw [this]

set_option maxRecDepth 100000 in
set_option maxHeartbeats 1000000 in
theorem rsum_any (w : World) (l : List UInt8) (hl : l.length ≤ 1000000) :
    Calls Try.prog 61 #[encStr l] w fun e w' => e = .returned (.int .u32 (crc l : Nat)) ∧ w' = w := by
  go_enter Try.func61, Try.ntmps61
  go_wp2_with fail
  go_loopw [3, 4, 5] (fun v3 v4 _ wr => ∃ k : Nat, v4 = .int .i64 k ∧ k ≤ l.length ∧ wr = w ∧ v3 = .int .u32 (crcs (l.take k) : Nat)) (fun _ v4 _ _ => 2000000 - (RowKit.intOf v4).toNat)
  case atStart => exact ⟨0, rfl, Nat.zero_le _, rfl, rfl⟩
  case round =>
    obtain ⟨k, rfl, hk, rfl, rfl⟩ := hrel
    have hlt := crcs_lt (l.take k)
    by_cases hkl : k < l.length
    · obtain ⟨b, hb⟩ : ∃ b, l[k]? = some b := ⟨_, List.getElem?_eq_getElem hkl⟩
      have hidx := idx_str hb
      have hsn : l.take (k + 1) = l.take k ++ [b] := by rw [List.take_add_one, hb]; rfl
      have Hsn := Lib.hid hsn
      have hx : bits .xor .u32 (crcs (l.take k) : Int) ((b.toNat : Int) % 4294967296) = ((crcs (l.take k) ^^^ b.toNat : Nat) : Int) := by
        have hb := b.toNat_lt
        rw [show ((b.toNat : Int) % 4294967296) = (b.toNat : Int) by omega]
        exact u32_xor_nat _ _ hlt (by omega)
      have hxl := crcX_lt hlt b
      have Hby := Lib.hid (show crcByte (crcs (l.take k)) b = crcBits 8 (crcs (l.take k) ^^^ b.toNat) from rfl)
      have Hc : RowKit.Hid (crcs (l.take (k + 1)) = crcByte (crcs (l.take k)) b) := Lib.hid (by rw [hsn, crcs_snoc])
      clear hsn hb
      generalize crcs (l.take k) = C at *
      go_wp2_with fail
      clear hx
      generalize C ^^^ b.toNat = X at *
      go_loopw [3, 5] (fun v3 v5 w2 => ∃ j : Nat, v5 = .int .i64 j ∧ j ≤ 8 ∧ w2 = wr ∧ v3 = .int .u32 (crcBits j X : Nat)) (fun _ v5 _ => 100 - (RowKit.intOf v5).toNat)
      case atStart => exact ⟨0, rfl, Nat.zero_le _, rfl, rfl⟩
      case round =>
        obtain ⟨j, rfl, hj, rfl, rfl⟩ := hrel
        have hlt2 := crcBits_lt hxl j
        by_cases hj8 : j < 8
        · have Hst := Lib.hid (show crcBits (j + 1) X = crcBit (crcBits j X) from rfl)
          generalize crcBits j X = Y at *
          have hx2 : bits .xor .u32 ((Y : Int) / 2) 3988292384 = ((Y / 2 ^^^ 3988292384 : Nat) : Int) := u32_xor_nat (Y / 2) 3988292384 (by omega) (by omega)
          have Hh : RowKit.Hid ((((Y / 2 : Nat) : Int)) = (Y : Int) / 2) := Lib.hid (by omega)
          have hand : bits .and .u32 (Y : Int) 1 = ((Y % 2 : Nat) : Int) := by
            have h1 := u32_and_nat Y 1 (by omega) (by omega)
            rw [Nat.and_one_is_mod] at h1
            exact h1
          by_cases hod : Y % 2 = 1
          · have hod2 : (bits .and .u32 (Y : Int) 1 == 1) = true := by rw [hand, hod]; rfl
            clear hand
            go_wp2_with fail
            go_roundw
            case rel => exact ⟨j + 1, by go_num, by omega, trivial, by rw [Hst.out]; unfold crcBit; rw [if_pos hod]⟩
            case measure => simp [RowKit.intOf]; omega
          · have hod2 : (bits .and .u32 (Y : Int) 1 == 1) = false := by rw [hand, show Y % 2 = 0 by omega]; rfl
            clear hand
            go_wp2_with fail
            go_roundw
            case rel => exact ⟨j + 1, by go_num, by omega, trivial, by rw [Hst.out]; unfold crcBit; rw [if_neg hod, Hh.out]⟩
            case measure => simp [RowKit.intOf]; omega
        · have hj9 : j = 8 := by omega
          subst hj9
          go_wp2_with fail
          go_roundw
          case rel => exact ⟨k + 1, by go_num, by omega, trivial, by rw [Hc.out, Hby.out]⟩
          case measure => simp [RowKit.intOf]; omega
    · have hke : k = l.length := by omega
      subst hke
      rw [List.take_length] at *
      have hx : bits .xor .u32 IntKind.u32.max (crcs l : Int) = (crc l : Nat) := u32_xor_nat 4294967295 _ (by decide) hlt
      go_wp2_with fail
      go_ret
      exact ⟨rfl, rfl⟩

set_option maxRecDepth 100000 in
set_option maxHeartbeats 1000000 in
theorem rframe_any (w : World) (b : List UInt8) (hb2 : b.length ≤ 1000) :
    Calls Try.prog 45 #[encStr b] w fun e w' => e = .returned (encStr (frm b)) ∧ Chg (fun _ => False) w w' := by
  go_enter Try.func45, Try.ntmps45
  go_wp2_with fail
  refine (rsum_any w b (by omega)).mono ?_
  rintro e w1 ⟨rfl, rfl⟩
  have hcl := crc_lt b
  have hR := rowB_const w1 (hdr b) (by rw [hdr_len]; omega) _ (0, 0) rfl
  unfold hdr at hR
  rw [hdr_cells _ _ hcl hb2] at hR
  have HC := Lib.hid (show frm b = [UInt8.ofNat (crc b), UInt8.ofNat (crc b / 256), UInt8.ofNat (crc b / 65536), UInt8.ofNat (crc b / 16777216), UInt8.ofNat b.length, UInt8.ofNat (b.length / 256)] ++ b from rfl)
  generalize crc b = C at *
  have v1 := conv_str hR
  obtain ⟨H, hH⟩ : ∃ H : List UInt8, [UInt8.ofNat C, UInt8.ofNat (C / 256), UInt8.ofNat (C / 65536), UInt8.ofNat (C / 16777216), UInt8.ofNat b.length, UInt8.ofNat (b.length / 256)] = H := ⟨_, rfl⟩
  have hHl : H.length = 6 := by rw [← hH]; rfl
  rw [hH] at HC v1
  have v1 : (convert 31 9 (.slice (some ⟨w1.heap.size, 0, none⟩) 6 6)).run Try.prog (w1.alloc (.cells #[.int .u8 ((C : Int) % 256), .int .u8 ((C : Int) / 256 % 256), .int .u8 ((C : Int) / 65536 % 256), .int .u8 ((C : Int) / 16777216), .int .u8 ((b.length : Int) % 256), .int .u8 ((b.length : Int) / 256)] 5)) = .ok (encStr H) (w1.alloc (.cells #[.int .u8 ((C : Int) % 256), .int .u8 ((C : Int) / 256 % 256), .int .u8 ((C : Int) / 65536 % 256), .int .u8 ((C : Int) / 16777216), .int .u8 ((b.length : Int) % 256), .int .u8 ((b.length : Int) / 256)] 5)) := by
    have e : H.length = 6 := hHl
    rw [e] at v1
    exact v1
  have hc0 := (Chg.refl (fun _ => False) w1).alloc (.cells #[.int .u8 ((C : Int) % 256), .int .u8 ((C : Int) / 256 % 256), .int .u8 ((C : Int) / 65536 % 256), .int .u8 ((C : Int) / 16777216), .int .u8 ((b.length : Int) % 256), .int .u8 ((b.length : Int) / 256)] 5)
  have hsum : H.length + b.length ≤ 1000000 := by omega
  clear hR hH hHl
  go_wp2_with fail
  go_ret
  exact ⟨by rw [HC.out]; rfl, hc0⟩
end Go.Proofs.Ytpbjompopgdbjaa
