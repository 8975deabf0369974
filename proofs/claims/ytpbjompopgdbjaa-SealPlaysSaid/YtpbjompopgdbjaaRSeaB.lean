/-
  the reference's log: One.
-/
import Derived.Test.YtpbjompopgdbjaaZFrmA
import Derived.Test.YtpbjompopgdbjaaRegionG
namespace Go.Proofs.Ytpbjompopgdbjaa
open Go.RowKit Go.Maps

set_option maxRecDepth 100000 in
theorem slice_str (l : List UInt8) (a b : Nat) (h1 : a ≤ b) (h2 : b ≤ l.length) : ∀ w9 : World, (Instr.slice 9 (encStr l) (some (.int .i64 a)) (some (.int .i64 b)) none).run Try.prog w9 = .ok (encStr ((l.drop a).take (b - a))) w9 := fun w9 => by
  have e : Value.string ((⟨l.toArray⟩ : ByteArray).extract a b) = encStr ((l.drop a).take (b - a)) := by
    show Value.string _ = Value.string _
    congr 1
    apply ByteArray.ext
    simp [ByteArray.data_extract]
  rw [← e]
  have hsz : (⟨l.toArray⟩ : ByteArray).size = l.length := by show l.toArray.size = _; simp
  show (Instr.slice 9 (.string ⟨l.toArray⟩) (some (.int .i64 a)) (some (.int .i64 b)) none).run Try.prog w9 = _
  go_simp
  try (intro h9; exfalso; first | omega | (have h8 := h9 (by omega); omega))

theorem idx_at {l pre m post : List UInt8} (hl : l = pre ++ (m ++ post)) {j : Nat} {b : UInt8} (hb : m[j]? = some b) : ∀ w9 : World, (Instr.index 9 (encStr l) (.int .i64 ((pre.length : Int) + j))).run Try.prog w9 = .ok (.int .u8 b.toNat) w9 := fun w9 => by
  have hj := (List.getElem?_eq_some_iff.1 hb).1
  have := idx_str (l := l) (k := pre.length + j) (b := b) (by rw [hl, List.getElem?_append_right (by omega), Nat.add_sub_cancel_left, List.getElem?_append_left hj]; exact hb) w9
  rw [show ((pre.length + j : Nat) : Int) = (pre.length : Int) + j by omega] at this
  exact this

set_option maxRecDepth 100000 in
set_option maxHeartbeats 1000000 in
theorem rone_yes (w : World) {l pre x post : List UInt8} (hl : l = pre ++ (frm x ++ post)) (hx : okR x) (hlen : l.length ≤ 1000000) :
    Calls Try.prog 58 #[encStr l, .int .i64 pre.length] w fun e w' => e = .returned (.tuple #[encStr x, .int .i64 ((pre.length + 6 + x.length : Nat) : Int)]) ∧ Chg (fun _ => False) w w' := by
  have hx1 := hx.1
  have hx2 := hx.2
  have hll : l.length = pre.length + (6 + x.length + post.length) := by rw [hl, List.length_append, List.length_append, frm_len]
  have hl2 : l = pre ++ (hdr x ++ (x ++ post)) := by rw [hl]; unfold frm; rw [List.append_assoc]
  have k4 := idx_at hl2 (show (hdr x)[4]? = some (UInt8.ofNat x.length) from rfl)
  have k5 := idx_at hl2 (show (hdr x)[5]? = some (UInt8.ofNat (x.length / 256)) from rfl)
  rw [u8n] at k4 k5
  have s1 := slice_str l (pre.length + 6) (pre.length + 6 + x.length) (by omega) (by omega)
  have s2 := slice_str l pre.length (pre.length + 6 + x.length) (by omega) (by omega)
  have e1 : (l.drop (pre.length + 6)).take (pre.length + 6 + x.length - (pre.length + 6)) = x := by
    rw [hl2, ← List.append_assoc, show pre.length + 6 = (pre ++ hdr x).length by rw [List.length_append, hdr_len], List.drop_left, Nat.add_sub_cancel_left, List.take_left]
  have e2 : (l.drop pre.length).take (pre.length + 6 + x.length - pre.length) = frm x := by
    rw [hl, List.drop_left, show pre.length + 6 + x.length - pre.length = (frm x).length by rw [frm_len]; omega, List.take_left]
  rw [e1, show ((pre.length + 6 + x.length : Nat) : Int) = (pre.length : Int) + 6 + x.length by omega, show ((pre.length + 6 : Nat) : Int) = (pre.length : Int) + 6 by omega] at s1
  rw [e2, show ((pre.length + 6 + x.length : Nat) : Int) = (pre.length : Int) + 6 + x.length by omega] at s2
  have k4 : ∀ w9 : World, (Instr.index 9 (encStr l) (.int .i64 ((pre.length : Int) + 4))).run Try.prog w9 = .ok (.int .u8 ((x.length : Int) % 256)) w9 := k4
  have k5 : ∀ w9 : World, (Instr.index 9 (encStr l) (.int .i64 ((pre.length : Int) + 5))).run Try.prog w9 = .ok (.int .u8 ((x.length : Int) / 256 % 256)) w9 := k5
  generalize pre.length = p at *
  clear hl hl2 e1 e2
  have hlenx : bits .or .i64 ((x.length : Int) % 256) ((x.length : Int) / 256 % 256 * 256) = (x.length : Int) := by
    have h1 := i64_or_nat (x.length % 256) (x.length / 256 % 256 * 256) (by omega) (by omega)
    rw [len16 hx2] at h1
    exact h1
  have Hll := Lib.hid hll
  have hle : p + 6 + x.length ≤ l.length := by omega
  clear hll
  go_enter Try.func58, Try.ntmps58
  go_wp2_with fail
  refine wp_region_plan (by kernel_rfl) [{ fl := [0, 1, 2, 3, 4, 5, 6, 7, 8, 9, 10, 11], long := [4, 9], ef := 12 }] [] (by kernel_rfl) (fun _ _ => True) ?_
  simp only [wpPlan, longOK, keepOK, opsAt_cons, opsAt_nil, consO_some, List.getElem?_toArray, List.getElem?_cons_succ, List.getElem?_cons_zero, and_true, true_and]
  go_wp2_with fail
  refine ⟨by kernel_rfl, ⟨?_, ?_⟩, ?_⟩
  · intro _ w9 _
    clear hlenx
    go_simp
    exact IntWalk.i64_in _ (by omega)
  · intro _ w9 _
    clear hlenx
    go_simp
    exact IntWalk.i64_in _ (by omega)
  go_wp2_with fail
  refine ⟨by kernel_rfl, ?_⟩
  go_wp2_with fail
  refine wp_region_plan (by kernel_rfl) [{ fl := [0, 2, 3, 4, 5, 6, 7, 8], long := [8], ef := 1, keep := [8] }, { fl := [], ef := 9 }] [] (by kernel_rfl) (fun _ _ => True) ?_
  simp only [wpPlan, longOK, keepOK, opsAt_cons, opsAt_nil, consO_some, List.getElem?_toArray, List.getElem?_cons_succ, List.getElem?_cons_zero, and_true, true_and]
  go_wp2_with fail
  refine ⟨by kernel_rfl, ?_, ?_⟩
  · intro _ w9 _
    go_simp
  go_wp2_with fail
  refine (rframe_any _ x hx2).mono ?_
  rintro e w1 ⟨rfl, hc1⟩
  have hcw : Chg (fun _ => False) w w1 := ((Chg.refl (fun _ => False) w).drew.drew).trans hc1 (fun _ _ h => h)
  clear k4 k5 s1 s2 hlenx hc1
  go_wp2_with fail
  refine ⟨by kernel_rfl, ?_⟩
  go_wp2_with fail
  refine ⟨by kernel_rfl, ?_⟩
  go_wp2_with fail
  go_ret2
  exact ⟨by push_cast; rfl, hcw⟩

set_option maxRecDepth 100000 in
set_option maxHeartbeats 1000000 in
theorem rone_no (w : World) {l pre t : List UInt8} (hl : l = pre ++ t) (ht : torn t) (hlen : l.length ≤ 1000000) :
    Calls Try.prog 58 #[encStr l, .int .i64 pre.length] w fun e w' => e = .returned (.tuple #[encStr [], .int .i64 (-1)]) ∧ Chg (fun _ => False) w w' := by
  have hll : l.length = pre.length + t.length := by rw [hl, List.length_append]
  by_cases h6 : t.length < 6
  · clear hl
    generalize pre.length = p at *
    have hll2 : (l.length : Int) - p < 6 := by omega
    have hll3 : p ≤ l.length := by omega
    clear hll
    go_enter Try.func58, Try.ntmps58
    go_wp2_with fail
    go_ret2
    exact ⟨rfl, Chg.refl _ w⟩
  · obtain ⟨x, k, hx, rfl, hk⟩ : ∃ x k, okR x ∧ t = (frm x).take k ∧ k < 6 + x.length := by
      rcases ht with rfl | h
      · exact absurd (by decide) h6
      · exact h
    have hx1 := hx.1
    have hx2 := hx.2
    have hkl : ((frm x).take k).length = k := by rw [List.length_take, frm_len]; omega
    rw [hkl] at hll h6
    have hl2 : l = pre ++ (hdr x ++ x.take (k - 6)) := by
      rw [hl]
      unfold frm
      rw [List.take_append, List.take_of_length_le (by rw [hdr_len]; omega), hdr_len]
    have k4 := idx_at hl2 (show (hdr x)[4]? = some (UInt8.ofNat x.length) from rfl)
    have k5 := idx_at hl2 (show (hdr x)[5]? = some (UInt8.ofNat (x.length / 256)) from rfl)
    rw [u8n] at k4 k5
    have k4 : ∀ w9 : World, (Instr.index 9 (encStr l) (.int .i64 ((pre.length : Int) + 4))).run Try.prog w9 = .ok (.int .u8 ((x.length : Int) % 256)) w9 := k4
    have k5 : ∀ w9 : World, (Instr.index 9 (encStr l) (.int .i64 ((pre.length : Int) + 5))).run Try.prog w9 = .ok (.int .u8 ((x.length : Int) / 256 % 256)) w9 := k5
    generalize pre.length = p at *
    have hll2 : ¬ (l.length : Int) - p < 6 := by omega
    have hll3 : p ≤ l.length := by omega
    have hll4 : (l.length : Int) - p - 6 < x.length := by omega
    clear hl hl2 hkl hll
    have hlenx : bits .or .i64 ((x.length : Int) % 256) ((x.length : Int) / 256 % 256 * 256) = (x.length : Int) := by
      have h1 := i64_or_nat (x.length % 256) (x.length / 256 % 256 * 256) (by omega) (by omega)
      rw [len16 hx2] at h1
      exact h1
    go_enter Try.func58, Try.ntmps58
    go_wp2_with fail
    refine wp_region_plan (by kernel_rfl) [{ fl := [0, 1, 2, 3, 4, 5, 6, 7, 8, 9, 10, 11], long := [4, 9], ef := 12 }] [] (by kernel_rfl) (fun _ _ => True) ?_
    simp only [wpPlan, longOK, keepOK, opsAt_cons, opsAt_nil, consO_some, List.getElem?_toArray, List.getElem?_cons_succ, List.getElem?_cons_zero, and_true, true_and]
    go_wp2_with fail
    refine ⟨by kernel_rfl, ⟨?_, ?_⟩, ?_⟩
    · intro _ w9 _
      clear hlenx
      go_simp
      exact IntWalk.i64_in _ (by omega)
    · intro _ w9 _
      clear hlenx
      go_simp
      exact IntWalk.i64_in _ (by omega)
    go_wp2_with fail
    refine ⟨by kernel_rfl, ?_⟩
    go_wp2_with fail
    go_ret2
    exact ⟨rfl, (Chg.refl _ w).drew⟩
end Go.Proofs.Ytpbjompopgdbjaa
