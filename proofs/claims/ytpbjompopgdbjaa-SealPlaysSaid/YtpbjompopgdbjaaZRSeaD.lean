/-
  the reference's log: gen, of small numbers.
-/
import Derived.Test.YtpbjompopgdbjaaZSealU
import Derived.Test.YtpbjompopgdbjaaRefI
import Derived.Test.YtpbjompopgdbjaaPackR
namespace Go.Proofs.Ytpbjompopgdbjaa
open Go.RowKit Go.Maps

theorem nb_even {v : Int} (h : 0 ≤ v) : zig v = (2 * v).toNat := zig_pos h

theorem or_and {u : Nat} (hul : u < 128) : bits .or .u64 0 (IntKind.u64.wrap (bits .and .u64 (u : Int) 127)) = (u : Int) := by
  have h1 := u64_and_nat u 127 (by omega) (by omega)
  rw [show ((127 : Nat) : Int) = 127 from rfl] at h1
  rw [h1, show u &&& 127 = u % 128 from Nat.and_two_pow_sub_one_eq_mod u 7, Nat.mod_eq_of_lt hul]
  have h2 := u64_or_nat 0 u (by omega) (by omega)
  rw [show ((0 : Nat) : Int) = 0 from rfl, Nat.zero_or] at h2
  rw [show IntKind.u64.wrap (u : Int) = (u : Int) by rw [IntKind.wrap_u64]; omega]
  exact h2
theorem odd_no {u : Nat} (hul : u < 128) (he : u % 2 = 0) : (bits .and .u64 (u : Int) 1 == 1) = false := by
  have h1 := u64_and_nat u 1 (by omega) (by omega)
  rw [show ((1 : Nat) : Int) = 1 from rfl, Nat.and_one_is_mod, he] at h1
  rw [h1]
  rfl
set_option maxRecDepth 100000 in
theorem slice_one {S : List UInt8} (hlen : S.length = 1) : ∀ w9 : World, (Instr.slice 9 (encStr S) none (some (.int .i64 1)) none).run Try.prog w9 = .ok (encStr S) w9 := fun w9 => by
  match S, hlen with
  | [b], _ =>
    show (Instr.slice 9 (.string ⟨[b].toArray⟩) none (some (.int .i64 1)) none).run Try.prog w9 = .ok (.string ⟨[b].toArray⟩) w9
    have hsz : (⟨[b].toArray⟩ : ByteArray).size = 1 := rfl
    have e : (⟨[b].toArray⟩ : ByteArray).extract 0 1 = ⟨[b].toArray⟩ := by
      apply ByteArray.ext
      simp [ByteArray.data_extract]
    generalize (⟨[b].toArray⟩ : ByteArray) = s at *
    go_simp
set_option maxRecDepth 100000 in
theorem slice_none {S : List UInt8} (hlen : S.length = 1) : ∀ w9 : World, (Instr.slice 9 (encStr S) (some (.int .i64 1)) none none).run Try.prog w9 = .ok (encStr []) w9 := fun w9 => by
  match S, hlen with
  | [b], _ =>
    show (Instr.slice 9 (.string ⟨[b].toArray⟩) (some (.int .i64 1)) none none).run Try.prog w9 = .ok (.string ⟨([] : List UInt8).toArray⟩) w9
    have hsz : (⟨[b].toArray⟩ : ByteArray).size = 1 := rfl
    have e : (⟨[b].toArray⟩ : ByteArray).extract 1 1 = ⟨([] : List UInt8).toArray⟩ := by
      apply ByteArray.ext
      simp [ByteArray.data_extract]
    generalize (⟨[b].toArray⟩ : ByteArray) = s at *
    go_simp
    simpa using e

set_option maxRecDepth 100000 in
set_option maxHeartbeats 2000000 in
theorem rint_one (w : World) (x : Nat) (v : Int) (h0 : 0 ≤ v) (h1 : v < 64) (hB : Blk w x 111 #[encStr (nb v), .bool false]) :
    Calls Try.prog 59 #[.pointer (some ⟨x, 0, none⟩), .int .i64 0, .int .i64 4611686018427387904] w fun e w' => e = .returned (.int .i64 v) ∧ Blk w' x 111 #[encStr [], .bool false] ∧ Chg (fun i => i = x) w w' := by
  obtain ⟨u, hu⟩ : ∃ u : Nat, (u : Int) = 2 * v := ⟨(2 * v).toNat, by omega⟩
  have hz : zig v = u := by rw [zig_pos h0]; omega
  have hnb : nb v = [UInt8.ofNat u] := by
    show vb (zig v) = _
    rw [hz, vb_lo (by omega)]
  have c0 : w.cell? ⟨x, 0, none⟩ = some (encStr (nb v)) := hB.cell 0
  have c1 : w.cell? ⟨x, 1, none⟩ = some (.bool false) := hB.cell 1
  have fz := hB.frozen 0
  have i0 := idx_str (l := nb v) (k := 0) (b := UInt8.ofNat u) (by rw [hnb]; rfl)
  rw [u8n, Nat.mod_eq_of_lt (show u < 256 by omega)] at i0
  have hlen : (nb v).length = 1 := by rw [hnb]; rfl
  obtain ⟨S, hS⟩ : ∃ S, nb v = S := ⟨_, rfl⟩
  rw [hS] at c0 i0 hlen
  replace i0 : ∀ w9 : World, (Instr.index 9 (encStr S) (.int .i64 0)).run Try.prog w9 = .ok (.int .u8 u) w9 := i0
  have hul : u < 128 := by omega
  have hm0 := or_and hul
  have hodd := odd_no (u := u) (by omega) (by omega)
  have hv2 : (u : Int) / 2 = v := by omega
  have dv1 : decide (v < 0) = false := decide_eq_false (by omega)
  have dv2 : decide (4611686018427387904 < v) = false := decide_eq_false (by omega)
  have hsl := slice_one hlen
  have hsr := slice_none hlen
  have hint := Lib.hid (refInt_any w.drew v h0 (by omega))
  rw [hS] at hint
  have hBs : ∀ w', Chg (fun _ => False) w.drew w' → Blk w' x 111 #[encStr S, .bool false] := fun w' hc => by
    rw [hS] at hB
    exact (show Blk w.drew x _ _ from hB).chg hc id
  have HB := Lib.hid hBs
  clear hnb hz hu hBs hB hS
  go_enter Try.func59, Try.ntmps59
  go_wp2_with fail
  refine wp_loop_rounds 1 ?_
  rw [rounds_succ]
  go_wp2_with fail
  refine wp_region_plan (by kernel_rfl) [{ fl := [0, 1, 2, 3, 4, 5, 6, 7, 8, 9, 11, 12, 13, 14, 15, 16, 17], long := [14, 17], ef := 10, keep := [14, 17] }, { fl := [], ef := 18 }] [19] (by kernel_rfl) (fun _ w9 => w9.cell? ⟨x, 0, none⟩ = some (encStr S)) ?_
  simp only [wpPlan, longOK, keepOK, opsAt_cons, opsAt_nil, consO_some, List.getElem?_toArray, List.getElem?_cons_succ, List.getElem?_cons_zero, and_true, true_and]
  have d0 : w.drew.cell? ⟨x, 0, none⟩ = some (encStr S) := c0
  refine ⟨⟨d0, d0⟩, ?_⟩
  go_wp2_with fail
  refine ⟨by kernel_rfl, ⟨?_, ?_⟩, ?_⟩
  iterate 2
    · intro _ w9 hw9
      go_simp
  go_wp2_with fail
  refine hint.out.mono ?_
  rintro e w3 ⟨rfl, hc3⟩
  have hB3 := HB.out w3 hc3
  have k0 : w3.cell? ⟨x, 0, none⟩ = some (encStr S) := hB3.cell 0
  have kz : w3.frozen? ⟨x, 0, none⟩ = false := hB3.frozen 0
  have hBf : Blk (w3.setCell ⟨x, 0, none⟩ (encStr [])) x 111 #[encStr [], .bool false] := hB3.set 0 (encStr [])
  have hcf : Chg (fun i => i = x) w (w3.setCell ⟨x, 0, none⟩ (encStr [])) := Chg.setCell (((Chg.refl (fun i => i = x) w).drew).trans (hc3.mono (T := fun _ => False) (fun _ _ h => h)) (fun _ _ h => h.elim)) (.inl rfl) _
  rw [show Value.string (bstr S) = encStr S from rfl]
  clear hint HB hB3 c0 c1 fz d0 hc3
  go_wp2_with fail
  refine ⟨⟨k0, k0⟩, ?_⟩
  go_wp2_with fail
  refine ⟨by kernel_rfl, ?_⟩
  go_wp2_with fail
  refine ⟨by kernel_rfl, ?_⟩
  go_wp2_with fail
  go_ret
  exact ⟨rfl, hBf, hcf⟩
end Go.Proofs.Ytpbjompopgdbjaa

namespace Go.Proofs.Ytpbjompopgdbjaa
open Go.RowKit Go.Maps

set_option maxRecDepth 100000 in
theorem rend_ok {w : World} {x : Nat} (hB : Blk w x 111 #[encStr [], .bool false]) :
    Calls Try.prog 60 #[.pointer (some ⟨x, 0, none⟩)] w fun e w' => e = .returned (.int .i64 0) ∧ w' = w := by
  have c0 : w.cell? ⟨x, 0, none⟩ = some (encStr []) := hB.cell 0
  have c1 : w.cell? ⟨x, 1, none⟩ = some (.bool false) := hB.cell 1
  go_enter Try.func60, Try.ntmps60
  go_wp2_with fail
  go_ret
  exact ⟨rfl, rfl⟩

set_option maxRecDepth 100000 in
theorem rgen_any (w : World) (v : Int) (h0 : 0 ≤ v) (h1 : v < 64) :
    Calls Try.prog 43 #[encStr (nb v)] w fun e w' => e = .returned (.int .i64 v) ∧ Chg (fun _ => False) w w' := by
  have hB := Blk.new w 111 #[encStr (nb v), .bool false]
  have hcA : Chg (fun _ => False) w (w.alloc (.cells #[encStr (nb v), .bool false] 111)) := (Chg.refl _ w).alloc _
  go_enter Try.func43, Try.ntmps43
  go_wp2_with fail
  refine (rint_one _ w.heap.size v h0 h1 hB).mono ?_
  rintro e w1 ⟨rfl, hB1, hc1⟩
  have hcw : Chg (fun _ => False) w w1 := hcA.trans hc1 (fun i hi e => by omega)
  go_wp2_with fail
  refine (rend_ok hB1).mono ?_
  rintro e w2 ⟨rfl, rfl⟩
  go_wp2_with fail
  go_ret
  exact ⟨rfl, hcw⟩
end Go.Proofs.Ytpbjompopgdbjaa
