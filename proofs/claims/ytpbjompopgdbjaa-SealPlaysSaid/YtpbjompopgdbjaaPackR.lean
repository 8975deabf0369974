/-
  pack: the Reader's numbers by their contracts.
-/
import Derived.Test.YtpbjompopgdbjaaSumA
import Derived.Test.YtpbjompopgdbjaaByt
import Derived.Test.YtpbjompopgdbjaaPackM
namespace Go.Proofs.Ytpbjompopgdbjaa
open Go.RowKit Go.Maps

theorem vb_get_hi : ∀ (i u : Nat), 128 ^ (i + 1) ≤ u → (vb u)[i]? = some (UInt8.ofNat (u / 128 ^ i % 128 + 128))
  | 0, u, h => by
    rw [vb_hi (by simpa using h)]
    simp
  | i + 1, u, h => by
    have h1 : 128 ^ (i + 1) ≤ u / 128 := by
      rw [Nat.le_div_iff_mul_le (by decide)]
      rw [Nat.pow_succ] at h
      exact h
    have h2 : 128 ≤ u := by
      have : 0 < 128 ^ i := Nat.pow_pos (by decide)
      rw [Nat.pow_succ] at h1
      omega
    rw [vb_hi h2, List.getElem?_cons_succ, vb_get_hi i (u / 128) h1, Nat.div_div_eq_div_mul, Nat.pow_succ, Nat.mul_comm]
theorem vb_get_lo : ∀ (i u : Nat), u < 128 ^ (i + 1) → (i = 0 ∨ 128 ^ i ≤ u) → (vb u)[i]? = some (UInt8.ofNat (u / 128 ^ i)) ∧ (vb u).length = i + 1
  | 0, u, h, _ => by
    rw [vb_lo (by simpa using h)]
    simp
  | i + 1, u, h, h0 => by
    have h0 : 128 ^ (i + 1) ≤ u := by omega
    have h1 : u / 128 < 128 ^ (i + 1) := by
      rw [Nat.div_lt_iff_lt_mul (by decide)]
      rw [Nat.pow_succ] at h
      exact h
    have hp : 0 < 128 ^ i := Nat.pow_pos (by decide)
    have h2 : 128 ≤ u := by rw [Nat.pow_succ] at h0; omega
    have h3 : i = 0 ∨ 128 ^ i ≤ u / 128 := .inr (by
      rw [Nat.le_div_iff_mul_le (by decide)]
      rw [Nat.pow_succ] at h0
      exact h0)
    obtain ⟨e1, e2⟩ := vb_get_lo i (u / 128) h1 h3
    rw [vb_hi h2]
    refine ⟨?_, by rw [List.length_cons, e2]⟩
    rw [List.getElem?_cons_succ, e1, Nat.div_div_eq_div_mul, Nat.pow_succ, Nat.mul_comm]

theorem acc_or (u i d : Nat) (hu : u < 9223372036854775808) (hd : d = u / 128 ^ i % 128) : bits .or .u64 ((u % 128 ^ i : Nat) : Int) (IntKind.u64.wrap ((d : Int) * 2 ^ (7 * i))) = ((u % 128 ^ (i + 1) : Nat) : Int) := by
  have e : (128 : Nat) ^ i = 2 ^ (7 * i) := by rw [Nat.pow_mul]
  have hp : 0 < 128 ^ i := Nat.pow_pos (by decide)
  have h1 : u % 128 ^ (i + 1) = d * 128 ^ i + u % 128 ^ i := by
    rw [hd, Nat.pow_succ, Nat.mod_mul, Nat.mul_comm, Nat.add_comm]
  have h2 : u % 128 ^ (i + 1) ≤ u := Nat.mod_le _ _
  have h3 : IntKind.u64.wrap ((d : Int) * 2 ^ (7 * i)) = ((d * 128 ^ i : Nat) : Int) := by
    have e2 : (d : Int) * 2 ^ (7 * i) = ((d * 128 ^ i : Nat) : Int) := by rw [e]; push_cast; rfl
    rw [e2, IntKind.wrap_u64]
    omega
  rw [h3, u64_or_nat _ _ (by omega) (by omega)]
  have h4 := or_add d (u % 128 ^ i) (7 * i) (by rw [← e]; exact Nat.mod_lt _ hp)
  rw [← e] at h4
  rw [h4, h1]

set_option maxRecDepth 100000 in
set_option maxHeartbeats 1000000 in
theorem groups_any {w : World} {ad : Option Addr} {u : Nat} {post : List UInt8} (h : BytIn w ad (vb u ++ post)) (c : Nat) (hu : u < 9223372036854775808) (L : Nat) (hL : (vb u ++ post).length = L) (hlen : L ≤ 1000000) :
    Calls Try.prog 75 #[.slice ad L c] w fun e w' => e = .returned (.tuple #[.int .u64 u, .int .i64 ((vb u).length : Nat)]) ∧ w' = w := by
  have hLm : (vb u).length ≤ L := by rw [← hL, List.length_append]; omega
  have HL := Lib.hid hL
  clear hL
  go_enter Try.func75, Try.ntmps75
  go_wp2_with fail
  go_loopw [4, 10] (fun v4 v10 wr => ∃ i : Nat, v10 = .int .i64 i ∧ i < 9 ∧ (i = 0 ∨ 128 ^ i ≤ u) ∧ wr = w ∧ v4 = .int .u64 (u % 128 ^ i : Nat)) (fun _ v10 _ => 100 - (RowKit.intOf v10).toNat)
  case atStart => exact ⟨0, rfl, by omega, .inl rfl, rfl, by simp [Nat.mod_one]⟩
  case round =>
    obtain ⟨i, rfl, hi, h0, rfl, rfl⟩ := hrel
    by_cases hlast : u < 128 ^ (i + 1)
    · obtain ⟨hb, hm⟩ := vb_get_lo i u hlast h0
      have hlb : u / 128 ^ i < 128 := by
        rw [Nat.div_lt_iff_lt_mul (Nat.pow_pos (by decide))]
        rw [Nat.pow_succ, Nat.mul_comm] at hlast
        exact hlast
      obtain ⟨a', rfl, _, k0⟩ := h i _ (by rw [List.getElem?_append_left (by omega)]; exact hb)
      rw [u8n, Nat.mod_eq_of_lt (by omega)] at k0
      have hand := u8_and_nat (u / 128 ^ i) 127 (by omega) (by omega)
      rw [show (127 : Nat) = 2 ^ 7 - 1 from rfl, Nat.and_two_pow_sub_one_eq_mod, Nat.mod_eq_of_lt (by omega)] at hand
      have hand : bits .and .u8 ((u / 128 ^ i : Nat) : Int) 127 = ((u / 128 ^ i : Nat) : Int) := hand
      have hor := acc_or u i (u / 128 ^ i) hu (Nat.mod_eq_of_lt hlb).symm
      rw [Nat.mod_eq_of_lt hlast] at hor
      have hor : bits .or .u64 ((u : Int) % 128 ^ i) (IntKind.u64.wrap (((u / 128 ^ i : Nat) : Int) * 2 ^ (7 * i))) = (u : Int) := by
        rw [show ((u : Int) % 128 ^ i) = ((u % 128 ^ i : Nat) : Int) by push_cast; rfl]
        exact hor
      have hd0 : u / 128 ^ i = 0 → i = 0 := fun hz => by
        rcases h0 with h0 | h0
        · exact h0
        · have := (Nat.div_eq_zero_iff).1 hz
          rcases this with h1 | h1
          · have := Nat.pow_pos (n := i) (show 0 < 128 by decide); omega
          · omega
      have Hm := Lib.hid hm
      have Hb := Lib.hid hb
      have hiL : i < L := by omega
      clear hm hb
      generalize u / 128 ^ i = d at *
      have hi9 : ((i : Int) == 9) = false := by rw [beq_eq_false_iff_ne]; omega
      by_cases hdz : d = 0
      · have hiz := hd0 hdz
        have hdB : ((d : Int) == 0) = true := by rw [beq_iff_eq]; omega
        have hiB : decide (0 < i) = false := by simp; omega
        clear hd0 hdz hiz
        go_wp2_with fail
        go_ret2
        exact ⟨by rw [Hm.out]; rfl, rfl⟩
      · have hdB : ((d : Int) == 0) = false := by rw [beq_eq_false_iff_ne]; omega
        clear hd0
        go_wp2_with fail
        go_ret2
        exact ⟨by rw [Hm.out]; rfl, rfl⟩
    · have hge : 128 ^ (i + 1) ≤ u := by omega
      have hb := vb_get_hi i u hge
      have hbl : i < (vb u).length := (List.getElem?_eq_some_iff.1 hb).1
      obtain ⟨a', rfl, _, k0⟩ := h i _ (by rw [List.getElem?_append_left hbl]; exact hb)
      rw [u8n, Nat.mod_eq_of_lt (by omega)] at k0
      have hand := u8_and_nat (u / 128 ^ i % 128 + 128) 127 (by omega) (by omega)
      rw [show (127 : Nat) = 2 ^ 7 - 1 from rfl, Nat.and_two_pow_sub_one_eq_mod, show (u / 128 ^ i % 128 + 128) % 2 ^ 7 = u / 128 ^ i % 128 by omega] at hand
      have hor := acc_or u i (u / 128 ^ i % 128) hu rfl
      have hor : bits .or .u64 ((u : Int) % 128 ^ i) (IntKind.u64.wrap (((u / 128 ^ i % 128 : Nat) : Int) * 2 ^ (7 * i))) = ((u % 128 ^ (i + 1) : Nat) : Int) := by
        rw [show ((u : Int) % 128 ^ i) = ((u % 128 ^ i : Nat) : Int) by push_cast; rfl]
        exact hor
      have hiL : i < L := by omega
      have hi8 : i < 8 := by
        rcases Nat.lt_or_ge i 8 with h1 | h1
        · exact h1
        · have h2 : i = 8 := by omega
          subst h2
          have : (128 : Nat) ^ 9 = 9223372036854775808 := by decide
          omega
      have hdl : u / 128 ^ i % 128 < 128 := Nat.mod_lt _ (by decide)
      have Hge := Lib.hid hge
      clear hb
      generalize u / 128 ^ i % 128 = d at *
      have hand : bits .and .u8 ((d : Int) + 128) 127 = (d : Int) := hand
      have k0 : wr.cell? (a'.add i) = some (.int .u8 ((d : Int) + 128)) := k0
      have hi9 : ((i : Int) == 9) = false := by rw [beq_eq_false_iff_ne]; omega
      clear hge
      go_wp2_with fail
      go_roundw
      case rel => exact ⟨i + 1, by go_num, by omega, .inr Hge.out, trivial, rfl⟩
      case measure => simp [RowKit.intOf]; omega

theorem xor0i (v : Int) (h0 : 0 ≤ v) (h1 : v < 4611686018427387904) : bits .xor .i64 v 0 = v := by
  obtain ⟨n, rfl⟩ : ∃ n : Nat, v = n := ⟨v.toNat, by omega⟩
  show IntKind.i64.wrap ((BitVec.ofInt 64 (n : Int) ^^^ BitVec.ofInt 64 0).toNat : Int) = _
  rw [BitVec.toNat_xor, ofInt_64 n (by omega), show (BitVec.ofInt 64 0).toNat = 0 from rfl, Nat.xor_zero, IntKind.wrap_i64]
  omega

set_option maxRecDepth 100000 in
set_option maxHeartbeats 1000000 in
theorem rdc_any {w : World} {A B c : Nat} {ad : Option Addr} {v lo hi : Int} {rest : List UInt8} (h : BytIn w ad (nb v ++ rest)) (h0 : 0 ≤ v) (h1 : v < 4611686018427387904) (hlo : lo ≤ v) (hhi : v ≤ hi) (L : Nat) (hL : (nb v ++ rest).length = L) (hlen : L ≤ 1000000)
    (hA : w.cell? ⟨A, 0, none⟩ = some (.int .i64 lo)) (hB : w.cell? ⟨B, 0, none⟩ = some (.int .i64 hi)) :
    Calls Try.prog 74 #[.slice ad L c, .pointer (some ⟨A, 0, none⟩), .pointer (some ⟨B, 0, none⟩)] w fun e w' => e = .returned (.tuple #[.int .i64 v, .int .i64 ((nb v).length : Nat)]) ∧ w' = w := by
  have hz := zig_pos h0
  have hnb : nb v = vb (zig v) := rfl
  have Hnb := Lib.hid hnb
  have hzu : ((zig v : Nat) : Int) = 2 * v := by omega
  have hg := groups_any (hnb ▸ h) c (by omega) L (hnb ▸ hL) hlen
  have Hg := Lib.hid hg
  have hd2 : ((zig v : Nat) : Int) / 2 = v := by omega
  have hand : bits .and .u64 ((zig v : Nat) : Int) 1 = 0 := by
    have := u64_and_nat (zig v) 1 (by omega) (by omega)
    rw [Nat.and_one_is_mod, show zig v % 2 = 0 by omega] at this
    exact this
  have hx := xor0i v h0 h1
  clear hg hz hnb
  generalize zig v = u at *
  obtain ⟨N, hN⟩ : ∃ N, nb v = N := ⟨_, rfl⟩
  have HN := Lib.hid hN
  have hNl : (nb v).length ≤ L := by rw [← hL, List.length_append]; omega
  rw [hN] at hNl ⊢
  clear hL h
  have hvu : vb u = N := by rw [← hN]; exact Hnb.out.symm
  rw [hvu] at Hg
  clear hN hvu hzu
  go_enter Try.func74, Try.ntmps74
  go_wp2_with fail
  refine Hg.out.mono ?_
  rintro e w1 ⟨rfl, rfl⟩
  go_wp2_with fail
  go_ret2
  exact ⟨rfl, rfl⟩

/-- A reader: what it still has. -/
def RdAt (w : World) (r base : Nat) (bs : List UInt8) : Prop := base ≤ r ∧ ∃ ad cap, Blk w r 121 #[.slice ad bs.length cap, .bool false] ∧ bs.length ≤ cap ∧ cap ≤ maxLen ∧ BytIn w ad bs ∧ (bs ≠ [] → ∃ a, ad = some a ∧ base ≤ a.block ∧ a.block ≠ r)
theorem RdAt.chg {w w' : World} {r base : Nat} {bs : List UInt8} (h : RdAt w r base bs) {S : Nat → Prop} (hc : Chg S w w') (hS : ∀ i, base ≤ i → ¬ S i) : RdAt w' r base bs := by
  obtain ⟨hb, ad, cap, hB, h1, h2, h3, h4⟩ := h
  refine ⟨hb, ad, cap, hB.chg hc (hS _ hb), h1, h2, fun j b hj => ?_, h4⟩
  obtain ⟨a', e, hlt, hcell⟩ := h3 j b hj
  obtain ⟨a, e2, h5, _⟩ := h4 (fun e => by subst e; simp at hj)
  rw [e] at e2
  cases e2
  exact ⟨_, e, Nat.lt_of_lt_of_le hlt hc.size, (World.cell?_of_block (by rw [add_blk]; exact hc.block _ hlt (hS _ h5))).trans hcell⟩

set_option maxRecDepth 100000 in
set_option maxHeartbeats 1000000 in
theorem take_int {w : World} {r base A B : Nat} {v lo hi : Int} {rest : List UInt8} (h : RdAt w r base (nb v ++ rest)) (h0 : 0 ≤ v) (h1 : v < 4611686018427387904) (hlo : lo ≤ v) (hhi : v ≤ hi) (hlen : (nb v ++ rest).length ≤ 1000000)
    (hA : w.cell? ⟨A, 0, none⟩ = some (.int .i64 lo)) (hB : w.cell? ⟨B, 0, none⟩ = some (.int .i64 hi)) :
    Calls Try.prog 73 #[.pointer (some ⟨r, 0, none⟩), .func (.func 74) #[] #[.pointer (some ⟨A, 0, none⟩), .pointer (some ⟨B, 0, none⟩)]] w fun e w' => e = .returned (.int .i64 v) ∧ RdAt w' r base rest ∧ Chg (fun i => i = r) w w' := by
  obtain ⟨hbr, ad, cap, hBk, hc1, hc2, hby, hbb⟩ := h
  obtain ⟨L, hL⟩ : ∃ L, (nb v ++ rest).length = L := ⟨_, rfl⟩
  have hne : nb v ≠ [] := by
    unfold nb
    by_cases h : zig v < 128
    · rw [vb_lo h]; simp
    · rw [vb_hi (by omega)]; simp
  obtain ⟨a, rfl, ha1, ha2⟩ := hbb (by simp [hne])
  have hn1 : 1 ≤ (nb v).length := List.length_pos_iff.2 hne
  have hnL : (nb v).length ≤ L := by rw [← hL, List.length_append]; omega
  have hrest : L - (nb v).length = rest.length := by rw [← hL, List.length_append]; omega
  have hcl := rdc_any (c := cap) hby h0 h1 hlo hhi L hL (by omega) hA hB
  have hsub : BytIn w (some (a.add (nb v).length)) rest := by
    have := hby.sub (nb v).length rest.length
    rw [List.drop_left, List.take_length] at this
    exact this
  rw [hL] at hBk hc1
  have c0 : w.cell? ⟨r, 0, none⟩ = some (.slice (some a) L cap) := by rw [hBk.cell]; rfl
  have c1 : w.cell? ⟨r, 1, none⟩ = some (.bool false) := by rw [hBk.cell]; rfl
  have f0 := hBk.frozen 0
  have fin : ∀ (ad' : Option Addr) (cap' : Nat), rest.length ≤ cap' → cap' ≤ maxLen → BytIn w ad' rest → (rest ≠ [] → ∃ a, ad' = some a ∧ base ≤ a.block ∧ a.block ≠ r) → RdAt (w.setCell ⟨r, 0, none⟩ (.slice ad' (L - (nb v).length) cap')) r base rest := by
    intro ad' cap' q1 q2 q3 q4
    have hc : Chg (fun i => i = r) w (w.setCell ⟨r, 0, none⟩ (.slice ad' (L - (nb v).length) cap')) := (Chg.refl (fun i => i = r) w).setCell (p := ⟨r, 0, none⟩) (.inl rfl) _
    have hBs := hBk.set 0 (.slice ad' (L - (nb v).length) cap')
    refine ⟨hbr, ad', cap', by rw [← hrest]; exact hBs, q1, q2, fun j b hj => ?_, q4⟩
    obtain ⟨a', e, hlt, hcell⟩ := q3 j b hj
    obtain ⟨a2, e2, h5, h6⟩ := q4 (fun e => by subst e; simp at hj)
    rw [e] at e2
    cases e2
    exact ⟨_, e, Nat.lt_of_lt_of_le hlt hc.size, (World.cell?_of_block (by rw [add_blk]; exact hc.block _ hlt h6)).trans hcell⟩
  have Fin := Lib.hid fin
  have Hcl := Lib.hid hcl
  have Hrest := Lib.hid hrest
  have Hsub := Lib.hid hsub
  clear fin hsub
  clear hcl hL hne hA hB hrest hby hbb
  unfold maxLen at hc2
  generalize (nb v).length = n at *
  go_enter Try.func73, Try.ntmps73
  go_wp2_with fail
  refine Hcl.out.mono ?_
  rintro e w1 ⟨rfl, rfl⟩
  go_wp2_with fail
  · go_ret
    have hl0 : rest = [] := List.eq_nil_of_length_eq_zero (by rw [← Hrest.out]; omega)
    refine ⟨rfl, Fin.out (some a) 0 (by rw [hl0]; exact Nat.zero_le _) (Nat.zero_le _) (by rw [hl0]; exact BytIn.nil _ _) (fun h => absurd hl0 h), (Chg.refl (fun i => i = r) w1).setCell (p := ⟨r, 0, none⟩) (.inl rfl) _⟩
  · go_ret
    refine ⟨rfl, Fin.out (some (a.add n)) (cap - n) (by rw [← Hrest.out]; omega) (by unfold maxLen; omega) Hsub.out (fun _ => ⟨_, rfl, by rw [add_blk]; exact ha1, by rw [add_blk]; exact ha2⟩), (Chg.refl (fun i => i = r) w1).setCell (p := ⟨r, 0, none⟩) (.inl rfl) _⟩

set_option maxRecDepth 100000 in
set_option maxHeartbeats 1000000 in
theorem rd_int {w : World} {r base : Nat} {v lo hi : Int} {rest : List UInt8} (h : RdAt w r base (nb v ++ rest)) (h0 : 0 ≤ v) (h1 : v < 4611686018427387904) (hlo : lo ≤ v) (hhi : v ≤ hi) (hlen : (nb v ++ rest).length ≤ 1000000) :
    Calls Try.prog 67 #[.pointer (some ⟨r, 0, none⟩), .int .i64 lo, .int .i64 hi] w fun e w' => e = .returned (.int .i64 v) ∧ RdAt w' r base rest ∧ Chg (fun i => i = r) w w' := by
  have hcA : Chg (fun _ => False) w ((w.alloc (.cells #[.int .i64 lo] 2)).alloc (.cells #[.int .i64 hi] 2)) := ((Chg.refl _ w).alloc _).alloc _
  have hA : ((w.alloc (.cells #[.int .i64 lo] 2)).alloc (.cells #[.int .i64 hi] 2)).cell? ⟨w.heap.size, 0, none⟩ = some (.int .i64 lo) := by rw [((Blk.new w _ _).alloc _).cell]; rfl
  have hB : ((w.alloc (.cells #[.int .i64 lo] 2)).alloc (.cells #[.int .i64 hi] 2)).cell? ⟨w.heap.size + 1, 0, none⟩ = some (.int .i64 hi) := by
    have := (Blk.new (w.alloc (.cells #[.int .i64 lo] 2)) 2 #[.int .i64 hi]).cell 0
    rw [size_al] at this
    rw [this]
    rfl
  have hR := h.chg hcA (fun _ _ => id)
  have HA := Lib.hid hA
  have HB := Lib.hid hB
  clear hA hB
  go_enter Try.func67, Try.ntmps67
  go_wp2_with fail
  refine (take_int hR h0 h1 hlo hhi hlen HA.out HB.out).mono ?_
  rintro e w1 ⟨rfl, hR1, hc1⟩
  go_wp2_with fail
  go_ret
  exact ⟨rfl, hR1, (hcA.mono (fun _ _ h => h.elim) : Chg (fun i => i = r) w _).trans hc1 (fun _ _ h => h)⟩

set_option maxRecDepth 100000 in
theorem rd_end {w : World} {r base : Nat} (h : RdAt w r base []) :
    Calls Try.prog 68 #[.pointer (some ⟨r, 0, none⟩)] w fun e w' => e = .returned (.int .i64 0) ∧ w' = w := by
  obtain ⟨hbr, ad, cap, hBk, hc1, hc2, hby, hbb⟩ := h
  have c0 : w.cell? ⟨r, 0, none⟩ = some (.slice ad 0 cap) := by rw [hBk.cell]; rfl
  have c1 : w.cell? ⟨r, 1, none⟩ = some (.bool false) := by rw [hBk.cell]; rfl
  clear hby hbb
  go_enter Try.func68, Try.ntmps68
  go_wp2_with fail
  go_ret
  exact ⟨rfl, rfl⟩

set_option maxRecDepth 100000 in
set_option maxHeartbeats 1000000 in
theorem rd_new {w : World} {ad : Option Addr} {b : List UInt8} (h : BytIn w ad b) (c : Nat) (hlen : b.length ≤ 1000000) :
    Calls Try.prog 66 #[.slice ad b.length c] w fun e w' => ∃ r, e = .returned (.pointer (some ⟨r, 0, none⟩)) ∧ RdAt w' r w.heap.size b ∧ Chg (fun _ => False) w w' := by
  have hc0 : Chg (fun _ => False) w (w.alloc (.cells #[] 5)) := (Chg.refl _ w).alloc _
  have hS := h.src c (w' := w.alloc (.cells #[] 5)) (fun i hi => hc0.block i hi id)
  go_enter Try.func66, Try.ntmps66
  go_wp2_with (at_builtin; go_loud (refine wpList_append_row rfl _ _ rfl (rowB_nil _ _ 0 w.heap.size) rfl _ b rfl hS (by simp; omega) ?_))
  intro ao off cap rb w1 hR1 hc1 hrb
  go_wp2_with fail
  have hz1 := hc1.size
  simp at hz1
  have hB2 := hR1.byt.chg ((Chg.refl (fun _ => False) w1).alloc (.cells #[.slice ao b.length cap, .bool false] 121)) (fun _ _ => id)
  go_ret
  refine ⟨w1.heap.size, rfl, ⟨by omega, ao, cap, Blk.new w1 _ _, hR1.came.le, hR1.mx, hB2, fun hne => ?_⟩, (hc0.trans hc1 (fun _ _ h => h)).alloc _⟩
  have hl := List.length_pos_iff.2 hne
  have hle := hR1.came.le
  have hlt := hR1.came.lt (by omega)
  exact ⟨⟨rb, off, none⟩, hR1.came.addr (by omega), by show w.heap.size ≤ rb; omega, by show rb ≠ _; omega⟩
end Go.Proofs.Ytpbjompopgdbjaa
