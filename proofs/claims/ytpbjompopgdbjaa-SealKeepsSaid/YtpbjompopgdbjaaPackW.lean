/-
  pack: the Writer by its contracts.
-/
import Derived.Test.YtpbjompopgdbjaaProg
import Derived.Test.YtpbjompopgdbjaaPackM
import Derived.Test.YtpbjompopgdbjaaArrG
import Derived.Test.YtpbjompopgdbjaaRegionC
import Derived.WalkKit
import Derived.Lib.Hide
import Derived.Maps.AppendAt
import Derived.LoopTactic
import Derived.Laws.Bits64
import Derived.Laws.BitsAllLaws
import Derived.IntWalk
namespace Go.Proofs.Ytpbjompopgdbjaa
open Go.RowKit

theorem xor0 (x : Int) (h0 : 0 ≤ x) (h1 : x < 18446744073709551616) : bits .xor .u64 x 0 = x := by
  obtain ⟨n, rfl⟩ : ∃ n : Nat, x = n := ⟨x.toNat, by omega⟩
  have h := bits_xor_u64_nat n 0 (by omega) (by omega)
  simpa using h
set_option maxRecDepth 100000 in
theorem or128 : ∀ a : Nat, a < 256 → a ||| 128 = a % 128 + 128 := by decide
theorem orB (u : Nat) : bits .or .u8 ((u : Int) % 256) 128 = (u : Int) % 128 + 128 := by
  have h := u8_or_nat (u % 256) 128 (by omega) (by omega)
  have e : ((u % 256 : Nat) : Int) = (u : Int) % 256 := by omega
  rw [e] at h
  rw [show (128 : Int) = ((128 : Nat) : Int) from rfl, h, or128 _ (by omega)]
  omega

/-- A writer: its block, the slice it keeps, the bytes in it. -/
structure WrAt (w : World) (g base : Nat) (lv : Value) (xs : List UInt8) : Prop where
  blk : Blk w g 101 #[lv]
  own : w.ownsRow base 5 1 lv xs.length (xs.map encB)
theorem WrAt.chg {w w' : World} {g base : Nat} {lv : Value} {xs : List UInt8} {S : Nat → Prop} (h : WrAt w g base lv xs) (hc : Chg S w w') (h1 : ¬ S g) (h2 : ∀ k, lv.ownBlock = some k → ¬ S k) : WrAt w' g base lv xs :=
  ⟨h.blk.chg hc h1, own_chg h.own hc h2⟩
theorem WrAt.ne {w : World} {g base : Nat} {lv : Value} {xs : List UInt8} (h : WrAt w g base lv xs) : lv.ownBlock ≠ some g := own_ne h.own h.blk (by decide)

theorem infoByte : (Try.prog.info? 5).map (fun i => (i.zero, i.size, i.bytes)) = some (some (.int .u8 0), 1, 1) := by kernel_rfl

theorem slice_of {w : World} {base n : Nat} {e : TypeId} {v : Value} {xs : List Value} (h : w.ownsRow base e 1 v (n + 1) xs) : ∃ g c, v = .slice (some ⟨g, 0, none⟩) (n + 1) c := by
  rcases h.2 with ⟨_, h⟩ | ⟨g, c, _, rfl, _⟩
  · omega
  · exact ⟨g, c, rfl⟩

set_option maxRecDepth 100000 in
set_option maxHeartbeats 4000000 in
theorem wrInt_any {w : World} {g base : Nat} {lv : Value} {xs : List UInt8} (h : WrAt w g base lv xs) (v : Int) (h0 : 0 ≤ v) (h1 : v ≤ 4611686018427387904) (hb : base ≤ w.heap.size) (hlen : xs.length ≤ 1000000000) :
    Calls Try.prog 54 #[.pointer (some ⟨g, 0, none⟩), .int .i64 v] w fun e w' => e = .returned (.tuple #[]) ∧
      ∃ lv', WrAt w' g base lv' (xs ++ nb v) ∧ Chg (fun i => i = g ∨ lv.ownBlock = some i) w w' ∧ (lv'.ownBlock = lv.ownBlock ∨ ∃ k, lv'.ownBlock = some k ∧ w.heap.size ≤ k) := by
  go_enter Try.func54, Try.ntmps54
  go_wp2_with fail
  have hx0 : v / 9223372036854775808 = 0 := by omega
  have hx1 := xor0 (v * 2) (by omega) (by omega)
  have hu0 : v * 2 = ((zig v : Nat) : Int) := by rw [zig_pos h0]; omega
  have hub : zig v < 18446744073709551616 := by omega
  rw [hx0, hx1, hu0]
  have hnb : nb v = vb (zig v) := rfl
  generalize zig v = u0 at *
  have hnbh := Lib.hid hnb
  clear hx0 hx1 hu0 hnb
  have hne := h.ne
  go_loopw [4] (fun v4 wr => ∃ (u : Nat) (lv' : Value) (ys : List UInt8), v4 = .int .u64 u ∧ u < 18446744073709551616 ∧ WrAt wr g base lv' (xs ++ ys) ∧ ys ++ vb u = vb u0 ∧ Chg (fun i => i = g ∨ lv.ownBlock = some i) w wr ∧ (lv'.ownBlock = lv.ownBlock ∨ ∃ k, lv'.ownBlock = some k ∧ w.heap.size ≤ k)) (fun v4 _ => (RowKit.intOf v4).toNat)
  case atStart => exact ⟨u0, lv, [], rfl, hub, by rw [List.append_nil]; exact h, rfl, Chg.refl _ _, .inl rfl⟩
  case round =>
    obtain ⟨u, lv', ys, rfl, hu, hW, hys, hck, hloc⟩ := hrel
    have hyl : ys.length ≤ 10 := by
      have h1 := congrArg List.length hys
      have h2 := vb_len10 hub
      rw [List.length_append] at h1
      omega
    have c0 : wr.cell? ⟨g, 0, none⟩ = some lv' := by rw [hW.blk.cell]; rfl
    have c0' : ∀ o, (wr.alloc o).cell? ⟨g, 0, none⟩ = some lv' := fun o => by rw [(hW.blk.alloc o).cell]; rfl
    by_cases hlt : u < 128
    · have hval := encB_lo hlt
      have hvh := Lib.hid hval
      clear hval
      have hcA := (Chg.refl (fun _ => False) wr).alloc (.cells #[.int .u8 u] 5)
      have hWa := hW.chg hcA id (fun _ _ => id)
      have hckA := hck.trans hcA (fun _ _ h => h.elim)
      have hzA := hckA.size
      have hnews := row_cells wr 5 [.int .u8 u]
      have hneA := hWa.ne
      obtain ⟨i0, hi, hz0, hz1, hz2⟩ := info_parts infoByte
      clear hcA hW hck
      have hysh := Lib.hid hys
      clear hys
      go_wp2_with (at_builtin; go_loud (refine wpList_append_own_at _ rfl _ _ 31 rfl base 5 i0 (.int .u8 0) 1 1 Try.underlying31 hi hz0 hz1 hz2 rfl (by decide) lv' (xs ++ ys).length ((xs ++ ys).map encB) rfl (by exact hWa.own) ⟨wr.heap.size, 0, none⟩ 1 1 [.int .u8 u] rfl rfl (by exact hnews) (by intro u hu; simp at hu; subst hu; rfl) (by unfold maxLen; simp; omega) (by simp; omega) (by omega) ?_; intro v' w5 hown5 hgr5 _ hloc5; have hc5 := own_grown hgr5; have hB5 := hWa.blk.chg hc5 hneA; have f5 := hB5.frozen 0; have c5 : w5.cell? ⟨g, 0, none⟩ = some lv' := hB5.cell 0; rw [List.length_append] at hown5; obtain ⟨g5, cp5, rfl⟩ : ∃ g c, v' = .slice (some ⟨g, 0, none⟩) (xs.length + ys.length + 1) c := slice_of hown5; clear hgr5 hnews c0 c0'))
      have hne5 := own_ne hown5 hB5 (by decide)
      obtain ⟨v', hv'⟩ : ∃ v', Value.slice (some ⟨g5, 0, none⟩) (xs.length + ys.length + 1) cp5 = v' := ⟨_, rfl⟩
      rw [hv'] at hown5 hloc5 hne5 ⊢
      have hB6 := hB5.set 0 v'
      have hck5 := hckA.trans hc5 (T := fun i => lv'.ownBlock = some i) (fun i hi h => by
        rcases hloc with e | ⟨k, e, hk⟩
        · exact .inr (by rw [← e]; exact h)
        · rw [e] at h; injection h with h; omega)
      have hck6 := hck5.setCell (p := ⟨g, 0, none⟩) (.inl (.inl rfl)) v'
      have hloc6 : v'.ownBlock = lv.ownBlock ∨ ∃ k, v'.ownBlock = some k ∧ w.heap.size ≤ k := by
        rcases hloc5 with e | e
        · rw [e]; exact hloc
        · exact .inr ⟨_, e, hzA⟩
      have hown6 := own_chg hown5 ((Chg.refl (fun i => i = g) w5).setCell (p := ⟨g, 0, none⟩) (.inl rfl) v') (fun k hk e => hne5 (by rw [hk, e]))
      have hW6 : WrAt (w5.setCell ⟨g, 0, none⟩ v') g base v' (xs ++ ys ++ [UInt8.ofNat u]) := ⟨hB6, by
        rw [List.length_append, List.length_append, List.map_append]
        show World.ownsRow _ _ _ _ _ _ (_ ++ [encB _])
        rw [hvh.out]
        exact hown6⟩
      refine bodyPost_end (v := .tuple #[]) (by simp [results, Try.results54, go_sem]) rfl ⟨rfl, v', ?_, hck6, hloc6⟩
      have e : xs ++ nb v = xs ++ ys ++ [UInt8.ofNat u] := by rw [hnbh.out, ← hysh.out, vb_lo hlt, List.append_assoc]
      rw [e]
      exact hW6
    · have hor := orB u
      have hval := encB_hi u
      have hvh := Lib.hid hval
      clear hval
      have hcA := (Chg.refl (fun _ => False) wr).alloc (.cells #[.int .u8 ((u : Int) % 128 + 128)] 5)
      have hWa := hW.chg hcA id (fun _ _ => id)
      have hckA := hck.trans hcA (fun _ _ h => h.elim)
      have hzA := hckA.size
      have hnews := row_cells wr 5 [.int .u8 ((u : Int) % 128 + 128)]
      have hneA := hWa.ne
      obtain ⟨i0, hi, hz0, hz1, hz2⟩ := info_parts infoByte
      clear hcA hW hck
      have hysh := Lib.hid hys
      clear hys
      go_wp2_with (at_builtin; go_loud (refine wpList_append_own_at _ rfl _ _ 31 rfl base 5 i0 (.int .u8 0) 1 1 Try.underlying31 hi hz0 hz1 hz2 rfl (by decide) lv' (xs ++ ys).length ((xs ++ ys).map encB) rfl (by exact hWa.own) ⟨wr.heap.size, 0, none⟩ 1 1 [.int .u8 ((u : Int) % 128 + 128)] rfl rfl (by exact hnews) (by intro u hu; simp at hu; subst hu; rfl) (by unfold maxLen; simp; omega) (by simp; omega) (by omega) ?_; intro v' w5 hown5 hgr5 _ hloc5; have hc5 := own_grown hgr5; have hB5 := hWa.blk.chg hc5 hneA; have f5 := hB5.frozen 0; have c5 : w5.cell? ⟨g, 0, none⟩ = some lv' := hB5.cell 0; rw [List.length_append] at hown5; obtain ⟨g5, cp5, rfl⟩ : ∃ g c, v' = .slice (some ⟨g, 0, none⟩) (xs.length + ys.length + 1) c := slice_of hown5; clear hgr5 hnews c0 c0'))
      have hne5 := own_ne hown5 hB5 (by decide)
      obtain ⟨v', hv'⟩ : ∃ v', Value.slice (some ⟨g5, 0, none⟩) (xs.length + ys.length + 1) cp5 = v' := ⟨_, rfl⟩
      rw [hv'] at hown5 hloc5 hne5 ⊢
      have hB6 := hB5.set 0 v'
      have hck5 := hckA.trans hc5 (T := fun i => lv'.ownBlock = some i) (fun i hi h => by
        rcases hloc with e | ⟨k, e, hk⟩
        · exact .inr (by rw [← e]; exact h)
        · rw [e] at h; injection h with h; omega)
      have hck6 := hck5.setCell (p := ⟨g, 0, none⟩) (.inl (.inl rfl)) v'
      have hloc6 : v'.ownBlock = lv.ownBlock ∨ ∃ k, v'.ownBlock = some k ∧ w.heap.size ≤ k := by
        rcases hloc5 with e | e
        · rw [e]; exact hloc
        · exact .inr ⟨_, e, hzA⟩
      have hown6 := own_chg hown5 ((Chg.refl (fun i => i = g) w5).setCell (p := ⟨g, 0, none⟩) (.inl rfl) v') (fun k hk e => hne5 (by rw [hk, e]))
      have hW6 : WrAt (w5.setCell ⟨g, 0, none⟩ v') g base v' (xs ++ ys ++ [UInt8.ofNat (u % 128 + 128)]) := ⟨hB6, by
        rw [List.length_append, List.length_append, List.map_append]
        show World.ownsRow _ _ _ _ _ _ (_ ++ [encB _])
        rw [hvh.out]
        exact hown6⟩
      go_roundw
      case rel => exact ⟨u / 128, v', ys ++ [UInt8.ofNat (u % 128 + 128)], by go_num, by omega, by rw [← List.append_assoc]; exact hW6, by rw [← hysh.out, vb_hi (u := u) (by omega), List.append_assoc]; rfl, hck6, hloc6⟩
      case measure => simp [RowKit.intOf]; omega
end Go.Proofs.Ytpbjompopgdbjaa
