/-
  pack: the Writer by its contracts.
-/
import Derived.Test.YtddnpjlcmokbiaaProg
import Derived.Test.YtddnpjlcmokbiaaPackM
import Derived.Test.YtddnpjlcmokbiaaArrG
import Derived.Test.YtddnpjlcmokbiaaRegionC
import Derived.WalkKit
import Derived.Lib.Hide
import Derived.Maps.AppendAt
import Derived.LoopTactic
import Derived.Laws.Bits64
import Derived.Laws.BitsAllLaws
import Derived.IntWalk
import Derived.Laws.IdiomStrings
namespace Go.Proofs.Ytddnpjlcmokbiaa
open Go.RowKit

theorem xor0 (x : Int) (h0 : 0 ≤ x) (h1 : x < 18446744073709551616) : bits .xor .u64 x 0 = x := by
  obtain ⟨n, rfl⟩ : ∃ n : Nat, x = n := ⟨x.toNat, by omega⟩
  have h := bits_xor_u64_nat n 0 (by omega) (by omega)
  simpa using h
set_option maxRecDepth 100000 in
theorem or128 : ∀ a : Nat, a < 256 → a ||| 128 = a % 128 + 128 := by decide
theorem orB (u : Nat) : bits .or .u8 ((u : Int) % 256) 128 = (u : Int) % 128 + 128 := by
  have h := u8_or_nat (u % 256) 128 (by omega) (by omega)
  have e : ((u % 256 : Nat) : Int) = (u : Int) % 256 := by omega
  rw [e] at h
  rw [show (128 : Int) = ((128 : Nat) : Int) from rfl, h, or128 _ (by omega)]
  omega

/-- A writer: its block, the slice it keeps, the bytes in it. -/
structure WrAt (w : World) (g base : Nat) (lv : Value) (xs : List UInt8) : Prop where
  blk : Blk w g 86 #[lv]
  own : w.ownsRow base 5 1 lv xs.length (xs.map encB)
theorem WrAt.chg {w w' : World} {g base : Nat} {lv : Value} {xs : List UInt8} {S : Nat → Prop} (h : WrAt w g base lv xs) (hc : Chg S w w') (h1 : ¬ S g) (h2 : ∀ k, lv.ownBlock = some k → ¬ S k) : WrAt w' g base lv xs :=
  ⟨h.blk.chg hc h1, own_chg h.own hc h2⟩
theorem WrAt.ne {w : World} {g base : Nat} {lv : Value} {xs : List UInt8} (h : WrAt w g base lv xs) : lv.ownBlock ≠ some g := own_ne h.own h.blk (by decide)

theorem infoByte : (Try.prog.info? 5).map (fun i => (i.zero, i.size, i.bytes)) = some (some (.int .u8 0), 1, 1) := by kernel_rfl

theorem slice_of {w : World} {base n : Nat} {e : TypeId} {v : Value} {xs : List Value} (h : w.ownsRow base e 1 v (n + 1) xs) : ∃ g c, v = .slice (some ⟨g, 0, none⟩) (n + 1) c := by
  rcases h.2 with ⟨_, h⟩ | ⟨g, c, _, rfl, _⟩
  · omega
  · exact ⟨g, c, rfl⟩

set_option maxRecDepth 100000 in
set_option maxHeartbeats 4000000 in
theorem wrInt_any {w : World} {g base : Nat} {lv : Value} {xs : List UInt8} (h : WrAt w g base lv xs) (v : Int) (h0 : 0 ≤ v) (h1 : v ≤ 4611686018427387904) (hb : base ≤ w.heap.size) (hlen : xs.length ≤ 1000000000) :
    Calls Try.prog 41 #[.pointer (some ⟨g, 0, none⟩), .int .i64 v] w fun e w' => e = .returned (.tuple #[]) ∧
      ∃ lv', WrAt w' g base lv' (xs ++ nb v) ∧ Chg (fun i => i = g ∨ lv.ownBlock = some i) w w' ∧ (lv'.ownBlock = lv.ownBlock ∨ ∃ k, lv'.ownBlock = some k ∧ w.heap.size ≤ k) := by
  go_enter Try.func41, Try.ntmps41
  go_wp2_with fail
  have hx0 : v / 9223372036854775808 = 0 := by omega
  have hx1 := xor0 (v * 2) (by omega) (by omega)
  have hu0 : v * 2 = ((zig v : Nat) : Int) := by rw [zig_pos h0]; omega
  have hub : zig v < 18446744073709551616 := by omega
  rw [hx0, hx1, hu0]
  have hnb : nb v = vb (zig v) := rfl
  generalize zig v = u0 at *
  have hnbh := Lib.hid hnb
  clear hx0 hx1 hu0 hnb
  have hne := h.ne
  go_loopw [4] (fun v4 wr => ∃ (u : Nat) (lv' : Value) (ys : List UInt8), v4 = .int .u64 u ∧ u < 18446744073709551616 ∧ WrAt wr g base lv' (xs ++ ys) ∧ ys ++ vb u = vb u0 ∧ Chg (fun i => i = g ∨ lv.ownBlock = some i) w wr ∧ (lv'.ownBlock = lv.ownBlock ∨ ∃ k, lv'.ownBlock = some k ∧ w.heap.size ≤ k)) (fun v4 _ => (RowKit.intOf v4).toNat)
  case atStart => exact ⟨u0, lv, [], rfl, hub, by rw [List.append_nil]; exact h, rfl, Chg.refl _ _, .inl rfl⟩
  case round =>
    obtain ⟨u, lv', ys, rfl, hu, hW, hys, hck, hloc⟩ := hrel
    have hyl : ys.length ≤ 10 := by
      have h1 := congrArg List.length hys
      have h2 := vb_len10 hub
      rw [List.length_append] at h1
      omega
    have c0 : wr.cell? ⟨g, 0, none⟩ = some lv' := by rw [hW.blk.cell]; rfl
    have c0' : ∀ o, (wr.alloc o).cell? ⟨g, 0, none⟩ = some lv' := fun o => by rw [(hW.blk.alloc o).cell]; rfl
    by_cases hlt : u < 128
    · have hval := encB_lo hlt
      have hvh := Lib.hid hval
      clear hval
      have hcA := (Chg.refl (fun _ => False) wr).alloc (.cells #[.int .u8 u] 5)
      have hWa := hW.chg hcA id (fun _ _ => id)
      have hckA := hck.trans hcA (fun _ _ h => h.elim)
      have hzA := hckA.size
      have hnews := row_cells wr 5 [.int .u8 u]
      have hneA := hWa.ne
      obtain ⟨i0, hi, hz0, hz1, hz2⟩ := info_parts infoByte
      clear hcA hW hck
      have hysh := Lib.hid hys
      clear hys
      go_wp2_with (at_builtin; go_loud (refine wpList_append_own_at _ rfl _ _ 58 rfl base 5 i0 (.int .u8 0) 1 1 Try.underlying58 hi hz0 hz1 hz2 rfl (by decide) lv' (xs ++ ys).length ((xs ++ ys).map encB) rfl (by exact hWa.own) ⟨wr.heap.size, 0, none⟩ 1 1 [.int .u8 u] rfl rfl (by exact hnews) (by intro u hu; simp at hu; subst hu; rfl) (by unfold maxLen; simp; omega) (by simp; omega) (by omega) ?_; intro v' w5 hown5 hgr5 _ hloc5; have hc5 := own_grown hgr5; have hB5 := hWa.blk.chg hc5 hneA; have f5 := hB5.frozen 0; have c5 : w5.cell? ⟨g, 0, none⟩ = some lv' := hB5.cell 0; rw [List.length_append] at hown5; obtain ⟨g5, cp5, rfl⟩ : ∃ g c, v' = .slice (some ⟨g, 0, none⟩) (xs.length + ys.length + 1) c := slice_of hown5; clear hgr5 hnews c0 c0'))
      have hne5 := own_ne hown5 hB5 (by decide)
      obtain ⟨v', hv'⟩ : ∃ v', Value.slice (some ⟨g5, 0, none⟩) (xs.length + ys.length + 1) cp5 = v' := ⟨_, rfl⟩
      rw [hv'] at hown5 hloc5 hne5 ⊢
      have hB6 := hB5.set 0 v'
      have hck5 := hckA.trans hc5 (T := fun i => lv'.ownBlock = some i) (fun i hi h => by
        rcases hloc with e | ⟨k, e, hk⟩
        · exact .inr (by rw [← e]; exact h)
        · rw [e] at h; injection h with h; omega)
      have hck6 := hck5.setCell (p := ⟨g, 0, none⟩) (.inl (.inl rfl)) v'
      have hloc6 : v'.ownBlock = lv.ownBlock ∨ ∃ k, v'.ownBlock = some k ∧ w.heap.size ≤ k := by
        rcases hloc5 with e | e
        · rw [e]; exact hloc
        · exact .inr ⟨_, e, hzA⟩
      have hown6 := own_chg hown5 ((Chg.refl (fun i => i = g) w5).setCell (p := ⟨g, 0, none⟩) (.inl rfl) v') (fun k hk e => hne5 (by rw [hk, e]))
      have hW6 : WrAt (w5.setCell ⟨g, 0, none⟩ v') g base v' (xs ++ ys ++ [UInt8.ofNat u]) := ⟨hB6, by
        rw [List.length_append, List.length_append, List.map_append]
        show World.ownsRow _ _ _ _ _ _ (_ ++ [encB _])
        rw [hvh.out]
        exact hown6⟩
      refine bodyPost_end (v := .tuple #[]) (by simp [results, Try.results41, go_sem]) rfl ⟨rfl, v', ?_, hck6, hloc6⟩
      have e : xs ++ nb v = xs ++ ys ++ [UInt8.ofNat u] := by rw [hnbh.out, ← hysh.out, vb_lo hlt, List.append_assoc]
      rw [e]
      exact hW6
    · have hor := orB u
      have hval := encB_hi u
      have hvh := Lib.hid hval
      clear hval
      have hcA := (Chg.refl (fun _ => False) wr).alloc (.cells #[.int .u8 ((u : Int) % 128 + 128)] 5)
      have hWa := hW.chg hcA id (fun _ _ => id)
      have hckA := hck.trans hcA (fun _ _ h => h.elim)
      have hzA := hckA.size
      have hnews := row_cells wr 5 [.int .u8 ((u : Int) % 128 + 128)]
      have hneA := hWa.ne
      obtain ⟨i0, hi, hz0, hz1, hz2⟩ := info_parts infoByte
      clear hcA hW hck
      have hysh := Lib.hid hys
      clear hys
      go_wp2_with (at_builtin; go_loud (refine wpList_append_own_at _ rfl _ _ 58 rfl base 5 i0 (.int .u8 0) 1 1 Try.underlying58 hi hz0 hz1 hz2 rfl (by decide) lv' (xs ++ ys).length ((xs ++ ys).map encB) rfl (by exact hWa.own) ⟨wr.heap.size, 0, none⟩ 1 1 [.int .u8 ((u : Int) % 128 + 128)] rfl rfl (by exact hnews) (by intro u hu; simp at hu; subst hu; rfl) (by unfold maxLen; simp; omega) (by simp; omega) (by omega) ?_; intro v' w5 hown5 hgr5 _ hloc5; have hc5 := own_grown hgr5; have hB5 := hWa.blk.chg hc5 hneA; have f5 := hB5.frozen 0; have c5 : w5.cell? ⟨g, 0, none⟩ = some lv' := hB5.cell 0; rw [List.length_append] at hown5; obtain ⟨g5, cp5, rfl⟩ : ∃ g c, v' = .slice (some ⟨g, 0, none⟩) (xs.length + ys.length + 1) c := slice_of hown5; clear hgr5 hnews c0 c0'))
      have hne5 := own_ne hown5 hB5 (by decide)
      obtain ⟨v', hv'⟩ : ∃ v', Value.slice (some ⟨g5, 0, none⟩) (xs.length + ys.length + 1) cp5 = v' := ⟨_, rfl⟩
      rw [hv'] at hown5 hloc5 hne5 ⊢
      have hB6 := hB5.set 0 v'
      have hck5 := hckA.trans hc5 (T := fun i => lv'.ownBlock = some i) (fun i hi h => by
        rcases hloc with e | ⟨k, e, hk⟩
        · exact .inr (by rw [← e]; exact h)
        · rw [e] at h; injection h with h; omega)
      have hck6 := hck5.setCell (p := ⟨g, 0, none⟩) (.inl (.inl rfl)) v'
      have hloc6 : v'.ownBlock = lv.ownBlock ∨ ∃ k, v'.ownBlock = some k ∧ w.heap.size ≤ k := by
        rcases hloc5 with e | e
        · rw [e]; exact hloc
        · exact .inr ⟨_, e, hzA⟩
      have hown6 := own_chg hown5 ((Chg.refl (fun i => i = g) w5).setCell (p := ⟨g, 0, none⟩) (.inl rfl) v') (fun k hk e => hne5 (by rw [hk, e]))
      have hW6 : WrAt (w5.setCell ⟨g, 0, none⟩ v') g base v' (xs ++ ys ++ [UInt8.ofNat (u % 128 + 128)]) := ⟨hB6, by
        rw [List.length_append, List.length_append, List.map_append]
        show World.ownsRow _ _ _ _ _ _ (_ ++ [encB _])
        rw [hvh.out]
        exact hown6⟩
      go_roundw
      case rel => exact ⟨u / 128, v', ys ++ [UInt8.ofNat (u % 128 + 128)], by go_num, by omega, by rw [← List.append_assoc]; exact hW6, by rw [← hysh.out, vb_hi (u := u) (by omega), List.append_assoc]; rfl, hck6, hloc6⟩
      case measure => simp [RowKit.intOf]; omega
end Go.Proofs.Ytddnpjlcmokbiaa

namespace Go.Proofs.Ytddnpjlcmokbiaa
open Go.RowKit

theorem bytes_cells {w : World} {base : Nat} {v : Value} {xs : List UInt8} (h : w.ownsRow base 5 1 v xs.length (xs.map encB)) (hne : xs ≠ []) :
    ∃ g cap, v = .slice (some ⟨g, 0, none⟩) xs.length cap ∧ base ≤ g ∧ g < w.heap.size ∧ ∀ j u, (xs.map encB)[j]? = some u → w.cell? ((⟨g, 0, none⟩ : Addr).add j) = some u := by
  rcases h.2 with ⟨_, h0⟩ | ⟨g, cap, cur, rfl, hb, hh, _, _, _, ht⟩
  · exact absurd (List.length_eq_zero_iff.1 h0) hne
  · refine ⟨g, cap, rfl, hb, (Array.getElem?_eq_some_iff.1 hh).1, fun j u hj => ?_⟩
    rw [← ht, List.getElem?_take] at hj
    split at hj
    · have hc := cell_of_row w g j cur _ (0, 0) hh
      have he : (⟨g, 0, none⟩ : Addr).add j = ⟨g, j, none⟩ := by unfold Addr.add; split <;> simp_all
      rw [he, hc, ← hj]; simp
    · cases hj

/-- 'string(b)'. -/
theorem bytes_str {w : World} {g cap : Nat} {xs : List UInt8} (h : ∀ j u, (xs.map encB)[j]? = some u → w.cell? ((⟨g, 0, none⟩ : Addr).add j) = some u) :
    (convert 58 9 (.slice (some ⟨g, 0, none⟩) xs.length cap)).run Try.prog w = .ok (.string ⟨xs.toArray⟩) w :=
  run_convert_bytes_back w 58 9 5 ⟨g, 0, none⟩ cap xs Try.underlying58 Try.underlying5 Try.underlying9 (fun j hj => by
    refine h j _ ?_
    rw [List.getElem?_map, List.getElem?_eq_getElem hj]
    rfl)

set_option maxRecDepth 100000 in
set_option maxHeartbeats 4000000 in
theorem wrBytes_any {w : World} {g base : Nat} {lv : Value} {xs : List UInt8} (h : WrAt w g base lv xs) (hne : xs ≠ []) (hlen : xs.length ≤ 1000000000) :
    Calls Try.prog 43 #[.pointer (some ⟨g, 0, none⟩)] w fun e w' => ∃ v, e = .returned v ∧ w'.ownsRow w.heap.size 5 1 v xs.length (xs.map encB) ∧ Chg (fun _ => False) w w' := by
  obtain ⟨gb, cap, rfl, hbb, hbl, hcell⟩ := bytes_cells h.own hne
  have hcA := (Chg.refl (fun _ => False) w).alloc (.cells #[] 5)
  have hA := h.chg hcA id (fun _ _ => id)
  have cA : (w.alloc (.cells #[] 5)).cell? ⟨g, 0, none⟩ = some (.slice (some ⟨gb, 0, none⟩) xs.length cap) := by rw [hA.blk.cell]; rfl
  have hown0 : (w.alloc (.cells #[] 5)).ownsRow w.heap.size 5 1 (.slice (some ⟨w.heap.size, 0, none⟩) 0 0) 0 [] := World.ownsRow_made w #[] 0 (Nat.le_refl _) (by unfold maxLen; omega) rfl
  have hnews : ∀ j u, (xs.map encB)[j]? = some u → (w.alloc (.cells #[] 5)).cell? ((⟨gb, 0, none⟩ : Addr).add j) = some u := fun j u hj => by
    have hb : ((⟨gb, 0, none⟩ : Addr).add j).block = gb := by unfold Addr.add; split <;> rfl
    rw [hcA.cell (by rw [hb]; exact hbl) id]
    exact hcell j u hj
  have hone : ∀ u ∈ xs.map encB, u.oneCell' = true := by
    intro u hu
    obtain ⟨b, _, rfl⟩ := List.mem_map.1 hu
    rfl
  have hnh := Lib.hid hnews
  have hoh := Lib.hid hone
  obtain ⟨i0, hi, hz0, hz1, hz2⟩ := info_parts infoByte
  clear hcell hnews hone hA
  go_enter Try.func43, Try.ntmps43
  go_wp2_with (at_builtin; go_loud (refine wpList_append_own_at _ rfl _ _ 58 rfl w.heap.size 5 i0 (.int .u8 0) 1 1 Try.underlying58 hi hz0 hz1 hz2 rfl (by decide) (.slice (some ⟨w.heap.size, 0, none⟩) 0 0) 0 [] rfl (by exact hown0) ⟨gb, 0, none⟩ xs.length cap (xs.map encB) rfl (by simp) (by exact hnh.out) (by exact hoh.out) (by unfold maxLen; omega) (by omega) (by rw [alloc_size]; omega) ?_; intro v' w5 hown5 hgr5 _ hloc5))
  go_ret
  have hc5 := own_grown hgr5
  rw [Nat.zero_add, List.nil_append] at hown5
  refine ⟨v', rfl, hown5, hcA.trans hc5 (fun i hi h => ?_)⟩
  simp [Value.ownBlock] at h
  omega
end Go.Proofs.Ytddnpjlcmokbiaa

namespace Go.Proofs.Ytddnpjlcmokbiaa
open Go.RowKit

/-- A writer of blocks from B on, none of them of P. -/
def Wr (w : World) (g B : Nat) (P : Nat → Prop) (xs : List UInt8) : Prop := ∃ lv, WrAt w g B lv xs ∧ B ≤ g ∧ ¬ P g ∧ ∀ k, lv.ownBlock = some k → ¬ P k

theorem Wr.new {w : World} {P : Nat → Prop} (hP : ∀ i, P i → i < w.heap.size) : Wr (w.alloc (.cells #[.slice none 0 0] 86)) w.heap.size w.heap.size P [] :=
  ⟨.slice none 0 0, ⟨Blk.new w _ _, ⟨rfl, .inl ⟨rfl, rfl⟩⟩⟩, Nat.le_refl _, fun h => Nat.lt_irrefl _ (hP _ h), fun k hk => by simp [Value.ownBlock] at hk⟩
theorem Wr.chg {w w' : World} {g B : Nat} {P S : Nat → Prop} {xs : List UInt8} (h : Wr w g B P xs) (hc : Chg S w w') (hs : ∀ i, S i → P i ∨ i < B) : Wr w' g B P xs := by
  obtain ⟨lv, h1, h2, h3, h4⟩ := h
  refine ⟨lv, h1.chg hc (fun hS => ?_) (fun k hk hS => ?_), h2, h3, h4⟩
  · rcases hs _ hS with h | h
    · exact h3 h
    · omega
  · rcases hs _ hS with h | h
    · exact h4 k hk h
    · have := (h1.own.lt k hk).1; omega
theorem Wr.keep {w w' : World} {g B : Nat} {P : Nat → Prop} {xs : List UInt8} (h : Wr w g B P xs) (hc : Chg (fun _ => False) w w') : Wr w' g B P xs := h.chg hc (fun _ h => h.elim)
theorem Wr.mono {w : World} {g B : Nat} {P Q : Nat → Prop} {xs : List UInt8} (h : Wr w g B P xs) (hpq : ∀ i, Q i → P i ∨ w.heap.size ≤ i) : Wr w g B Q xs := by
  obtain ⟨lv, h1, h2, h3, h4⟩ := h
  refine ⟨lv, h1, h2, fun hQ => ?_, fun k hk hQ => ?_⟩
  · rcases hpq _ hQ with h | h
    · exact h3 h
    · have := h1.blk.lt; omega
  · rcases hpq _ hQ with h | h
    · exact h4 k hk h
    · have := (h1.own.lt k hk).2; omega
theorem Wr.lt {w : World} {g B : Nat} {P : Nat → Prop} {xs : List UInt8} (h : Wr w g B P xs) : g < w.heap.size := by
  obtain ⟨lv, h1, _⟩ := h
  exact h1.blk.lt
/-- The blocks that the writer has. -/
theorem Wr.int {w : World} {g B : Nat} {P : Nat → Prop} {xs : List UInt8} (h : Wr w g B P xs) (hP : ∀ i, P i → i < w.heap.size) (hB : B ≤ w.heap.size) (v : Int) (h0 : 0 ≤ v) (h1 : v ≤ 4611686018427387904) (hlen : xs.length ≤ 1000000000) :
    Calls Try.prog 41 #[.pointer (some ⟨g, 0, none⟩), .int .i64 v] w fun e w' => e = .returned (.tuple #[]) ∧ Wr w' g B P (xs ++ nb v) ∧ Chg (fun i => B ≤ i ∧ ¬ P i) w w' := by
  obtain ⟨lv, hW, h2, h3, h4⟩ := h
  refine (wrInt_any hW v h0 h1 hB hlen).mono ?_
  rintro e w' ⟨rfl, lv', hW', hc, hl⟩
  refine ⟨rfl, ⟨lv', hW', h2, h3, fun k hk hPk => ?_⟩, hc.mono (fun i hi hS => ?_)⟩
  · rcases hl with e | ⟨k', e, hk'⟩
    · exact h4 k (by rw [← e]; exact hk) hPk
    · rw [e] at hk; injection hk with hk; subst hk
      have := hP _ hPk; omega
  · rcases hS with rfl | e
    · exact ⟨h2, h3⟩
    · exact ⟨(hW.own.lt i e).1, h4 i e⟩
theorem Wr.bytes {w : World} {g B : Nat} {P : Nat → Prop} {xs : List UInt8} (h : Wr w g B P xs) (hne : xs ≠ []) (hlen : xs.length ≤ 1000000000) :
    Calls Try.prog 43 #[.pointer (some ⟨g, 0, none⟩)] w fun e w' => ∃ v, e = .returned v ∧ w'.ownsRow w.heap.size 5 1 v xs.length (xs.map encB) ∧ Chg (fun _ => False) w w' := by
  obtain ⟨lv, hW, _⟩ := h
  exact wrBytes_any hW hne hlen
theorem nb_ne (v : Int) : nb v ≠ [] := by
  unfold nb
  by_cases h : zig v < 128
  · rw [vb_lo h]; simp
  · rw [vb_hi (by omega)]; simp
theorem flat_len {f : Int → List UInt8} {c : Nat} : ∀ (l : List Int), (∀ b ∈ l, (f b).length ≤ c) → (l.flatMap f).length ≤ l.length * c
  | [], _ => by simp
  | b :: l, h => by
    rw [List.flatMap_cons, List.length_append, List.length_cons, Nat.succ_mul]
    have h1 := h b (List.mem_cons_self ..)
    have h2 := flat_len l (fun x hx => h x (List.mem_cons_of_mem _ hx))
    omega
theorem flat_take {f : Int → List UInt8} {l : List Int} {k : Nat} {b : Int} (h : l[k]? = some b) : (l.take (k + 1)).flatMap f = (l.take k).flatMap f ++ f b := by
  rw [List.take_add_one, h, Option.toList_some, List.flatMap_append]
  simp
/-- 'append(b, x)' of one byte, by a list of bytes. -/
theorem wpList_append_byte {w : World} {ops : Array Oper} {rest : List Oper} {o : Oper} {a : Act} {Q : Exit → Act → World → Prop} (hgd : o.guard = none) (s x : Operand)
    (ho : o.op = .call { callee := .builtin .append, args := #[s, x], argTypes := #[58, 58] })
    (base : Nat) (v : Value) (ys : List UInt8) (b : UInt8) (g : Nat) (u : Value) (hs : a.eval s = v) (hown : w.ownsRow base 5 1 v ys.length (ys.map encB)) (hx : a.eval x = .slice (some ⟨g, 0, none⟩) 1 1) (hu : encB b = u)
    (hc : w.cell? ⟨g, 0, none⟩ = some u) (hlen : ys.length ≤ 1000000000) (hbase : base ≤ w.heap.size)
    (h : ∀ g5 cp5 w', w'.ownsRow base 5 1 (.slice (some ⟨g5, 0, none⟩) (ys.length + 1) cp5) (ys ++ [b]).length ((ys ++ [b]).map encB) → Chg (fun i => v.ownBlock = some i) w w' → (v.ownBlock = some g5 ∨ g5 = w.heap.size) →
      (convert 58 9 (.slice (some ⟨g5, 0, none⟩) (ys.length + 1) cp5)).run Try.prog w' = .ok (.string ⟨(ys ++ [b]).toArray⟩) w' →
      wpList Try.prog ops Q rest (a.put o.dst (.slice (some ⟨g5, 0, none⟩) (ys.length + 1) cp5)) w') :
    wpList Try.prog ops Q (o :: rest) a w := by
  obtain ⟨i0, hi, hz0, hz1, hz2⟩ := info_parts infoByte
  refine wpList_append_own_at _ hgd s x 58 ho base 5 i0 (.int .u8 0) 1 1 Try.underlying58 hi hz0 hz1 hz2 rfl (by decide) v ys.length (ys.map encB) hs hown ⟨g, 0, none⟩ 1 1 [u] hx rfl ?_ ?_ (by unfold maxLen; omega) (by omega) hbase ?_
  · intro j y hj
    match j, hj with
    | 0, hj =>
      simp at hj
      subst hj
      simpa [Addr.add] using hc
    | j + 1, hj => simp at hj
  · intro y hy
    simp at hy
    subst hy
    rw [← hu]; rfl
  · intro v' w' hown' hgr _ hloc
    have e1 : (ys ++ [b]).length = ys.length + 1 := by simp
    have hown6 : w'.ownsRow base 5 1 v' (ys ++ [b]).length ((ys ++ [b]).map encB) := by
      rw [e1, List.map_append]
      show World.ownsRow _ _ _ _ _ _ (_ ++ [encB b])
      rw [hu]
      exact hown'
    obtain ⟨g5, cp5, rfl, _, _, hcells⟩ := bytes_cells hown6 (by simp)
    have hcv := bytes_str (cap := cp5) hcells
    rw [e1] at hcv hloc
    rw [e1]
    refine h g5 cp5 w' ?_ (own_grown hgr) ?_ hcv
    · rw [e1] at hown6 ⊢
      exact hown6
    · rcases hloc with e | e
      · exact .inl (by rw [← e]; rfl)
      · simp [Value.ownBlock] at e
        exact .inr e

/-- Bytes as a string. -/
def bstr (xs : List UInt8) : ByteArray := ⟨xs.toArray⟩
end Go.Proofs.Ytddnpjlcmokbiaa
