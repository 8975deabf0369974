/-
  pack: Sum by its contract; bytes that can be read.
-/
import Derived.Test.YtpbjompopgdbjaaZRowX
import Derived.Test.YtpbjompopgdbjaaFrmM
import Derived.Laws.Bits64
import Derived.Laws.BitsAllLaws
import Derived.IntWalk
namespace Go.Proofs.Ytpbjompopgdbjaa
open Go.RowKit Go.Maps

theorem ofInt_64 (a : Nat) (ha : a < 18446744073709551616) : (BitVec.ofInt 64 (a : Int)).toNat = a := by
  rw [BitVec.ofInt_natCast, BitVec.toNat_ofNat]
  exact Nat.mod_eq_of_lt (by omega)
theorem i64_or_nat (a b : Nat) (ha : a < 4611686018427387904) (hb : b < 4611686018427387904) : bits .or .i64 (a : Int) (b : Int) = ((a ||| b : Nat) : Int) := by
  have hx : a ||| b < 2 ^ 62 := Nat.or_lt_two_pow (by omega) (by omega)
  show IntKind.i64.wrap ((BitVec.ofInt 64 (a : Int) ||| BitVec.ofInt 64 (b : Int)).toNat : Int) = _
  rw [BitVec.toNat_or, ofInt_64 a (by omega), ofInt_64 b (by omega), IntKind.wrap_i64]
  omega
theorem RowB.byt {w : World} {ao : Option Addr} {off cap rb : Nat} {bs : List UInt8} (h : RowB w ao off cap rb bs) : BytIn w ao bs := by
  intro j b hj
  have hjl := (List.getElem?_eq_some_iff.1 hj).1
  have hc : 0 < cap := by have := h.came.le; omega
  refine ⟨⟨rb, off, none⟩, h.came.addr hc, h.came.lt hc, ?_⟩
  rw [addr_at]
  refine h.came.olds j _ ?_
  unfold bcells
  rw [List.getElem?_map, hj]
  rfl
theorem add_succ (a : Addr) (k : Nat) : a.add (k + 1) = ⟨a.block, a.off + (k + 1), none⟩ := by unfold Addr.add; rw [if_neg (by omega)]
theorem add_blk (a : Addr) (k : Nat) : (a.add k).block = a.block := by unfold Addr.add; split <;> rfl
theorem BytIn.at {w : World} {ad : Option Addr} {l : List UInt8} (h : BytIn w ad l) {w' : World} (hc : ∀ i, i < w.heap.size → w'.heap[i]? = w.heap[i]?) (hz : w.heap.size ≤ w'.heap.size) : BytIn w' ad l := by
  intro j b hj
  obtain ⟨a', h1, h2, h3⟩ := h j b hj
  exact ⟨a', h1, by omega, (World.cell?_of_block (by rw [add_blk]; exact hc _ h2)).trans h3⟩
theorem BytIn.chg {w : World} {ad : Option Addr} {l : List UInt8} (h : BytIn w ad l) {w' : World} {S : Nat → Prop} (hc : Chg S w w') (hS : ∀ i, i < w.heap.size → ¬ S i) : BytIn w' ad l := h.at (fun i hi => hc.block i hi (hS i hi)) hc.size
theorem BytIn.sub {w : World} {a : Addr} {l : List UInt8} (h : BytIn w (some a) l) (k n : Nat) : BytIn w (some (a.add k)) ((l.drop k).take n) := by
  intro j b hj
  have hjn : j < n := by
    have := (List.getElem?_eq_some_iff.1 hj).1
    rw [List.length_take] at this
    omega
  rw [List.getElem?_take_of_lt hjn, List.getElem?_drop] at hj
  obtain ⟨a', h1, h2, h3⟩ := h _ b hj
  cases h1
  refine ⟨a.add k, rfl, by rw [add_blk]; exact h2, ?_⟩
  rw [Go.Deep.add_add]
  exact h3
theorem BytIn.nil (w : World) (ad : Option Addr) : BytIn w ad [] := fun j b hj => by simp at hj
theorem BytIn.some {w : World} {ad : Option Addr} {l : List UInt8} (h : BytIn w ad l) (hl : 1 ≤ l.length) : ∃ a, ad = some a := by
  obtain ⟨b, hb⟩ : ∃ b, l[0]? = Option.some b := ⟨_, List.getElem?_eq_getElem (by omega)⟩
  obtain ⟨a, h1, _⟩ := h 0 b hb
  exact ⟨a, h1⟩

set_option maxRecDepth 100000 in
set_option maxHeartbeats 1000000 in
theorem sum_any {w : World} {ad : Option Addr} {l : List UInt8} (h : BytIn w ad l) (c : Nat) (hl : l.length ≤ 1000000) :
    Calls Try.prog 53 #[.slice ad l.length c] w fun e w' => e = .returned (.int .u32 (crc l : Nat)) ∧ w' = w := by
  go_enter Try.func53, Try.ntmps53
  go_wp2_with fail
  go_loopw [3, 9] (fun v3 v9 wr => ∃ k : Nat, v9 = .int .i64 k ∧ k ≤ l.length ∧ wr = w ∧ v3 = .int .u32 (crcs (l.take k) : Nat)) (fun _ v9 _ => 2000000 - (RowKit.intOf v9).toNat)
  case atStart => exact ⟨0, rfl, Nat.zero_le _, rfl, rfl⟩
  case round =>
    obtain ⟨k, rfl, hk, rfl, rfl⟩ := hrel
    have hlt := crcs_lt (l.take k)
    by_cases hkl : k < l.length
    · obtain ⟨b, hb⟩ : ∃ b, l[k]? = some b := ⟨_, List.getElem?_eq_getElem hkl⟩
      obtain ⟨a', rfl, _, k0⟩ := h k b hb
      have hsn : l.take (k + 1) = l.take k ++ [b] := by rw [List.take_add_one, hb]; rfl
      have Hsn := Lib.hid hsn
      have hx : bits .xor .u32 (crcs (l.take k) : Int) ((b.toNat : Int) % 4294967296) = ((crcs (l.take k) ^^^ b.toNat : Nat) : Int) := by
        have hb := b.toNat_lt
        rw [show ((b.toNat : Int) % 4294967296) = (b.toNat : Int) by omega]
        exact u32_xor_nat _ _ hlt (by omega)
      have hxl := crcX_lt hlt b
      have Hby := Lib.hid (show crcByte (crcs (l.take k)) b = crcBits 8 (crcs (l.take k) ^^^ b.toNat) from rfl)
      have Hc : RowKit.Hid (crcs (l.take (k + 1)) = crcByte (crcs (l.take k)) b) := Lib.hid (by rw [hsn, crcs_snoc])
      clear hsn hb
      generalize crcs (l.take k) = C at *
      go_wp2_with fail
      clear hx
      generalize C ^^^ b.toNat = X at *
      go_loopw [3, 17] (fun v3 v17 w2 => ∃ j : Nat, v17 = .int .i64 j ∧ j ≤ 8 ∧ w2 = wr ∧ v3 = .int .u32 (crcBits j X : Nat)) (fun _ v17 _ => 100 - (RowKit.intOf v17).toNat)
      case atStart => exact ⟨0, rfl, Nat.zero_le _, rfl, rfl⟩
      case round =>
        obtain ⟨j, rfl, hj, rfl, rfl⟩ := hrel
        have hlt2 := crcBits_lt hxl j
        by_cases hj8 : j < 8
        · have Hst := Lib.hid (show crcBits (j + 1) X = crcBit (crcBits j X) from rfl)
          generalize crcBits j X = Y at *
          have hx2 : bits .xor .u32 ((Y : Int) / 2) 3988292384 = ((Y / 2 ^^^ 3988292384 : Nat) : Int) := u32_xor_nat (Y / 2) 3988292384 (by omega) (by omega)
          have Hh : RowKit.Hid ((((Y / 2 : Nat) : Int)) = (Y : Int) / 2) := Lib.hid (by omega)
          have hand : bits .and .u32 (Y : Int) 1 = ((Y % 2 : Nat) : Int) := by
            have h1 := u32_and_nat Y 1 (by omega) (by omega)
            rw [Nat.and_one_is_mod] at h1
            exact h1
          by_cases hod : Y % 2 = 1
          · have hod2 : (bits .and .u32 (Y : Int) 1 == 1) = true := by rw [hand, hod]; rfl
            clear hand
            go_wp2_with fail
            go_roundw
            case rel => exact ⟨j + 1, by go_num, by omega, trivial, by rw [Hst.out]; unfold crcBit; rw [if_pos hod]⟩
            case measure => simp [RowKit.intOf]; omega
          · have hod2 : (bits .and .u32 (Y : Int) 1 == 1) = false := by rw [hand, show Y % 2 = 0 by omega]; rfl
            clear hand
            go_wp2_with fail
            go_roundw
            case rel => exact ⟨j + 1, by go_num, by omega, trivial, by rw [Hst.out]; unfold crcBit; rw [if_neg hod, Hh.out]⟩
            case measure => simp [RowKit.intOf]; omega
        · have hj9 : j = 8 := by omega
          subst hj9
          go_wp2_with fail
          go_roundw
          case rel => exact ⟨k + 1, by go_num, by omega, trivial, by rw [Hc.out, Hby.out]⟩
          case measure => simp [RowKit.intOf]; omega
    · have hke : k = l.length := by omega
      subst hke
      rw [List.take_length] at *
      have hx : bits .xor .u32 IntKind.u32.max (crcs l : Int) = (crc l : Nat) := u32_xor_nat 4294967295 _ (by decide) hlt
      go_wp2_with fail
      go_ret
      exact ⟨rfl, rfl⟩
end Go.Proofs.Ytpbjompopgdbjaa
