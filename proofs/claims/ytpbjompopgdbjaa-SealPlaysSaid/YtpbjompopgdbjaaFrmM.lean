/-
  frames in plain words: the sum of bytes, a record in its frame, the records of a file.
-/
import Derived.RowKit
namespace Go.Proofs.Ytpbjompopgdbjaa

def crcBit (c : Nat) : Nat := if c % 2 = 1 then c / 2 ^^^ 3988292384 else c / 2
def crcBits : Nat → Nat → Nat
  | 0, c => c
  | k + 1, c => crcBit (crcBits k c)
def crcByte (c : Nat) (x : UInt8) : Nat := crcBits 8 (c ^^^ x.toNat)
def crcs (l : List UInt8) : Nat := l.foldl crcByte 4294967295
def crc (l : List UInt8) : Nat := 4294967295 ^^^ crcs l
theorem crcBit_lt {c : Nat} (h : c < 4294967296) : crcBit c < 4294967296 := by
  unfold crcBit
  split
  · exact Nat.xor_lt_two_pow (n := 32) (by omega) (by omega)
  · omega
theorem crcBits_lt {c : Nat} (h : c < 4294967296) : ∀ k, crcBits k c < 4294967296
  | 0 => h
  | k + 1 => crcBit_lt (crcBits_lt h k)
theorem crcX_lt {c : Nat} (h : c < 4294967296) (x : UInt8) : c ^^^ x.toNat < 4294967296 := Nat.xor_lt_two_pow (n := 32) h (by have := x.toNat_lt; omega)
theorem crcByte_lt {c : Nat} (h : c < 4294967296) (x : UInt8) : crcByte c x < 4294967296 := crcBits_lt (crcX_lt h x) 8
theorem crcs_snoc (l : List UInt8) (x : UInt8) : crcs (l ++ [x]) = crcByte (crcs l) x := by
  unfold crcs
  rw [List.foldl_append]
  rfl
theorem fold_lt : ∀ (l : List UInt8) (c : Nat), c < 4294967296 → l.foldl crcByte c < 4294967296
  | [], _, h => h
  | x :: l, _, h => fold_lt l _ (crcByte_lt h x)
theorem crcs_lt (l : List UInt8) : crcs l < 4294967296 := fold_lt l _ (by decide)
theorem crc_lt (l : List UInt8) : crc l < 4294967296 := Nat.xor_lt_two_pow (n := 32) (by decide) (crcs_lt l)

/-- A record in its frame. -/
def hdr (b : List UInt8) : List UInt8 := [UInt8.ofNat (crc b), UInt8.ofNat (crc b / 256), UInt8.ofNat (crc b / 65536), UInt8.ofNat (crc b / 16777216), UInt8.ofNat b.length, UInt8.ofNat (b.length / 256)]
def frm (b : List UInt8) : List UInt8 := hdr b ++ b
theorem hdr_len (b : List UInt8) : (hdr b).length = 6 := rfl
theorem frm_len (b : List UInt8) : (frm b).length = 6 + b.length := by unfold frm; rw [List.length_append, hdr_len]
def okR (b : List UInt8) : Prop := 1 ≤ b.length ∧ b.length ≤ 1000
/-- Records one behind the other. -/
def flat (l : List (List UInt8)) : List UInt8 := l.flatMap frm
theorem flat_nil : flat [] = [] := rfl
theorem flat_cons (b : List UInt8) (l : List (List UInt8)) : flat (b :: l) = frm b ++ flat l := rfl
theorem flat_app (l m : List (List UInt8)) : flat (l ++ m) = flat l ++ flat m := List.flatMap_append
theorem flat_one (b : List UInt8) : flat [b] = frm b := by rw [flat_cons, flat_nil, List.append_nil]
/-- What stands behind the last whole frame: a beginning of one. -/
def torn (t : List UInt8) : Prop := t = [] ∨ ∃ b k, okR b ∧ t = (frm b).take k ∧ k < 6 + b.length
/-- A file's bytes: whole frames, and a beginning of one. -/
structure File (bs : List UInt8) (l : List (List UInt8)) (t : List UInt8) : Prop where
  eq : bs = flat l ++ t
  ok : ∀ b ∈ l, okR b
  tr : torn t

/-- A file of whole frames, cut off: a beginning of them. -/
theorem flat_cut : ∀ (l : List (List UInt8)), (∀ b ∈ l, okR b) → ∀ n, ∃ k t, k ≤ l.length ∧ File ((flat l).take n) (l.take k) t ∧ (flat (l.take k)).length ≤ n ∧ (k < l.length → n < (flat (l.take (k + 1))).length)
  | [], _, n => ⟨0, [], Nat.le_refl _, ⟨by simp [flat_nil], fun b hb => by simp at hb, .inl rfl⟩, Nat.zero_le _, fun h => absurd h (by simp)⟩
  | b :: l, hok, n => by
    by_cases h : n < 6 + b.length
    · refine ⟨0, (frm b).take n, Nat.zero_le _, ⟨?_, fun b hb => by simp at hb, .inr ⟨b, n, hok b (List.mem_cons_self ..), rfl, h⟩⟩, Nat.zero_le _, fun _ => ?_⟩
      · rw [flat_cons, List.take_append_of_le_length (by rw [frm_len]; omega)]
        rfl
      · rw [show (b :: l).take (0 + 1) = [b] from rfl, flat_one, frm_len]
        exact h
    · obtain ⟨k, t, hk, hF, h1, h2⟩ := flat_cut l (fun x hx => hok x (List.mem_cons_of_mem _ hx)) (n - (6 + b.length))
      have e : (b :: l).take (k + 1) = b :: l.take k := rfl
      refine ⟨k + 1, t, by rw [List.length_cons]; omega, ⟨?_, ?_, hF.tr⟩, ?_, fun hlt => ?_⟩
      · rw [e, flat_cons, flat_cons, List.take_append, List.take_of_length_le (by rw [frm_len]; omega), List.append_assoc, frm_len, hF.eq]
      · intro x hx
        rw [e] at hx
        rcases List.mem_cons.1 hx with rfl | hx
        · exact hok x (List.mem_cons_self ..)
        · exact hF.ok x hx
      · rw [e, flat_cons, List.length_append, frm_len]
        omega
      · rw [List.length_cons] at hlt
        have := h2 (by omega)
        rw [show (b :: l).take (k + 1 + 1) = b :: l.take (k + 1) from rfl, flat_cons, List.length_append, frm_len]
        omega

/-! ### The head of a frame, read -/
theorem or_add (a b k : Nat) (h : b < 2 ^ k) : b ||| a * 2 ^ k = a * 2 ^ k + b := by
  rw [Nat.or_comm, ← Nat.shiftLeft_eq, Nat.shiftLeft_add_eq_or_of_lt h]
theorem u8n (n : Nat) : ((UInt8.ofNat n).toNat : Nat) = n % 256 := by simp
theorem len16 {n : Nat} (h : n ≤ 1000) : n % 256 ||| n / 256 % 256 * 256 = n := by
  have := or_add (n / 256 % 256) (n % 256) 8 (by omega)
  rw [show (2 : Nat) ^ 8 = 256 from rfl] at this
  omega
theorem sum32 {c : Nat} (h : c < 4294967296) : c % 256 ||| c / 256 % 256 * 256 ||| c / 65536 % 256 * 65536 ||| c / 16777216 % 256 * 16777216 = c := by
  have h1 := or_add (c / 256 % 256) (c % 256) 8 (by omega)
  rw [show (2 : Nat) ^ 8 = 256 from rfl] at h1
  have h2 := or_add (c / 65536 % 256) (c / 256 % 256 * 256 + c % 256) 16 (by omega)
  rw [show (2 : Nat) ^ 16 = 65536 from rfl] at h2
  have h3 := or_add (c / 16777216 % 256) (c / 65536 % 256 * 65536 + (c / 256 % 256 * 256 + c % 256)) 24 (by omega)
  rw [show (2 : Nat) ^ 24 = 16777216 from rfl] at h3
  rw [h1, h2, h3]
  omega
end Go.Proofs.Ytpbjompopgdbjaa
