/-
  pack: numbers as bytes, as plain mathematics.
-/
import Derived.RowKit
namespace Go.Proofs.YtkbnojjmpmlgjaaGreat

/-- A number's bytes: groups of seven bits, the least first. -/
def vb (u : Nat) : List UInt8 := if _h : u < 128 then [UInt8.ofNat u] else UInt8.ofNat (u % 128 + 128) :: vb (u / 128)
termination_by u
theorem vb_lo {u : Nat} (h : u < 128) : vb u = [UInt8.ofNat u] := by rw [vb, dif_pos h]
theorem vb_hi {u : Nat} (h : 128 ≤ u) : vb u = UInt8.ofNat (u % 128 + 128) :: vb (u / 128) := by rw [vb, dif_neg (by omega)]
theorem vb_len : ∀ (k u : Nat), u < 128 ^ (k + 1) → (vb u).length ≤ k + 1
  | 0, u, h => by rw [vb_lo (by simpa using h)]; simp
  | k + 1, u, h => by
    by_cases hu : u < 128
    · rw [vb_lo hu]; simp
    · rw [vb_hi (by omega), List.length_cons]
      have := vb_len k (u / 128) (by
        rw [Nat.div_lt_iff_lt_mul (by omega)]
        rw [Nat.pow_succ] at h
        exact h)
      omega
theorem vb_len10 {u : Nat} (h : u < 18446744073709551616) : (vb u).length ≤ 10 := vb_len 9 u (Nat.lt_of_lt_of_le h (by decide))

/-- A number between as one without a sign. -/
def zig (v : Int) : Nat := if v < 0 then (-2 * v - 1).toNat else (2 * v).toNat
theorem zig_pos {v : Int} (h : 0 ≤ v) : zig v = (2 * v).toNat := by unfold zig; rw [if_neg (by omega)]
/-- A number's bytes. -/
def nb (v : Int) : List UInt8 := vb (zig v)
theorem nb_len {v : Int} (h : -9223372036854775808 ≤ v ∧ v ≤ 9223372036854775807) : (nb v).length ≤ 10 := by
  refine vb_len10 ?_
  unfold zig
  split <;> omega

def encB (b : UInt8) : Value := .int .u8 (b.toNat : Int)
theorem encB_lo {u : Nat} (h : u < 128) : encB (UInt8.ofNat u) = .int .u8 (u : Int) := by
  unfold encB
  rw [UInt8.toNat_ofNat_of_lt' (by show u < 256; omega)]
theorem encB_hi (u : Nat) : encB (UInt8.ofNat (u % 128 + 128)) = .int .u8 ((u : Int) % 128 + 128) := by
  unfold encB
  rw [UInt8.toNat_ofNat_of_lt' (by show _ < 256; omega)]
  congr 1
end Go.Proofs.YtkbnojjmpmlgjaaGreat
