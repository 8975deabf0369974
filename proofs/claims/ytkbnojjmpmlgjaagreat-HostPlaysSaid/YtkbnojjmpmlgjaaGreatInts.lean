/-
  A slice of ints that came in.
-/
import Derived.Test.YtkbnojjmpmlgjaaGreatWorld
import Derived.IntWalk
import Derived.WalkKit
namespace Go.Proofs.YtkbnojjmpmlgjaaGreat
open Go.RowKit

structure IntsIn (w : World) (ad : Option Addr) (l : List Int) : Prop where
  len : l.length ≤ maxLen
  at_ : ∀ (k : Nat) (n : Int), l[k]? = some n → ∃ a, ad = some a ∧ a.block < w.heap.size ∧ w.cell? (a.add k) = some (.int .i64 n)

theorem IntsIn.chg {w w' : World} {ad : Option Addr} {l : List Int} {S : Nat → Prop} (h : IntsIn w ad l) (hc : Chg S w w') (hs : ∀ i, i < w.heap.size → ¬ S i) : IntsIn w' ad l :=
  ⟨h.len, fun k n hk => by
    obtain ⟨a, ha, hb, hj⟩ := h.at_ k n hk
    refine ⟨a, ha, Nat.lt_of_lt_of_le hb hc.size, ?_⟩
    have : (a.add k).block = a.block := by unfold Addr.add; split <;> rfl
    rw [hc.cell (by rw [this]; exact hb) (by rw [this]; exact hs _ hb)]
    exact hj⟩

theorem modK (n k : Int) (hk : 0 < k ∧ k ≤ 1000000) : 0 ≤ wrap64 ((IntKind.u64.wrap n).tmod k) ∧ wrap64 ((IntKind.u64.wrap n).tmod k) < k := by
  have h0 : 0 ≤ IntKind.u64.wrap n := wrap_u64_nonneg n
  rw [Int.tmod_eq_emod_of_nonneg h0]
  have h1 := Int.emod_nonneg (IntKind.u64.wrap n) (show k ≠ 0 by omega)
  have h2 := Int.emod_lt_of_pos (IntKind.u64.wrap n) hk.1
  generalize IntKind.u64.wrap n % k = x at *
  rw [IntWalk.wrap64_in _ (by omega)]
  omega

theorem bk12 (n : Int) : 1 ≤ wrap64 (1 + wrap64 ((IntKind.u64.wrap n).tmod 12)) ∧ wrap64 (1 + wrap64 ((IntKind.u64.wrap n).tmod 12)) ≤ 12 := by
  have h := modK n 12 (by omega)
  generalize wrap64 ((IntKind.u64.wrap n).tmod 12) = x at *
  rw [IntWalk.wrap64_in _ (by omega)]
  omega
end Go.Proofs.YtkbnojjmpmlgjaaGreat
