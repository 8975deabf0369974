/-
  Operations with their answers that came in.
-/
import Derived.Test.YtajefffhdeljfaaTabA
namespace Go.Proofs.Ytajefffhdeljfaa
open Go.RowKit

/-- An operation and an answer. -/
structure PA where
  o : POp
  a : Int
def PA.row (s : PA) : Array Value := #[.int .i64 s.o.kd, .int .i64 s.o.bk, .int .i64 s.o.un, .int .i64 s.o.cu, .int .i64 s.o.am, .int .i64 s.a]

structure PutsIn (w : World) (ad : Option Addr) (l : List PA) : Prop where
  len : l.length ≤ maxLen
  at_ : ∀ (k : Nat) (o : PA), l[k]? = some o → (isI o.o.bk ∧ isI o.o.kd) ∧ ∃ a, ad = some a ∧ a.block < w.heap.size ∧ ∀ j u, o.row[j]? = some u → w.cell? ((a.add (k * 6)).add j) = some u

theorem PutsIn.chg {w w' : World} {ad : Option Addr} {l : List PA} {S : Nat → Prop} (h : PutsIn w ad l) (hc : Chg S w w') (hs : ∀ i, i < w.heap.size → ¬ S i) : PutsIn w' ad l :=
  ⟨h.len, fun k o hk => by
    obtain ⟨hi, a, ha, hb, hj⟩ := h.at_ k o hk
    refine ⟨hi, a, ha, Nat.lt_of_lt_of_le hb hc.size, fun j u hu => ?_⟩
    have : ((a.add (k * 6)).add j).block = a.block := by unfold Addr.add; split <;> split <;> rfl
    rw [hc.cell (by rw [this]; exact hb) (by rw [this]; exact hs _ hb)]
    exact hj j u hu⟩
end Go.Proofs.Ytajefffhdeljfaa
