/-
  Steps of a law that came in.
-/
import Derived.Test.YtkbnojjmpmlgjaaGreatWant
import Derived.Test.YtkbnojjmpmlgjaaGreatInts
namespace Go.Proofs.YtkbnojjmpmlgjaaGreat
open Go.RowKit

/-- A step: its kind, an operation, how the time goes on, a raw time. -/
structure SOp where
  kd : Int
  o : POp
  d : Int
  now : Int
  raw : Bool
def SOp.row (s : SOp) : Array Value := #[.int .i64 s.kd, .int .i64 s.o.kd, .int .i64 s.o.bk, .int .i64 s.o.un, .int .i64 s.o.cu, .int .i64 s.o.am, .int .i64 s.d, .int .i64 s.now, .bool s.raw]

structure SopsIn (w : World) (ad : Option Addr) (l : List SOp) : Prop where
  len : l.length ≤ maxLen
  at_ : ∀ (k : Nat) (o : SOp), l[k]? = some o → ∃ a, ad = some a ∧ a.block < w.heap.size ∧ ∀ j u, o.row[j]? = some u → w.cell? ((a.add (k * 9)).add j) = some u

theorem SopsIn.chg {w w' : World} {ad : Option Addr} {l : List SOp} {S : Nat → Prop} (h : SopsIn w ad l) (hc : Chg S w w') (hs : ∀ i, i < w.heap.size → ¬ S i) : SopsIn w' ad l :=
  ⟨h.len, fun k o hk => by
    obtain ⟨a, ha, hb, hj⟩ := h.at_ k o hk
    refine ⟨a, ha, Nat.lt_of_lt_of_le hb hc.size, fun j u hu => ?_⟩
    have : ((a.add (k * 9)).add j).block = a.block := by unfold Addr.add; split <;> split <;> rfl
    rw [hc.cell (by rw [this]; exact hb) (by rw [this]; exact hs _ hb)]
    exact hj j u hu⟩

end Go.Proofs.YtkbnojjmpmlgjaaGreat
