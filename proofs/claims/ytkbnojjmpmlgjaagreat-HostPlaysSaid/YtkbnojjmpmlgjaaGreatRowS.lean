/-
  Rows of layer 9: what they all use.
-/
import Derived.Test.YtkbnojjmpmlgjaaGreatRows
import Derived.Test.YtkbnojjmpmlgjaaGreatRowA
import Derived.WalkKit
import Derived.ProofKit
import Derived.OpenShut
namespace Go.Proofs.YtkbnojjmpmlgjaaGreat
open Go.RowKit
theorem cell_lt {w : World} {p : Addr} {u : Value} (h : w.cell? p = some u) : p.block < w.heap.size := by
  apply Decidable.byContradiction
  intro hn
  have h0 : w.heap[p.block]? = none := by simp; omega
  simp [World.cell?, h0] at h
theorem purOwn : ownKnob Tryz.prog.godebug = none := by kernel_rfl
end Go.Proofs.YtkbnojjmpmlgjaaGreat
