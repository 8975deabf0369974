/-
  The operations of a plan, taken out one by one without a trace of how (the walk's own 'pass over' looks at the list's letters).
-/
import Derived.Test.YtddnpjlcmokbiaaRegionB
namespace Go.Proofs.Ytddnpjlcmokbiaa

def consO (o : Option Oper) (r : List Oper) : List Oper := o.toList ++ r
theorem opsAt_nil (ops : Array Oper) : opsAt ops [] = [] := rfl
theorem opsAt_cons (ops : Array Oper) (i : Nat) (r : List Nat) : opsAt ops (i :: r) = consO ops[i]? (opsAt ops r) := by
  unfold opsAt consO
  rw [List.filterMap_cons]
  cases ops[i]? <;> rfl
theorem consO_some (o : Oper) (r : List Oper) : consO (some o) r = o :: r := rfl
end Go.Proofs.Ytddnpjlcmokbiaa
