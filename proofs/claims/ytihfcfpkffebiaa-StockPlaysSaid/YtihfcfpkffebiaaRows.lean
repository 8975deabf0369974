/-
  No cell of these rows narrows 'for every input' (looked for: loops, veiled, ifaces, maps, wideKeys, modest, calm, conditions, laid).
  DERIVED. THE GIVEN ROWS OF THIS SEAT. 8 by the template 'for every input the law returns true; each argument reads behind the call as it read before'; 0 by the template 'total and deterministic' (their statements: YtihfcfpkffebiaaTotals.lean).
  GIVEN WITH THE SEED: the statements are not yours to turn. If you find one false, say at which input.
  Laid BY PROGRAM, IN A SANDBOX (cutbox-rows.mjs): the forced cells as the released guide's own fill.sh prints them over the translation 89a5a801790a5c8d… (all of the seat's roots in one cut). By AI agents, Wed Nov 11 2026. No macro, syntax, notation, axiom, sorry.
-/
import Derived.Test.YtihfcfpkffebiaaChecked
import GoSem.Claim
import GoSem.ClaimJoined
import GoSem.ClaimMapViews
import Derived.JoinedTies
import Derived.KernelRfl
namespace Go.Proofs.Ytihfcfpkffebiaa
/- THE CELL 'sum', in the pinned program and in every row, IS THE sha256 OF THE DUMP (.gsa) THAT YtihfcfpkffebiaaProg.lean LOADS. Nothing in Lean hashes anything: it is a label: what it is worth is what the hold of that sum in a sandbox is worth. -/
noncomputable def Try.pinned : Pinned := { name := "ytihfcfpkffebiaa", sum := "89a5a801790a5c8d52e907a33fa647aac28493d07985d0fee75c3552a8522d40", checked := Try.checked }
namespace Rows
def none {H : Type} : Left H := { results := [], args := [] }

/-- 'sojournlaw9.StockUnits': WHATEVER THE INPUT: true; the input reads as it did. -/
def stockUnitsSpec : ChangeSpec := { name := "stockUnits", fn := fun _ => fun
  | [d1, d2] => { results := [.lit (.bool true)], args := [d1, d2] }
  | _ => none }
def stockUnitsRow : OpenClaim := { program := "ytihfcfpkffebiaa", sum := "89a5a801790a5c8d52e907a33fa647aac28493d07985d0fee75c3552a8522d40", func := "sojourn/sojournlaw9.StockUnits", spec := "stockUnits", unfollowed := true, recurses := true, apart := false }
def StockUnitsSaid : Prop := stockUnitsRow.holds Try.pinned (OpenSpec.ofChange stockUnitsSpec)

/-- ITS FALSE NEIGHBOUR: 'it returns false'. Refute it at one input. -/
def stockUnitsWrong : ChangeSpec := { name := "stockUnits", fn := fun _ => fun
  | [d1, d2] => { results := [.lit (.bool false)], args := [d1, d2] }
  | _ => none }
def StockUnitsWrongFalsely : Prop := stockUnitsRow.holds Try.pinned (OpenSpec.ofChange stockUnitsWrong)

/-- 'sojournlaw9.StockGone': WHATEVER THE INPUT: true; the input reads as it did. -/
def stockGoneSpec : ChangeSpec := { name := "stockGone", fn := fun _ => fun
  | [d1, d2, d3] => { results := [.lit (.bool true)], args := [d1, d2, d3] }
  | _ => none }
def stockGoneRow : OpenClaim := { program := "ytihfcfpkffebiaa", sum := "89a5a801790a5c8d52e907a33fa647aac28493d07985d0fee75c3552a8522d40", func := "sojourn/sojournlaw9.StockGone", spec := "stockGone", unfollowed := true, recurses := true, apart := false }
def StockGoneSaid : Prop := stockGoneRow.holds Try.pinned (OpenSpec.ofChange stockGoneSpec)

/-- ITS FALSE NEIGHBOUR: 'it returns false'. Refute it at one input. -/
def stockGoneWrong : ChangeSpec := { name := "stockGone", fn := fun _ => fun
  | [d1, d2, d3] => { results := [.lit (.bool false)], args := [d1, d2, d3] }
  | _ => none }
def StockGoneWrongFalsely : Prop := stockGoneRow.holds Try.pinned (OpenSpec.ofChange stockGoneWrong)

/-- 'sojournlaw9.StockHolds': WHATEVER THE INPUT: true; the input reads as it did. -/
def stockHoldsSpec : ChangeSpec := { name := "stockHolds", fn := fun _ => fun
  | [d1, d2, d3] => { results := [.lit (.bool true)], args := [d1, d2, d3] }
  | _ => none }
def stockHoldsRow : OpenClaim := { program := "ytihfcfpkffebiaa", sum := "89a5a801790a5c8d52e907a33fa647aac28493d07985d0fee75c3552a8522d40", func := "sojourn/sojournlaw9.StockHolds", spec := "stockHolds", unfollowed := true, recurses := true, apart := false }
def StockHoldsSaid : Prop := stockHoldsRow.holds Try.pinned (OpenSpec.ofChange stockHoldsSpec)

/-- ITS FALSE NEIGHBOUR: 'it returns false'. Refute it at one input. -/
def stockHoldsWrong : ChangeSpec := { name := "stockHolds", fn := fun _ => fun
  | [d1, d2, d3] => { results := [.lit (.bool false)], args := [d1, d2, d3] }
  | _ => none }
def StockHoldsWrongFalsely : Prop := stockHoldsRow.holds Try.pinned (OpenSpec.ofChange stockHoldsWrong)

/-- 'sojournlaw9.StockFits': WHATEVER THE INPUT: true; the input reads as it did. -/
def stockFitsSpec : ChangeSpec := { name := "stockFits", fn := fun _ => fun
  | [d1, d2, d3] => { results := [.lit (.bool true)], args := [d1, d2, d3] }
  | _ => none }
def stockFitsRow : OpenClaim := { program := "ytihfcfpkffebiaa", sum := "89a5a801790a5c8d52e907a33fa647aac28493d07985d0fee75c3552a8522d40", func := "sojourn/sojournlaw9.StockFits", spec := "stockFits", unfollowed := true, recurses := true, apart := false }
def StockFitsSaid : Prop := stockFitsRow.holds Try.pinned (OpenSpec.ofChange stockFitsSpec)

/-- ITS FALSE NEIGHBOUR: 'it returns false'. Refute it at one input. -/
def stockFitsWrong : ChangeSpec := { name := "stockFits", fn := fun _ => fun
  | [d1, d2, d3] => { results := [.lit (.bool false)], args := [d1, d2, d3] }
  | _ => none }
def StockFitsWrongFalsely : Prop := stockFitsRow.holds Try.pinned (OpenSpec.ofChange stockFitsWrong)

/-- 'sojournlaw9.StockSweeps': WHATEVER THE INPUT: true; the input reads as it did. -/
def stockSweepsSpec : ChangeSpec := { name := "stockSweeps", fn := fun _ => fun
  | [d1, d2] => { results := [.lit (.bool true)], args := [d1, d2] }
  | _ => none }
def stockSweepsRow : OpenClaim := { program := "ytihfcfpkffebiaa", sum := "89a5a801790a5c8d52e907a33fa647aac28493d07985d0fee75c3552a8522d40", func := "sojourn/sojournlaw9.StockSweeps", spec := "stockSweeps", unfollowed := true, recurses := true, apart := false }
def StockSweepsSaid : Prop := stockSweepsRow.holds Try.pinned (OpenSpec.ofChange stockSweepsSpec)

/-- ITS FALSE NEIGHBOUR: 'it returns false'. Refute it at one input. -/
def stockSweepsWrong : ChangeSpec := { name := "stockSweeps", fn := fun _ => fun
  | [d1, d2] => { results := [.lit (.bool false)], args := [d1, d2] }
  | _ => none }
def StockSweepsWrongFalsely : Prop := stockSweepsRow.holds Try.pinned (OpenSpec.ofChange stockSweepsWrong)

/-- 'sojournlaw9.StockCopies': WHATEVER THE INPUT: true; the input reads as it did. -/
def stockCopiesSpec : ChangeSpec := { name := "stockCopies", fn := fun _ => fun
  | [d1, d2] => { results := [.lit (.bool true)], args := [d1, d2] }
  | _ => none }
def stockCopiesRow : OpenClaim := { program := "ytihfcfpkffebiaa", sum := "89a5a801790a5c8d52e907a33fa647aac28493d07985d0fee75c3552a8522d40", func := "sojourn/sojournlaw9.StockCopies", spec := "stockCopies", inPlace := ["maps.clone"], unfollowed := true, recurses := true, apart := false }
def StockCopiesSaid : Prop := stockCopiesRow.holds Try.pinned (OpenSpec.ofChange stockCopiesSpec)

/-- ITS FALSE NEIGHBOUR: 'it returns false'. Refute it at one input. -/
def stockCopiesWrong : ChangeSpec := { name := "stockCopies", fn := fun _ => fun
  | [d1, d2] => { results := [.lit (.bool false)], args := [d1, d2] }
  | _ => none }
def StockCopiesWrongFalsely : Prop := stockCopiesRow.holds Try.pinned (OpenSpec.ofChange stockCopiesWrong)

/-- 'sojournlaw9.StockPlays': WHATEVER THE INPUT: true; the input reads as it did. -/
def stockPlaysSpec : ChangeSpec := { name := "stockPlays", fn := fun _ => fun
  | [d1, d2] => { results := [.lit (.bool true)], args := [d1, d2] }
  | _ => none }
def stockPlaysRow : OpenClaim := { program := "ytihfcfpkffebiaa", sum := "89a5a801790a5c8d52e907a33fa647aac28493d07985d0fee75c3552a8522d40", func := "sojourn/sojournlaw9.StockPlays", spec := "stockPlays", inPlace := ["maps.clone"], unfollowed := true, recurses := true, apart := false }
def StockPlaysSaid : Prop := stockPlaysRow.holds Try.pinned (OpenSpec.ofChange stockPlaysSpec)

/-- ITS FALSE NEIGHBOUR: 'it returns false'. Refute it at one input. -/
def stockPlaysWrong : ChangeSpec := { name := "stockPlays", fn := fun _ => fun
  | [d1, d2] => { results := [.lit (.bool false)], args := [d1, d2] }
  | _ => none }
def StockPlaysWrongFalsely : Prop := stockPlaysRow.holds Try.pinned (OpenSpec.ofChange stockPlaysWrong)

/-- 'sojournlaw9.StockNobody': WHATEVER THE INPUT: true; the input reads as it did. -/
def stockNobodySpec : ChangeSpec := { name := "stockNobody", fn := fun _ => fun
  | [d1, d2] => { results := [.lit (.bool true)], args := [d1, d2] }
  | _ => none }
def stockNobodyRow : OpenClaim := { program := "ytihfcfpkffebiaa", sum := "89a5a801790a5c8d52e907a33fa647aac28493d07985d0fee75c3552a8522d40", func := "sojourn/sojournlaw9.StockNobody", spec := "stockNobody", inPlace := ["maps.clone"], unfollowed := true, recurses := true, apart := false }
def StockNobodySaid : Prop := stockNobodyRow.holds Try.pinned (OpenSpec.ofChange stockNobodySpec)

/-- ITS FALSE NEIGHBOUR: 'it returns false'. Refute it at one input. -/
def stockNobodyWrong : ChangeSpec := { name := "stockNobody", fn := fun _ => fun
  | [d1, d2] => { results := [.lit (.bool false)], args := [d1, d2] }
  | _ => none }
def StockNobodyWrongFalsely : Prop := stockNobodyRow.holds Try.pinned (OpenSpec.ofChange stockNobodyWrong)

/- THE SECOND FORM. 'bulk': how many values and letters a reading holds, each counted each time it is reached (what is shared counts as often as it is met; a slice's spare places count too). A statement '..UptoSaid' is the law's where the arguments, and the package variables that the reading takes, are together of bulk at most 1048576: NARROWER than '..Said'. Prove '..Said' where nothing that the law and all that it calls make is longer than what came in: it says more and counts as full. Else prove '..UptoSaid'. A law counts once. -/
mutual
def uptoBulk {H : Type} : DataW H → Nat
  | .lit (.string bytes) => bytes.length + 1
  | .lit _ => 1
  | .nil => 1
  | .ptr d => uptoBulk d + 1
  | .slice elems spare => uptoBulkAll elems + uptoBulkAll spare + 1
  | .agg parts => uptoBulkAll parts + 1
  | .iface _ d => uptoBulk d + 1
  | .map entries => uptoBulkEntries entries + 1
  | .held _ => 1
def uptoBulkAll {H : Type} : List (DataW H) → Nat
  | [] => 0
  | d :: r => uptoBulk d + uptoBulkAll r
def uptoBulkEntries {H : Type} : List (Lit × DataW H) → Nat
  | [] => 0
  | x :: r => uptoBulkEntry x + uptoBulkEntries r
def uptoBulkEntry {H : Type} : Lit × DataW H → Nat
  | (.string bytes, d) => bytes.length + uptoBulk d + 1
  | (_, d) => uptoBulk d + 1
 end
def uptoSmall : (H : Type) → List (DataW H) → Bool := fun _ ds => decide (uptoBulkAll ds ≤ 1048576)
def OpenSpec.upto (s : _root_.Go.ChangeSpec) : _root_.Go.OpenSpec := { _root_.Go.OpenSpec.ofChange s with cond := some uptoSmall }

/-- 'sojournlaw9.StockUnits', WHERE WHAT IT READS IS OF BULK AT MOST 1048576: true; the input reads as it did. -/
def stockUnitsUptoRow : OpenClaim := { program := "ytihfcfpkffebiaa", sum := "89a5a801790a5c8d52e907a33fa647aac28493d07985d0fee75c3552a8522d40", func := "sojourn/sojournlaw9.StockUnits", spec := "stockUnits", unfollowed := true, recurses := true, apart := false, narrowed := true }
def StockUnitsUptoSaid : Prop := stockUnitsUptoRow.holds Try.pinned (OpenSpec.upto stockUnitsSpec)

/-- 'sojournlaw9.StockGone', WHERE WHAT IT READS IS OF BULK AT MOST 1048576: true; the input reads as it did. -/
def stockGoneUptoRow : OpenClaim := { program := "ytihfcfpkffebiaa", sum := "89a5a801790a5c8d52e907a33fa647aac28493d07985d0fee75c3552a8522d40", func := "sojourn/sojournlaw9.StockGone", spec := "stockGone", unfollowed := true, recurses := true, apart := false, narrowed := true }
def StockGoneUptoSaid : Prop := stockGoneUptoRow.holds Try.pinned (OpenSpec.upto stockGoneSpec)

/-- 'sojournlaw9.StockHolds', WHERE WHAT IT READS IS OF BULK AT MOST 1048576: true; the input reads as it did. -/
def stockHoldsUptoRow : OpenClaim := { program := "ytihfcfpkffebiaa", sum := "89a5a801790a5c8d52e907a33fa647aac28493d07985d0fee75c3552a8522d40", func := "sojourn/sojournlaw9.StockHolds", spec := "stockHolds", unfollowed := true, recurses := true, apart := false, narrowed := true }
def StockHoldsUptoSaid : Prop := stockHoldsUptoRow.holds Try.pinned (OpenSpec.upto stockHoldsSpec)

/-- 'sojournlaw9.StockFits', WHERE WHAT IT READS IS OF BULK AT MOST 1048576: true; the input reads as it did. -/
def stockFitsUptoRow : OpenClaim := { program := "ytihfcfpkffebiaa", sum := "89a5a801790a5c8d52e907a33fa647aac28493d07985d0fee75c3552a8522d40", func := "sojourn/sojournlaw9.StockFits", spec := "stockFits", unfollowed := true, recurses := true, apart := false, narrowed := true }
def StockFitsUptoSaid : Prop := stockFitsUptoRow.holds Try.pinned (OpenSpec.upto stockFitsSpec)

/-- 'sojournlaw9.StockSweeps', WHERE WHAT IT READS IS OF BULK AT MOST 1048576: true; the input reads as it did. -/
def stockSweepsUptoRow : OpenClaim := { program := "ytihfcfpkffebiaa", sum := "89a5a801790a5c8d52e907a33fa647aac28493d07985d0fee75c3552a8522d40", func := "sojourn/sojournlaw9.StockSweeps", spec := "stockSweeps", unfollowed := true, recurses := true, apart := false, narrowed := true }
def StockSweepsUptoSaid : Prop := stockSweepsUptoRow.holds Try.pinned (OpenSpec.upto stockSweepsSpec)

/-- 'sojournlaw9.StockCopies', WHERE WHAT IT READS IS OF BULK AT MOST 1048576: true; the input reads as it did. -/
def stockCopiesUptoRow : OpenClaim := { program := "ytihfcfpkffebiaa", sum := "89a5a801790a5c8d52e907a33fa647aac28493d07985d0fee75c3552a8522d40", func := "sojourn/sojournlaw9.StockCopies", spec := "stockCopies", inPlace := ["maps.clone"], unfollowed := true, recurses := true, apart := false, narrowed := true }
def StockCopiesUptoSaid : Prop := stockCopiesUptoRow.holds Try.pinned (OpenSpec.upto stockCopiesSpec)

/-- 'sojournlaw9.StockPlays', WHERE WHAT IT READS IS OF BULK AT MOST 1048576: true; the input reads as it did. -/
def stockPlaysUptoRow : OpenClaim := { program := "ytihfcfpkffebiaa", sum := "89a5a801790a5c8d52e907a33fa647aac28493d07985d0fee75c3552a8522d40", func := "sojourn/sojournlaw9.StockPlays", spec := "stockPlays", inPlace := ["maps.clone"], unfollowed := true, recurses := true, apart := false, narrowed := true }
def StockPlaysUptoSaid : Prop := stockPlaysUptoRow.holds Try.pinned (OpenSpec.upto stockPlaysSpec)

/-- 'sojournlaw9.StockNobody', WHERE WHAT IT READS IS OF BULK AT MOST 1048576: true; the input reads as it did. -/
def stockNobodyUptoRow : OpenClaim := { program := "ytihfcfpkffebiaa", sum := "89a5a801790a5c8d52e907a33fa647aac28493d07985d0fee75c3552a8522d40", func := "sojourn/sojournlaw9.StockNobody", spec := "stockNobody", inPlace := ["maps.clone"], unfollowed := true, recurses := true, apart := false, narrowed := true }
def StockNobodyUptoSaid : Prop := stockNobodyUptoRow.holds Try.pinned (OpenSpec.upto stockNobodySpec)

end Rows
end Go.Proofs.Ytihfcfpkffebiaa
