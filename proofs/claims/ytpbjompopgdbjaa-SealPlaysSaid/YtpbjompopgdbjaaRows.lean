/-
  No cell of these rows narrows 'for every input' (looked for: loops, veiled, ifaces, maps, wideKeys, modest, calm, conditions, laid).
  DERIVED. THE GIVEN ROWS OF THIS SEAT. 5 by the template 'for every input the law returns true; each argument reads behind the call as it read before'; 0 by the template 'total and deterministic' (their statements: YtpbjompopgdbjaaTotals.lean).
  GIVEN WITH THE SEED: the statements are not yours to turn. If you find one false, say at which input.
  Laid BY PROGRAM, IN A SANDBOX (cutbox-rows.mjs): the forced cells as the released guide's own fill.sh prints them over the translation df95912f437392c6… (all of the seat's roots in one cut). By AI agents, Wed Nov 11 2026. No macro, syntax, notation, axiom, sorry.
-/
import Derived.Test.YtpbjompopgdbjaaChecked
import GoSem.Claim
import GoSem.ClaimJoined
import GoSem.ClaimMapViews
import Derived.JoinedTies
import Derived.KernelRfl
namespace Go.Proofs.Ytpbjompopgdbjaa
/- THE CELL 'sum', in the pinned program and in every row, IS THE sha256 OF THE DUMP (.gsa) THAT YtpbjompopgdbjaaProg.lean LOADS. Nothing in Lean hashes anything: it is a label: what it is worth is what the hold of that sum in a sandbox is worth. -/
noncomputable def Try.pinned : Pinned := { name := "ytpbjompopgdbjaa", sum := "df95912f437392c66a66c50afce1d82179ecb4514ba48f8ebc2ebc81e32e7f1d", checked := Try.checked }
namespace Rows
def none {H : Type} : Left H := { results := [], args := [] }

/-- 'sojournlaw6.SealKeeps': WHATEVER THE INPUT: true; the input reads as it did. -/
def sealKeepsSpec : ChangeSpec := { name := "sealKeeps", fn := fun _ => fun
  | [d1, d2] => { results := [.lit (.bool true)], args := [d1, d2] }
  | _ => none }
def sealKeepsRow : OpenClaim := { program := "ytpbjompopgdbjaa", sum := "df95912f437392c66a66c50afce1d82179ecb4514ba48f8ebc2ebc81e32e7f1d", func := "sojourn/sojournlaw6.SealKeeps", spec := "sealKeeps", unfollowed := true, recurses := true, apart := false }
def SealKeepsSaid : Prop := sealKeepsRow.holds Try.pinned (OpenSpec.ofChange sealKeepsSpec)

/-- ITS FALSE NEIGHBOUR: 'it returns false'. Refute it at one input. -/
def sealKeepsWrong : ChangeSpec := { name := "sealKeeps", fn := fun _ => fun
  | [d1, d2] => { results := [.lit (.bool false)], args := [d1, d2] }
  | _ => none }
def SealKeepsWrongFalsely : Prop := sealKeepsRow.holds Try.pinned (OpenSpec.ofChange sealKeepsWrong)

/-- 'sojournlaw6.SealElder': WHATEVER THE INPUT: true; the input reads as it did. -/
def sealElderSpec : ChangeSpec := { name := "sealElder", fn := fun _ => fun
  | [d1, d2] => { results := [.lit (.bool true)], args := [d1, d2] }
  | _ => none }
def sealElderRow : OpenClaim := { program := "ytpbjompopgdbjaa", sum := "df95912f437392c66a66c50afce1d82179ecb4514ba48f8ebc2ebc81e32e7f1d", func := "sojourn/sojournlaw6.SealElder", spec := "sealElder", unfollowed := true, recurses := true, apart := false }
def SealElderSaid : Prop := sealElderRow.holds Try.pinned (OpenSpec.ofChange sealElderSpec)

/-- ITS FALSE NEIGHBOUR: 'it returns false'. Refute it at one input. -/
def sealElderWrong : ChangeSpec := { name := "sealElder", fn := fun _ => fun
  | [d1, d2] => { results := [.lit (.bool false)], args := [d1, d2] }
  | _ => none }
def SealElderWrongFalsely : Prop := sealElderRow.holds Try.pinned (OpenSpec.ofChange sealElderWrong)

/-- 'sojournlaw6.SealFull': WHATEVER THE INPUT: true; the input reads as it did. -/
def sealFullSpec : ChangeSpec := { name := "sealFull", fn := fun _ => fun
  | [d1, d2, d3] => { results := [.lit (.bool true)], args := [d1, d2, d3] }
  | _ => none }
def sealFullRow : OpenClaim := { program := "ytpbjompopgdbjaa", sum := "df95912f437392c66a66c50afce1d82179ecb4514ba48f8ebc2ebc81e32e7f1d", func := "sojourn/sojournlaw6.SealFull", spec := "sealFull", unfollowed := true, recurses := true, apart := false }
def SealFullSaid : Prop := sealFullRow.holds Try.pinned (OpenSpec.ofChange sealFullSpec)

/-- ITS FALSE NEIGHBOUR: 'it returns false'. Refute it at one input. -/
def sealFullWrong : ChangeSpec := { name := "sealFull", fn := fun _ => fun
  | [d1, d2, d3] => { results := [.lit (.bool false)], args := [d1, d2, d3] }
  | _ => none }
def SealFullWrongFalsely : Prop := sealFullRow.holds Try.pinned (OpenSpec.ofChange sealFullWrong)

/-- 'sojournlaw6.SealMany': WHATEVER THE INPUT: true; the input reads as it did. -/
def sealManySpec : ChangeSpec := { name := "sealMany", fn := fun _ => fun
  | [d] => { results := [.lit (.bool true)], args := [d] }
  | _ => none }
def sealManyRow : OpenClaim := { program := "ytpbjompopgdbjaa", sum := "df95912f437392c66a66c50afce1d82179ecb4514ba48f8ebc2ebc81e32e7f1d", func := "sojourn/sojournlaw6.SealMany", spec := "sealMany", unfollowed := true, recurses := true, apart := false }
def SealManySaid : Prop := sealManyRow.holds Try.pinned (OpenSpec.ofChange sealManySpec)

/-- ITS FALSE NEIGHBOUR: 'it returns false'. Refute it at one input. -/
def sealManyWrong : ChangeSpec := { name := "sealMany", fn := fun _ => fun
  | [d] => { results := [.lit (.bool false)], args := [d] }
  | _ => none }
def SealManyWrongFalsely : Prop := sealManyRow.holds Try.pinned (OpenSpec.ofChange sealManyWrong)

/-- 'sojournlaw6.SealPlays': WHATEVER THE INPUT: true; the input reads as it did. -/
def sealPlaysSpec : ChangeSpec := { name := "sealPlays", fn := fun _ => fun
  | [d1, d2] => { results := [.lit (.bool true)], args := [d1, d2] }
  | _ => none }
def sealPlaysRow : OpenClaim := { program := "ytpbjompopgdbjaa", sum := "df95912f437392c66a66c50afce1d82179ecb4514ba48f8ebc2ebc81e32e7f1d", func := "sojourn/sojournlaw6.SealPlays", spec := "sealPlays", unfollowed := true, recurses := true, apart := false }
def SealPlaysSaid : Prop := sealPlaysRow.holds Try.pinned (OpenSpec.ofChange sealPlaysSpec)

/-- ITS FALSE NEIGHBOUR: 'it returns false'. Refute it at one input. -/
def sealPlaysWrong : ChangeSpec := { name := "sealPlays", fn := fun _ => fun
  | [d1, d2] => { results := [.lit (.bool false)], args := [d1, d2] }
  | _ => none }
def SealPlaysWrongFalsely : Prop := sealPlaysRow.holds Try.pinned (OpenSpec.ofChange sealPlaysWrong)

/- THE SECOND FORM. 'bulk': how many values and letters a reading holds, each counted each time it is reached (what is shared counts as often as it is met; a slice's spare places count too). A statement '..UptoSaid' is the law's where the arguments, and the package variables that the reading takes, are together of bulk at most 1048576: NARROWER than '..Said'. Prove '..Said' where nothing that the law and all that it calls make is longer than what came in: it says more and counts as full. Else prove '..UptoSaid'. A law counts once. -/
mutual
def uptoBulk {H : Type} : DataW H → Nat
  | .lit (.string bytes) => bytes.length + 1
  | .lit _ => 1
  | .nil => 1
  | .ptr d => uptoBulk d + 1
  | .slice elems spare => uptoBulkAll elems + uptoBulkAll spare + 1
  | .agg parts => uptoBulkAll parts + 1
  | .iface _ d => uptoBulk d + 1
  | .map entries => uptoBulkEntries entries + 1
  | .held _ => 1
def uptoBulkAll {H : Type} : List (DataW H) → Nat
  | [] => 0
  | d :: r => uptoBulk d + uptoBulkAll r
def uptoBulkEntries {H : Type} : List (Lit × DataW H) → Nat
  | [] => 0
  | x :: r => uptoBulkEntry x + uptoBulkEntries r
def uptoBulkEntry {H : Type} : Lit × DataW H → Nat
  | (.string bytes, d) => bytes.length + uptoBulk d + 1
  | (_, d) => uptoBulk d + 1
 end
def uptoSmall : (H : Type) → List (DataW H) → Bool := fun _ ds => decide (uptoBulkAll ds ≤ 1048576)
def OpenSpec.upto (s : _root_.Go.ChangeSpec) : _root_.Go.OpenSpec := { _root_.Go.OpenSpec.ofChange s with cond := some uptoSmall }

/-- 'sojournlaw6.SealKeeps', WHERE WHAT IT READS IS OF BULK AT MOST 1048576: true; the input reads as it did. -/
def sealKeepsUptoRow : OpenClaim := { program := "ytpbjompopgdbjaa", sum := "df95912f437392c66a66c50afce1d82179ecb4514ba48f8ebc2ebc81e32e7f1d", func := "sojourn/sojournlaw6.SealKeeps", spec := "sealKeeps", unfollowed := true, recurses := true, apart := false, narrowed := true }
def SealKeepsUptoSaid : Prop := sealKeepsUptoRow.holds Try.pinned (OpenSpec.upto sealKeepsSpec)

/-- 'sojournlaw6.SealElder', WHERE WHAT IT READS IS OF BULK AT MOST 1048576: true; the input reads as it did. -/
def sealElderUptoRow : OpenClaim := { program := "ytpbjompopgdbjaa", sum := "df95912f437392c66a66c50afce1d82179ecb4514ba48f8ebc2ebc81e32e7f1d", func := "sojourn/sojournlaw6.SealElder", spec := "sealElder", unfollowed := true, recurses := true, apart := false, narrowed := true }
def SealElderUptoSaid : Prop := sealElderUptoRow.holds Try.pinned (OpenSpec.upto sealElderSpec)

/-- 'sojournlaw6.SealFull', WHERE WHAT IT READS IS OF BULK AT MOST 1048576: true; the input reads as it did. -/
def sealFullUptoRow : OpenClaim := { program := "ytpbjompopgdbjaa", sum := "df95912f437392c66a66c50afce1d82179ecb4514ba48f8ebc2ebc81e32e7f1d", func := "sojourn/sojournlaw6.SealFull", spec := "sealFull", unfollowed := true, recurses := true, apart := false, narrowed := true }
def SealFullUptoSaid : Prop := sealFullUptoRow.holds Try.pinned (OpenSpec.upto sealFullSpec)

/-- 'sojournlaw6.SealMany', WHERE WHAT IT READS IS OF BULK AT MOST 1048576: true; the input reads as it did. -/
def sealManyUptoRow : OpenClaim := { program := "ytpbjompopgdbjaa", sum := "df95912f437392c66a66c50afce1d82179ecb4514ba48f8ebc2ebc81e32e7f1d", func := "sojourn/sojournlaw6.SealMany", spec := "sealMany", unfollowed := true, recurses := true, apart := false, narrowed := true }
def SealManyUptoSaid : Prop := sealManyUptoRow.holds Try.pinned (OpenSpec.upto sealManySpec)

/-- 'sojournlaw6.SealPlays', WHERE WHAT IT READS IS OF BULK AT MOST 1048576: true; the input reads as it did. -/
def sealPlaysUptoRow : OpenClaim := { program := "ytpbjompopgdbjaa", sum := "df95912f437392c66a66c50afce1d82179ecb4514ba48f8ebc2ebc81e32e7f1d", func := "sojourn/sojournlaw6.SealPlays", spec := "sealPlays", unfollowed := true, recurses := true, apart := false, narrowed := true }
def SealPlaysUptoSaid : Prop := sealPlaysUptoRow.holds Try.pinned (OpenSpec.upto sealPlaysSpec)

end Rows
end Go.Proofs.Ytpbjompopgdbjaa
