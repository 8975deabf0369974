/-
  No cell of these rows narrows 'for every input' (looked for: loops, veiled, ifaces, maps, wideKeys, modest, calm, conditions, laid).
  DERIVED. THE GIVEN ROWS OF THIS SEAT. 6 by the template 'for every input the law returns true; each argument reads behind the call as it read before'; 0 by the template 'total and deterministic' (their statements: YtbmpjndagponoaaTotals.lean).
  GIVEN WITH THE SEED: the statements are not yours to turn. If you find one false, say at which input.
  Laid BY PROGRAM, IN A SANDBOX (cutbox-rows.mjs): the forced cells as the released guide's own fill.sh prints them over the translation d07387e340ad2bac… (all of the seat's roots in one cut). By AI agents, Wed Nov 11 2026. No macro, syntax, notation, axiom, sorry.
-/
import Derived.Test.YtbmpjndagponoaaChecked
import GoSem.Claim
import GoSem.ClaimJoined
import GoSem.ClaimMapViews
import Derived.JoinedTies
import Derived.KernelRfl
namespace Go.Proofs.Ytbmpjndagponoaa
/- THE CELL 'sum', in the pinned program and in every row, IS THE sha256 OF THE DUMP (.gsa) THAT YtbmpjndagponoaaProg.lean LOADS. Nothing in Lean hashes anything: it is a label: what it is worth is what the hold of that sum in a sandbox is worth. -/
noncomputable def Try.pinned : Pinned := { name := "ytbmpjndagponoaa", sum := "d07387e340ad2bac41d7aaa0b34cb4b1a814d1871030b389dce5f879feb632f5", checked := Try.checked }
namespace Rows
def none {H : Type} : Left H := { results := [], args := [] }

/-- 'sojournlaw10.PurseSum': WHATEVER THE INPUT: true; the input reads as it did. -/
def purseSumSpec : ChangeSpec := { name := "purseSum", fn := fun _ => fun
  | [d1, d2] => { results := [.lit (.bool true)], args := [d1, d2] }
  | _ => none }
def purseSumRow : OpenClaim := { program := "ytbmpjndagponoaa", sum := "d07387e340ad2bac41d7aaa0b34cb4b1a814d1871030b389dce5f879feb632f5", func := "sojourn/sojournlaw10.PurseSum", spec := "purseSum", unfollowed := true, recurses := true, apart := false }
def PurseSumSaid : Prop := purseSumRow.holds Try.pinned (OpenSpec.ofChange purseSumSpec)

/-- ITS FALSE NEIGHBOUR: 'it returns false'. Refute it at one input. -/
def purseSumWrong : ChangeSpec := { name := "purseSum", fn := fun _ => fun
  | [d1, d2] => { results := [.lit (.bool false)], args := [d1, d2] }
  | _ => none }
def PurseSumWrongFalsely : Prop := purseSumRow.holds Try.pinned (OpenSpec.ofChange purseSumWrong)

/-- 'sojournlaw10.PurseBooks': WHATEVER THE INPUT: true; the input reads as it did. -/
def purseBooksSpec : ChangeSpec := { name := "purseBooks", fn := fun _ => fun
  | [d] => { results := [.lit (.bool true)], args := [d] }
  | _ => none }
def purseBooksRow : OpenClaim := { program := "ytbmpjndagponoaa", sum := "d07387e340ad2bac41d7aaa0b34cb4b1a814d1871030b389dce5f879feb632f5", func := "sojourn/sojournlaw10.PurseBooks", spec := "purseBooks", unfollowed := true, recurses := true, apart := false }
def PurseBooksSaid : Prop := purseBooksRow.holds Try.pinned (OpenSpec.ofChange purseBooksSpec)

/-- ITS FALSE NEIGHBOUR: 'it returns false'. Refute it at one input. -/
def purseBooksWrong : ChangeSpec := { name := "purseBooks", fn := fun _ => fun
  | [d] => { results := [.lit (.bool false)], args := [d] }
  | _ => none }
def PurseBooksWrongFalsely : Prop := purseBooksRow.holds Try.pinned (OpenSpec.ofChange purseBooksWrong)

/-- 'sojournlaw10.PurseGone': WHATEVER THE INPUT: true; the input reads as it did. -/
def purseGoneSpec : ChangeSpec := { name := "purseGone", fn := fun _ => fun
  | [d1, d2, d3] => { results := [.lit (.bool true)], args := [d1, d2, d3] }
  | _ => none }
def purseGoneRow : OpenClaim := { program := "ytbmpjndagponoaa", sum := "d07387e340ad2bac41d7aaa0b34cb4b1a814d1871030b389dce5f879feb632f5", func := "sojourn/sojournlaw10.PurseGone", spec := "purseGone", unfollowed := true, recurses := true, apart := false }
def PurseGoneSaid : Prop := purseGoneRow.holds Try.pinned (OpenSpec.ofChange purseGoneSpec)

/-- ITS FALSE NEIGHBOUR: 'it returns false'. Refute it at one input. -/
def purseGoneWrong : ChangeSpec := { name := "purseGone", fn := fun _ => fun
  | [d1, d2, d3] => { results := [.lit (.bool false)], args := [d1, d2, d3] }
  | _ => none }
def PurseGoneWrongFalsely : Prop := purseGoneRow.holds Try.pinned (OpenSpec.ofChange purseGoneWrong)

/-- 'sojournlaw10.PurseFits': WHATEVER THE INPUT: true; the input reads as it did. -/
def purseFitsSpec : ChangeSpec := { name := "purseFits", fn := fun _ => fun
  | [d1, d2] => { results := [.lit (.bool true)], args := [d1, d2] }
  | _ => none }
def purseFitsRow : OpenClaim := { program := "ytbmpjndagponoaa", sum := "d07387e340ad2bac41d7aaa0b34cb4b1a814d1871030b389dce5f879feb632f5", func := "sojourn/sojournlaw10.PurseFits", spec := "purseFits", unfollowed := true, recurses := true, apart := false }
def PurseFitsSaid : Prop := purseFitsRow.holds Try.pinned (OpenSpec.ofChange purseFitsSpec)

/-- ITS FALSE NEIGHBOUR: 'it returns false'. Refute it at one input. -/
def purseFitsWrong : ChangeSpec := { name := "purseFits", fn := fun _ => fun
  | [d1, d2] => { results := [.lit (.bool false)], args := [d1, d2] }
  | _ => none }
def PurseFitsWrongFalsely : Prop := purseFitsRow.holds Try.pinned (OpenSpec.ofChange purseFitsWrong)

/-- 'sojournlaw10.PursePlays': WHATEVER THE INPUT: true; the input reads as it did. -/
def pursePlaysSpec : ChangeSpec := { name := "pursePlays", fn := fun _ => fun
  | [d1, d2, d3] => { results := [.lit (.bool true)], args := [d1, d2, d3] }
  | _ => none }
def pursePlaysRow : OpenClaim := { program := "ytbmpjndagponoaa", sum := "d07387e340ad2bac41d7aaa0b34cb4b1a814d1871030b389dce5f879feb632f5", func := "sojourn/sojournlaw10.PursePlays", spec := "pursePlays", inPlace := ["maps.clone"], unfollowed := true, recurses := true, apart := false }
def PursePlaysSaid : Prop := pursePlaysRow.holds Try.pinned (OpenSpec.ofChange pursePlaysSpec)

/-- ITS FALSE NEIGHBOUR: 'it returns false'. Refute it at one input. -/
def pursePlaysWrong : ChangeSpec := { name := "pursePlays", fn := fun _ => fun
  | [d1, d2, d3] => { results := [.lit (.bool false)], args := [d1, d2, d3] }
  | _ => none }
def PursePlaysWrongFalsely : Prop := pursePlaysRow.holds Try.pinned (OpenSpec.ofChange pursePlaysWrong)

/-- 'sojournlaw10.PurseNobody': WHATEVER THE INPUT: true; the input reads as it did. -/
def purseNobodySpec : ChangeSpec := { name := "purseNobody", fn := fun _ => fun
  | [d] => { results := [.lit (.bool true)], args := [d] }
  | _ => none }
def purseNobodyRow : OpenClaim := { program := "ytbmpjndagponoaa", sum := "d07387e340ad2bac41d7aaa0b34cb4b1a814d1871030b389dce5f879feb632f5", func := "sojourn/sojournlaw10.PurseNobody", spec := "purseNobody", inPlace := ["maps.clone"], unfollowed := true, recurses := true, apart := false }
def PurseNobodySaid : Prop := purseNobodyRow.holds Try.pinned (OpenSpec.ofChange purseNobodySpec)

/-- ITS FALSE NEIGHBOUR: 'it returns false'. Refute it at one input. -/
def purseNobodyWrong : ChangeSpec := { name := "purseNobody", fn := fun _ => fun
  | [d] => { results := [.lit (.bool false)], args := [d] }
  | _ => none }
def PurseNobodyWrongFalsely : Prop := purseNobodyRow.holds Try.pinned (OpenSpec.ofChange purseNobodyWrong)

/- THE SECOND FORM. 'bulk': how many values and letters a reading holds, each counted each time it is reached (what is shared counts as often as it is met; a slice's spare places count too). A statement '..UptoSaid' is the law's where the arguments, and the package variables that the reading takes, are together of bulk at most 1048576: NARROWER than '..Said'. Prove '..Said' where nothing that the law and all that it calls make is longer than what came in: it says more and counts as full. Else prove '..UptoSaid'. A law counts once. -/
mutual
def uptoBulk {H : Type} : DataW H → Nat
  | .lit (.string bytes) => bytes.length + 1
  | .lit _ => 1
  | .nil => 1
  | .ptr d => uptoBulk d + 1
  | .slice elems spare => uptoBulkAll elems + uptoBulkAll spare + 1
  | .agg parts => uptoBulkAll parts + 1
  | .iface _ d => uptoBulk d + 1
  | .map entries => uptoBulkEntries entries + 1
  | .held _ => 1
def uptoBulkAll {H : Type} : List (DataW H) → Nat
  | [] => 0
  | d :: r => uptoBulk d + uptoBulkAll r
def uptoBulkEntries {H : Type} : List (Lit × DataW H) → Nat
  | [] => 0
  | x :: r => uptoBulkEntry x + uptoBulkEntries r
def uptoBulkEntry {H : Type} : Lit × DataW H → Nat
  | (.string bytes, d) => bytes.length + uptoBulk d + 1
  | (_, d) => uptoBulk d + 1
 end
def uptoSmall : (H : Type) → List (DataW H) → Bool := fun _ ds => decide (uptoBulkAll ds ≤ 1048576)
def OpenSpec.upto (s : _root_.Go.ChangeSpec) : _root_.Go.OpenSpec := { _root_.Go.OpenSpec.ofChange s with cond := some uptoSmall }

/-- 'sojournlaw10.PurseSum', WHERE WHAT IT READS IS OF BULK AT MOST 1048576: true; the input reads as it did. -/
def purseSumUptoRow : OpenClaim := { program := "ytbmpjndagponoaa", sum := "d07387e340ad2bac41d7aaa0b34cb4b1a814d1871030b389dce5f879feb632f5", func := "sojourn/sojournlaw10.PurseSum", spec := "purseSum", unfollowed := true, recurses := true, apart := false, narrowed := true }
def PurseSumUptoSaid : Prop := purseSumUptoRow.holds Try.pinned (OpenSpec.upto purseSumSpec)

/-- 'sojournlaw10.PurseBooks', WHERE WHAT IT READS IS OF BULK AT MOST 1048576: true; the input reads as it did. -/
def purseBooksUptoRow : OpenClaim := { program := "ytbmpjndagponoaa", sum := "d07387e340ad2bac41d7aaa0b34cb4b1a814d1871030b389dce5f879feb632f5", func := "sojourn/sojournlaw10.PurseBooks", spec := "purseBooks", unfollowed := true, recurses := true, apart := false, narrowed := true }
def PurseBooksUptoSaid : Prop := purseBooksUptoRow.holds Try.pinned (OpenSpec.upto purseBooksSpec)

/-- 'sojournlaw10.PurseGone', WHERE WHAT IT READS IS OF BULK AT MOST 1048576: true; the input reads as it did. -/
def purseGoneUptoRow : OpenClaim := { program := "ytbmpjndagponoaa", sum := "d07387e340ad2bac41d7aaa0b34cb4b1a814d1871030b389dce5f879feb632f5", func := "sojourn/sojournlaw10.PurseGone", spec := "purseGone", unfollowed := true, recurses := true, apart := false, narrowed := true }
def PurseGoneUptoSaid : Prop := purseGoneUptoRow.holds Try.pinned (OpenSpec.upto purseGoneSpec)

/-- 'sojournlaw10.PurseFits', WHERE WHAT IT READS IS OF BULK AT MOST 1048576: true; the input reads as it did. -/
def purseFitsUptoRow : OpenClaim := { program := "ytbmpjndagponoaa", sum := "d07387e340ad2bac41d7aaa0b34cb4b1a814d1871030b389dce5f879feb632f5", func := "sojourn/sojournlaw10.PurseFits", spec := "purseFits", unfollowed := true, recurses := true, apart := false, narrowed := true }
def PurseFitsUptoSaid : Prop := purseFitsUptoRow.holds Try.pinned (OpenSpec.upto purseFitsSpec)

/-- 'sojournlaw10.PursePlays', WHERE WHAT IT READS IS OF BULK AT MOST 1048576: true; the input reads as it did. -/
def pursePlaysUptoRow : OpenClaim := { program := "ytbmpjndagponoaa", sum := "d07387e340ad2bac41d7aaa0b34cb4b1a814d1871030b389dce5f879feb632f5", func := "sojourn/sojournlaw10.PursePlays", spec := "pursePlays", inPlace := ["maps.clone"], unfollowed := true, recurses := true, apart := false, narrowed := true }
def PursePlaysUptoSaid : Prop := pursePlaysUptoRow.holds Try.pinned (OpenSpec.upto pursePlaysSpec)

/-- 'sojournlaw10.PurseNobody', WHERE WHAT IT READS IS OF BULK AT MOST 1048576: true; the input reads as it did. -/
def purseNobodyUptoRow : OpenClaim := { program := "ytbmpjndagponoaa", sum := "d07387e340ad2bac41d7aaa0b34cb4b1a814d1871030b389dce5f879feb632f5", func := "sojourn/sojournlaw10.PurseNobody", spec := "purseNobody", inPlace := ["maps.clone"], unfollowed := true, recurses := true, apart := false, narrowed := true }
def PurseNobodyUptoSaid : Prop := purseNobodyUptoRow.holds Try.pinned (OpenSpec.upto purseNobodySpec)

end Rows
end Go.Proofs.Ytbmpjndagponoaa
