/-
  No cell of these rows narrows 'for every input' (looked for: loops, veiled, ifaces, maps, wideKeys, modest, calm, conditions, laid).
  DERIVED. THE GIVEN ROWS OF THIS SEAT. 7 by the template 'for every input the law returns true; each argument reads behind the call as it read before'; 0 by the template 'total and deterministic' (their statements: YtajefffhdeljfaaTotals.lean).
  GIVEN WITH THE SEED: the statements are not yours to turn. If you find one false, say at which input.
  Laid BY PROGRAM, IN A SANDBOX (cutbox-rows.mjs): the forced cells as the released guide's own fill.sh prints them over the translation e5e5463942b2664b… (all of the seat's roots in one cut). By AI agents, Wed Nov 11 2026. No macro, syntax, notation, axiom, sorry.
-/
import Derived.Test.YtajefffhdeljfaaChecked
import GoSem.Claim
import GoSem.ClaimJoined
import GoSem.ClaimMapViews
import Derived.JoinedTies
import Derived.KernelRfl
namespace Go.Proofs.Ytajefffhdeljfaa
/- THE CELL 'sum', in the pinned program and in every row, IS THE sha256 OF THE DUMP (.gsa) THAT YtajefffhdeljfaaProg.lean LOADS. Nothing in Lean hashes anything: it is a label: what it is worth is what the hold of that sum in a sandbox is worth. -/
noncomputable def Try.pinned : Pinned := { name := "ytajefffhdeljfaa", sum := "e5e5463942b2664bd47f55ed0862910ff2c5a4ba158a7f71e22dd0ac9bdf1e10", checked := Try.checked }
namespace Rows
def none {H : Type} : Left H := { results := [], args := [] }

/-- 'sojournlaw13.TillApart': WHATEVER THE INPUT: true; the input reads as it did. -/
def tillApartSpec : ChangeSpec := { name := "tillApart", fn := fun _ => fun
  | [d1, d2] => { results := [.lit (.bool true)], args := [d1, d2] }
  | _ => none }
def tillApartRow : OpenClaim := { program := "ytajefffhdeljfaa", sum := "e5e5463942b2664bd47f55ed0862910ff2c5a4ba158a7f71e22dd0ac9bdf1e10", func := "sojourn/sojournlaw13.TillApart", spec := "tillApart", inPlace := ["maps.clone"], unfollowed := true, recurses := true, plainKeys := false, apart := false }
def TillApartSaid : Prop := tillApartRow.holds Try.pinned (OpenSpec.ofChange tillApartSpec)

/-- ITS FALSE NEIGHBOUR: 'it returns false'. Refute it at one input. -/
def tillApartWrong : ChangeSpec := { name := "tillApart", fn := fun _ => fun
  | [d1, d2] => { results := [.lit (.bool false)], args := [d1, d2] }
  | _ => none }
def TillApartWrongFalsely : Prop := tillApartRow.holds Try.pinned (OpenSpec.ofChange tillApartWrong)

/-- 'sojournlaw13.TillVoid': WHATEVER THE INPUT: true; the input reads as it did. -/
def tillVoidSpec : ChangeSpec := { name := "tillVoid", fn := fun _ => fun
  | [d1, d2, d3] => { results := [.lit (.bool true)], args := [d1, d2, d3] }
  | _ => none }
def tillVoidRow : OpenClaim := { program := "ytajefffhdeljfaa", sum := "e5e5463942b2664bd47f55ed0862910ff2c5a4ba158a7f71e22dd0ac9bdf1e10", func := "sojourn/sojournlaw13.TillVoid", spec := "tillVoid", inPlace := ["maps.clone"], unfollowed := true, recurses := true, plainKeys := false, apart := false }
def TillVoidSaid : Prop := tillVoidRow.holds Try.pinned (OpenSpec.ofChange tillVoidSpec)

/-- ITS FALSE NEIGHBOUR: 'it returns false'. Refute it at one input. -/
def tillVoidWrong : ChangeSpec := { name := "tillVoid", fn := fun _ => fun
  | [d1, d2, d3] => { results := [.lit (.bool false)], args := [d1, d2, d3] }
  | _ => none }
def TillVoidWrongFalsely : Prop := tillVoidRow.holds Try.pinned (OpenSpec.ofChange tillVoidWrong)

/-- 'sojournlaw11.TablePlays': WHATEVER THE INPUT: true; the input reads as it did. -/
def tablePlaysSpec : ChangeSpec := { name := "tablePlays", fn := fun _ => fun
  | [d] => { results := [.lit (.bool true)], args := [d] }
  | _ => none }
def tablePlaysRow : OpenClaim := { program := "ytajefffhdeljfaa", sum := "e5e5463942b2664bd47f55ed0862910ff2c5a4ba158a7f71e22dd0ac9bdf1e10", func := "sojourn/sojournlaw11.TablePlays", spec := "tablePlays", unfollowed := true, recurses := true, plainKeys := false, apart := false }
def TablePlaysSaid : Prop := tablePlaysRow.holds Try.pinned (OpenSpec.ofChange tablePlaysSpec)

/-- ITS FALSE NEIGHBOUR: 'it returns false'. Refute it at one input. -/
def tablePlaysWrong : ChangeSpec := { name := "tablePlays", fn := fun _ => fun
  | [d] => { results := [.lit (.bool false)], args := [d] }
  | _ => none }
def TablePlaysWrongFalsely : Prop := tablePlaysRow.holds Try.pinned (OpenSpec.ofChange tablePlaysWrong)

/-- 'sojournlaw11.TableFirst': WHATEVER THE INPUT: true; the input reads as it did. -/
def tableFirstSpec : ChangeSpec := { name := "tableFirst", fn := fun _ => fun
  | [d] => { results := [.lit (.bool true)], args := [d] }
  | _ => none }
def tableFirstRow : OpenClaim := { program := "ytajefffhdeljfaa", sum := "e5e5463942b2664bd47f55ed0862910ff2c5a4ba158a7f71e22dd0ac9bdf1e10", func := "sojourn/sojournlaw11.TableFirst", spec := "tableFirst", unfollowed := true, recurses := true, plainKeys := false, apart := false }
def TableFirstSaid : Prop := tableFirstRow.holds Try.pinned (OpenSpec.ofChange tableFirstSpec)

/-- ITS FALSE NEIGHBOUR: 'it returns false'. Refute it at one input. -/
def tableFirstWrong : ChangeSpec := { name := "tableFirst", fn := fun _ => fun
  | [d] => { results := [.lit (.bool false)], args := [d] }
  | _ => none }
def TableFirstWrongFalsely : Prop := tableFirstRow.holds Try.pinned (OpenSpec.ofChange tableFirstWrong)

/-- 'sojournlaw11.TableKeys': WHATEVER THE INPUT: true; the input reads as it did. -/
def tableKeysSpec : ChangeSpec := { name := "tableKeys", fn := fun _ => fun
  | [d] => { results := [.lit (.bool true)], args := [d] }
  | _ => none }
def tableKeysRow : OpenClaim := { program := "ytajefffhdeljfaa", sum := "e5e5463942b2664bd47f55ed0862910ff2c5a4ba158a7f71e22dd0ac9bdf1e10", func := "sojourn/sojournlaw11.TableKeys", spec := "tableKeys", unfollowed := true, recurses := true, plainKeys := false, apart := false }
def TableKeysSaid : Prop := tableKeysRow.holds Try.pinned (OpenSpec.ofChange tableKeysSpec)

/-- ITS FALSE NEIGHBOUR: 'it returns false'. Refute it at one input. -/
def tableKeysWrong : ChangeSpec := { name := "tableKeys", fn := fun _ => fun
  | [d] => { results := [.lit (.bool false)], args := [d] }
  | _ => none }
def TableKeysWrongFalsely : Prop := tableKeysRow.holds Try.pinned (OpenSpec.ofChange tableKeysWrong)

/-- 'sojournlaw13.TillTwice': WHATEVER THE INPUT: true; the input reads as it did. -/
def tillTwiceSpec : ChangeSpec := { name := "tillTwice", fn := fun _ => fun
  | [d1, d2] => { results := [.lit (.bool true)], args := [d1, d2] }
  | _ => none }
def tillTwiceRow : OpenClaim := { program := "ytajefffhdeljfaa", sum := "e5e5463942b2664bd47f55ed0862910ff2c5a4ba158a7f71e22dd0ac9bdf1e10", func := "sojourn/sojournlaw13.TillTwice", spec := "tillTwice", inPlace := ["maps.clone"], unfollowed := true, recurses := true, plainKeys := false, apart := false }
def TillTwiceSaid : Prop := tillTwiceRow.holds Try.pinned (OpenSpec.ofChange tillTwiceSpec)

/-- ITS FALSE NEIGHBOUR: 'it returns false'. Refute it at one input. -/
def tillTwiceWrong : ChangeSpec := { name := "tillTwice", fn := fun _ => fun
  | [d1, d2] => { results := [.lit (.bool false)], args := [d1, d2] }
  | _ => none }
def TillTwiceWrongFalsely : Prop := tillTwiceRow.holds Try.pinned (OpenSpec.ofChange tillTwiceWrong)

/-- 'sojournlaw13.TillPlays': WHATEVER THE INPUT: true; the input reads as it did. -/
def tillPlaysSpec : ChangeSpec := { name := "tillPlays", fn := fun _ => fun
  | [d1, d2] => { results := [.lit (.bool true)], args := [d1, d2] }
  | _ => none }
def tillPlaysRow : OpenClaim := { program := "ytajefffhdeljfaa", sum := "e5e5463942b2664bd47f55ed0862910ff2c5a4ba158a7f71e22dd0ac9bdf1e10", func := "sojourn/sojournlaw13.TillPlays", spec := "tillPlays", inPlace := ["maps.clone"], unfollowed := true, recurses := true, plainKeys := false, apart := false }
def TillPlaysSaid : Prop := tillPlaysRow.holds Try.pinned (OpenSpec.ofChange tillPlaysSpec)

/-- ITS FALSE NEIGHBOUR: 'it returns false'. Refute it at one input. -/
def tillPlaysWrong : ChangeSpec := { name := "tillPlays", fn := fun _ => fun
  | [d1, d2] => { results := [.lit (.bool false)], args := [d1, d2] }
  | _ => none }
def TillPlaysWrongFalsely : Prop := tillPlaysRow.holds Try.pinned (OpenSpec.ofChange tillPlaysWrong)

/- THE SECOND FORM. 'bulk': how many values and letters a reading holds, each counted each time it is reached (what is shared counts as often as it is met; a slice's spare places count too). A statement '..UptoSaid' is the law's where the arguments, and the package variables that the reading takes, are together of bulk at most 1048576: NARROWER than '..Said'. Prove '..Said' where nothing that the law and all that it calls make is longer than what came in: it says more and counts as full. Else prove '..UptoSaid'. A law counts once. -/
mutual
def uptoBulk {H : Type} : DataW H → Nat
  | .lit (.string bytes) => bytes.length + 1
  | .lit _ => 1
  | .nil => 1
  | .ptr d => uptoBulk d + 1
  | .slice elems spare => uptoBulkAll elems + uptoBulkAll spare + 1
  | .agg parts => uptoBulkAll parts + 1
  | .iface _ d => uptoBulk d + 1
  | .map entries => uptoBulkEntries entries + 1
  | .held _ => 1
def uptoBulkAll {H : Type} : List (DataW H) → Nat
  | [] => 0
  | d :: r => uptoBulk d + uptoBulkAll r
def uptoBulkEntries {H : Type} : List (Lit × DataW H) → Nat
  | [] => 0
  | x :: r => uptoBulkEntry x + uptoBulkEntries r
def uptoBulkEntry {H : Type} : Lit × DataW H → Nat
  | (.string bytes, d) => bytes.length + uptoBulk d + 1
  | (_, d) => uptoBulk d + 1
 end
def uptoSmall : (H : Type) → List (DataW H) → Bool := fun _ ds => decide (uptoBulkAll ds ≤ 1048576)
def OpenSpec.upto (s : _root_.Go.ChangeSpec) : _root_.Go.OpenSpec := { _root_.Go.OpenSpec.ofChange s with cond := some uptoSmall }

/-- 'sojournlaw13.TillApart', WHERE WHAT IT READS IS OF BULK AT MOST 1048576: true; the input reads as it did. -/
def tillApartUptoRow : OpenClaim := { program := "ytajefffhdeljfaa", sum := "e5e5463942b2664bd47f55ed0862910ff2c5a4ba158a7f71e22dd0ac9bdf1e10", func := "sojourn/sojournlaw13.TillApart", spec := "tillApart", inPlace := ["maps.clone"], unfollowed := true, recurses := true, plainKeys := false, apart := false, narrowed := true }
def TillApartUptoSaid : Prop := tillApartUptoRow.holds Try.pinned (OpenSpec.upto tillApartSpec)

/-- 'sojournlaw13.TillVoid', WHERE WHAT IT READS IS OF BULK AT MOST 1048576: true; the input reads as it did. -/
def tillVoidUptoRow : OpenClaim := { program := "ytajefffhdeljfaa", sum := "e5e5463942b2664bd47f55ed0862910ff2c5a4ba158a7f71e22dd0ac9bdf1e10", func := "sojourn/sojournlaw13.TillVoid", spec := "tillVoid", inPlace := ["maps.clone"], unfollowed := true, recurses := true, plainKeys := false, apart := false, narrowed := true }
def TillVoidUptoSaid : Prop := tillVoidUptoRow.holds Try.pinned (OpenSpec.upto tillVoidSpec)

/-- 'sojournlaw11.TablePlays', WHERE WHAT IT READS IS OF BULK AT MOST 1048576: true; the input reads as it did. -/
def tablePlaysUptoRow : OpenClaim := { program := "ytajefffhdeljfaa", sum := "e5e5463942b2664bd47f55ed0862910ff2c5a4ba158a7f71e22dd0ac9bdf1e10", func := "sojourn/sojournlaw11.TablePlays", spec := "tablePlays", unfollowed := true, recurses := true, plainKeys := false, apart := false, narrowed := true }
def TablePlaysUptoSaid : Prop := tablePlaysUptoRow.holds Try.pinned (OpenSpec.upto tablePlaysSpec)

/-- 'sojournlaw11.TableFirst', WHERE WHAT IT READS IS OF BULK AT MOST 1048576: true; the input reads as it did. -/
def tableFirstUptoRow : OpenClaim := { program := "ytajefffhdeljfaa", sum := "e5e5463942b2664bd47f55ed0862910ff2c5a4ba158a7f71e22dd0ac9bdf1e10", func := "sojourn/sojournlaw11.TableFirst", spec := "tableFirst", unfollowed := true, recurses := true, plainKeys := false, apart := false, narrowed := true }
def TableFirstUptoSaid : Prop := tableFirstUptoRow.holds Try.pinned (OpenSpec.upto tableFirstSpec)

/-- 'sojournlaw11.TableKeys', WHERE WHAT IT READS IS OF BULK AT MOST 1048576: true; the input reads as it did. -/
def tableKeysUptoRow : OpenClaim := { program := "ytajefffhdeljfaa", sum := "e5e5463942b2664bd47f55ed0862910ff2c5a4ba158a7f71e22dd0ac9bdf1e10", func := "sojourn/sojournlaw11.TableKeys", spec := "tableKeys", unfollowed := true, recurses := true, plainKeys := false, apart := false, narrowed := true }
def TableKeysUptoSaid : Prop := tableKeysUptoRow.holds Try.pinned (OpenSpec.upto tableKeysSpec)

/-- 'sojournlaw13.TillTwice', WHERE WHAT IT READS IS OF BULK AT MOST 1048576: true; the input reads as it did. -/
def tillTwiceUptoRow : OpenClaim := { program := "ytajefffhdeljfaa", sum := "e5e5463942b2664bd47f55ed0862910ff2c5a4ba158a7f71e22dd0ac9bdf1e10", func := "sojourn/sojournlaw13.TillTwice", spec := "tillTwice", inPlace := ["maps.clone"], unfollowed := true, recurses := true, plainKeys := false, apart := false, narrowed := true }
def TillTwiceUptoSaid : Prop := tillTwiceUptoRow.holds Try.pinned (OpenSpec.upto tillTwiceSpec)

/-- 'sojournlaw13.TillPlays', WHERE WHAT IT READS IS OF BULK AT MOST 1048576: true; the input reads as it did. -/
def tillPlaysUptoRow : OpenClaim := { program := "ytajefffhdeljfaa", sum := "e5e5463942b2664bd47f55ed0862910ff2c5a4ba158a7f71e22dd0ac9bdf1e10", func := "sojourn/sojournlaw13.TillPlays", spec := "tillPlays", inPlace := ["maps.clone"], unfollowed := true, recurses := true, plainKeys := false, apart := false, narrowed := true }
def TillPlaysUptoSaid : Prop := tillPlaysUptoRow.holds Try.pinned (OpenSpec.upto tillPlaysSpec)

end Rows
end Go.Proofs.Ytajefffhdeljfaa
