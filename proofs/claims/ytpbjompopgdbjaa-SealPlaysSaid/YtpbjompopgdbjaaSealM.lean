/-
  logs in plain words: what a log's files keep.
-/
import Derived.Test.YtpbjompopgdbjaaZDskB
import Derived.Test.YtpbjompopgdbjaaFrmM
import Derived.Test.YtpbjompopgdbjaaPackM
namespace Go.Proofs.Ytpbjompopgdbjaa

abbrev Rec := List UInt8
def nSnap : Nam := [115, 110, 97, 112]
def nLog : Nam := [108, 111, 103]
def nNext : Nam := [110, 101, 120, 116]
/-- What a file keeps: its generation, and what stands behind it; none: no whole frame. -/
abbrev Kept := Option (Int × List Rec)
def Kept.rows (o : Kept) : List Rec := match o with
  | none => []
  | some (a, l) => nb a :: l
def Kept.told (o : Kept) : Int := match o with
  | none => -1
  | some (a, _) => a
def Kept.age (o : Kept) : Int := match o with
  | none => 0
  | some (a, _) => a
def Kept.st (o : Kept) : List Rec := match o with
  | none => []
  | some (_, l) => l
def Kept.ok (o : Kept) : Prop := ∀ a l, o = some (a, l) → 0 ≤ a ∧ a < 4611686018427387904
/-- The records that count: those of the state's generation. -/
def logRecs (so lo : Kept) : List Rec := match lo with
  | none => []
  | some (a, l) => if a = so.age then l else []
def logEnd (so lo : Kept) : Nat := match lo with
  | none => 0
  | some (a, l) => if a = so.age then (flat (nb a :: l)).length else 0
def Dsk.opened (D : Dsk) (so lo : Kept) : Dsk := ((D.remove nNext).2.cut nLog (logEnd so lo : Nat)).2
theorem remove_ne (D : Dsk) {n m : Nam} (h : m ≠ n) : ((D.remove n).2).fl m = D.fl m := by
  unfold Dsk.remove
  cases D.fl n with
  | none => rfl
  | some f => exact upd_other D.fl n _ _ h
theorem max_told (so : Kept) (h : so.ok) : max so.told 0 = so.age := by
  cases so with
  | none => rfl
  | some p =>
    obtain ⟨a, l⟩ := p
    have := (h a l rfl).1
    show max a 0 = a
    omega
end Go.Proofs.Ytpbjompopgdbjaa
