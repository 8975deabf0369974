/-
  The purse as plain mathematics: accounts, bookings by their numbers, moves; what an operation does to them, and what stays true whatever is asked.
-/
import Derived.RowKit
namespace Go.Proofs.Ytddnpjlcmokbiaa

/-- An entry: state, units, until, customer, amount. -/
structure Ent where
  st : Int
  un : Int
  til : Int
  cu : Int
  am : Int
deriving DecidableEq

/-- An operation: kind, book, units, customer, amount. -/
structure POp where
  kd : Int
  bk : Int
  un : Int
  cu : Int
  am : Int
deriving DecidableEq

/-- A move of money. -/
structure Mv where
  bk : Int
  fr : Int
  to : Int
  am : Int
deriving DecidableEq

def Ent.none : Ent := ⟨0, 0, 0, 0, 0⟩
def Ent.gone : Ent := ⟨3, 0, 0, 0, 0⟩

/-- May an operation be? -/
def mayOp (o : POp) : Bool :=
  decide (1 ≤ o.kd ∧ o.kd ≤ 6) && decide (1 ≤ o.bk ∧ o.bk ≤ 200) &&
  (if o.kd = 1 then decide (1 ≤ o.un ∧ o.un ≤ 1000) else decide (o.un = 0)) &&
  (if o.kd = 4 then decide (0 ≤ o.cu ∧ o.cu ≤ 3) else decide (o.cu = 0)) &&
  (if o.kd = 4 then decide (0 ≤ o.am ∧ o.am ≤ 1099511627776) else decide (o.am = 0))

/-- A purse: six accounts, the bookings, the moves. -/
structure Pur where
  ac : Int → Int
  en : Int → Ent
  ln : List Mv

/-- Accounts with an amount gone from one to another. -/
def mvd (ac : Int → Int) (fr to am : Int) : Int → Int := fun i => if i = to then ac to + am else if i = fr then ac fr - am else ac i

def Pur.set (p : Pur) (b : Int) (e : Ent) : Pur := { p with en := fun i => if i = b then e else p.en i }

/-- Money goes, and the booking is told anew. -/
def Pur.move (p : Pur) (b fr to am : Int) (e : Ent) : Pur := { ac := mvd p.ac fr to am, en := fun i => if i = b then e else p.en i, ln := p.ln ++ [⟨b, fr, to, am⟩] }

/-- Nothing goes; a booking that was not there is gone. -/
def Pur.stay (p : Pur) (b : Int) : Pur := if (p.en b).st = 0 then p.set b Ent.gone else p

/-- What an operation does: the answer, the purse behind it. -/
def Pur.act (p : Pur) (o : POp) : Int × Pur :=
  if mayOp o = false then (2, p) else
  let x := p.en o.bk
  if o.kd = 4 ∧ x.st = 0 ∧ o.am ≤ p.ac o.cu then (1, p.move o.bk o.cu 4 o.am ⟨4, x.un, x.til, o.cu, o.am⟩)
  else if o.kd = 4 then (if (x.st = 4 ∨ x.st = 5) ∧ x.cu = o.cu ∧ x.am = o.am then 1 else 2, p.stay o.bk)
  else if o.kd = 5 ∧ x.st = 4 then (1, p.move o.bk 4 5 x.am ⟨5, x.un, x.til, x.cu, x.am⟩)
  else if o.kd = 5 then (if x.st = 5 then 1 else 2, p.stay o.bk)
  else if o.kd = 6 ∧ x.st = 4 then (1, p.move o.bk 4 x.cu x.am Ent.gone)
  else if o.kd = 6 ∧ x.st = 5 then (1, p.move o.bk 5 x.cu x.am Ent.gone)
  else if o.kd = 6 then (1, p.stay o.bk)
  else (2, p)

end Go.Proofs.Ytddnpjlcmokbiaa
