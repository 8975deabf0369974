/-
  An array whose cells a function tells.
-/
import Derived.RowKit
import Derived.Test.YtddnpjlcmokbiaaPurseM
namespace Go.Proofs.Ytddnpjlcmokbiaa

def arrF (n : Nat) (f : Nat → Value) : Array Value := ((List.range n).map f).toArray
theorem arrF_get (n : Nat) (f : Nat → Value) (i : Nat) (h : i < n) : (arrF n f)[i]? = some (f i) := by
  unfold arrF
  simp [List.getElem?_range h]
theorem arrF_set (n : Nat) (f : Nat → Value) (i : Nat) (v : Value) : (arrF n f).setIfInBounds i v = arrF n (fun j => if j = i then v else f j) := by
  unfold arrF
  rw [List.setIfInBounds_toArray]
  congr 1
  apply List.ext_getElem?
  intro j
  rw [List.getElem?_set]
  simp only [List.getElem?_map, List.length_map, List.length_range]
  by_cases hj : j < n
  · rw [List.getElem?_range hj]
    by_cases e : i = j
    · subst e; simp [hj]
    · have : ¬ (j = i) := fun h => e h.symm
      simp [e, this]
  · rw [List.getElem?_eq_none (l := List.range n) (i := j) (by simp; omega)]
    by_cases e : i = j
    · subst e; simp [hj]
    · simp [e]
theorem arrF_congr (n : Nat) (f g : Nat → Value) (h : ∀ i, i < n → f i = g i) : arrF n f = arrF n g := by
  unfold arrF
  congr 1
  exact List.map_congr_left (fun i hi => h i (List.mem_range.1 hi))

/-- An entry's cells. -/
def entCell (e : Ent) (j : Nat) : Value := if j = 0 then .int .i64 e.st else if j = 1 then .int .i64 e.un else if j = 2 then .int .i64 e.til else if j = 3 then .int .i64 e.cu else .int .i64 e.am
end Go.Proofs.Ytddnpjlcmokbiaa
