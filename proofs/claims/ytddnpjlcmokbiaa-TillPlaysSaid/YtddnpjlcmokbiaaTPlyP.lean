/-
  layer 11: how many keys stand ahead of a key.
-/
import Derived.Test.YtddnpjlcmokbiaaKeyZ
namespace Go.Proofs.Ytddnpjlcmokbiaa

def keyG (i : Nat) : Int × Int := (((i / 6 : Nat) : Int) + 1, ((i % 6 : Nat) : Int) + 1)
def keyL : List (Int × Int) := (List.range 1200).map keyG
/-- How many of the first m keys have an answer. -/
def cntK (f : Tab) (m : Nat) : Nat := ((keyL.take m).filter fun p => decide (f p ≠ 0)).length
theorem tkeys_eq (f : Tab) : tkeys f = keyL.filter fun p => decide (f p ≠ 0) := rfl
theorem keyL_get (m : Nat) (h : m < 1200) : keyL[m]? = some (keyG m) := by
  unfold keyL
  rw [List.getElem?_map, List.getElem?_range h]
  rfl
theorem keyL_len : keyL.length = 1200 := by simp [keyL]
theorem keyL_take (m : Nat) (h : m < 1200) : keyL.take (m + 1) = keyL.take m ++ [keyG m] := by
  rw [List.take_add_one, keyL_get m h]
  rfl
theorem cntK_zero (f : Tab) : cntK f 0 = 0 := rfl
theorem cntK_all (f : Tab) : cntK f 1200 = (tkeys f).length := by
  unfold cntK
  rw [tkeys_eq, List.take_of_length_le (by rw [keyL_len]; exact Nat.le_refl _)]
theorem cntK_miss (f : Tab) (m : Nat) (h : m < 1200) (hf : f (keyG m) = 0) : cntK f (m + 1) = cntK f m := by
  unfold cntK
  rw [keyL_take m h, List.filter_append]
  simp [hf]
theorem cntK_hit (f : Tab) (m : Nat) (h : m < 1200) (hf : f (keyG m) ≠ 0) : cntK f (m + 1) = cntK f m + 1 := by
  unfold cntK
  rw [keyL_take m h, List.filter_append]
  simp [hf]
theorem filt_get {α : Type} (p : α → Bool) : ∀ (l : List α) (m : Nat) (a : α), l[m]? = some a → p a = true → (l.filter p)[((l.take m).filter p).length]? = some a
  | [], m, a, h, _ => by simp at h
  | x :: r, 0, a, h, hp => by
    simp at h
    subst h
    simp [hp]
  | x :: r, m + 1, a, h, hp => by
    have h' : r[m]? = some a := by simpa using h
    have := filt_get p r m a h' hp
    by_cases hx : p x = true
    · simp [hx, this]
    · simp [hx, this]
theorem cntK_get (f : Tab) (m : Nat) (h : m < 1200) (hf : f (keyG m) ≠ 0) : (tkeys f)[cntK f m]? = some (keyG m) :=
  filt_get (fun p => decide (f p ≠ 0)) keyL m (keyG m) (keyL_get m h) (by simpa using hf)
theorem cntK_le (f : Tab) (m : Nat) (h : m < 1200) (hf : f (keyG m) ≠ 0) : cntK f m < (tkeys f).length := (List.getElem?_eq_some_iff.1 (cntK_get f m h hf)).1
theorem cntK_bd (f : Tab) (m : Nat) : cntK f m ≤ m := by
  unfold cntK
  refine Nat.le_trans (List.length_filter_le _ _) ?_
  rw [List.length_take]
  exact Nat.min_le_left _ _
end Go.Proofs.Ytddnpjlcmokbiaa
