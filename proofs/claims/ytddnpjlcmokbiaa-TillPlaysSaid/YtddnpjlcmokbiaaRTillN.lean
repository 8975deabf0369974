/-
  The reference's till, made of a purse.
-/
import Derived.Test.YtddnpjlcmokbiaaZTillA
import Derived.Test.YtddnpjlcmokbiaaRPurN
namespace Go.Proofs.Ytddnpjlcmokbiaa
open Go.RowKit Go.Maps

theorem fold_range (n : Nat) (g h : Nat → Value) : ∀ m : Nat, (List.range m).foldl (fun (cs : Array Value) i => cs.setIfInBounds i (h i)) (arrF n g) = arrF n (fun j => if j < m then h j else g j)
  | 0 => by
    refine arrF_congr n _ _ (fun i _ => ?_)
    rw [if_neg (by omega)]
  | m + 1 => by
    rw [List.range_succ, List.foldl_append, fold_range n g h m]
    simp only [List.foldl_cons, List.foldl_nil]
    rw [arrF_set]
    refine arrF_congr n _ _ (fun i _ => ?_)
    by_cases e : i = m
    · rw [if_pos e, if_pos (by omega), e]
    · rw [if_neg e]
      by_cases e2 : i < m
      · rw [if_pos e2, if_pos (by omega)]
      · rw [if_neg e2, if_neg (by omega)]
theorem zip_range (m : Nat) (h : Nat → Value) : ((List.range m).map h).zipIdx = (List.range m).map (fun i => (h i, i)) := by
  apply List.ext_getElem
  · simp
  · intro i h1 h2
    simp
set_option maxRecDepth 100000 in
theorem rl_zero : Try.zeroCells54 = arrF 2420 (rlCell (fun _ => 0) (fun _ => Ent.none) (.slice none 0 0) (fun _ => 0) 0) := by kernel_rfl
theorem arrF_size (n : Nat) (g : Nat → Value) : (arrF n g).size = n := by unfold arrF; simp
theorem rl_fold (ac : Int → Int) (en : Int → Ent) (lv : Value) (A : Array Value) (hA : arrF 1012 (qovl RP.g ac en lv) = A) :
    Array.foldl (fun (cs : Array Value) (x : Value × Nat) => cs.setIfInBounds x.snd x.fst) Try.zeroCells54 A.zipIdx 0 1012 = arrF 2420 (rlCell ac en lv (fun _ => 0) 0) := by
  have hs : A.zipIdx.size = 1012 := by rw [Array.size_zipIdx, ← hA, arrF_size]
  rw [← hs, ← Array.foldl_toList, Array.toList_zipIdx, ← hA]
  unfold arrF
  rw [zip_range, List.foldl_map, rl_zero, fold_range]
  refine arrF_congr 2420 _ _ (fun i _ => ?_)
  unfold rlCell qovl
  by_cases h : i < 1012
  · rw [if_pos h, if_pos h, if_pos h]
  · rw [if_neg h, if_neg h, if_neg h]
end Go.Proofs.Ytddnpjlcmokbiaa
