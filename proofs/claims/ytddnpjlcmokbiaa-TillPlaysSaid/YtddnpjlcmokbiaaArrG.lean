/-
  Arrays of ints of any length as blocks.
-/
import Derived.Test.YtddnpjlcmokbiaaWorld
namespace Go.Proofs.Ytddnpjlcmokbiaa
open Go.RowKit

def updG (g : Int → Int) (i v : Int) : Int → Int := fun j => if j = i then v else g j
def arrG (n : Nat) (g : Int → Int) : Array Value := ((List.range n).map fun (i : Nat) => Value.int .i64 (g (i : Int))).toArray

theorem arrG_get (n : Nat) (g : Int → Int) (i : Nat) (h : i < n) : (arrG n g)[i]? = some (.int .i64 (g i)) := by
  unfold arrG
  simp [List.getElem?_range h]
theorem arrG_set (n : Nat) (g : Int → Int) (i : Nat) (v : Int) : (arrG n g).setIfInBounds i (.int .i64 v) = arrG n (updG g i v) := by
  unfold arrG
  rw [List.setIfInBounds_toArray]
  congr 1
  apply List.ext_getElem?
  intro j
  rw [List.getElem?_set]
  simp only [List.getElem?_map, List.length_map, List.length_range, updG]
  by_cases hj : j < n
  · rw [List.getElem?_range hj]
    by_cases e : i = j
    · subst e; simp [hj]
    · have : ¬ ((j : Int) = (i : Int)) := by omega
      simp [e, this]
  · rw [List.getElem?_eq_none (l := List.range n) (i := j) (by simp; omega)]
    by_cases e : i = j
    · subst e; simp [hj]
    · simp [e]
theorem arrG_size (n : Nat) (g : Int → Int) : (arrG n g).size = n := by unfold arrG; simp

theorem addr_add0 (g n : Nat) : (⟨g, 0, none⟩ : Addr).add n = ⟨g, n, none⟩ := by unfold Addr.add; split <;> simp_all
theorem far_cell {w : World} {p q : Addr} (u : Value) (h : q.block ≠ p.block) : (w.setCell p u).cell? q = w.cell? q := World.cell?_of_block (Below.heap_setCell w p u q.block h)
theorem updG_updG (g : Int → Int) (i u v : Int) : updG (updG g i u) i v = updG g i v := by funext j; unfold updG; split <;> rfl
theorem alloc_size (w : World) (o : Obj) : (w.alloc o).heap.size = w.heap.size + 1 := by simp

theorem Blk.drew {w : World} {g : Nat} {t : TypeId} {cs : Array Value} (h : Blk w g t cs) : Blk w.drew g t cs := h
theorem Blk.put {w : World} {g n : Nat} {t : TypeId} {f f' : Int → Int} (h : Blk w g t (arrG n f)) (i : Nat) (v : Int) (e : updG f i v = f') : Blk (w.setCell ⟨g, i, none⟩ (.int .i64 v)) g t (arrG n f') := by
  have h1 := h.set i (.int .i64 v)
  rw [arrG_set, e] at h1
  exact h1
theorem Blk.rd {w : World} {g n : Nat} {t : TypeId} {f : Int → Int} (h : Blk w g t (arrG n f)) (i : Nat) (hi : i < n) (v : Int) (e : f i = v) : w.cell? ⟨g, i, none⟩ = some (.int .i64 v) := by
  rw [h.cell, arrG_get _ _ _ hi, e]
end Go.Proofs.Ytddnpjlcmokbiaa
