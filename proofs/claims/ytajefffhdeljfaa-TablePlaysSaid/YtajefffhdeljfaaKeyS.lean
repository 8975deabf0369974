/-
  Keys of two numbers: their order, their rows of cells, and what a sort by their order leaves.
-/
import Derived.Test.YtajefffhdeljfaaKeyC
import Derived.Shelf.SlSortCmp.WholeK
import Derived.Sort.OwnSorted
namespace Go.Proofs.Ytajefffhdeljfaa
open Go.RowKit Go.Maps Go.Sort Go.Shelf Go.Proofs

theorem fl2_get : ∀ (l : List (Int × Int)) (t : Nat), t < l.length * 2 → (fl2 l)[t]? = some (encL l[t / 2]!)[t % 2]!
  | [], t, h => by simp at h
  | p :: r, 0, _ => by simp [fl2, encL]
  | p :: r, 1, _ => by simp [fl2, encL]
  | p :: r, t + 2, h => by
    have h' : t < r.length * 2 := by simp at h; omega
    rw [show (t + 2) / 2 = t / 2 + 1 by omega, show (t + 2) % 2 = t % 2 by omega]
    simp only [fl2, List.getElem?_cons_succ]
    rw [fl2_get r t h']
    simp
theorem fl2_flatK (d : Array (Int × Int)) : (flatK encL 2 d).toList = fl2 d.toList := by
  apply List.ext_getElem?
  intro t
  by_cases h : t < d.size * 2
  · rw [fl2_get d.toList t (by simpa using h), Array.getElem?_toList, Array.getElem?_eq_getElem (by simpa using h), ← getElem!_pos _ t (by simpa using h), get_flatK _ _ _ _ h]
    rw [getElem!_pos d (t / 2) (by omega), getElem!_pos d.toList (t / 2) (by simp; omega)]
    rfl
  · rw [List.getElem?_eq_none (by simp; omega), List.getElem?_eq_none (by rw [fl2_len]; simp; omega)]

/-- By booking, then by kind. -/
def cfP (x y : Int × Int) : Int := if Lib.compareInt x.1 y.1 = 0 then Lib.compareInt x.2 y.2 else Lib.compareInt x.1 y.1
theorem ltP (x y : Int × Int) : ltOf cfP x y = decide (x.1 < y.1 ∨ (x.1 = y.1 ∧ x.2 < y.2)) := by
  unfold ltOf cfP Lib.compareInt
  by_cases h1 : x.1 < y.1
  · simp [h1]
  · by_cases h2 : y.1 < x.1
    · have : x.1 ≠ y.1 := by omega
      simp [h1, h2, this]
    · have : x.1 = y.1 := by omega
      simp only [this, Int.lt_irrefl, if_false]
      by_cases h3 : x.2 < y.2
      · simp [h3]
      · by_cases h4 : y.2 < x.2 <;> simp [h3, h4]
theorem swoP : SWO (ltOf cfP) where
  irrefl x := by rw [ltP]; simp
  trans x y z h1 h2 := by rw [ltP] at *; simp at *; omega
  ntrans x y z h1 h2 := by rw [ltP] at *; simp at *; omega

theorem sorted_eqP {d : Array (Int × Int)} {ks : List (Int × Int)} (hp : d.toList.Perm ks) (hs : SortedIn (ltOf cfP) 0 d.size d) (hk : ks.Pairwise fun a b => a.1 < b.1 ∨ (a.1 = b.1 ∧ a.2 < b.2)) : d.toList = ks := by
  refine List.Perm.eq_of_pairwise (le := fun a b => ltOf cfP b a = false) (fun a b _ _ h1 h2 => ?_) ?_ ?_ hp
  · rw [ltP] at h1 h2
    simp at h1 h2
    obtain ⟨a1, a2⟩ := a
    obtain ⟨b1, b2⟩ := b
    simp at h1 h2 ⊢
    omega
  · rw [List.pairwise_iff_getElem]
    intro i j hi hj hij
    have := hs i j (Nat.zero_le _) hij (by simpa using hj)
    rw [getElem!_pos d j (by simpa using hj), getElem!_pos d i (by simpa using hi)] at this
    simpa using this
  · refine hk.imp ?_
    intro a b h
    rw [ltP]
    simp
    omega

theorem holdsP {w : World} {g : Nat} {cur : Array Value} {e : TypeId} {ss : List (Int × Int)} (hb : w.heap[g]? = some (.cells cur e (0, 0))) (ht : cur.toList.take (ss.length * 2) = fl2 ss) : HoldsK encL 2 w g 0 ss.toArray := by
  intro j hj
  have hj' : j < ss.length * 2 := by simpa using hj
  refine ⟨?_, by simp [World.frozen?, hb]⟩
  have h1 : (cur.toList.take (ss.length * 2))[j]? = (fl2 ss)[j]? := by rw [ht]
  rw [List.getElem?_take_of_lt hj', fl2_get ss j hj'] at h1
  rw [get_flatK _ _ _ _ (by simpa using hj')]
  simp only [World.cell?, hb, Nat.zero_add]
  simp only [Option.isSome_none, Bool.false_eq_true, if_false]
  rw [← Array.getElem?_toList, h1]
  simp

theorem take_putCells_id (cur F : Array Value) (h : F.size ≤ cur.size) : (putCells id 0 F cur).toList.take F.size = F.toList := by
  apply List.ext_getElem?
  intro j
  by_cases hj : j < F.size
  · rw [List.getElem?_take_of_lt hj, Array.getElem?_toList]
    simp [putCells, hj, show j < cur.size by omega]
  · rw [List.getElem?_take_eq_none (by omega), List.getElem?_eq_none (by simp; omega)]

theorem ownsP_sorted {w : World} {base g cap n m : Nat} {e : TypeId} {os : Array Obj} {cur : Array Value} {d : Array (Int × Int)} (hd : d.size = n) (hbase : base ≤ g) (hb : w.heap[g]? = some (.cells cur e (0, 0)))
    (h1 : n ≤ cap) (h2 : cap ≤ maxLen) (h3 : cur.size = cap * 2) :
    (sortWorldK encL 2 w g 0 m d os).ownsRow base e 2 (.slice (some ⟨g, 0, none⟩) n cap) n (fl2 d.toList) := by
  have hg : g < w.heap.size := (Array.getElem?_eq_some_iff.1 hb).1
  refine ⟨by rw [fl2_len]; simp [hd], .inr ⟨g, cap, putCells id 0 (flatK encL 2 d) cur, rfl, hbase, ?_, h1, h2, by simp [putCells, h3], ?_⟩⟩
  · unfold sortWorldK putRowK
    rw [heap_grow_old _ _ (by simpa [putRow, mapBlock, Sort.ahead] using hg)]
    simp [putRow, mapBlock, Sort.ahead, Array.getElem?_modify, hb, onCells]
  · have := take_putCells_id cur (flatK encL 2 d) (by rw [size_flatK, h3, hd]; exact Nat.mul_le_mul_right 2 h1)
    rw [size_flatK, hd] at this
    rw [this, fl2_flatK]

theorem below_sorted {w w0 : World} {g m : Nat} {os : Array Obj} {d : Array (Int × Int)} (hb : Below w0.heap.size w0 w) (hg : w0.heap.size ≤ g) : Below w0.heap.size w0 (sortWorldK encL 2 w g 0 m d os) := by
  refine hb.grown (row := some g) ?_ hb.size (fun j hj => by cases hj; exact hg)
  refine ⟨rfl, rfl, rfl, by simp [sortWorldK, putRowK, putRow, mapBlock, Sort.ahead, grow], fun k hk hne => ?_⟩
  unfold sortWorldK putRowK
  rw [heap_grow_old _ _ (by simpa [putRow, mapBlock, Sort.ahead] using hk)]
  have : g ≠ k := fun e => hne (by rw [e])
  simp [putRow, mapBlock, Sort.ahead, Array.getElem?_modify, this]

/-- The keys of a table, by booking, then by kind. -/
def tkeys (f : Tab) : List (Int × Int) := ((List.range 1200).map fun (i : Nat) => (((i / 6 : Nat) : Int) + 1, ((i % 6 : Nat) : Int) + 1)).filter fun p => decide (f p ≠ 0)
theorem tkeys_mem {f : Tab} (hk : ∀ p, f p ≠ 0 → (1 ≤ p.1 ∧ p.1 ≤ 200) ∧ (1 ≤ p.2 ∧ p.2 ≤ 6)) (p : Int × Int) : p ∈ tkeys f ↔ (tabMap f p).isSome = true := by
  unfold tkeys tabMap
  simp only [List.mem_filter, List.mem_map, List.mem_range, decide_eq_true_eq]
  constructor
  · rintro ⟨_, h⟩
    simp [h]
  · intro h
    have h0 : f p ≠ 0 := by
      intro e
      simp [e] at h
    obtain ⟨⟨h1, h2⟩, h3, h4⟩ := hk p h0
    refine ⟨⟨((p.1 - 1) * 6 + (p.2 - 1)).toNat, by omega, ?_⟩, h0⟩
    obtain ⟨a, b⟩ := p
    simp only [Prod.mk.injEq] at *
    omega
theorem tkeys_rising (f : Tab) : (tkeys f).Pairwise fun a b => a.1 < b.1 ∨ (a.1 = b.1 ∧ a.2 < b.2) := by
  unfold tkeys
  refine List.Pairwise.filter _ ?_
  rw [List.pairwise_map]
  exact List.pairwise_lt_range.imp (fun h => by simp only; omega)
theorem tkeys_nodup (f : Tab) : (tkeys f).Nodup := (tkeys_rising f).imp (fun h e => by subst e; omega)
theorem tkeys_len (f : Tab) : (tkeys f).length ≤ 1200 := by
  unfold tkeys
  refine Nat.le_trans (List.length_filter_le _ _) ?_
  simp
end Go.Proofs.Ytajefffhdeljfaa
