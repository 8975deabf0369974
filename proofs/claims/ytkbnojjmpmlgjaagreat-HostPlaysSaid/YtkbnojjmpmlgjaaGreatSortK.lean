/-
  The bookings of a map of entries, sorted: slices.Sorted(maps.Keys(m)) over the library's contracts.
-/
import Derived.Test.YtkbnojjmpmlgjaaGreatLay
import Derived.Test.YtkbnojjmpmlgjaaGreatEntM
import Derived.Test.YtkbnojjmpmlgjaaGreatArrG
import Derived.Shelf.AbstractIn
namespace Go.Proofs.YtkbnojjmpmlgjaaGreat
open Go.RowKit Go.Maps Go.Sort Go.Shelf Go.Proofs

/-- The bookings that are there, rising. -/
def bookings (en : Int → Ent) : List Int := ((List.range 200).map fun (i : Nat) => (i : Int) + 1).filter fun b => decide ((en b).st ≠ 0)
theorem bookings_mem (en : Int → Ent) (hk : ∀ k, (en k).st ≠ 0 → 1 ≤ k ∧ k ≤ 200) (b : Int) : b ∈ bookings en ↔ (en b).st ≠ 0 := by
  unfold bookings
  simp only [List.mem_filter, List.mem_map, List.mem_range, decide_eq_true_eq]
  constructor
  · exact fun h => h.2
  · intro h
    have := hk b h
    exact ⟨⟨(b - 1).toNat, by omega, by omega⟩, h⟩
theorem range_rising : ∀ n : Nat, ((List.range n).map fun (i : Nat) => (i : Int) + 1).Pairwise (· < ·) := by
  intro n
  rw [List.pairwise_map]
  exact List.pairwise_lt_range.imp (fun h => by omega)
theorem bookings_rising (en : Int → Ent) : (bookings en).Pairwise (· < ·) := (range_rising 200).filter _
theorem bookings_nodup (en : Int → Ent) : (bookings en).Nodup := (bookings_rising en).imp (fun h e => by omega)
theorem bookings_len (en : Int → Ent) : (bookings en).length ≤ 200 := by
  unfold bookings
  refine Nat.le_trans (List.length_filter_le _ _) ?_
  simp
theorem bookings_sorted (en : Int → Ent) : (bookings en).mergeSort (fun x y => decide (x ≤ y)) = bookings en :=
  List.mergeSort_of_pairwise ((bookings_rising en).imp (fun h => by simp; omega))

def decI : Value → Int
  | .int _ n => n
  | _ => 0
def anyR : Value → Option (DataW Unit × List MemPlace) := fun _ => some (.nil, [])

theorem map_owned {w : World} {mb : Nat} {en : Int → Ent} (hM : MapOf encI w mb (entMap en)) (hkeys : ∀ k, (en k).st ≠ 0 → 1 ≤ k ∧ k ≤ 200) :
    ∃ (n : Nat) (D0 : DataW Unit), w.ownsMap Tryz.prog 3 anyR mb n D0 ∧ Maps.size D0 ≤ 200 ∧ (intKeys D0).Perm (bookings en) := by
  obtain ⟨es, clock, hb, hst, hsz, hp, he⟩ := hM.count encI_inj (bookings en) (bookings_nodup en) (fun a => by
    rw [bookings_mem en hkeys]
    unfold entMap
    by_cases h : (en a).st = 0 <;> simp [h])
  have hlen := bookings_len en
  have hrd : ∀ e ∈ es.toList, ∃ a : Int, e.key = encI a ∧ WideElems.rd Tryz.prog 3 anyR e = some (.int .i64 a, .nil) := by
    intro e hee
    obtain ⟨a, h1, h2⟩ := he e hee
    refine ⟨a, h1, ?_⟩
    have ha : 1 ≤ a ∧ a ≤ 200 := by
      apply hkeys
      intro h0
      unfold entMap at h2
      rw [if_pos h0] at h2
      cases h2
    unfold WideElems.rd
    rw [h1, keyI ha]
    rfl
  have F : WideElems.Fit Tryz.prog 3 anyR es clock := ⟨by rw [hsz]; unfold maxLen; omega, hst, fun x hx => by
    obtain ⟨a, _, h⟩ := hrd x hx
    exact ⟨_, h⟩⟩
  refine ⟨es.size, _, World.ownsMap_of_fit hb F (fun _ _ _ h => h), ?_, ?_⟩
  · show ((es.toList.map (WideElems.rg Tryz.prog 3 anyR)).foldr DataW.insert []).length ≤ 200
    rw [length_sorted]
    simp
    omega
  · show (((es.toList.map (WideElems.rg Tryz.prog 3 anyR)).foldr DataW.insert []).map fun p => Go.intOf p.1).Perm (bookings en)
    refine ((WideShapes.sorted_perm _).map _).trans ?_
    rw [List.map_map]
    have h1 : es.toList.map ((fun p : Lit × DataW Unit => Go.intOf p.1) ∘ WideElems.rg Tryz.prog 3 anyR) = (es.toList.map (·.key)).map decI := by
      rw [List.map_map]
      apply List.map_congr_left
      intro e hee
      obtain ⟨a, ha, hr⟩ := hrd e hee
      simp only [Function.comp]
      unfold WideElems.rg
      rw [hr, ha]
      rfl
    rw [h1]
    refine (hp.map decI).trans ?_
    rw [List.map_map]
    have h2 : (bookings en).map (decI ∘ encI) = bookings en := by
      have : (decI ∘ encI) = id := rfl
      rw [this, List.map_id]
    rw [h2]
end Go.Proofs.YtkbnojjmpmlgjaaGreat
