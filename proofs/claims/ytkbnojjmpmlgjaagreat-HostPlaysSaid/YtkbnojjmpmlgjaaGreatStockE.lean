/-
  stock: rising, the bookings that there are.
-/
import Derived.Test.YtkbnojjmpmlgjaaGreatSortK
import Derived.Test.YtkbnojjmpmlgjaaGreatZStockB
namespace Go.Proofs.YtkbnojjmpmlgjaaGreat
open Go.RowKit Go.Maps Go.Sort Go.Shelf Go.Proofs

theorem sortsI (m : Nat) : AnyZI.SortsIn Tryz.prog isorted_ren Fence.wide m :=
  ⟨fun blk off cap ss W hH hblk hsz => callsIn_wide.2 (AnyM.slices_Sort_int isort blk off cap ss W hH hblk hsz),
   fun p cap W => callsIn_wide.2 (AnyM.slices_Sort_int_none isort p cap W)⟩

set_option maxRecDepth 100000 in
set_option maxHeartbeats 1000000 in
theorem rising_any {w : World} {mb : Nat} {en : Int → Ent} (hM : MapOf encI w mb (entMap en)) (hkeys : ∀ k, (en k).st ≠ 0 → 1 ≤ k ∧ k ≤ 200) :
    Calls Tryz.prog 45 #[.agg #[.map (some mb)]] w fun e w' => ∃ v : Value, e = .returned v ∧
      w'.ownsRow w.heap.size 3 1 v (bookings en).length ((bookings en).map encZ) ∧ Below w.heap.size w w' := by
  have hM1 : MapOf encI (w.alloc (.cells #[.map (some mb)] 83)) mb (entMap en) := hM.keep (Below.heap_alloc w _ mb hM.lt)
  refine (callsIn_wide (n := 6)).1 ?_
  obtain ⟨nn, D0, hown, hD, hperm⟩ := map_owned hM1 hkeys
  generalize hw1 : w.alloc (.cells #[.map (some mb)] 83) = w1 at *
  have hbl := hown.lt
  have hseq : SeqGives Fence.wide 2 Tryz.prog 67 #[.pointer (some ⟨w1.heap.size, 0, none⟩)] encZ (fun ss => ss.Perm (intKeys D0)) (Maps.size D0) (w1.alloc (.cells #[.map (some mb)] 81)) :=
    AnyZI.keys_gives (ρ := ikeys56_ren) { ikeys56 with } Fence.wide _ trivial rfl (by omega) w1.heap.size mb nn D0 _ (by simp) (by simp) (by
      obtain ⟨es, clock, hb, Ft, hs, hD⟩ := hown
      exact ⟨es, clock, (Below.heap_alloc _ _ mb hbl).trans hb, Ft, hs, hD⟩)
  have cK : ∀ mb W, CallsIn Fence.wide 5 Tryz.prog 56 #[.map mb] W fun e w' => e = .returned (.func (.func 67) #[] #[.pointer (some ⟨W.heap.size, 0, none⟩)]) ∧ w' = W.alloc (.cells #[.map mb] 81) := fun mb W => AnyZI.keys_in ikeys56 Fence.wide 5 trivial rfl mb W
  have cS := AnyZI.sorted_in isorted Fence.wide 5 trivial trivial trivial trivial rfl (by omega) (sortsI _) (enters_of Tryz.func66 (by kernel_rfl) rfl) 67 #[.pointer (some ⟨w1.heap.size, 0, none⟩)] trivial (enters_of Tryz.func67 (by kernel_rfl) rfl) _ _ (by unfold maxLen; omega) (by omega) _ hseq
  change CallsIn _ _ Tryz.prog 55 _ _ _ at cS
  have hfK : Fence.wide.fn 56 := trivial
  have hfS : Fence.wide.fn 55 := trivial
  have hw1h := Lib.hid hw1
  clear hw1 hown hbl hseq hM1
  refine callsIn_of_wp Tryz.func45 rfl trivial ?_ rfl
  simp only [Tryz.ntmps45, List.size_toArray, List.length_cons, List.length_nil, Nat.reduceAdd, Nat.reduceSub, Array.replicate_succ, Array.replicate_zero, List.push_toArray, List.append_toArray, List.nil_append, List.cons_append]
  gi_wp2_with (fail)
  rw [hw1h.out]
  refine (cK _ _).mono ?_
  rintro e w' ⟨rfl, rfl⟩
  gi_wp2_with (fail)
  refine cS.mono ?_
  rintro e w' ⟨v, ss, rfl, hS, hrow, hnil, hb⟩
  gi_wp2_with (fail)
  go_ret
  have hss : ss.Perm (bookings en) := hS.trans hperm
  have hlen : ss.length = (bookings en).length := hss.length_eq
  have hsort : ss.mergeSort (fun x y => decide (x ≤ y)) = bookings en := by
    rw [← bookings_sorted en]
    exact mergeSort_of_perm_i hss
  rw [hsort, hlen] at hrow
  have hz : w.heap.size ≤ w1.heap.size := by rw [← hw1h.out]; simp
  exact ⟨v, rfl, ownsRow_base_a hrow (by simp; omega), ((by rw [← hw1h.out]; exact (Below.refl _ w).alloc (Nat.le_refl _) _ : Below w.heap.size w w1).alloc hz _).trans (hb.mono (by simp; omega))⟩
end Go.Proofs.YtkbnojjmpmlgjaaGreat
