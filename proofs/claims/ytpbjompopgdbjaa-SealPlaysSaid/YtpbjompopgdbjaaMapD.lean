/-
  'delete(m, k)' on a map whose entries are told by a function; maps of strings.
-/
import Derived.Test.YtpbjompopgdbjaaZLibMap
import Derived.Test.YtpbjompopgdbjaaWorld
import Derived.Sort.KeysCollected
namespace Go.Proofs.Ytpbjompopgdbjaa
open Go.Maps Go.RowKit

section
variable {α : Type} [DecidableEq α] {enc : α → Value} {P : Program} {k : TypeId} {w : World} {b : Nat} {f : α → Option Value}

/-- 'delete(m, k)': the block alone has turned. -/
theorem MapOf.drop {t e ty : TypeId} (h : MapOf enc w b f) (K : Keyed P k) (hinj : ∀ x y, enc x = enc y → x = y) (hk : ∀ a v, f a = some v → ∃ l, keyOf P k (enc a) = some l)
    (ht : P.underlying t = some (.map k e)) {a : α} {l : Lit} (ha : keyOf P k (enc a) = some l) :
    ∃ es' clock', (Builtin.delete_ #[t, k] ty #[.map (some b), enc a]).run P w = .ok (.tuple #[]) (ChangeMaps.setBlock w b (.map es' clock')) ∧
      MapOf enc (ChangeMaps.setBlock w b (.map es' clock')) b (upd f a none) := by
  obtain ⟨es, clock, hb, hst, h1, h2⟩ := h
  rcases find_of K hinj hk h1 h2 ha w with ⟨hf, hr, hn⟩ | ⟨j, e0, hf, hr, hj, hek⟩
  · refine ⟨es, clock, ?_, ?_⟩
    · simp [Builtin.delete_, run_underlying ht, MapKept.run_getObj_map hb, K.check w _ ha, hr, MapKept.run_setObj_map _ hb, Result.andThen, ChangeMaps.setBlock]
    · refine ⟨_, _, ChangeMaps.heap_setBlock_same hb _, hst, ?_, ?_⟩
      · intro x hx
        obtain ⟨y, hy, hv⟩ := h1 x hx
        refine ⟨y, hy, ?_⟩
        rw [upd_other _ _ _ _ (fun e => hn x hx (by rw [hy, e]))]
        exact hv
      · intro y u hu
        by_cases hya : y = a
        · subst hya
          rw [upd_same] at hu
          cases hu
        · rw [upd_other _ _ _ _ hya] at hu
          exact h2 y u hu
  · refine ⟨es.eraseIdxIfInBounds j, clock, ?_, ?_⟩
    · simp [Builtin.delete_, run_underlying ht, MapKept.run_getObj_map hb, K.check w _ ha, hr, MapKept.run_setObj_map _ hb, Result.andThen, ChangeMaps.setBlock]
    · have hmod : (es.eraseIdxIfInBounds j).toList = es.toList.eraseIdx j := by
        rw [Array.eraseIdxIfInBounds_eq]
        split
        · rw [Array.toList_eraseIdx]
        · rename_i h
          rw [List.eraseIdx_of_length_le (by simpa using h)]
      have hsub := List.eraseIdx_sublist es.toList j
      refine ⟨_, _, ChangeMaps.heap_setBlock_same hb _, ?_, ?_, ?_⟩
      · obtain ⟨s1, s2, s3⟩ := hst
        refine ⟨?_, ?_, ?_⟩
        · intro x hx
          rw [hmod] at hx
          exact s1 x (hsub.subset hx)
        · rw [hmod]; exact s2.sublist (hsub.map _)
        · rw [hmod]; exact s3.sublist (hsub.map _)
      · intro x hx
        rw [hmod] at hx
        obtain ⟨y, hy, hv⟩ := h1 x (hsub.subset hx)
        refine ⟨y, hy, ?_⟩
        rw [upd_other]
        · exact hv
        · rintro rfl
          obtain ⟨i, hij, hi⟩ := List.mem_eraseIdx_iff_getElem?.1 hx
          have h3 : (es.toList.map (·.key))[i]? = some (enc y) := by rw [List.getElem?_map, hi, Option.map_some, hy]
          have h4 : (es.toList.map (·.key))[j]? = some (enc y) := by rw [List.getElem?_map, hj, Option.map_some, hek]
          exact hij ((List.getElem?_inj (List.getElem?_eq_some_iff.1 h3).1 hst.2.2).1 (h3.trans h4.symm))
      · intro y u hu
        by_cases hya : y = a
        · subst hya
          rw [upd_same] at hu
          cases hu
        · rw [upd_other _ _ _ _ hya] at hu
          obtain ⟨x, hx, hk1, hk2⟩ := h2 y u hu
          refine ⟨x, ?_, hk1, hk2⟩
          rw [hmod]
          obtain ⟨i, hi⟩ := List.mem_iff_getElem?.1 hx
          refine List.mem_eraseIdx_iff_getElem?.2 ⟨i, ?_, hi⟩
          rintro rfl
          rw [hj] at hi
          cases hi
          rw [hek] at hk1
          exact hya (hinj _ _ hk1.symm)
end

theorem encS_inj : ∀ x y : List UInt8, encStr x = encStr y → x = y := fun _ _ => encStr_inj

theorem perm_of_map_inj {α β : Type} {f : α → β} (hf : ∀ x y, f x = f y → x = y) : ∀ {l m : List α}, (l.map f).Perm (m.map f) → l.Perm m := by
  intro l
  induction l with
  | nil =>
    intro m h
    have := h.length_eq
    simp at this
    have : m = [] := List.eq_nil_of_length_eq_zero this.symm
    subst this
    exact .nil
  | cons a l ih =>
    intro m h
    have ha : f a ∈ m.map f := h.mem_iff.1 (by simp)
    obtain ⟨a', ha', he⟩ := List.mem_map.1 ha
    have : a' = a := hf _ _ he
    subst this
    obtain ⟨s, t, rfl⟩ := List.append_of_mem ha'
    have h2 : (f a' :: (l.map f)).Perm (f a' :: (s ++ t).map f) := by
      rw [List.map_cons] at h
      refine h.trans ?_
      rw [List.map_append, List.map_cons, List.map_append]
      exact List.perm_middle
    exact ((ih (h2.cons_inv)).cons a').trans List.perm_middle.symm

/-- A map of strings' keys, as the library's range gives them. -/
def anyS : Value → Option (DataW Unit × List MemPlace) := fun _ => some (.nil, [])
theorem MapOf.strs {P : Program} {k : TypeId} (hu : P.underlying k = some .string) {w : World} {b : Nat} {f : List UInt8 → Option Value} (h : MapOf encStr w b f) (hk : ∀ n v, f n = some v → n.length ≤ maxLen)
    (ks : List (List UInt8)) (hn : ks.Nodup) (hm : ∀ a, a ∈ ks ↔ (f a).isSome = true) (hmx : ks.length ≤ maxLen) :
    ∃ (n : Nat) (D0 : DataW Unit), w.ownsMap P k anyS b n D0 ∧ Maps.size D0 ≤ ks.length ∧ (strKeys D0).Perm ks := by
  obtain ⟨es, clock, hb, hst, hsz, hp, he⟩ := h.count encS_inj ks hn hm
  have hrd : ∀ e ∈ es.toList, ∃ a : List UInt8, e.key = encStr a ∧ WideElems.rd P k anyS e = some (.string a, .nil) := by
    intro e hee
    obtain ⟨a, h1, h2⟩ := he e hee
    refine ⟨a, h1, ?_⟩
    unfold WideElems.rd
    rw [h1, WideMaps.keyOf_string_mk hu (s := ⟨a.toArray⟩) (hk a _ h2)]
    rfl
  have F : WideElems.Fit P k anyS es clock := ⟨by rw [hsz]; exact hmx, hst, fun x hx => by
    obtain ⟨a, _, h⟩ := hrd x hx
    exact ⟨_, h⟩⟩
  refine ⟨es.size, _, World.ownsMap_of_fit hb F (fun _ _ _ h => h), ?_, ?_⟩
  · show ((es.toList.map (WideElems.rg P k anyS)).foldr DataW.insert []).length ≤ ks.length
    rw [length_sorted]
    simp
    omega
  · show (((es.toList.map (WideElems.rg P k anyS)).foldr DataW.insert []).map fun p => strOf p.1).Perm ks
    refine ((WideShapes.sorted_perm _).map _).trans ?_
    rw [List.map_map]
    have h1 : (es.toList.map ((fun p : Lit × DataW Unit => strOf p.1) ∘ WideElems.rg P k anyS)).map encStr = es.toList.map (·.key) := by
      rw [List.map_map]
      apply List.map_congr_left
      intro e hee
      obtain ⟨a, ha, hr⟩ := hrd e hee
      simp only [Function.comp]
      unfold WideElems.rg
      rw [hr, ha]
      rfl
    have h2 := h1 ▸ hp
    exact perm_of_map_inj encS_inj h2
end Go.Proofs.Ytpbjompopgdbjaa
