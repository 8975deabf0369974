/-
  Plain laws on the model's maps whose entries are told by a function: 'MapOf enc w b f': block b of w is a map that has, at the key 'enc a', the value that f tells of a.
  Lookups, stores, deletions, len, and the bridge to the library's own word 'ownsMap'.
-/
import Derived.Maps.Own
import Derived.Maps.OwnSet
import Derived.Below
namespace Go.Proofs.Ytddnpjlcmokbiaa
open Go.Maps

/-- Block b of w is a map with just the entries that f tells. -/
def MapOf {α : Type} (enc : α → Value) (w : World) (b : Nat) (f : α → Option Value) : Prop :=
  ∃ es clock, w.heap[b]? = some (.map es clock) ∧ MapKept.Stamped es clock ∧
    (∀ e ∈ es.toList, ∃ a, e.key = enc a ∧ f a = some e.val) ∧ (∀ a v, f a = some v → ∃ e ∈ es.toList, e.key = enc a ∧ e.val = v)

/-- f with v at a. -/
def upd {α β : Type} [DecidableEq α] (f : α → β) (a : α) (v : β) : α → β := fun x => if x = a then v else f x

theorem upd_same {α β : Type} [DecidableEq α] (f : α → β) (a : α) (v : β) : upd f a v a = v := by simp [upd]
theorem upd_other {α β : Type} [DecidableEq α] (f : α → β) (a x : α) (v : β) (h : x ≠ a) : upd f a v x = f x := by simp [upd, h]

section
variable {α : Type} {enc : α → Value} {P : Program} {k : TypeId} {w w' : World} {b : Nat} {f : α → Option Value}

theorem MapOf.lt (h : MapOf enc w b f) : b < w.heap.size := by
  obtain ⟨es, clock, hb, _⟩ := h
  exact (Array.getElem?_eq_some_iff.1 hb).1

/-- The map is what its block is. -/
theorem MapOf.keep (h : MapOf enc w b f) (hb : w'.heap[b]? = w.heap[b]?) : MapOf enc w' b f := by
  obtain ⟨es, clock, h1, h2⟩ := h
  exact ⟨es, clock, hb.trans h1, h2⟩

theorem MapOf.made (w : World) : MapOf enc (w.alloc (.map #[] 0)) w.heap.size (fun _ => none) :=
  ⟨#[], 0, (MapKept.heap_alloc w _).1, MapKept.stamped_empty 0, by simp, by simp⟩

theorem find_of (K : Keyed P k) (hinj : ∀ x y, enc x = enc y → x = y) (hk : ∀ a v, f a = some v → ∃ l, keyOf P k (enc a) = some l) {es : Array MapEntry} (h1 : ∀ e ∈ es.toList, ∃ a, e.key = enc a ∧ f a = some e.val)
    (h2 : ∀ a v, f a = some v → ∃ e ∈ es.toList, e.key = enc a ∧ e.val = v) {a : α} {l : Lit} (ha : keyOf P k (enc a) = some l) (w : World) :
    (f a = none ∧ (Instr.findKey k (enc a) es.toList).run P w = .ok none w ∧ ∀ e ∈ es.toList, e.key ≠ enc a) ∨
    ∃ j e, f a = some e.val ∧ (Instr.findKey k (enc a) es.toList).run P w = .ok (some (j, e.val)) w ∧ es.toList[j]? = some e ∧ e.key = enc a := by
  rcases K.find w ha es.toList (fun e he => by
    obtain ⟨x, hx, hv⟩ := h1 e he
    rw [hx]; exact hk x _ hv) with ⟨hr, hn⟩ | ⟨j, e, hr, hj, he⟩
  · refine .inl ⟨?_, hr, hn⟩
    cases hf : f a with
    | none => rfl
    | some v =>
      obtain ⟨e, he, hek, _⟩ := h2 a v hf
      exact absurd hek (hn e he)
  · refine .inr ⟨j, e, ?_, hr, hj, he⟩
    obtain ⟨x, hx, hv⟩ := h1 e (List.mem_of_getElem? hj)
    have : x = a := hinj _ _ (hx.symm.trans he)
    rw [← this]; exact hv

/-- 'm[k]', with and without ok. -/
theorem MapOf.look {t e : TypeId} (h : MapOf enc w b f) (K : Keyed P k) (hinj : ∀ x y, enc x = enc y → x = y) (hk : ∀ a v, f a = some v → ∃ l, keyOf P k (enc a) = some l)
    (ht : P.underlying t = some (.map k e)) {z : Value} (hz : (zeroValue e).run P w = .ok z w) {a : α} {l : Lit} (ha : keyOf P k (enc a) = some l) (c : Bool) :
    (Instr.lookup t (.map (some b)) (enc a) c).run P w = .ok (if c then .tuple #[(f a).getD z, .bool (f a).isSome] else (f a).getD z) w := by
  obtain ⟨es, clock, hb, _, h1, h2⟩ := h
  rcases find_of K hinj hk h1 h2 ha w with ⟨hf, hr, _⟩ | ⟨j, e0, hf, hr, _, _⟩
  · simp [Instr.lookup, run_underlying ht, MapKept.run_getObj_map hb, K.check w _ ha, hr, hz, Result.andThen, hf]
  · simp [Instr.lookup, run_underlying ht, MapKept.run_getObj_map hb, K.check w _ ha, hr, Result.andThen, hf]

/-- A nil map has nothing. -/
theorem look_nil_of {t e : TypeId} (K : Keyed P k) (ht : P.underlying t = some (.map k e)) {z : Value} (hz : (zeroValue e).run P w = .ok z w) {a : Value} {l : Lit} (ha : keyOf P k a = some l) (c : Bool) :
    (Instr.lookup t (.map none) a c).run P w = .ok (if c then .tuple #[z, .bool false] else z) w := look_nil c K ht hz ha

/-- How many entries: as many as a list of f's keys, each once, is long. -/
theorem MapOf.count (h : MapOf enc w b f) (hinj : ∀ x y, enc x = enc y → x = y) (l : List α) (hl : l.Nodup) (hm : ∀ a, a ∈ l ↔ (f a).isSome = true) :
    ∃ es clock, w.heap[b]? = some (.map es clock) ∧ MapKept.Stamped es clock ∧ es.size = l.length ∧ (es.toList.map (·.key)).Perm (l.map enc) ∧ ∀ e ∈ es.toList, ∃ a, e.key = enc a ∧ f a = some e.val := by
  obtain ⟨es, clock, hb, hst, h1, h2⟩ := h
  have hp : (es.toList.map (·.key)).Perm (l.map enc) := by
    refine (List.perm_ext_iff_of_nodup hst.2.2 ?_).2 fun x => ?_
    · exact List.Pairwise.map enc (fun a b hab e => hab (hinj _ _ e)) hl
    · constructor
      · intro hx
        obtain ⟨e, he, rfl⟩ := List.mem_map.1 hx
        obtain ⟨a, ha, hv⟩ := h1 e he
        exact List.mem_map.2 ⟨a, (hm a).2 (by rw [hv]; rfl), ha.symm⟩
      · intro hx
        obtain ⟨a, ha, rfl⟩ := List.mem_map.1 hx
        obtain ⟨v, hv⟩ := Option.isSome_iff_exists.1 ((hm a).1 ha)
        obtain ⟨e, he, hk1, _⟩ := h2 a v hv
        exact List.mem_map.2 ⟨e, he, hk1⟩
  refine ⟨es, clock, hb, hst, ?_, hp, h1⟩
  have := hp.length_eq
  simpa using this
end

section
variable {α : Type} [DecidableEq α] {enc : α → Value} {P : Program} {k : TypeId} {w : World} {b : Nat} {f : α → Option Value}

/-- 'm[k] = v': the block alone has turned. -/
theorem MapOf.store {t e : TypeId} (h : MapOf enc w b f) (K : Keyed P k) (hinj : ∀ x y, enc x = enc y → x = y) (hk : ∀ a v, f a = some v → ∃ l, keyOf P k (enc a) = some l)
    (ht : P.underlying t = some (.map k e)) {a : α} {l : Lit} (ha : keyOf P k (enc a) = some l) (v : Value) :
    ∃ es' clock', (Instr.mapUpdate t (.map (some b)) (enc a) v).run P w = .ok () (ChangeMaps.setBlock w b (.map es' clock')) ∧
      MapOf enc (ChangeMaps.setBlock w b (.map es' clock')) b (upd f a (some v)) := by
  obtain ⟨es, clock, hb, hst, h1, h2⟩ := h
  rcases find_of K hinj hk h1 h2 ha w with ⟨hf, hr, hn⟩ | ⟨j, e0, hf, hr, hj, hek⟩
  · refine ⟨es.push { key := enc a, val := v, born := clock }, clock + 1, ?_, ?_⟩
    · simp [Instr.mapUpdate, run_underlying ht, MapKept.run_getObj_map hb, K.check w _ ha, hr, MapKept.run_setObj_map _ hb, Result.andThen, ChangeMaps.setBlock]
    · refine ⟨_, _, ChangeMaps.heap_setBlock_same hb _, ?_, ?_, ?_⟩
      · obtain ⟨s1, s2, s3⟩ := hst
        refine ⟨?_, ?_, ?_⟩
        · intro x hx
          simp only [Array.toList_push, List.mem_append, List.mem_singleton] at hx
          rcases hx with hx | rfl
          · exact Nat.lt_succ_of_lt (s1 x hx)
          · exact Nat.lt_succ_self _
        · simp only [Array.toList_push, List.map_append, List.map_cons, List.map_nil]
          refine List.nodup_append.2 ⟨s2, by simp, ?_⟩
          intro x hx y hy
          simp only [List.mem_singleton] at hy
          subst hy
          obtain ⟨e1, he1, rfl⟩ := List.mem_map.1 hx
          exact Nat.ne_of_lt (s1 e1 he1)
        · simp only [Array.toList_push, List.map_append, List.map_cons, List.map_nil]
          refine List.nodup_append.2 ⟨s3, by simp, ?_⟩
          intro x hx y hy
          simp only [List.mem_singleton] at hy
          subst hy
          obtain ⟨e1, he1, rfl⟩ := List.mem_map.1 hx
          exact hn e1 he1
      · intro x hx
        simp only [Array.toList_push, List.mem_append, List.mem_singleton] at hx
        rcases hx with hx | rfl
        · obtain ⟨y, hy, hv⟩ := h1 x hx
          refine ⟨y, hy, ?_⟩
          rw [upd_other _ _ _ _ (fun e => hn x hx (by rw [hy, e]))]
          exact hv
        · exact ⟨a, rfl, upd_same _ _ _⟩
      · intro y u hu
        simp only [Array.toList_push]
        by_cases hya : y = a
        · subst hya
          rw [upd_same] at hu
          cases hu
          exact ⟨{ key := enc y, val := v, born := clock }, by simp, rfl, rfl⟩
        · rw [upd_other _ _ _ _ hya] at hu
          obtain ⟨x, hx, hk1, hk2⟩ := h2 y u hu
          exact ⟨x, by simp [hx], hk1, hk2⟩
  · have hjs : j < es.size := by
      have := (List.getElem?_eq_some_iff.1 hj).1
      simpa using this
    have hej : es[j]? = some e0 := by simpa using hj
    refine ⟨es.modify j fun e => { e with key := enc a, val := v }, clock, ?_, ?_⟩
    · have hst := K.stays w ha
      simp [Instr.mapUpdate, run_underlying ht, MapKept.run_getObj_map hb, K.check w _ ha, hr, MapKept.run_setObj_map _ hb, Result.andThen, ChangeMaps.setBlock, hej, hek, hst]
    · have hmod : (es.modify j fun e => { e with key := enc a, val := v }).toList = es.toList.set j { e0 with key := enc a, val := v } := by
        refine List.ext_getElem? fun i => ?_
        rw [Array.getElem?_toList, Array.getElem?_modify, List.getElem?_set]
        by_cases hij : j = i
        · subst hij
          have he0 : es[j] = e0 := by
            rw [Array.getElem?_eq_getElem hjs] at hej
            exact Option.some.inj hej
          simp [hjs, he0]
        · simp [hij]
      refine ⟨_, _, ChangeMaps.heap_setBlock_same hb _, ?_, ?_, ?_⟩
      · obtain ⟨s1, s2, s3⟩ := hst
        have hjl : j < es.toList.length := by simpa using hjs
        have he0 : es.toList[j] = e0 := by
          have := List.getElem?_eq_getElem hjl
          rw [hj] at this
          exact (Option.some.inj this).symm
        refine ⟨?_, ?_, ?_⟩
        · intro x hx
          rw [hmod] at hx
          rcases List.mem_or_eq_of_mem_set hx with hx | rfl
          · exact s1 x hx
          · exact s1 e0 (List.mem_of_getElem? hj)
        · rw [hmod, List.map_set]
          have : (es.toList.map (·.born)).set j e0.born = es.toList.map (·.born) := by
            refine List.ext_getElem? fun i => ?_
            rw [List.getElem?_set]
            split
            · rename_i hij
              subst hij
              rw [if_pos (by simpa using hjs), List.getElem?_map, hj]; rfl
            · rfl
          rw [this]; exact s2
        · rw [hmod, List.map_set]
          have : (es.toList.map (·.key)).set j (enc a) = es.toList.map (·.key) := by
            refine List.ext_getElem? fun i => ?_
            rw [List.getElem?_set]
            split
            · rename_i hij
              subst hij
              rw [if_pos (by simpa using hjs), List.getElem?_map, hj, ← hek]; rfl
            · rfl
          rw [this]; exact s3
      · intro x hx
        rw [hmod] at hx
        obtain ⟨i, hi, rfl⟩ := List.mem_iff_getElem.1 hx
        rw [List.getElem_set]
        split
        · exact ⟨a, rfl, upd_same _ _ _⟩
        · rename_i hij
          have hi' : i < es.toList.length := by simpa using hi
          obtain ⟨y, hy, hv⟩ := h1 es.toList[i] (List.getElem_mem hi')
          refine ⟨y, hy, ?_⟩
          rw [upd_other]
          · exact hv
          · intro e
            have hnd := hst.2.2
            have h3 : (es.toList.map (·.key))[i]? = some (enc a) := by
              rw [List.getElem?_map, List.getElem?_eq_getElem hi', Option.map_some, hy, e]
            have h4 : (es.toList.map (·.key))[j]? = some (enc a) := by
              rw [List.getElem?_map, hj, Option.map_some, hek]
            have hil : i < (es.toList.map (·.key)).length := by simpa using hi'
            exact hij ((List.getElem?_inj hil hnd).1 (h3.trans h4.symm)).symm
      · intro y u hu
        rw [hmod]
        have hjl : j < es.toList.length := by simpa using hjs
        by_cases hya : y = a
        · subst hya
          rw [upd_same] at hu
          cases hu
          exact ⟨_, List.mem_set hjl _, rfl, rfl⟩
        · rw [upd_other _ _ _ _ hya] at hu
          obtain ⟨x, hx, hk1, hk2⟩ := h2 y u hu
          refine ⟨x, ?_, hk1, hk2⟩
          obtain ⟨i, hi, rfl⟩ := List.mem_iff_getElem.1 hx
          have hij : j ≠ i := by
            rintro rfl
            have he0 : es.toList[j] = e0 := by
              have := List.getElem?_eq_getElem hi
              rw [hj] at this
              exact (Option.some.inj this).symm
            rw [he0, hek] at hk1
            exact hya (hinj _ _ hk1.symm)
          rw [List.mem_iff_getElem]
          exact ⟨i, by simpa using hi, by rw [List.getElem_set_ne hij]⟩
end
end Go.Proofs.Ytddnpjlcmokbiaa
