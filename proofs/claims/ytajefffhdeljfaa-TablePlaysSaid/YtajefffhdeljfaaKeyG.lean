/-
  The keys of a map whose entries are told by a function, as a range over the map gives them: each once.
-/
import Derived.Test.YtajefffhdeljfaaLibMap
import Derived.Sort.KeysCollected
namespace Go.Proofs.Ytajefffhdeljfaa
open Go.Maps

/-- Elements that nothing is asked of. -/
def anyE : Value → Option (DataW Unit × List MemPlace) := fun _ => some (.nil, [])

/-- The datum's keys are what f tells. -/
def KeysAre {α : Type} (P : Program) (k : TypeId) (enc : α → Value) (f : α → Option Value) (D : DataW Unit) : Prop :=
  ∀ l, has D l = true ↔ ∃ a, (f a).isSome = true ∧ keyOf P k (enc a) = some l

section
variable {α : Type} {enc : α → Value} {P : Program} {k : TypeId} {w : World} {b : Nat} {f : α → Option Value}

theorem MapOf.owned (h : MapOf enc w b f) (K : Keyed P k) (hinj : ∀ x y, enc x = enc y → x = y) (hk : ∀ a v, f a = some v → ∃ l, keyOf P k (enc a) = some l)
    (ks : List α) (hn : ks.Nodup) (hm : ∀ a, a ∈ ks ↔ (f a).isSome = true) (hmx : ks.length ≤ maxLen) :
    ∃ (n : Nat) (D0 : DataW Unit), w.ownsMap P k anyE b n D0 ∧ Maps.size D0 ≤ ks.length ∧ KeysAre P k enc f D0 := by
  obtain ⟨es, clock, hb, hst, hsz, hp, he⟩ := h.count hinj ks hn hm
  have hrd : ∀ e ∈ es.toList, ∃ a l, e.key = enc a ∧ (f a).isSome = true ∧ keyOf P k (enc a) = some l ∧ WideElems.rd P k anyE e = some (l, .nil) := by
    intro e hee
    obtain ⟨a, h1, h2⟩ := he e hee
    obtain ⟨l, hl⟩ := hk a _ h2
    refine ⟨a, l, h1, by rw [h2]; rfl, hl, ?_⟩
    unfold WideElems.rd
    rw [h1, hl]
    rfl
  have F : WideElems.Fit P k anyE es clock := ⟨by rw [hsz]; exact hmx, hst, fun x hx => by
    obtain ⟨a, l, _, _, _, h⟩ := hrd x hx
    exact ⟨_, h⟩⟩
  refine ⟨es.size, _, World.ownsMap_of_fit hb F (fun _ _ _ h => h), ?_, ?_⟩
  · show ((es.toList.map (WideElems.rg P k anyE)).foldr DataW.insert []).length ≤ ks.length
    rw [length_sorted]
    simp
    omega
  · intro l
    rw [has_eq, List.any_eq_true]
    constructor
    · rintro ⟨p, hp1, hs⟩
      have hp2 := (WideShapes.sorted_perm _).mem_iff.1 hp1
      obtain ⟨e, hee, rfl⟩ := List.mem_map.1 hp2
      obtain ⟨a, l', h1, h2, h3, h4⟩ := hrd e hee
      refine ⟨a, h2, ?_⟩
      have : (WideElems.rg P k anyE e).1 = l' := by unfold WideElems.rg; rw [h4]; rfl
      rw [this] at hs
      rw [h3, WideAt.sameKey_eq hs]
    · rintro ⟨a, h1, h2⟩
      have ha : enc a ∈ es.toList.map (·.key) := hp.symm.mem_iff.1 (List.mem_map.2 ⟨a, (hm a).2 h1, rfl⟩)
      obtain ⟨e, hee, hek⟩ := List.mem_map.1 ha
      obtain ⟨a', l', h3, h4, h5, h6⟩ := hrd e hee
      have haa : a' = a := hinj _ _ (h3.symm.trans hek)
      subst haa
      have hll : l' = l := by rw [h2] at h5; simpa using h5.symm
      subst hll
      refine ⟨WideElems.rg P k anyE e, (WideShapes.sorted_perm _).mem_iff.2 (List.mem_map.2 ⟨e, hee, rfl⟩), ?_⟩
      have : (WideElems.rg P k anyE e).1 = l' := by unfold WideElems.rg; rw [h6]; rfl
      rw [this]
      exact WideAt.sameKey_self (K.key h5)

/-- What has come so far. -/
def CollK (P : Program) (k : TypeId) (enc : α → Value) (D0 : DataW Unit) (left : Lit → Bool) (ss : List α) : Prop :=
  ss.Nodup ∧ ∀ x, x ∈ ss ↔ ∃ l, keyOf P k (enc x) = some l ∧ has D0 l = true ∧ left l = false

variable {D0 : DataW Unit} {left : Lit → Bool} {ss : List α}

theorem CollK.start : CollK P k enc D0 (has D0) [] := ⟨List.nodup_nil, fun x => by
  constructor
  · intro h; cases h
  · rintro ⟨l, _, h1, h2⟩; rw [h1] at h2; cases h2⟩

theorem CollK.step (h : CollK P k enc D0 left ss) (K : Keyed P k) (hinj : ∀ x y, enc x = enc y → x = y) {x : α} {l : Lit} (hx : keyOf P k (enc x) = some l) (hh : has D0 l = true) (hl : left l = true) :
    CollK P k enc D0 (fun z => left z && !z.sameKey l) (ss ++ [x]) := by
  have hnew : x ∉ ss := fun hm => by
    obtain ⟨l', h1, _, h3⟩ := (h.2 x).1 hm
    rw [hx] at h1
    cases h1
    rw [hl] at h3
    cases h3
  refine ⟨List.nodup_append.2 ⟨h.1, by simp, fun a ha b hb => by simp at hb; subst hb; exact fun e => hnew (e ▸ ha)⟩, fun y => ?_⟩
  rw [List.mem_append, List.mem_singleton]
  constructor
  · rintro (hy | rfl)
    · obtain ⟨l', h1, h2, h3⟩ := (h.2 y).1 hy
      exact ⟨l', h1, h2, by simp [h3]⟩
    · exact ⟨l, hx, hh, by simp [WideAt.sameKey_self (K.key hx)]⟩
  · rintro ⟨l', h1, h2, h3⟩
    by_cases e : l' = l
    · subst e
      exact .inr (hinj _ _ (K.inj h1 hx))
    · left
      refine (h.2 y).2 ⟨l', h1, h2, ?_⟩
      simpa [sameKey_ne e] using h3

theorem CollK.done (h : CollK P k enc D0 left ss) (hK : KeysAre P k enc f D0) (hk : ∀ a v, f a = some v → ∃ l, keyOf P k (enc a) = some l) (K : Keyed P k) (hinj : ∀ x y, enc x = enc y → x = y) (hl : ∀ l, left l = false)
    (ks : List α) (hn : ks.Nodup) (hm : ∀ a, a ∈ ks ↔ (f a).isSome = true) : ss.Perm ks := by
  refine (List.perm_ext_iff_of_nodup h.1 hn).2 fun x => ?_
  rw [h.2 x, hm x]
  constructor
  · rintro ⟨l, h1, h2, _⟩
    obtain ⟨a, ha, h3⟩ := (hK l).1 h2
    rw [hinj _ _ (K.inj h1 h3)]
    exact ha
  · intro hx
    obtain ⟨v, hv⟩ := Option.isSome_iff_exists.1 hx
    obtain ⟨l, h1⟩ := hk x v hv
    exact ⟨l, h1, (hK l).2 ⟨x, hx, h1⟩, hl l⟩
end
end Go.Proofs.Ytajefffhdeljfaa
