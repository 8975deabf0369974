/-
  Plain laws on the model's maps whose entries are told by a function: 'MapOf enc w b f': block b of w is a map that has, at the key 'enc a', the value that f tells of a.
  Lookups, stores, deletions, len, and the bridge to the library's own word 'ownsMap'.
-/
import Derived.Maps.Own
import Derived.Maps.OwnSet
import Derived.Below
namespace Go.Proofs.Ytpbjompopgdbjaa
open Go.Maps

/-- Block b of w is a map with just the entries that f tells. -/
def MapOf {α : Type} (enc : α → Value) (w : World) (b : Nat) (f : α → Option Value) : Prop :=
  ∃ es clock, w.heap[b]? = some (.map es clock) ∧ MapKept.Stamped es clock ∧
    (∀ e ∈ es.toList, ∃ a, e.key = enc a ∧ f a = some e.val) ∧ (∀ a v, f a = some v → ∃ e ∈ es.toList, e.key = enc a ∧ e.val = v)

/-- f with v at a. -/
def upd {α β : Type} [DecidableEq α] (f : α → β) (a : α) (v : β) : α → β := fun x => if x = a then v else f x

theorem upd_same {α β : Type} [DecidableEq α] (f : α → β) (a : α) (v : β) : upd f a v a = v := by simp [upd]
theorem upd_other {α β : Type} [DecidableEq α] (f : α → β) (a x : α) (v : β) (h : x ≠ a) : upd f a v x = f x := by simp [upd, h]

section
variable {α : Type} {enc : α → Value} {P : Program} {k : TypeId} {w w' : World} {b : Nat} {f : α → Option Value}

theorem MapOf.lt (h : MapOf enc w b f) : b < w.heap.size := by
  obtain ⟨es, clock, hb, _⟩ := h
  exact (Array.getElem?_eq_some_iff.1 hb).1

/-- The map is what its block is. -/
theorem MapOf.keep (h : MapOf enc w b f) (hb : w'.heap[b]? = w.heap[b]?) : MapOf enc w' b f := by
  obtain ⟨es, clock, h1, h2⟩ := h
  exact ⟨es, clock, hb.trans h1, h2⟩

theorem MapOf.made (w : World) : MapOf enc (w.alloc (.map #[] 0)) w.heap.size (fun _ => none) :=
  ⟨#[], 0, (MapKept.heap_alloc w _).1, MapKept.stamped_empty 0, by simp, by simp⟩

theorem find_of (K : Keyed P k) (hinj : ∀ x y, enc x = enc y → x = y) (hk : ∀ a v, f a = some v → ∃ l, keyOf P k (enc a) = some l) {es : Array MapEntry} (h1 : ∀ e ∈ es.toList, ∃ a, e.key = enc a ∧ f a = some e.val)
    (h2 : ∀ a v, f a = some v → ∃ e ∈ es.toList, e.key = enc a ∧ e.val = v) {a : α} {l : Lit} (ha : keyOf P k (enc a) = some l) (w : World) :
    (f a = none ∧ (Instr.findKey k (enc a) es.toList).run P w = .ok none w ∧ ∀ e ∈ es.toList, e.key ≠ enc a) ∨
    ∃ j e, f a = some e.val ∧ (Instr.findKey k (enc a) es.toList).run P w = .ok (some (j, e.val)) w ∧ es.toList[j]? = some e ∧ e.key = enc a := by
  rcases K.find w ha es.toList (fun e he => by
    obtain ⟨x, hx, hv⟩ := h1 e he
    rw [hx]; exact hk x _ hv) with ⟨hr, hn⟩ | ⟨j, e, hr, hj, he⟩
  · refine .inl ⟨?_, hr, hn⟩
    cases hf : f a with
    | none => rfl
    | some v =>
      obtain ⟨e, he, hek, _⟩ := h2 a v hf
      exact absurd hek (hn e he)
  · refine .inr ⟨j, e, ?_, hr, hj, he⟩
    obtain ⟨x, hx, hv⟩ := h1 e (List.mem_of_getElem? hj)
    have : x = a := hinj _ _ (hx.symm.trans he)
    rw [← this]; exact hv

/-- 'm[k]', with and without ok. -/
theorem MapOf.look {t e : TypeId} (h : MapOf enc w b f) (K : Keyed P k) (hinj : ∀ x y, enc x = enc y → x = y) (hk : ∀ a v, f a = some v → ∃ l, keyOf P k (enc a) = some l)
    (ht : P.underlying t = some (.map k e)) {z : Value} (hz : (zeroValue e).run P w = .ok z w) {a : α} {l : Lit} (ha : keyOf P k (enc a) = some l) (c : Bool) :
    (Instr.lookup t (.map (some b)) (enc a) c).run P w = .ok (if c then .tuple #[(f a).getD z, .bool (f a).isSome] else (f a).getD z) w := by
  obtain ⟨es, clock, hb, _, h1, h2⟩ := h
  rcases find_of K hinj hk h1 h2 ha w with ⟨hf, hr, _⟩ | ⟨j, e0, hf, hr, _, _⟩
  · simp [Instr.lookup, run_underlying ht, MapKept.run_getObj_map hb, K.check w _ ha, hr, hz, Result.andThen, hf]
  · simp [Instr.lookup, run_underlying ht, MapKept.run_getObj_map hb, K.check w _ ha, hr, Result.andThen, hf]

/-- A nil map has nothing. -/
theorem look_nil_of {t e : TypeId} (K : Keyed P k) (ht : P.underlying t = some (.map k e)) {z : Value} (hz : (zeroValue e).run P w = .ok z w) {a : Value} {l : Lit} (ha : keyOf P k a = some l) (c : Bool) :
    (Instr.lookup t (.map none) a c).run P w = .ok (if c then .tuple #[z, .bool false] else z) w := look_nil c K ht hz ha

/-- How many entries: as many as a list of f's keys, each once, is long. -/
theorem MapOf.count (h : MapOf enc w b f) (hinj : ∀ x y, enc x = enc y → x = y) (l : List α) (hl : l.Nodup) (hm : ∀ a, a ∈ l ↔ (f a).isSome = true) :
    ∃ es clock, w.heap[b]? = some (.map es clock) ∧ MapKept.Stamped es clock ∧ es.size = l.length ∧ (es.toList.map (·.key)).Perm (l.map enc) ∧ ∀ e ∈ es.toList, ∃ a, e.key = enc a ∧ f a = some e.val := by
  obtain ⟨es, clock, hb, hst, h1, h2⟩ := h
  have hp : (es.toList.map (·.key)).Perm (l.map enc) := by
    refine (List.perm_ext_iff_of_nodup hst.2.2 ?_).2 fun x => ?_
    · exact List.Pairwise.map enc (fun a b hab e => hab (hinj _ _ e)) hl
    · constructor
      · intro hx
        obtain ⟨e, he, rfl⟩ := List.mem_map.1 hx
        obtain ⟨a, ha, hv⟩ := h1 e he
        exact List.mem_map.2 ⟨a, (hm a).2 (by rw [hv]; rfl), ha.symm⟩
      · intro hx
        obtain ⟨a, ha, rfl⟩ := List.mem_map.1 hx
        obtain ⟨v, hv⟩ := Option.isSome_iff_exists.1 ((hm a).1 ha)
        obtain ⟨e, he, hk1, _⟩ := h2 a v hv
        exact List.mem_map.2 ⟨e, he, hk1⟩
  refine ⟨es, clock, hb, hst, ?_, hp, h1⟩
  have := hp.length_eq
  simpa using this
end

section
variable {α : Type} [DecidableEq α] {enc : α → Value} {P : Program} {k : TypeId} {w : World} {b : Nat} {f : α → Option Value}

/-- 'm[k] = v': the block alone has turned. -/
theorem MapOf.store {t e : TypeId} (h : MapOf enc w b f) (K : Keyed P k) (hinj : ∀ x y, enc x = enc y → x = y) (hk : ∀ a v, f a = some v → ∃ l, keyOf P k (enc a) = some l)
    (ht : P.underlying t = some (.map k e)) {a : α} {l : Lit} (ha : keyOf P k (enc a) = some l) (v : Value) :
    ∃ es' clock', (Instr.mapUpdate t (.map (some b)) (enc a) v).run P w = .ok () (ChangeMaps.setBlock w b (.map es' clock')) ∧
      MapOf enc (ChangeMaps.setBlock w b (.map es' clock')) b (upd f a (some v)) := by
  obtain ⟨es, clock, hb, hst, h1, h2⟩ := h
  rcases find_of K hinj hk h1 h2 ha w with ⟨hf, hr, hn⟩ | ⟨j, e0, hf, hr, hj, hek⟩
  · refine ⟨es.push { key := enc a, val := v, born := clock }, clock + 1, ?_, ?_⟩
    · simp [Instr.mapUpdate, run_underlying ht, MapKept.run_getObj_map hb, K.check w _ ha, hr, MapKept.run_setObj_map _ hb, Result.andThen, ChangeMaps.setBlock]
    · refine ⟨_, _, ChangeMaps.heap_setBlock_same hb _, ?_, ?_, ?_⟩
      · obtain ⟨s1, s2, s3⟩ := hst
        refine ⟨?_, ?_, ?_⟩
        · intro x hx
          simp only [Array.toList_push, List.mem_append, List.mem_singleton] at hx
          rcases hx with hx | rfl
          · exact Nat.lt_succ_of_lt (s1 x hx)
          · exact Nat.lt_succ_self _
        · simp only [Array.toList_push, List.map_append, List.map_cons, List.map_nil]
          refine List.nodup_append.2 ⟨s2, by simp, ?_⟩
          intro x hx y hy
          simp only [List.mem_singleton] at hy
          subst hy
          obtain ⟨e1, he1, rfl⟩ := List.mem_map.1 hx
          exact Nat.ne_of_lt (s1 e1 he1)
        · simp only [Array.toList_push, List.map_append, List.map_cons, List.map_nil]
          refine List.nodup_append.2 ⟨s3, by simp, ?_⟩
          intro x hx y hy
          simp only [List.mem_singleton] at hy
          subst hy
          obtain ⟨e1, he1, rfl⟩ := List.mem_map.1 hx
          exact hn e1 he1
      · intro x hx
        simp only [Array.toList_push, List.mem_append, List.mem_singleton] at hx
        rcases hx with hx | rfl
        · obtain ⟨y, hy, hv⟩ := h1 x hx
          refine ⟨y, hy, ?_⟩
          rw [upd_other _ _ _ _ (fun e => hn x hx (by rw [hy, e]))]
          exact hv
        · exact ⟨a, rfl, upd_same _ _ _⟩
      · intro y u hu
        simp only [Array.toList_push]
        by_cases hya : y = a
        · subst hya
          rw [upd_same] at hu
          cases hu
          exact ⟨{ key := enc y, val := v, born := clock }, by simp, rfl, rfl⟩
        · rw [upd_other _ _ _ _ hya] at hu
          obtain ⟨x, hx, hk1, hk2⟩ := h2 y u hu
          exact ⟨x, by simp [hx], hk1, hk2⟩
  · have hjs : j < es.size := by
      have := (List.getElem?_eq_some_iff.1 hj).1
      simpa using this
    have hej : es[j]? = some e0 := by simpa using hj
    refine ⟨es.modify j fun e => { e with key := enc a, val := v }, clock, ?_, ?_⟩
    · have hst := K.stays w ha
      simp [Instr.mapUpdate, run_underlying ht, MapKept.run_getObj_map hb, K.check w _ ha, hr, MapKept.run_setObj_map _ hb, Result.andThen, ChangeMaps.setBlock, hej, hek, hst]
    · have hmod : (es.modify j fun e => { e with key := enc a, val := v }).toList = es.toList.set j { e0 with key := enc a, val := v } := by
        refine List.ext_getElem? fun i => ?_
        rw [Array.getElem?_toList, Array.getElem?_modify, List.getElem?_set]
        by_cases hij : j = i
        · subst hij
          have he0 : es[j] = e0 := by
            rw [Array.getElem?_eq_getElem hjs] at hej
            exact Option.some.inj hej
          simp [hjs, he0]
        · simp [hij]
      refine ⟨_, _, ChangeMaps.heap_setBlock_same hb _, ?_, ?_, ?_⟩
      · obtain ⟨s1, s2, s3⟩ := hst
        have hjl : j < es.toList.length := by simpa using hjs
        have he0 : es.toList[j] = e0 := by
          have := List.getElem?_eq_getElem hjl
          rw [hj] at this
          exact (Option.some.inj this).symm
        refine ⟨?_, ?_, ?_⟩
        · intro x hx
          rw [hmod] at hx
          rcases List.mem_or_eq_of_mem_set hx with hx | rfl
          · exact s1 x hx
          · exact s1 e0 (List.mem_of_getElem? hj)
        · rw [hmod, List.map_set]
          have : (es.toList.map (·.born)).set j e0.born = es.toList.map (·.born) := by
            refine List.ext_getElem? fun i => ?_
            rw [List.getElem?_set]
            split
            · rename_i hij
              subst hij
              rw [if_pos (by simpa using hjs), List.getElem?_map, hj]; rfl
            · rfl
          rw [this]; exact s2
        · rw [hmod, List.map_set]
          have : (es.toList.map (·.key)).set j (enc a) = es.toList.map (·.key) := by
            refine List.ext_getElem? fun i => ?_
            rw [List.getElem?_set]
            split
            · rename_i hij
              subst hij
              rw [if_pos (by simpa using hjs), List.getElem?_map, hj, ← hek]; rfl
            · rfl
          rw [this]; exact s3
      · intro x hx
        rw [hmod] at hx
        obtain ⟨i, hi, rfl⟩ := List.mem_iff_getElem.1 hx
        rw [List.getElem_set]
        split
        · exact ⟨a, rfl, upd_same _ _ _⟩
        · rename_i hij
          have hi' : i < es.toList.length := by simpa using hi
          obtain ⟨y, hy, hv⟩ := h1 es.toList[i] (List.getElem_mem hi')
          refine ⟨y, hy, ?_⟩
          rw [upd_other]
          · exact hv
          · intro e
            have hnd := hst.2.2
            have h3 : (es.toList.map (·.key))[i]? = some (enc a) := by
              rw [List.getElem?_map, List.getElem?_eq_getElem hi', Option.map_some, hy, e]
            have h4 : (es.toList.map (·.key))[j]? = some (enc a) := by
              rw [List.getElem?_map, hj, Option.map_some, hek]
            have hil : i < (es.toList.map (·.key)).length := by simpa using hi'
            exact hij ((List.getElem?_inj hil hnd).1 (h3.trans h4.symm)).symm
      · intro y u hu
        rw [hmod]
        have hjl : j < es.toList.length := by simpa using hjs
        by_cases hya : y = a
        · subst hya
          rw [upd_same] at hu
          cases hu
          exact ⟨_, List.mem_set hjl _, rfl, rfl⟩
        · rw [upd_other _ _ _ _ hya] at hu
          obtain ⟨x, hx, hk1, hk2⟩ := h2 y u hu
          refine ⟨x, ?_, hk1, hk2⟩
          obtain ⟨i, hi, rfl⟩ := List.mem_iff_getElem.1 hx
          have hij : j ≠ i := by
            rintro rfl
            have he0 : es.toList[j] = e0 := by
              have := List.getElem?_eq_getElem hi
              rw [hj] at this
              exact (Option.some.inj this).symm
            rw [he0, hek] at hk1
            exact hya (hinj _ _ hk1.symm)
          rw [List.mem_iff_getElem]
          exact ⟨i, by simpa using hi, by rw [List.getElem_set_ne hij]⟩
end
end Go.Proofs.Ytpbjompopgdbjaa

namespace Go.Proofs.Ytpbjompopgdbjaa

abbrev Nam := List UInt8
structure Fil where
  bs : List UInt8
  sy : Nat
structure Dsk where
  room : Int
  ks : List Nam
  fl : Nam → Option Fil
def Dsk.new (r : Int) : Dsk := ⟨r, [], fun _ => none⟩
def Dsk.put (D : Dsk) (n : Nam) (f : Fil) : Dsk := ⟨D.room, if (D.fl n).isSome then D.ks else n :: D.ks, upd D.fl n (some f)⟩
def Dsk.del (D : Dsk) (n : Nam) : Dsk := ⟨D.room, D.ks.erase n, upd D.fl n none⟩
def lenF (o : Option Fil) : Nat := match o with
  | none => 0
  | some f => f.bs.length
def Dsk.used (D : Dsk) : Nat := (D.ks.map fun n => lenF (D.fl n)).sum
structure Dsk.Good (D : Dsk) : Prop where
  nod : D.ks.Nodup
  mem : ∀ n, n ∈ D.ks ↔ (D.fl n).isSome = true
  nam : ∀ n, (D.fl n).isSome = true → 1 ≤ n.length ∧ n.length ≤ 20
  syn : ∀ n f, D.fl n = some f → f.sy ≤ f.bs.length
  fit : (D.used : Int) ≤ D.room
  rm : D.room ≤ 1000000
def may (n : Nam) : Bool := decide (1 ≤ n.length) && decide (n.length ≤ 20)

/-- A file's bytes and what of them is synced; none: as of a new one. -/
def bsF (o : Option Fil) : List UInt8 := match o with
  | none => []
  | some f => f.bs
def syF (o : Option Fil) : Nat := match o with
  | none => 0
  | some f => f.sy
theorem lenF_bs (o : Option Fil) : (bsF o).length = lenF o := by cases o <;> rfl
def Dsk.append (D : Dsk) (n : Nam) (b : List UInt8) : Int × Dsk :=
  if may n = false then (1, D) else if D.room - D.used < b.length then (4, D) else (0, D.put n ⟨bsF (D.fl n) ++ b, syF (D.fl n)⟩)
def Dsk.sync (D : Dsk) (n : Nam) : Int × Dsk := match D.fl n with
  | none => (5, D)
  | some f => (0, D.put n ⟨f.bs, f.bs.length⟩)
def Dsk.cut (D : Dsk) (n : Nam) (k : Int) : Int × Dsk := match D.fl n with
  | none => (5, D)
  | some f => if k < 0 ∨ (f.bs.length : Int) < k then (3, D) else (0, D.put n ⟨f.bs.take k.toNat, k.toNat⟩)
def Dsk.rename (D : Dsk) (a b : Nam) : Int × Dsk := match D.fl a with
  | none => (5, D)
  | some f => if may b = false then (1, D) else (0, (D.del a).put b f)
def Dsk.remove (D : Dsk) (a : Nam) : Int × Dsk := match D.fl a with
  | none => (5, D)
  | some _ => (0, D.del a)
/-- How long a file is behind a crash. -/
def stay (keep : Int) (f : Fil) : Nat := f.sy + min (max keep 0).toNat (f.bs.length - f.sy)
def crashF (keep : Int) (f : Fil) : Fil := ⟨f.bs.take (stay keep f), stay keep f⟩
def Dsk.crash (D : Dsk) (keep : Int) : Dsk := ⟨D.room, D.ks, fun n => (D.fl n).map (crashF keep)⟩

/-- A sum over names, where one has turned. -/
theorem sum_upd (g : Nam → Nat) (n : Nam) (v : Nat) : ∀ {l : List Nam}, l.Nodup → n ∈ l → (l.map (upd g n v)).sum + g n = (l.map g).sum + v := by
  intro l
  induction l with
  | nil => intro _ h; cases h
  | cons a l ih =>
    intro hn hm
    rw [List.nodup_cons] at hn
    simp only [List.map_cons, List.sum_cons]
    by_cases e : a = n
    · subst e
      rw [upd_same, List.map_congr_left (g := g) (fun x hx => upd_other g a x v (fun h => hn.1 (h ▸ hx)))]
      omega
    · rw [upd_other _ _ _ _ e]
      have := ih hn.2 (by
        rcases List.mem_cons.1 hm with h | h
        · exact absurd h.symm e
        · exact h)
      omega
theorem sum_upd_none (g : Nam → Nat) (n : Nam) (v : Nat) {l : List Nam} (h : n ∉ l) : (l.map (upd g n v)).sum = (l.map g).sum := by
  rw [List.map_congr_left (g := g) (fun x hx => upd_other g n x v (fun e => h (e ▸ hx)))]
theorem len_upd (fl : Nam → Option Fil) (n : Nam) (o : Option Fil) : (fun m => lenF (upd fl n o m)) = upd (fun m => lenF (fl m)) n (lenF o) := by
  funext m
  unfold upd
  split <;> rfl

section
variable {D : Dsk} (h : D.Good)
include h
theorem Dsk.Good.none_mem {n : Nam} (hn : D.fl n = none) : n ∉ D.ks := fun hm => by
  have := (h.mem n).1 hm
  rw [hn] at this
  cases this
theorem Dsk.used_put (n : Nam) (f : Fil) : (D.put n f).used + lenF (D.fl n) = D.used + f.bs.length := by
  unfold Dsk.used Dsk.put
  simp only
  cases hf : D.fl n with
  | none =>
    have hm := h.none_mem hf
    rw [if_neg (by simp)]
    simp only [List.map_cons, List.sum_cons]
    rw [show (fun m => lenF (upd D.fl n (some f) m)) = _ from len_upd D.fl n (some f), sum_upd_none _ _ _ hm, upd_same]
    show f.bs.length + _ + 0 = _
    omega
  | some f0 =>
    have hm : n ∈ D.ks := (h.mem n).2 (by rw [hf]; rfl)
    rw [show (if (some f0).isSome = true then D.ks else n :: D.ks) = D.ks from rfl]
    rw [show (fun m => lenF (upd D.fl n (some f) m)) = _ from len_upd D.fl n (some f)]
    have := sum_upd (fun m => lenF (D.fl m)) n f.bs.length h.nod hm
    rw [hf] at this
    exact this
theorem Dsk.used_del (n : Nam) : (D.del n).used + lenF (D.fl n) = D.used := by
  unfold Dsk.used Dsk.del
  simp only
  rw [show (fun m => lenF (upd D.fl n none m)) = _ from len_upd D.fl n none]
  rw [sum_upd_none _ _ _ (fun hm => by rw [List.Nodup.mem_erase_iff h.nod] at hm; exact hm.1 rfl)]
  by_cases hm : n ∈ D.ks
  · have := (List.perm_cons_erase hm).map (fun m => lenF (D.fl m))
    rw [this.sum_nat]
    simp only [List.map_cons, List.sum_cons]
    omega
  · rw [List.erase_of_not_mem hm]
    have : D.fl n = none := by
      cases hf : D.fl n with
      | none => rfl
      | some f => exact absurd ((h.mem n).2 (by rw [hf]; rfl)) hm
    rw [this]
    rfl
theorem Dsk.len_le (n : Nam) : lenF (D.fl n) ≤ D.used := by
  have := Dsk.used_del h n
  omega
theorem Dsk.Good.put {n : Nam} {f : Fil} (hn : 1 ≤ n.length ∧ n.length ≤ 20) (hs : f.sy ≤ f.bs.length) (hu : ((D.put n f).used : Int) ≤ D.room) : (D.put n f).Good where
  nod := by
    unfold Dsk.put
    simp only
    split
    · exact h.nod
    · rename_i h0
      exact List.nodup_cons.2 ⟨fun hm => h0 ((h.mem n).1 hm), h.nod⟩
  mem := by
    intro m
    unfold Dsk.put
    simp only
    by_cases e : m = n
    · subst e
      rw [upd_same]
      split
      · rename_i h0
        simp [(h.mem m).2 h0]
      · simp
    · rw [upd_other _ _ _ _ e]
      split
      · exact h.mem m
      · rw [List.mem_cons]
        simp only [e, false_or]
        exact h.mem m
  nam := by
    intro m hm
    by_cases e : m = n
    · subst e; exact hn
    · refine h.nam m ?_
      unfold Dsk.put at hm
      simp only [upd_other _ _ _ _ e] at hm
      exact hm
  syn := by
    intro m g hm
    unfold Dsk.put at hm
    simp only at hm
    by_cases e : m = n
    · subst e
      rw [upd_same] at hm
      cases hm
      exact hs
    · rw [upd_other _ _ _ _ e] at hm
      exact h.syn m g hm
  fit := hu
  rm := h.rm
theorem Dsk.Good.del (n : Nam) : (D.del n).Good where
  nod := h.nod.erase n
  mem := by
    intro m
    unfold Dsk.del
    simp only
    rw [List.Nodup.mem_erase_iff h.nod]
    by_cases e : m = n
    · subst e; simp [upd_same]
    · rw [upd_other _ _ _ _ e]
      simp only [ne_eq, e, not_false_eq_true, true_and]
      exact h.mem m
  nam := by
    intro m hm
    refine h.nam m ?_
    unfold Dsk.del at hm
    simp only at hm
    by_cases e : m = n
    · subst e; rw [upd_same] at hm; cases hm
    · rw [upd_other _ _ _ _ e] at hm; exact hm
  syn := by
    intro m g hm
    unfold Dsk.del at hm
    simp only at hm
    by_cases e : m = n
    · subst e; rw [upd_same] at hm; cases hm
    · rw [upd_other _ _ _ _ e] at hm; exact h.syn m g hm
  fit := by
    have h1 := Dsk.used_del h n
    have h2 := h.fit
    show ((D.del n).used : Int) ≤ D.room
    omega
  rm := h.rm
theorem stay_le (keep : Int) {n : Nam} {f : Fil} (hf : D.fl n = some f) : f.sy ≤ stay keep f ∧ stay keep f ≤ f.bs.length := by
  have := h.syn n f hf
  unfold stay
  omega
end
theorem Dsk.Good.new {r : Int} (h0 : 0 ≤ r) (h1 : r ≤ 1000000) : (Dsk.new r).Good := ⟨List.nodup_nil, fun n => by simp [Dsk.new], fun n h => by simp [Dsk.new] at h, fun n f h => by simp [Dsk.new] at h, by simpa [Dsk.new, Dsk.used] using h0, h1⟩
theorem Dsk.Good.crash {D : Dsk} (h : D.Good) (keep : Int) : (D.crash keep).Good where
  nod := h.nod
  mem := fun n => by
    show n ∈ D.ks ↔ ((D.fl n).map (crashF keep)).isSome = true
    rw [h.mem n]
    cases D.fl n <;> simp
  nam := fun n hm => h.nam n (by
    have : ((D.fl n).map (crashF keep)).isSome = true := hm
    cases hf : D.fl n with
    | none => rw [hf] at this; cases this
    | some f => rfl)
  syn := fun n f hm => by
    have hm : (D.fl n).map (crashF keep) = some f := hm
    cases hf : D.fl n with
    | none => rw [hf] at hm; cases hm
    | some g =>
      rw [hf] at hm
      cases hm
      have := (stay_le h keep hf).2
      show stay keep g ≤ (g.bs.take (stay keep g)).length
      rw [List.length_take]
      omega
  fit := by
    have h2 := h.fit
    have : (D.crash keep).used ≤ D.used := by
      unfold Dsk.used Dsk.crash
      simp only
      generalize D.ks = l
      induction l with
      | nil => simp
      | cons a l ih =>
        simp only [List.map_cons, List.sum_cons]
        have : lenF ((D.fl a).map (crashF keep)) ≤ lenF (D.fl a) := by
          cases D.fl a with
          | none => exact Nat.le_refl _
          | some f =>
            show (f.bs.take (stay keep f)).length ≤ f.bs.length
            rw [List.length_take]
            omega
        omega
    show ((D.crash keep).used : Int) ≤ D.room
    omega
  rm := h.rm
end Go.Proofs.Ytpbjompopgdbjaa
