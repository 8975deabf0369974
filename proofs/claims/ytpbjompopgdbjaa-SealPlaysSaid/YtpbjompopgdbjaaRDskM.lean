/-
  the reference's disk in plain words: its files in the order of their names.
-/
import Derived.Test.YtpbjompopgdbjaaDNamP
namespace Go.Proofs.Ytpbjompopgdbjaa
open Go.RowKit Go.Maps Go.Sort

/-- A file of the reference's. -/
structure RF where
  nm : Nam
  s : List UInt8
  sy : Nat
def RF.of (n : Nam) (F : Fil) : RF := ⟨n, F.bs, F.sy⟩
/-- The files are the disk's, rising. -/
structure IsRows (D : Dsk) (l : List RF) : Prop where
  sorted : l.Pairwise (fun x y => x.nm < y.nm)
  mem : ∀ f : RF, f ∈ l ↔ ∃ F, D.fl f.nm = some F ∧ f.s = F.bs ∧ f.sy = F.sy

theorem nam_irr (a : Nam) : ¬ a < a := List.lt_irrefl a
theorem nam_trans {a b c : Nam} (h1 : a < b) (h2 : b < c) : a < c := List.lt_trans h1 h2
theorem nam_tri {a b : Nam} (h1 : ¬ a < b) (h2 : a ≠ b) : b < a := by
  rcases Decidable.em (b < a) with h | h
  · exact h
  · exact absurd (List.le_antisymm (List.not_lt.1 h) (List.not_lt.1 h1)) h2
theorem nam_asym {a b : Nam} (h1 : a < b) : ¬ b < a := fun h => nam_irr a (nam_trans h1 h)

theorem split_none {n : Nam} : ∀ (l : List RF), l.Pairwise (fun x y => x.nm < y.nm) → (∀ f ∈ l, f.nm ≠ n) → ∃ a b, l = a ++ b ∧ (∀ f ∈ a, f.nm < n) ∧ (∀ f ∈ b, n < f.nm)
  | [], _, _ => ⟨[], [], rfl, fun _ h => (by cases h), fun _ h => (by cases h)⟩
  | x :: l, hp, hn => by
    rw [List.pairwise_cons] at hp
    by_cases hx : x.nm < n
    · obtain ⟨a, b, e, h1, h2⟩ := split_none l hp.2 (fun f hf => hn f (List.mem_cons_of_mem _ hf))
      refine ⟨x :: a, b, by rw [e]; rfl, fun f hf => ?_, h2⟩
      rcases List.mem_cons.1 hf with rfl | hf
      · exact hx
      · exact h1 f hf
    · have hx2 := nam_tri hx (hn x (List.mem_cons_self ..))
      refine ⟨[], x :: l, rfl, fun _ h => (by cases h), fun f hf => ?_⟩
      rcases List.mem_cons.1 hf with rfl | hf
      · exact hx2
      · exact nam_trans hx2 (hp.1 f hf)

/-- Where a name stands. -/
structure Around (D : Dsk) (l : List RF) (n : Nam) (a m b : List RF) : Prop where
  eq : l = a ++ (m ++ b)
  lo : ∀ f ∈ a, f.nm < n
  hi : ∀ f ∈ b, n < f.nm
  mid : (D.fl n = none ∧ m = []) ∨ ∃ F, D.fl n = some F ∧ m = [RF.of n F]

section
variable {D : Dsk} {l : List RF} (h : IsRows D l)
include h
theorem IsRows.around (n : Nam) : ∃ a m b, Around D l n a m b := by
  cases hf : D.fl n with
  | none =>
    obtain ⟨a, b, e, h1, h2⟩ := split_none l h.sorted (fun f hm (e : f.nm = n) => by
      obtain ⟨F, hF, _⟩ := (h.mem f).1 hm
      rw [e, hf] at hF
      cases hF)
    exact ⟨a, [], b, e, h1, h2, .inl ⟨hf, rfl⟩⟩
  | some F =>
    have hm : RF.of n F ∈ l := (h.mem _).2 ⟨F, hf, rfl, rfl⟩
    obtain ⟨a, b, e⟩ := List.append_of_mem hm
    have hs := h.sorted
    rw [e, List.pairwise_append, List.pairwise_cons] at hs
    exact ⟨a, [RF.of n F], b, e, fun f hf => hs.2.2 f hf _ (List.mem_cons_self ..), fun f hf => hs.2.1.1 f hf, .inr ⟨F, hf, rfl⟩⟩
theorem IsRows.apart {n : Nam} {a m b : List RF} (ha : Around D l n a m b) : a.Pairwise (fun x y => x.nm < y.nm) ∧ b.Pairwise (fun x y => x.nm < y.nm) ∧ (∀ x ∈ a, ∀ y ∈ b, x.nm < y.nm) ∧ ∀ f : RF, f.nm ≠ n → (f ∈ l ↔ f ∈ a ++ b) := by
  have hs := h.sorted
  rw [ha.eq, List.pairwise_append, List.pairwise_append] at hs
  refine ⟨hs.1, hs.2.1.2.1, fun x hx y hy => nam_trans (ha.lo x hx) (ha.hi y hy), fun f hf => ?_⟩
  rw [ha.eq, List.mem_append, List.mem_append, List.mem_append]
  constructor
  · rintro (h1 | h1 | h1)
    · exact .inl h1
    · rcases ha.mid with ⟨_, e⟩ | ⟨F, _, e⟩
      · rw [e] at h1; cases h1
      · rw [e] at h1
        have : f = RF.of n F := by simpa using h1
        exact absurd (by rw [this]; rfl) hf
    · exact .inr h1
  · rintro (h1 | h1)
    · exact .inl h1
    · exact .inr (.inr h1)
theorem IsRows.put {n : Nam} {a m b : List RF} (ha : Around D l n a m b) (F : Fil) : IsRows (D.put n F) (a ++ (RF.of n F :: b)) := by
  obtain ⟨h1, h2, h3, h4⟩ := h.apart ha
  refine ⟨?_, fun f => ?_⟩
  · rw [List.pairwise_append, List.pairwise_cons]
    refine ⟨h1, ⟨ha.hi, h2⟩, fun x hx y hy => ?_⟩
    rcases List.mem_cons.1 hy with rfl | hy
    · exact ha.lo x hx
    · exact h3 x hx y hy
  · by_cases e : f.nm = n
    · rw [e, dput_fl]
      constructor
      · intro hm
        rcases List.mem_append.1 hm with hm | hm
        · exact absurd (ha.lo f hm) (by rw [e]; exact nam_irr n)
        · rcases List.mem_cons.1 hm with rfl | hm
          · exact ⟨F, rfl, rfl, rfl⟩
          · exact absurd (ha.hi f hm) (by rw [e]; exact nam_irr n)
      · rintro ⟨G, hG, q1, q2⟩
        cases hG
        refine List.mem_append_right _ (List.mem_cons.2 (.inl ?_))
        obtain ⟨nm, s, sy⟩ := f
        simp only at e q1 q2
        subst e q1 q2
        rfl
    · rw [dput_ne _ _ _ e, ← h.mem f, h4 f e, List.mem_append, List.mem_append, List.mem_cons]
      constructor
      · rintro (h1 | h1 | h1)
        · exact .inl h1
        · exact absurd (by rw [h1]; rfl) e
        · exact .inr h1
      · rintro (h1 | h1)
        · exact .inl h1
        · exact .inr (.inr h1)
theorem IsRows.del {n : Nam} {a m b : List RF} (ha : Around D l n a m b) : IsRows (D.del n) (a ++ b) := by
  obtain ⟨h1, h2, h3, h4⟩ := h.apart ha
  refine ⟨by rw [List.pairwise_append]; exact ⟨h1, h2, h3⟩, fun f => ?_⟩
  by_cases e : f.nm = n
  · rw [e, del_self]
    constructor
    · intro hm
      rcases List.mem_append.1 hm with hm | hm
      · exact absurd (ha.lo f hm) (by rw [e]; exact nam_irr n)
      · exact absurd (ha.hi f hm) (by rw [e]; exact nam_irr n)
    · rintro ⟨G, hG, _⟩
      cases hG
  · rw [del_ne _ _ e, ← h4 f e]
    exact h.mem f
def crashR (keep : Int) (f : RF) : RF := RF.of f.nm (crashF keep ⟨f.s, f.sy⟩)
theorem IsRows.crash (keep : Int) : IsRows (D.crash keep) (l.map (crashR keep)) := by
  refine ⟨?_, fun f => ?_⟩
  · rw [List.pairwise_map]
    exact h.sorted
  · rw [List.mem_map]
    show _ ↔ ∃ F, (D.fl f.nm).map (crashF keep) = some F ∧ _
    constructor
    · rintro ⟨g, hg, rfl⟩
      obtain ⟨G, hG, q1, q2⟩ := (h.mem g).1 hg
      refine ⟨crashF keep G, ?_, ?_, ?_⟩
      · show (D.fl g.nm).map _ = _
        rw [hG]
        rfl
      · show (crashF keep ⟨g.s, g.sy⟩).bs = _
        rw [q1, q2]
      · show (crashF keep ⟨g.s, g.sy⟩).sy = _
        rw [q1, q2]
    · rintro ⟨F, hF, q1, q2⟩
      cases hG : D.fl f.nm with
      | none => rw [hG] at hF; cases hF
      | some G =>
        rw [hG] at hF
        cases hF
        refine ⟨RF.of f.nm G, (h.mem _).2 ⟨G, hG, rfl, rfl⟩, ?_⟩
        obtain ⟨nm, s, sy⟩ := f
        simp only at q1 q2
        subst q1 q2
        rfl
end
theorem IsRows.new (r : Int) : IsRows (Dsk.new r) [] := ⟨List.Pairwise.nil, fun f => by simp [Dsk.new]⟩

theorem nodup_of_sorted : ∀ {l : List RF}, l.Pairwise (fun x y => x.nm < y.nm) → (l.map RF.nm).Nodup
  | [], _ => List.nodup_nil
  | x :: l, h => by
    rw [List.pairwise_cons] at h
    rw [List.map_cons, List.nodup_cons]
    refine ⟨fun hm => ?_, nodup_of_sorted h.2⟩
    obtain ⟨y, hy, e⟩ := List.mem_map.1 hm
    have := h.1 y hy
    rw [e] at this
    exact nam_irr _ this
theorem IsRows.perm {D : Dsk} {l : List RF} (h : IsRows D l) (hG : D.Good) : (l.map RF.nm).Perm D.ks := by
  refine (List.perm_ext_iff_of_nodup (nodup_of_sorted h.sorted) hG.nod).2 fun n => ?_
  rw [hG.mem n, List.mem_map]
  constructor
  · rintro ⟨f, hf, rfl⟩
    obtain ⟨F, hF, _⟩ := (h.mem f).1 hf
    rw [hF]; rfl
  · intro hs
    cases hf : D.fl n with
    | none => rw [hf] at hs; cases hs
    | some F => exact ⟨RF.of n F, (h.mem _).2 ⟨F, hf, rfl, rfl⟩, rfl⟩
theorem IsRows.len {D : Dsk} {l : List RF} (h : IsRows D l) (hG : D.Good) : l.length = D.ks.length := by
  have := (h.perm hG).length_eq
  rwa [List.length_map] at this
theorem IsRows.names {D : Dsk} {l : List RF} (h : IsRows D l) (hG : D.Good) : D.names = l.map RF.nm := by
  have hp : D.names.Perm (l.map RF.nm) := (names_perm D).trans (h.perm hG).symm
  have hs : D.names.Pairwise (fun a b => leB a b = true) := List.pairwise_mergeSort (le := leB) (fun a b c h1 h2 => by
      have h1 : a ≤ b := of_decide_eq_true h1
      have h2 : b ≤ c := of_decide_eq_true h2
      exact decide_eq_true (List.le_trans h1 h2)) (fun a b => by
      rcases List.le_total a b with h | h
      · simp [leB, h]
      · simp [leB, h]) D.ks
  refine List.Perm.eq_of_pairwise (le := fun a b => leB a b = true) (fun a b _ _ h1 h2 => List.le_antisymm (of_decide_eq_true h1) (of_decide_eq_true h2)) hs ?_ hp
  rw [List.pairwise_map]
  exact h.sorted.imp (fun {a b} hab => decide_eq_true (List.le_of_lt hab))
theorem IsRows.used {D : Dsk} {l : List RF} (h : IsRows D l) (hG : D.Good) : (l.map (fun f => f.s.length)).sum = D.used := by
  have h1 := ((h.perm hG).map (fun n => lenF (D.fl n))).sum_nat
  unfold Dsk.used
  rw [← h1, List.map_map]
  congr 1
  refine List.map_congr_left fun f hf => ?_
  obtain ⟨F, hF, q1, _⟩ := (h.mem f).1 hf
  show _ = lenF (D.fl f.nm)
  rw [hF, q1]
  rfl
end Go.Proofs.Ytpbjompopgdbjaa
