/-
  disk in plain words: files by their names.
-/
import Derived.Test.YtgcmagoecapgoaaLibMap
namespace Go.Proofs.Ytgcmagoecapgoaa

abbrev Nam := List UInt8
structure Fil where
  bs : List UInt8
  sy : Nat
structure Dsk where
  room : Int
  ks : List Nam
  fl : Nam → Option Fil
def Dsk.new (r : Int) : Dsk := ⟨r, [], fun _ => none⟩
def Dsk.put (D : Dsk) (n : Nam) (f : Fil) : Dsk := ⟨D.room, if (D.fl n).isSome then D.ks else n :: D.ks, upd D.fl n (some f)⟩
def Dsk.del (D : Dsk) (n : Nam) : Dsk := ⟨D.room, D.ks.erase n, upd D.fl n none⟩
def lenF (o : Option Fil) : Nat := match o with
  | none => 0
  | some f => f.bs.length
def Dsk.used (D : Dsk) : Nat := (D.ks.map fun n => lenF (D.fl n)).sum
structure Dsk.Good (D : Dsk) : Prop where
  nod : D.ks.Nodup
  mem : ∀ n, n ∈ D.ks ↔ (D.fl n).isSome = true
  nam : ∀ n, (D.fl n).isSome = true → 1 ≤ n.length ∧ n.length ≤ 20
  syn : ∀ n f, D.fl n = some f → f.sy ≤ f.bs.length
  fit : (D.used : Int) ≤ D.room
  rm : D.room ≤ 1000000
def may (n : Nam) : Bool := decide (1 ≤ n.length) && decide (n.length ≤ 20)

/-- A file's bytes and what of them is synced; none: as of a new one. -/
def bsF (o : Option Fil) : List UInt8 := match o with
  | none => []
  | some f => f.bs
def syF (o : Option Fil) : Nat := match o with
  | none => 0
  | some f => f.sy
theorem lenF_bs (o : Option Fil) : (bsF o).length = lenF o := by cases o <;> rfl
def Dsk.append (D : Dsk) (n : Nam) (b : List UInt8) : Int × Dsk :=
  if may n = false then (1, D) else if D.room - D.used < b.length then (4, D) else (0, D.put n ⟨bsF (D.fl n) ++ b, syF (D.fl n)⟩)
def Dsk.sync (D : Dsk) (n : Nam) : Int × Dsk := match D.fl n with
  | none => (5, D)
  | some f => (0, D.put n ⟨f.bs, f.bs.length⟩)
def Dsk.cut (D : Dsk) (n : Nam) (k : Int) : Int × Dsk := match D.fl n with
  | none => (5, D)
  | some f => if k < 0 ∨ (f.bs.length : Int) < k then (3, D) else (0, D.put n ⟨f.bs.take k.toNat, k.toNat⟩)
def Dsk.rename (D : Dsk) (a b : Nam) : Int × Dsk := match D.fl a with
  | none => (5, D)
  | some f => if may b = false then (1, D) else (0, (D.del a).put b f)
def Dsk.remove (D : Dsk) (a : Nam) : Int × Dsk := match D.fl a with
  | none => (5, D)
  | some _ => (0, D.del a)
/-- How long a file is behind a crash. -/
def stay (keep : Int) (f : Fil) : Nat := f.sy + min (max keep 0).toNat (f.bs.length - f.sy)
def crashF (keep : Int) (f : Fil) : Fil := ⟨f.bs.take (stay keep f), stay keep f⟩
def Dsk.crash (D : Dsk) (keep : Int) : Dsk := ⟨D.room, D.ks, fun n => (D.fl n).map (crashF keep)⟩

/-- A sum over names, where one has turned. -/
theorem sum_upd (g : Nam → Nat) (n : Nam) (v : Nat) : ∀ {l : List Nam}, l.Nodup → n ∈ l → (l.map (upd g n v)).sum + g n = (l.map g).sum + v := by
  intro l
  induction l with
  | nil => intro _ h; cases h
  | cons a l ih =>
    intro hn hm
    rw [List.nodup_cons] at hn
    simp only [List.map_cons, List.sum_cons]
    by_cases e : a = n
    · subst e
      rw [upd_same, List.map_congr_left (g := g) (fun x hx => upd_other g a x v (fun h => hn.1 (h ▸ hx)))]
      omega
    · rw [upd_other _ _ _ _ e]
      have := ih hn.2 (by
        rcases List.mem_cons.1 hm with h | h
        · exact absurd h.symm e
        · exact h)
      omega
theorem sum_upd_none (g : Nam → Nat) (n : Nam) (v : Nat) {l : List Nam} (h : n ∉ l) : (l.map (upd g n v)).sum = (l.map g).sum := by
  rw [List.map_congr_left (g := g) (fun x hx => upd_other g n x v (fun e => h (e ▸ hx)))]
theorem len_upd (fl : Nam → Option Fil) (n : Nam) (o : Option Fil) : (fun m => lenF (upd fl n o m)) = upd (fun m => lenF (fl m)) n (lenF o) := by
  funext m
  unfold upd
  split <;> rfl

section
variable {D : Dsk} (h : D.Good)
include h
theorem Dsk.Good.none_mem {n : Nam} (hn : D.fl n = none) : n ∉ D.ks := fun hm => by
  have := (h.mem n).1 hm
  rw [hn] at this
  cases this
theorem Dsk.used_put (n : Nam) (f : Fil) : (D.put n f).used + lenF (D.fl n) = D.used + f.bs.length := by
  unfold Dsk.used Dsk.put
  simp only
  cases hf : D.fl n with
  | none =>
    have hm := h.none_mem hf
    rw [if_neg (by simp)]
    simp only [List.map_cons, List.sum_cons]
    rw [show (fun m => lenF (upd D.fl n (some f) m)) = _ from len_upd D.fl n (some f), sum_upd_none _ _ _ hm, upd_same]
    show f.bs.length + _ + 0 = _
    omega
  | some f0 =>
    have hm : n ∈ D.ks := (h.mem n).2 (by rw [hf]; rfl)
    rw [show (if (some f0).isSome = true then D.ks else n :: D.ks) = D.ks from rfl]
    rw [show (fun m => lenF (upd D.fl n (some f) m)) = _ from len_upd D.fl n (some f)]
    have := sum_upd (fun m => lenF (D.fl m)) n f.bs.length h.nod hm
    rw [hf] at this
    exact this
theorem Dsk.used_del (n : Nam) : (D.del n).used + lenF (D.fl n) = D.used := by
  unfold Dsk.used Dsk.del
  simp only
  rw [show (fun m => lenF (upd D.fl n none m)) = _ from len_upd D.fl n none]
  rw [sum_upd_none _ _ _ (fun hm => by rw [List.Nodup.mem_erase_iff h.nod] at hm; exact hm.1 rfl)]
  by_cases hm : n ∈ D.ks
  · have := (List.perm_cons_erase hm).map (fun m => lenF (D.fl m))
    rw [this.sum_nat]
    simp only [List.map_cons, List.sum_cons]
    omega
  · rw [List.erase_of_not_mem hm]
    have : D.fl n = none := by
      cases hf : D.fl n with
      | none => rfl
      | some f => exact absurd ((h.mem n).2 (by rw [hf]; rfl)) hm
    rw [this]
    rfl
theorem Dsk.len_le (n : Nam) : lenF (D.fl n) ≤ D.used := by
  have := Dsk.used_del h n
  omega
theorem Dsk.Good.put {n : Nam} {f : Fil} (hn : 1 ≤ n.length ∧ n.length ≤ 20) (hs : f.sy ≤ f.bs.length) (hu : ((D.put n f).used : Int) ≤ D.room) : (D.put n f).Good where
  nod := by
    unfold Dsk.put
    simp only
    split
    · exact h.nod
    · rename_i h0
      exact List.nodup_cons.2 ⟨fun hm => h0 ((h.mem n).1 hm), h.nod⟩
  mem := by
    intro m
    unfold Dsk.put
    simp only
    by_cases e : m = n
    · subst e
      rw [upd_same]
      split
      · rename_i h0
        simp [(h.mem m).2 h0]
      · simp
    · rw [upd_other _ _ _ _ e]
      split
      · exact h.mem m
      · rw [List.mem_cons]
        simp only [e, false_or]
        exact h.mem m
  nam := by
    intro m hm
    by_cases e : m = n
    · subst e; exact hn
    · refine h.nam m ?_
      unfold Dsk.put at hm
      simp only [upd_other _ _ _ _ e] at hm
      exact hm
  syn := by
    intro m g hm
    unfold Dsk.put at hm
    simp only at hm
    by_cases e : m = n
    · subst e
      rw [upd_same] at hm
      cases hm
      exact hs
    · rw [upd_other _ _ _ _ e] at hm
      exact h.syn m g hm
  fit := hu
  rm := h.rm
theorem Dsk.Good.del (n : Nam) : (D.del n).Good where
  nod := h.nod.erase n
  mem := by
    intro m
    unfold Dsk.del
    simp only
    rw [List.Nodup.mem_erase_iff h.nod]
    by_cases e : m = n
    · subst e; simp [upd_same]
    · rw [upd_other _ _ _ _ e]
      simp only [ne_eq, e, not_false_eq_true, true_and]
      exact h.mem m
  nam := by
    intro m hm
    refine h.nam m ?_
    unfold Dsk.del at hm
    simp only at hm
    by_cases e : m = n
    · subst e; rw [upd_same] at hm; cases hm
    · rw [upd_other _ _ _ _ e] at hm; exact hm
  syn := by
    intro m g hm
    unfold Dsk.del at hm
    simp only at hm
    by_cases e : m = n
    · subst e; rw [upd_same] at hm; cases hm
    · rw [upd_other _ _ _ _ e] at hm; exact h.syn m g hm
  fit := by
    have h1 := Dsk.used_del h n
    have h2 := h.fit
    show ((D.del n).used : Int) ≤ D.room
    omega
  rm := h.rm
theorem stay_le (keep : Int) {n : Nam} {f : Fil} (hf : D.fl n = some f) : f.sy ≤ stay keep f ∧ stay keep f ≤ f.bs.length := by
  have := h.syn n f hf
  unfold stay
  omega
end
theorem Dsk.Good.new {r : Int} (h0 : 0 ≤ r) (h1 : r ≤ 1000000) : (Dsk.new r).Good := ⟨List.nodup_nil, fun n => by simp [Dsk.new], fun n h => by simp [Dsk.new] at h, fun n f h => by simp [Dsk.new] at h, by simpa [Dsk.new, Dsk.used] using h0, h1⟩
theorem Dsk.Good.crash {D : Dsk} (h : D.Good) (keep : Int) : (D.crash keep).Good where
  nod := h.nod
  mem := fun n => by
    show n ∈ D.ks ↔ ((D.fl n).map (crashF keep)).isSome = true
    rw [h.mem n]
    cases D.fl n <;> simp
  nam := fun n hm => h.nam n (by
    have : ((D.fl n).map (crashF keep)).isSome = true := hm
    cases hf : D.fl n with
    | none => rw [hf] at this; cases this
    | some f => rfl)
  syn := fun n f hm => by
    have hm : (D.fl n).map (crashF keep) = some f := hm
    cases hf : D.fl n with
    | none => rw [hf] at hm; cases hm
    | some g =>
      rw [hf] at hm
      cases hm
      have := (stay_le h keep hf).2
      show stay keep g ≤ (g.bs.take (stay keep g)).length
      rw [List.length_take]
      omega
  fit := by
    have h2 := h.fit
    have : (D.crash keep).used ≤ D.used := by
      unfold Dsk.used Dsk.crash
      simp only
      generalize D.ks = l
      induction l with
      | nil => simp
      | cons a l ih =>
        simp only [List.map_cons, List.sum_cons]
        have : lenF ((D.fl a).map (crashF keep)) ≤ lenF (D.fl a) := by
          cases D.fl a with
          | none => exact Nat.le_refl _
          | some f =>
            show (f.bs.take (stay keep f)).length ≤ f.bs.length
            rw [List.length_take]
            omega
        omega
    show ((D.crash keep).used : Int) ≤ D.room
    omega
  rm := h.rm
end Go.Proofs.Ytgcmagoecapgoaa
