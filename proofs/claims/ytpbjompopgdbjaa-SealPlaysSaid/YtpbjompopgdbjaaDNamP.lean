/-
  DiskNames: its plain part.
-/
import Derived.Test.YtpbjompopgdbjaaZDskB
namespace Go.Proofs.Ytpbjompopgdbjaa
open Go.RowKit Go.Maps Go.Sort

theorem dput_fl (D : Dsk) (n : Nam) (f : Fil) : (D.put n f).fl n = some f := upd_same D.fl n (some f)
theorem dput_ne (D : Dsk) (n : Nam) (f : Fil) {m : Nam} (h : m ≠ n) : (D.put n f).fl m = D.fl m := upd_other D.fl n _ _ h
theorem dput_ks (D : Dsk) {n : Nam} {f g : Fil} (h : D.fl n = some g) : (D.put n f).ks = D.ks := by
  show (if (D.fl n).isSome then D.ks else n :: D.ks) = _
  rw [h]
  rfl
theorem dput_ks_le (D : Dsk) (n : Nam) (f : Fil) : (D.put n f).ks.length ≤ D.ks.length + 1 := by
  show (if (D.fl n).isSome then D.ks else n :: D.ks).length ≤ _
  split <;> simp
theorem app_ok {D : Dsk} {n : Nam} {b : List UInt8} (hm : may n = true) (hu : ¬ D.room - D.used < b.length) : D.append n b = (0, D.put n ⟨bsF (D.fl n) ++ b, syF (D.fl n)⟩) := by
  unfold Dsk.append
  rw [if_neg (by rw [hm]; decide), if_neg hu]
theorem may_of {n : Nam} (h1 : 1 ≤ n.length) (h2 : n.length ≤ 20) : may n = true := by
  unfold may
  simp [h1, h2]
theorem used_app {D : Dsk} (hG : D.Good) (n : Nam) (b : List UInt8) (sy : Nat) : (D.put n ⟨bsF (D.fl n) ++ b, sy⟩).used = D.used + b.length := by
  have := Dsk.used_put hG n ⟨bsF (D.fl n) ++ b, sy⟩
  have h2 : (bsF (D.fl n) ++ b).length = lenF (D.fl n) + b.length := by rw [List.length_append, lenF_bs]
  have h3 : (D.put n ⟨bsF (D.fl n) ++ b, sy⟩).used + lenF (D.fl n) = D.used + (bsF (D.fl n) ++ b).length := this
  omega
theorem sy_le {D : Dsk} (hG : D.Good) (n : Nam) : syF (D.fl n) ≤ (bsF (D.fl n)).length := by
  cases h : D.fl n with
  | none => exact Nat.le_refl _
  | some f => exact hG.syn n f h
theorem good_app {D : Dsk} (hG : D.Good) {n : Nam} {b : List UInt8} (hm : 1 ≤ n.length ∧ n.length ≤ 20) (hu : ¬ D.room - D.used < b.length) : (D.put n ⟨bsF (D.fl n) ++ b, syF (D.fl n)⟩).Good := by
  refine hG.put hm ?_ ?_
  · show syF (D.fl n) ≤ (bsF (D.fl n) ++ b).length
    have := sy_le hG n
    rw [List.length_append]
    omega
  · rw [used_app hG]
    omega

theorem del_self (D : Dsk) (n : Nam) : (D.del n).fl n = none := upd_same D.fl n none
theorem del_ne (D : Dsk) (n : Nam) {m : Nam} (hm : m ≠ n) : (D.del n).fl m = D.fl m := upd_other D.fl n _ _ hm

namespace Nms
def fill (l : List Nam) : Nat → Dsk
  | 0 => Dsk.new 1000
  | k + 1 => (fill l k).put (l.getD k []) ⟨bsF ((fill l k).fl (l.getD k [])) ++ [UInt8.ofNat k], syF ((fill l k).fl (l.getD k []))⟩
structure Ok (l : List Nam) (k : Nat) : Prop where
  good : (fill l k).Good
  used : (fill l k).used = k
  room : (fill l k).room = 1000
  ks : (fill l k).ks.length ≤ k
  has : ∀ i n, i < k → l[i]? = some n → ∃ f, (fill l k).fl n = some f
theorem ok0 (l : List Nam) : Ok l 0 := ⟨Dsk.Good.new (by decide) (by decide), rfl, rfl, Nat.le_refl _, fun i _ h => absurd h (Nat.not_lt_zero i)⟩
theorem Ok.step {l : List Nam} {k : Nat} (h : Ok l k) (hk : k ≤ 12) {n : Nam} (hn : l[k]? = some n) (h1 : 1 ≤ n.length) (h2 : n.length ≤ 20) : Ok l (k + 1) ∧ (fill l k).append n [UInt8.ofNat k] = (0, fill l (k + 1)) := by
  have e : l.getD k [] = n := by rw [List.getD, hn]; rfl
  have hu : ¬ (fill l k).room - (fill l k).used < ([UInt8.ofNat k] : List UInt8).length := by rw [h.used, h.room]; simp; omega
  have e2 : fill l (k + 1) = (fill l k).put n ⟨bsF ((fill l k).fl n) ++ [UInt8.ofNat k], syF ((fill l k).fl n)⟩ := by
    show (fill l k).put (l.getD k []) _ = _
    rw [e]
  refine ⟨⟨?_, ?_, ?_, ?_, ?_⟩, ?_⟩
  · rw [e2]; exact good_app h.good ⟨h1, h2⟩ hu
  · rw [e2, used_app h.good, h.used]; rfl
  · rw [e2]; exact h.room
  · rw [e2]
    have := dput_ks_le (fill l k) n ⟨bsF ((fill l k).fl n) ++ [UInt8.ofNat k], syF ((fill l k).fl n)⟩
    have := h.ks
    omega
  · intro i m hi hm
    rw [e2]
    by_cases hmn : m = n
    · subst hmn; exact ⟨_, dput_fl _ _ _⟩
    · rw [dput_ne _ _ _ hmn]
      refine h.has i m ?_ hm
      by_cases hik : i = k
      · subst hik; rw [hn] at hm; cases hm; exact absurd rfl hmn
      · omega
  · rw [app_ok (may_of h1 h2) hu, e2]

def tail : List UInt8 := [116, 97, 105, 108]
def A1 (D : Dsk) (f : Nam) (F : Fil) : Dsk := D.put f ⟨F.bs, F.bs.length⟩
def A2 (D : Dsk) (f : Nam) (F : Fil) : Dsk := (A1 D f F).put f ⟨F.bs ++ tail, F.bs.length⟩
def A3 (D : Dsk) (f t : Nam) (F : Fil) : Dsk := ((A2 D f F).del f).put t ⟨F.bs ++ tail, F.bs.length⟩
theorem fl1 (D : Dsk) (f : Nam) (F : Fil) : (A1 D f F).fl f = some ⟨F.bs, F.bs.length⟩ := dput_fl _ _ _
theorem fl2 (D : Dsk) (f : Nam) (F : Fil) : (A2 D f F).fl f = some ⟨F.bs ++ tail, F.bs.length⟩ := dput_fl _ _ _
theorem fl3 (D : Dsk) (f t : Nam) (F : Fil) : (A3 D f t F).fl t = some ⟨F.bs ++ tail, F.bs.length⟩ := dput_fl _ _ _
theorem none3 (D : Dsk) (F : Fil) {f t : Nam} (hn : f ≠ t) : (A3 D f t F).fl f = none := by
  unfold A3
  rw [dput_ne _ _ _ hn]
  exact del_self _ _
theorem again3 (D : Dsk) (F : Fil) {f t : Nam} (e : f ≠ t) : (A3 D f t F).rename f t = (5, A3 D f t F) := by
  unfold Dsk.rename
  rw [none3 D F e]
theorem nil3 (D : Dsk) (f t : Nam) (F : Fil) : (A3 D f t F).rename t [] = (1, A3 D f t F) := by
  unfold Dsk.rename
  rw [(fl3 D f t F)]
  rfl
/-- What comes behind the loop. -/
structure End (D : Dsk) (f t : Nam) (F : Fil) : Prop where
  good : D.Good
  ks : D.ks.length ≤ 12
  room : D.room = 1000
  used : D.used ≤ 12
  hf : D.fl f = some F
  ht : ∃ T, D.fl t = some T
section
variable {D : Dsk} {f t : Nam} {F : Fil} (h : End D f t F)
include h
theorem End.namf : 1 ≤ f.length ∧ f.length ≤ 20 := h.good.nam f (by rw [h.hf]; rfl)
theorem End.namt : 1 ≤ t.length ∧ t.length ≤ 20 := by
  obtain ⟨T, hT⟩ := h.ht
  exact h.good.nam t (by rw [hT]; rfl)
theorem End.sync : D.sync f = (0, A1 D f F) := by
  unfold Dsk.sync
  rw [h.hf]
  rfl
theorem End.used1 : (A1 D f F).used = D.used := by
  have := Dsk.used_put h.good f ⟨F.bs, F.bs.length⟩
  rw [h.hf] at this
  have h2 : (A1 D f F).used + F.bs.length = D.used + F.bs.length := this
  omega
theorem End.good1 : (A1 D f F).Good := by
  refine h.good.put h.namf (Nat.le_refl _) ?_
  have := h.used1
  have h2 := h.good.fit
  show ((A1 D f F).used : Int) ≤ D.room
  omega
theorem End.room1 : (A1 D f F).room = 1000 := h.room
theorem End.ks1 : (A1 D f F).ks = D.ks := dput_ks D h.hf
theorem End.append : (A1 D f F).append f tail = (0, A2 D f F) := by
  rw [app_ok (may_of h.namf.1 h.namf.2) (by rw [h.used1, h.room1]; have := h.used; show ¬ (1000 : Int) - _ < ((4 : Nat) : Int); omega), (fl1 D f F)]
  rfl
theorem End.ks2 : (A2 D f F).ks = D.ks := (dput_ks (A1 D f F) (fl1 D f F)).trans h.ks1
theorem End.used2 : (A2 D f F).used = D.used + 4 := by
  have := Dsk.used_put h.good1 f ⟨F.bs ++ tail, F.bs.length⟩
  rw [(fl1 D f F)] at this
  have h2 : (A2 D f F).used + F.bs.length = (A1 D f F).used + (F.bs ++ tail).length := this
  rw [h.used1, List.length_append] at h2
  have : tail.length = 4 := rfl
  omega
theorem End.good2 : (A2 D f F).Good := by
  refine h.good1.put h.namf ?_ ?_
  · show F.bs.length ≤ (F.bs ++ tail).length
    rw [List.length_append]; omega
  · have := h.used2
    have h3 := h.used
    show ((A2 D f F).used : Int) ≤ (A1 D f F).room
    rw [h.room1]
    omega
theorem End.t2 : ∃ T, (A2 D f F).fl t = some T ∧ (t = f → T = ⟨F.bs ++ tail, F.bs.length⟩) := by
  by_cases e : t = f
  · subst e; exact ⟨_, fl2 D _ F, fun _ => rfl⟩
  · obtain ⟨T, hT⟩ := h.ht
    refine ⟨T, ?_, fun e2 => absurd e2 e⟩
    unfold A2 A1
    rw [dput_ne _ _ _ e, dput_ne _ _ _ e]
    exact hT
theorem End.rename : (A2 D f F).rename f t = (0, A3 D f t F) := by
  unfold Dsk.rename
  rw [(fl2 D f F)]
  simp only
  rw [if_neg (by rw [may_of h.namt.1 h.namt.2]; decide)]
  rfl
theorem End.usedd : ((A2 D f F).del f).used + (F.bs ++ tail).length = (A2 D f F).used := by
  have := Dsk.used_del h.good2 f
  rw [(fl2 D f F)] at this
  exact this
theorem End.good3 : (A3 D f t F).Good ∧ (A3 D f t F).used + lenF (((A2 D f F).del f).fl t) = (A2 D f F).used := by
  have hG := h.good2.del f
  have h1 := Dsk.used_put hG t ⟨F.bs ++ tail, F.bs.length⟩
  have h2 := h.usedd
  have h3 : (A3 D f t F).used + lenF (((A2 D f F).del f).fl t) = ((A2 D f F).del f).used + (F.bs ++ tail).length := h1
  refine ⟨hG.put h.namt ?_ ?_, by omega⟩
  · show F.bs.length ≤ (F.bs ++ tail).length
    rw [List.length_append]; omega
  · have h4 := h.good2.fit
    show ((A3 D f t F).used : Int) ≤ (A2 D f F).room
    omega
theorem End.same3 (e : f = t) : (A3 D f t F).used = D.used + 4 ∧ (A3 D f t F).ks.length = (A2 D f F).ks.length := by
  subst e
  have h1 := h.good3.2
  rw [del_self] at h1
  have h1 : (A3 D f f F).used + 0 = (A2 D f F).used := h1
  have h2 := h.used2
  refine ⟨by omega, ?_⟩
  have hm : f ∈ (A2 D f F).ks := (h.good2.mem f).2 (by rw [(fl2 D f F)]; rfl)
  have h3 : (A3 D f f F).ks = f :: (A2 D f F).ks.erase f := by
    show (if (((A2 D f F).del f).fl f).isSome then _ else f :: (A2 D f F).ks.erase f) = _
    rw [del_self]
    rfl
  rw [h3, List.length_cons, List.length_erase_of_mem hm]
  have : 0 < (A2 D f F).ks.length := List.length_pos_of_mem hm
  omega
theorem End.other3 (e : f ≠ t) {T : Fil} (hT : (A2 D f F).fl t = some T) : (A3 D f t F).used + T.bs.length = D.used + 4 ∧ (A3 D f t F).ks.length + 1 = (A2 D f F).ks.length := by
  have h1 := h.good3.2
  have h4 : ((A2 D f F).del f).fl t = some T := by rw [del_ne _ _ (Ne.symm e)]; exact hT
  have h2 := h.used2
  have hk : (A3 D f t F).ks = (A2 D f F).ks.erase f := by
    unfold A3
    rw [dput_ks _ h4]
    rfl
  rw [h4] at h1
  have h1 : (A3 D f t F).used + T.bs.length = (A2 D f F).used := h1
  refine ⟨by omega, ?_⟩
  have hm : f ∈ (A2 D f F).ks := (h.good2.mem f).2 (by rw [(fl2 D f F)]; rfl)
  rw [hk, List.length_erase_of_mem hm]
  have : 0 < (A2 D f F).ks.length := List.length_pos_of_mem hm
  omega
/-- All that the walk asks. -/
structure All (D : Dsk) (f t : Nam) (D1 D2 D3 : Dsk) (X : List UInt8) (s : Nat) (T : Fil) (u k : Nat) : Prop where
  sync : D.sync f = (0, D1)
  app : D1.append f [116, 97, 105, 108] = (0, D2)
  k1 : D1.ks.length ≤ 12
  f2 : D2.fl f = some ⟨X, s⟩
  hX : X.length = s + 4
  xl : X.length ≤ 16
  k2 : D2.ks.length = k
  kk : k ≤ 12
  u2 : D2.used = u
  uu : u ≤ 16
  t2 : D2.fl t = some T
  tl : T.bs.length ≤ 16
  ren : D2.rename f t = (0, D3)
  f3 : D3.fl t = some ⟨X, s⟩
  good : D3.Good
  same : f = t → D3.used = u ∧ D3.ks.length = k
  other : f ≠ t → D3.fl f = none ∧ D3.used + T.bs.length = u ∧ D3.ks.length + 1 = k ∧ D3.rename f t = (5, D3)
  nil : D3.rename t [] = (1, D3)
  k3 : D3.ks.length ≤ 12
theorem End.all : ∃ D1 D2 D3 X s T u k, All D f t D1 D2 D3 X s T u k := by
  obtain ⟨T, hT, _⟩ := h.t2
  have hk := h.ks
  have hu := h.used
  have hu2 := h.used2
  have hl1 := Dsk.len_le h.good2 f
  have hl2 := Dsk.len_le h.good2 t
  rw [fl2] at hl1
  rw [hT] at hl2
  have hl1 : (F.bs ++ tail).length ≤ (A2 D f F).used := hl1
  have hl2 : T.bs.length ≤ (A2 D f F).used := hl2
  refine ⟨A1 D f F, A2 D f F, A3 D f t F, F.bs ++ tail, F.bs.length, T, (A2 D f F).used, (A2 D f F).ks.length, h.sync, h.append, by rw [h.ks1]; exact hk, fl2 D f F, by rw [List.length_append]; rfl, by omega, rfl, by rw [h.ks2]; exact hk, rfl, by omega, hT, by omega, h.rename, fl3 D f t F, h.good3.1, fun e => ?_, fun e => ?_, nil3 D f t F, ?_⟩
  · have := h.same3 e
    rw [← h.used2] at this
    exact this
  · have := h.other3 e hT
    rw [← h.used2] at this
    exact ⟨none3 D F e, this.1, this.2, again3 D F e⟩
  · by_cases e : f = t
    · have := (h.same3 e).2
      rw [this, h.ks2]
      exact hk
    · have := (h.other3 e hT).2
      rw [h.ks2] at this
      omega
end
end Nms

theorem names_lt {D : Dsk} (h : D.Good) {i : Nat} {a b : Nam} (ha : D.names[i]? = some a) (hb : D.names[i + 1]? = some b) : Op.bytesLess a b = true := by
  have tr : ∀ a b c : List UInt8, leB a b = true → leB b c = true → leB a c = true := fun a b c h1 h2 => by simp only [leB, decide_eq_true_eq] at *; exact List.le_trans h1 h2
  have to : ∀ a b : List UInt8, (leB a b || leB b a) = true := fun a b => by simp only [leB, Bool.or_eq_true, decide_eq_true_eq]; exact List.le_total a b
  have hs := List.pairwise_mergeSort tr to D.ks
  have hn : D.names.Nodup := (names_perm D).nodup_iff.2 h.nod
  obtain ⟨hi, ea⟩ := List.getElem?_eq_some_iff.1 ha
  obtain ⟨hj, eb⟩ := List.getElem?_eq_some_iff.1 hb
  have h1 := List.pairwise_iff_getElem.1 hs i (i + 1) hi hj (Nat.lt_succ_self i)
  have h2 := List.pairwise_iff_getElem.1 hn i (i + 1) hi hj (Nat.lt_succ_self i)
  have ea' : (D.ks.mergeSort leB)[i] = a := ea
  have eb' : (D.ks.mergeSort leB)[i + 1] = b := eb
  rw [ea', eb'] at h1
  rw [ea, eb] at h2
  simp only [leB, decide_eq_true_eq] at h1
  rw [bytesLess_eq, decide_eq_true_eq]
  rcases List.le_iff_lt_or_eq.1 h1 with h3 | h3
  · exact h3
  · exact absurd h3 h2
end Go.Proofs.Ytpbjompopgdbjaa
