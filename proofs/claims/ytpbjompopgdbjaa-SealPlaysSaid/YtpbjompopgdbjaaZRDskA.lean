/-
  the reference's disk in memory; where a name stands.
-/
import Derived.Test.YtpbjompopgdbjaaRDskM
import Derived.Test.YtpbjompopgdbjaaRegionT
import Derived.Sort.Walk0
import Derived.Deep.Upon
namespace Go.Proofs.Ytpbjompopgdbjaa
open Go.RowKit Go.Maps Go.Sort

def RF.row (f : RF) : List Value := [encStr f.nm, encStr f.s, .int .i64 f.sy]
def fcells (l : List RF) : List Value := l.flatMap RF.row
theorem fcells_nil : fcells [] = [] := rfl
theorem fcells_cons (f : RF) (l : List RF) : fcells (f :: l) = f.row ++ fcells l := rfl
theorem fcells_app (a b : List RF) : fcells (a ++ b) = fcells a ++ fcells b := List.flatMap_append
theorem fcells_len : ∀ l : List RF, (fcells l).length = l.length * 3
  | [] => rfl
  | f :: l => by
    rw [fcells_cons, List.length_append, fcells_len l, List.length_cons]
    show 3 + _ = _
    omega
theorem fcells_get : ∀ {l : List RF} {i : Nat} {f : RF}, l[i]? = some f → ∀ j u, f.row[j]? = some u → (fcells l)[i * 3 + j]? = some u
  | [], _, _, h, _, _, _ => by simp at h
  | g :: l, 0, f, h, j, u, hj => by
    cases h
    rw [fcells_cons, List.getElem?_append_left (by have := (List.getElem?_eq_some_iff.1 hj).1; show 0 * 3 + j < _; omega)]
    simpa using hj
  | g :: l, i + 1, f, h, j, u, hj => by
    have h : l[i]? = some f := h
    rw [fcells_cons, List.getElem?_append_right (by show 3 ≤ _; omega)]
    have := fcells_get h j u hj
    rw [← this]
    congr 1
    show (i + 1) * 3 + j - 3 = _
    omega
theorem fcells_one (l : List RF) : ∀ u ∈ fcells l, u.oneCell' = true := fun u hu => by
  obtain ⟨f, _, hf⟩ := List.mem_flatMap.1 hu
  unfold RF.row at hf
  simp at hf
  rcases hf with rfl | rfl | rfl <;> rfl

/-- The reference's disk: its block, its row of files. -/
structure RDAt (w : World) (base X : Nat) (v : Value) (room : Int) (l : List RF) : Prop where
  blk : Blk w X 55 #[.int .i64 room, v]
  own : w.ownsRow base 65 3 v l.length (fcells l)

section
variable {w : World} {base X : Nat} {v : Value} {room : Int} {l : List RF} (h : RDAt w base X v room l)
include h
theorem RDAt.chg {w' : World} {S : Nat → Prop} (hc : Chg S w w') (hX : ¬ S X) (hv : ∀ k, v.ownBlock = some k → ¬ S k) : RDAt w' base X v room l := ⟨h.blk.chg hc hX, own_chg h.own hc hv⟩
theorem RDAt.keep {w' : World} (hc : Chg (fun _ => False) w w') : RDAt w' base X v room l := h.chg hc id (fun _ _ => id)
theorem RDAt.slice : ∃ ao cp, v = .slice ao l.length cp := by
  rcases h.own.2 with ⟨rfl, h0⟩ | ⟨g, cp, _, rfl, _⟩
  · exact ⟨none, 0, by rw [h0]⟩
  · exact ⟨_, _, rfl⟩
theorem RDAt.c0 : w.cell? ⟨X, 0, none⟩ = some (.int .i64 room) := h.blk.cell 0
theorem RDAt.c1 : w.cell? ⟨X, 1, none⟩ = some v := h.blk.cell 1
theorem RDAt.block {k : Nat} (hk : v.ownBlock = some k) : base ≤ k ∧ k < w.heap.size ∧ k ≠ X := by
  rcases h.own.2 with ⟨rfl, _⟩ | ⟨g, cap, cur, rfl, hb, hh, _⟩
  · simp [Value.ownBlock] at hk
  · simp [Value.ownBlock] at hk
    subst hk
    have hB : Blk w g 65 cur := hh
    exact ⟨hb, (Array.getElem?_eq_some_iff.1 hh).1, hB.ne h.blk (by decide)⟩
/-- A file's cells. -/
theorem RDAt.file {i : Nat} {f : RF} (hi : l[i]? = some f) : ∃ g cp, v = .slice (some ⟨g, 0, none⟩) l.length cp ∧ g < w.heap.size ∧ w.cell? ⟨g, i * 3, none⟩ = some (encStr f.nm) ∧ w.cell? ⟨g, i * 3 + 1, none⟩ = some (encStr f.s) ∧ w.cell? ⟨g, i * 3 + 2, none⟩ = some (.int .i64 f.sy) := by
  have hl := (List.getElem?_eq_some_iff.1 hi).1
  rcases h.own.2 with ⟨rfl, h0⟩ | ⟨g, cap, cur, rfl, hb, hh, h1, h2, h3, h4⟩
  · omega
  · have hB : Blk w g 65 cur := hh
    have hc : ∀ j u, f.row[j]? = some u → w.cell? ⟨g, i * 3 + j, none⟩ = some u := fun j u hj => by
      have h5 := fcells_get hi j u hj
      have h6 := (List.getElem?_eq_some_iff.1 h5).1
      rw [fcells_len] at h6
      rw [hB.cell, ← Array.getElem?_toList, ← h5, ← h4, List.getElem?_take_of_lt h6]
    exact ⟨g, cap, rfl, hB.lt, hc 0 _ rfl, hc 1 _ rfl, hc 2 _ rfl⟩
end

theorem less_yes {a b : Nam} (h : a < b) : Op.bytesLess a b = true := by
  rw [bytesLess_eq]
  exact decide_eq_true h
theorem less_no {a b : Nam} (h : ¬ a < b) : Op.bytesLess a b = false := by
  rw [bytesLess_eq]
  exact decide_eq_false h

set_option maxRecDepth 100000 in
set_option maxHeartbeats 1000000 in
theorem rd_at {w : World} {base X : Nat} {v : Value} {room : Int} {l : List RF} (h : RDAt w base X v room l) (n : Nam) (a b : List RF) (he : l = a ++ b) (hlo : ∀ f ∈ a, f.nm < n) (is : Bool)
    (hb : b = [] → is = false) (hb2 : ∀ f r, b = f :: r → ¬ f.nm < n ∧ (f.nm == n) = is) (hl : l.length ≤ 1000000) :
    Calls Try.prog 50 #[.pointer (some ⟨X, 0, none⟩), encStr n] w fun e w' => e = .returned (.tuple #[.int .i64 a.length, .bool is]) ∧ w' = w.drew := by
  obtain ⟨ao, cp, hv⟩ := h.slice
  have c1 := h.c1
  rw [hv] at c1
  have hal : a.length ≤ l.length := by rw [he, List.length_append]; omega
  go_enter Try.func50, Try.ntmps50
  go_wp2_with fail
  go_loopw [6] (fun v6 wr => ∃ k : Nat, v6 = .int .i64 k ∧ k ≤ a.length ∧ wr = w) (fun v6 _ => 2000000 - (RowKit.intOf v6).toNat)
  case atStart => exact ⟨0, rfl, Nat.zero_le _, rfl⟩
  case round =>
    obtain ⟨k, rfl, hk, rfl⟩ := hrel
    by_cases hka : k < a.length
    · obtain ⟨f, hf⟩ : ∃ f, a[k]? = some f := ⟨_, List.getElem?_eq_getElem hka⟩
      have hfl : l[k]? = some f := by rw [he, List.getElem?_append_left hka]; exact hf
      obtain ⟨g, cp2, e, hg, k0, _, _⟩ := h.file hfl
      rw [hv] at e
      cases e
      have hlt := hlo f (List.mem_of_getElem? hf)
      have hcmp := less_yes hlt
      have hkl : k < l.length := by omega
      have Hf := Lib.hid (And.intro hf hfl)
      clear hf hfl hlt he hb hb2 hlo
      go_wp2_with fail
      go_roundw
      case rel => exact ⟨k + 1, by go_num, by omega, trivial⟩
      case measure => simp [RowKit.intOf]; omega
    · have hke : k = a.length := by omega
      subst hke
      cases b with
      | nil =>
        have hla : l.length = a.length := by rw [he, List.append_nil]
        have his := hb rfl
        subst his
        rw [hla] at c1
        have d1 : decide ((a.length : Int) < (a.length : Int)) = false := by simp
        clear he hb hb2 hlo hv hka
        go_wp2_with fail
        refine wp_region_plan (by kernel_rfl) [{ fl := [0, 1, 2, 3, 4, 5, 6, 7, 8, 9, 10, 11, 12, 13, 14, 15, 16, 17, 18, 19, 20], long := [6, 18], ef := 21 }] [] (by kernel_rfl) (fun _ _ => True) ?_
        simp only [wpPlan, longOK, keepOK, opsAt_cons, opsAt_nil, consO_some, List.getElem?_toArray, List.getElem?_cons_succ, List.getElem?_cons_zero, and_true, true_and]
        have c1 : wr.drew.cell? ⟨X, 1, none⟩ = some (.slice ao a.length cp) := c1
        go_wp2_with fail
        refine ⟨by kernel_rfl, ⟨?_, ?_⟩, ?_⟩
        · intro _ w9 _
          go_simp
        · intro h9
          exact absurd h9 (by simp [Region.wanted, yielded, go_sem])
        go_wp2_with fail
        refine ⟨by kernel_rfl, ?_⟩
        go_wp2_with fail
        go_ret2
        exact ⟨rfl, rfl⟩
      | cons f r =>
        obtain ⟨hnl, hq⟩ := hb2 f r rfl
        have hfl : l[a.length]? = some f := by rw [he, List.getElem?_append_right (Nat.le_refl _), Nat.sub_self]; rfl
        obtain ⟨g, cp2, e, hg, k0, _, _⟩ := h.file hfl
        rw [hv] at e
        cases e
        have hcmp := less_no hnl
        have hkl := (List.getElem?_eq_some_iff.1 hfl).1
        have d1 : decide ((a.length : Int) < (l.length : Int)) = true := decide_eq_true (by omega)
        clear he hb hb2 hlo hv hka hfl hnl
        go_wp2_with fail
        refine wp_region_plan (by kernel_rfl) [{ fl := [0, 1, 2, 3, 4, 5, 6, 7, 8, 9, 10, 11, 12, 13, 14, 15, 16, 17, 18, 19, 20], long := [6, 18], ef := 21 }] [] (by kernel_rfl) (fun _ _ => True) ?_
        simp only [wpPlan, longOK, keepOK, opsAt_cons, opsAt_nil, consO_some, List.getElem?_toArray, List.getElem?_cons_succ, List.getElem?_cons_zero, and_true, true_and]
        have c1 : wr.drew.cell? ⟨X, 1, none⟩ = some (.slice (some ⟨g, 0, none⟩) l.length cp) := c1
        have k0 : wr.drew.cell? ⟨g, a.length * 3, none⟩ = some (encStr f.nm) := k0
        go_wp2_with fail
        refine ⟨by kernel_rfl, ⟨?_, ?_⟩, ?_⟩
        · intro _ w9 _
          go_simp
        · intro _ w9 _
          go_simp
        go_wp2_with fail
        refine ⟨by kernel_rfl, ?_⟩
        go_wp2_with fail
        go_ret2
        exact ⟨rfl, rfl⟩
end Go.Proofs.Ytpbjompopgdbjaa

namespace Go.Proofs.Ytpbjompopgdbjaa
open Go.RowKit Go.Maps Go.Sort

/-- The reference's disk has what a disk has. -/
def RD (w : World) (base X : Nat) (v : Value) (D : Dsk) : Prop := ∃ l, RDAt w base X v D.room l ∧ IsRows D l

theorem fcells_set : ∀ (l : List RF) (i : Nat) (f f' : RF) (j : Nat) (u : Value), l[i]? = some f → j < 3 → f'.row = f.row.set j u → (fcells l).set (i * 3 + j) u = fcells (l.set i f')
  | [], _, _, _, _, _, h, _, _ => by simp at h
  | g :: l, 0, f, f', j, u, h, hj, hr => by
    cases h
    rw [fcells_cons, List.set_append_left _ _ (by show 0 * 3 + j < 3; omega), List.set_cons_zero, fcells_cons, hr, show 0 * 3 + j = j by omega]
  | g :: l, i + 1, f, f', j, u, h, hj, hr => by
    rw [fcells_cons, List.set_append_right _ _ (by show 3 ≤ _; omega), List.set_cons_succ, fcells_cons, ← fcells_set l i f f' j u h hj hr]
    congr 2
    show (i + 1) * 3 + j - 3 = _
    omega

section
variable {w : World} {base X : Nat} {v : Value} {room : Int} {l : List RF}
theorem RDAt.set {g cp : Nat} (h : RDAt w base X (.slice (some ⟨g, 0, none⟩) l.length cp) room l) {i : Nat} {f f' : RF} (hi : l[i]? = some f) {j : Nat} (hj : j < 3) {u : Value} (hr : f'.row = f.row.set j u) :
    RDAt (w.setCell ⟨g, i * 3 + j, none⟩ u) base X (.slice (some ⟨g, 0, none⟩) l.length cp) room (l.set i f') := by
  have hne := (h.block (k := g) rfl).2.2
  have hil := (List.getElem?_eq_some_iff.1 hi).1
  refine ⟨h.blk.far (Ne.symm hne) u, ?_⟩
  rcases h.own.2 with ⟨e, h0⟩ | ⟨g2, cap, cur, e, hb, hh, h1, h2, h3, h4⟩
  · cases e
  · cases e
    have hB : Blk w g 65 cur := hh
    refine ⟨by rw [fcells_len], .inr ⟨g, cp, cur.setIfInBounds (i * 3 + j) u, by rw [List.length_set], hb, hB.set (i * 3 + j) u, by rw [List.length_set]; exact h1, h2, by rw [Array.size_setIfInBounds]; exact h3, ?_⟩⟩
    rw [Array.toList_setIfInBounds, List.length_set, List.take_set, h4]
    exact fcells_set l i f f' j u hi hj hr
theorem RDAt.frozen (h : RDAt w base X v room l) {g : Nat} (hg : v.ownBlock = some g) (k : Nat) : w.frozen? ⟨g, k, none⟩ = false := by
  rcases h.own.2 with ⟨rfl, h0⟩ | ⟨g2, cap, cur, rfl, hb, hh, h1, h2, h3, h4⟩
  · simp [Value.ownBlock] at hg
  · simp [Value.ownBlock] at hg
    subst hg
    have hB : Blk w g2 65 cur := hh
    exact hB.frozen k
end

theorem set_mid (a b : List RF) (x y : RF) : (a ++ (x :: b)).set a.length y = a ++ (y :: b) := by
  rw [List.set_append_right _ _ (Nat.le_refl _), Nat.sub_self]
  rfl
theorem get_mid (a b : List RF) (x : RF) : (a ++ (x :: b))[a.length]? = some x := by
  rw [List.getElem?_append_right (Nat.le_refl _), Nat.sub_self]
  rfl

theorem rd_find {w : World} {base X : Nat} {v : Value} {room : Int} {l : List RF} {D : Dsk} (h : RDAt w base X v room l) {n : Nam} {a m b : List RF} (ha : Around D l n a m b) (hl : l.length ≤ 1000000) :
    Calls Try.prog 50 #[.pointer (some ⟨X, 0, none⟩), encStr n] w fun e w' => e = .returned (.tuple #[.int .i64 a.length, .bool (D.fl n).isSome]) ∧ w' = w.drew := by
  rcases ha.mid with ⟨hf, rfl⟩ | ⟨F, hf, rfl⟩
  · refine rd_at h n a b (by rw [ha.eq]; rfl) ha.lo _ (fun _ => by rw [hf]; rfl) (fun f r e => ?_) hl
    have := ha.hi f (by rw [e]; exact List.mem_cons_self ..)
    refine ⟨nam_asym this, ?_⟩
    rw [hf]
    show (f.nm == n) = false
    simp only [beq_eq_false_iff_ne, ne_eq]
    intro e2
    rw [e2] at this
    exact nam_irr n this
  · refine rd_at h n a (RF.of n F :: b) (by rw [ha.eq]; rfl) ha.lo _ (fun h => by cases h) (fun f r e => ?_) hl
    cases e
    refine ⟨nam_irr n, ?_⟩
    rw [hf]
    show (n == n) = true
    simp

set_option maxRecDepth 100000 in
set_option maxHeartbeats 1000000 in
theorem rd_good (w : World) (n : Nam) (hn : n.length ≤ maxLen) : Calls Try.prog 62 #[encStr n] w fun e w' => e = .returned (.bool (may n)) ∧ w' = w := by
  obtain ⟨k, hk⟩ : ∃ k, may n = k := ⟨_, rfl⟩
  rw [hk]
  unfold may at hk
  go_enter Try.func62, Try.ntmps62
  by_cases h1 : 1 ≤ n.length
  · by_cases h2 : n.length ≤ 20
    · have : k = true := by rw [← hk]; simp [h1, h2]
      subst this
      clear hk
      have d1 : decide ((1 : Int) ≤ n.length) = true := decide_eq_true (by omega)
      have d2 : decide ((n.length : Int) ≤ 20) = true := decide_eq_true (by omega)
      go_wp2_with fail
      go_ret
      exact ⟨rfl, rfl⟩
    · have : k = false := by rw [← hk]; simp [h2]
      subst this
      clear hk
      have d1 : decide ((1 : Int) ≤ n.length) = true := decide_eq_true (by omega)
      have d2 : decide ((n.length : Int) ≤ 20) = false := decide_eq_false (by omega)
      go_wp2_with fail
      go_ret
      exact ⟨rfl, rfl⟩
  · have : k = false := by rw [← hk]; simp [h1]
    subst this
    clear hk
    have d1 : decide ((1 : Int) ≤ n.length) = false := decide_eq_false (by omega)
    go_wp2_with fail
    go_ret
    exact ⟨rfl, rfl⟩

set_option maxRecDepth 100000 in
set_option maxHeartbeats 1000000 in
theorem rd_read {w : World} {base X : Nat} {v : Value} {D : Dsk} (h : RD w base X v D) (hG : D.Good) (hmx : D.ks.length ≤ 1000000) (n : Nam) :
    Calls Try.prog 28 #[.pointer (some ⟨X, 0, none⟩), encStr n] w fun e w' => e = .returned (.tuple #[encStr (bsF (D.fl n)), .int .i64 (if (D.fl n).isSome then 0 else 5)]) ∧ w' = w.drew := by
  obtain ⟨l, hA, hI⟩ := h
  have hl : l.length ≤ 1000000 := by rw [hI.len hG]; exact hmx
  obtain ⟨a, m, b, ha⟩ := hI.around n
  have hAd := hA.keep ((Chg.refl _ w).drew)
  rcases ha.mid with ⟨hf, rfl⟩ | ⟨F, hf, rfl⟩
  · have hfind := Lib.hid (rd_find hA ha hl)
    rw [hf] at hfind ⊢
    rw [show (none : Option Fil).isSome = false from rfl] at hfind ⊢
    rw [show bsF none = [] from rfl]
    clear hf ha hA hAd hI
    go_enter Try.func28, Try.ntmps28
    go_wp2_with fail
    refine hfind.out.mono ?_
    rintro e w1 ⟨rfl, rfl⟩
    go_wp2_with fail
    go_ret2
    exact ⟨rfl, rfl⟩
  · have hfind := Lib.hid (rd_find hA ha hl)
    rw [hf] at hfind ⊢
    rw [show (some F).isSome = true from rfl] at hfind ⊢
    rw [show bsF (some F) = F.bs from rfl]
    have hm := get_mid a b (RF.of n F)
    have hle : l = a ++ (RF.of n F :: b) := ha.eq
    rw [← hle] at hm
    obtain ⟨g, cp, hv, hg, k0, k1, k2⟩ := hAd.file hm
    have c1 := hAd.c1
    rw [hv] at c1
    have k1 : w.drew.cell? ⟨g, a.length * 3 + 1, none⟩ = some (encStr F.bs) := k1
    have hal := (List.getElem?_eq_some_iff.1 hm).1
    clear hf hle hm ha hv hA hAd hI k0 k2
    go_enter Try.func28, Try.ntmps28
    go_wp2_with fail
    refine hfind.out.mono ?_
    rintro e w1 ⟨rfl, rfl⟩
    go_wp2_with fail
    go_ret2
    exact ⟨rfl, rfl⟩

theorem sum_takeS (l : List RF) (k : Nat) : ((l.take k).map (fun f => f.s.length)).sum ≤ (l.map (fun f => f.s.length)).sum := by
  have h := List.take_append_drop k l
  have : (l.map (fun f => f.s.length)).sum = ((l.take k).map (fun f => f.s.length)).sum + ((l.drop k).map (fun f => f.s.length)).sum := by
    conv => lhs; rw [← h]
    rw [List.map_append, List.sum_append]
  omega

set_option maxRecDepth 100000 in
set_option maxHeartbeats 1000000 in
theorem rd_used {w : World} {base X : Nat} {v : Value} {D : Dsk} (h : RD w base X v D) (hG : D.Good) (hmx : D.ks.length ≤ 1000000) :
    Calls Try.prog 63 #[.pointer (some ⟨X, 0, none⟩)] w fun e w' => e = .returned (.int .i64 D.used) ∧ w' = w := by
  obtain ⟨l, hA, hI⟩ := h
  have hl : l.length ≤ 1000000 := by rw [hI.len hG]; exact hmx
  have hu := hI.used hG
  have hfit := hG.fit
  have hrm := hG.rm
  rw [← hu]
  rw [← hu] at hfit
  clear hu
  obtain ⟨ao, cp, hv⟩ := hA.slice
  have c1 := hA.c1
  rw [hv] at c1
  go_enter Try.func63, Try.ntmps63
  go_wp2_with fail
  go_loopw [3, 4] (fun v3 v4 wr => ∃ k : Nat, v4 = .int .i64 k ∧ k ≤ l.length ∧ v3 = .int .i64 (((l.take k).map (fun f => f.s.length)).sum : Nat) ∧ wr = w) (fun _ v4 _ => 2000000 - (RowKit.intOf v4).toNat)
  case atStart => exact ⟨0, rfl, Nat.zero_le _, rfl, rfl⟩
  case round =>
    obtain ⟨k, rfl, hk, rfl, rfl⟩ := hrel
    by_cases hkl : k < l.length
    · obtain ⟨f, hf⟩ : ∃ f, l[k]? = some f := ⟨_, List.getElem?_eq_getElem hkl⟩
      obtain ⟨g, cp2, e, hg, _, k1, _⟩ := hA.file hf
      rw [hv] at e
      cases e
      have hsn : ((l.take (k + 1)).map (fun f => f.s.length)).sum = ((l.take k).map (fun f => f.s.length)).sum + f.s.length := by
        rw [List.take_add_one, hf, List.map_append, List.sum_append]
        rfl
      have hle := sum_takeS l (k + 1)
      obtain ⟨S0, hS0⟩ : ∃ S0, ((l.take k).map (fun f => f.s.length)).sum = S0 := ⟨_, rfl⟩
      obtain ⟨S1, hS1⟩ : ∃ S1, (l.map (fun f => f.s.length)).sum = S1 := ⟨_, rfl⟩
      rw [hS0] at hsn ⊢
      rw [hS1] at hle hfit
      have Hf := Lib.hid hf
      have Hsn := Lib.hid hsn
      have hle2 : S0 + f.s.length ≤ 1000000 := by omega
      clear hf hsn hle hfit hS0 hS1
      go_wp2_with fail
      go_roundw
      case rel => exact ⟨k + 1, by go_num, by omega, by rw [Hsn.out]; go_num, trivial⟩
      case measure => simp [RowKit.intOf]; omega
    · have hke : k = l.length := by omega
      subst hke
      rw [List.take_length]
      go_wp2_with fail
      go_ret
      exact ⟨rfl, rfl⟩
end Go.Proofs.Ytpbjompopgdbjaa

namespace Go.Proofs.Ytpbjompopgdbjaa
open Go.RowKit Go.Maps Go.Sort

/-- What a step of the reference's disk leaves. -/
def RDPost (w w' : World) (base X : Nat) (v : Value) (D' : Dsk) : Prop := ∃ v', RD w' base X v' D' ∧ Chg (fun i => i = X ∨ v.ownBlock = some i) w w' ∧ ∀ k, v'.ownBlock = some k → v.ownBlock = some k ∨ w.heap.size ≤ k

set_option maxRecDepth 100000 in
set_option maxHeartbeats 1000000 in
theorem rd_sync {w : World} {base X : Nat} {v : Value} {D : Dsk} (h : RD w base X v D) (hG : D.Good) (hmx : D.ks.length ≤ 1000000) (n : Nam) :
    Calls Try.prog 48 #[.pointer (some ⟨X, 0, none⟩), encStr n] w fun e w' => e = .returned (.int .i64 (D.sync n).1) ∧ RDPost w w' base X v (D.sync n).2 := by
  obtain ⟨l, hA, hI⟩ := h
  have hl : l.length ≤ 1000000 := by rw [hI.len hG]; exact hmx
  obtain ⟨a, m, b, ha⟩ := hI.around n
  have hfind := Lib.hid (rd_find hA ha hl)
  have hAd := hA.keep ((Chg.refl (fun _ => False) w).drew)
  have hAdd := hA.keep ((Chg.refl (fun _ => False) w).drew.drew)
  have ha0 := ha
  rcases ha.mid with ⟨hf, rfl⟩ | ⟨F, hf, rfl⟩
  · rw [hf] at hfind
    rw [show (none : Option Fil).isSome = false from rfl] at hfind
    have e : D.sync n = (5, D) := by unfold Dsk.sync; rw [hf]
    rw [e]
    have fin : RDPost w w.drew base X v D := ⟨v, ⟨l, hAd, hI⟩, (Chg.refl _ w).drew, fun k hk => .inl hk⟩
    clear hf ha hA hAd hAdd hI e ha0
    go_enter Try.func48, Try.ntmps48
    go_wp2_with fail
    refine hfind.out.mono ?_
    rintro e w1 ⟨rfl, rfl⟩
    go_wp2_with fail
    go_ret
    exact ⟨rfl, fin⟩
  · rw [hf] at hfind
    rw [show (some F).isSome = true from rfl] at hfind
    have e : D.sync n = (0, D.put n ⟨F.bs, F.bs.length⟩) := by unfold Dsk.sync; rw [hf]
    rw [e]
    have hm := get_mid a b (RF.of n F)
    have hle : l = a ++ (RF.of n F :: b) := ha.eq
    rw [← hle] at hm
    obtain ⟨g, cp, hv, hg, k0, k1, k2⟩ := hAdd.file hm
    have c1 := hAdd.c1
    subst hv
    have k1 : w.drew.drew.cell? ⟨g, a.length * 3 + 1, none⟩ = some (encStr F.bs) := k1
    have k2 : w.drew.drew.cell? ⟨g, a.length * 3 + 2, none⟩ = some (.int .i64 F.sy) := k2
    have kz := hAdd.frozen (g := g) rfl (a.length * 3 + 2)
    have hal := (List.getElem?_eq_some_iff.1 hm).1
    have hS := hAdd.set (j := 2) (u := .int .i64 F.bs.length) (f' := RF.of n ⟨F.bs, F.bs.length⟩) hm (by decide) rfl
    have fin : RDPost w (w.drew.drew.setCell ⟨g, a.length * 3 + 2, none⟩ (.int .i64 F.bs.length)) base X (.slice (some ⟨g, 0, none⟩) l.length cp) (D.put n ⟨F.bs, F.bs.length⟩) := by
      refine ⟨_, ⟨_, hS, ?_⟩, Chg.setCell ((Chg.refl _ w).drew.drew) (.inl (.inr rfl)) _, fun k hk => .inl hk⟩
      rw [hle, set_mid]
      exact hI.put ha ⟨F.bs, F.bs.length⟩
    clear hf hm ha hA hAd hAdd hI k0 e hS ha0
    go_enter Try.func48, Try.ntmps48
    go_wp2_with fail
    refine hfind.out.mono ?_
    rintro e w1 ⟨rfl, rfl⟩
    go_wp2_with fail
    refine wp_region_plan (by kernel_rfl) [{ fl := [0, 1, 2, 3, 4, 5, 6, 7, 8, 9, 10, 11, 12, 13, 14, 15], long := [13], ef := 16 }] [] (by kernel_rfl) (fun _ _ => True) ?_
    simp only [wpPlan, longOK, keepOK, opsAt_cons, opsAt_nil, consO_some, List.getElem?_toArray, List.getElem?_cons_succ, List.getElem?_cons_zero, and_true, true_and]
    go_wp2_with fail
    refine ⟨by kernel_rfl, ?_, ?_⟩
    · intro _ w9 _
      go_simp
    go_wp2_with fail
    refine ⟨by kernel_rfl, ?_⟩
    go_wp2_with fail
    go_ret
    exact ⟨rfl, fin⟩

/-- Files behind an address. -/
def FilesIn (w : World) (sa : Option Addr) (m : List RF) : Prop := ∀ j u, (fcells m)[j]? = some u → ∃ ad, sa = some ad ∧ w.cell? (ad.add j) = some u
theorem FilesIn.nil (w : World) (sa : Option Addr) : FilesIn w sa [] := fun j u h => by simp [fcells] at h

theorem infoF : (Try.prog.info? 65).map (fun i => (i.zero, i.size, i.bytes)) = some (some (.agg #[encStr [], encStr [], .int .i64 0]), 3, 40) := by kernel_rfl
theorem infoF_parts : ∃ i, Try.prog.info? 65 = some i ∧ i.zero = some (.agg #[encStr [], encStr [], .int .i64 0]) ∧ i.size = 3 ∧ i.bytes = 40 := by
  have h := infoF
  cases hi : Try.prog.info? 65 with
  | none => rw [hi] at h; cases h
  | some i =>
    rw [hi] at h
    simp only [Option.map_some, Option.some.injEq, Prod.mk.injEq] at h
    exact ⟨i, rfl, h.1, h.2.1, h.2.2⟩

theorem wpList_append_file {w : World} {ops : Array Oper} {rest : List Oper} {o : Oper} {a : Act} {Q : Exit → Act → World → Prop} (hgd : o.guard = none) (s x : Operand)
    (ho : o.op = .call { callee := .builtin .append, args := #[s, x], argTypes := #[53, 53] })
    {base : Nat} {v : Value} {l m : List RF} (hown : w.ownsRow base 65 3 v l.length (fcells l)) (hv : a.eval s = v) {sa : Option Addr} {k c : Nat} (hx : a.eval x = .slice sa k c) (hk : k = m.length) (hm : FilesIn w sa m) (hbase : base ≤ w.heap.size) (hl : l.length + m.length ≤ 2000000)
    (hK : ∀ v' w', w'.ownsRow base 65 3 v' (l ++ m).length (fcells (l ++ m)) → Chg (fun i => v.ownBlock = some i) w w' → (v'.ownBlock = v.ownBlock ∨ v'.ownBlock = some w.heap.size) → wpList Try.prog ops Q rest (a.put o.dst v') w') : wpList Try.prog ops Q (o :: rest) a w := by
  obtain ⟨i, hi, hz, h1, h2⟩ := infoF_parts
  subst hk
  cases m with
  | nil =>
    refine wpList_plain hgd fun K hK' => ?_
    have hsrc : Src Try.prog i.size 53 (.slice sa 0 c) 0 [] w := by
      cases sa with
      | none => exact Src.ofNil w Try.underlying53 c
      | some ad => exact Src.ofSlice w Try.underlying53 ad 0 c [] (by simp) (fun j u hj => by simp at hj) (fun u hu => by cases hu)
    obtain ⟨b0, n0, c0, e, hle⟩ : ∃ b0 n0 c0, v = .slice b0 n0 c0 ∧ n0 ≤ c0 := by
      rcases hown.2 with ⟨rfl, _⟩ | ⟨g, cap, cur, rfl, hb, hh, q1, q2, _⟩
      · exact ⟨none, 0, 0, rfl, Nat.le_refl _⟩
      · exact ⟨_, _, _, rfl, q1⟩
    subst e
    have hrun := run_append_nothing (P := Try.prog) w 53 53 o.type 65 i Try.underlying53 hi b0 n0 c0 hle (.slice sa 0 c) hsrc
    have hx : a.eval x = .slice sa 0 c := hx
    unfold Oper.wp
    simp [execOp, ho, resolve, invoke, builtin, hv, hx, hrun, Result.andThen]
    exact hK' _ _ (hK _ w (by rw [List.append_nil]; exact hown) (Chg.refl _ w) (.inl rfl))
  | cons f r =>
    obtain ⟨ad, rfl, _⟩ := hm 0 (encStr f.nm) rfl
    refine wpList_append_own_at _ hgd s x 53 ho base 65 i _ 3 40 Try.underlying53 hi hz h1 h2 rfl (by decide) v l.length (fcells l) hv hown ad (f :: r).length c (fcells (f :: r)) hx (fcells_len _) ?_ (fcells_one _) (by unfold maxLen; omega) (by omega) hbase ?_
    · intro j u hj
      obtain ⟨ad2, e, h9⟩ := hm j u hj
      cases e
      exact h9
    · intro v' w' hown' hgr _ hob
      refine hK v' w' ?_ (own_grown hgr) hob
      rw [List.length_append, fcells_app]
      exact hown'
end Go.Proofs.Ytpbjompopgdbjaa
