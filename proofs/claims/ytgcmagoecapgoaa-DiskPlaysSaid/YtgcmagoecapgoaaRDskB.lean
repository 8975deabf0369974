/-
  the reference's disk: good, Read, Used, Sync, Cut.
-/
import Derived.Test.YtgcmagoecapgoaaRDskA
namespace Go.Proofs.Ytgcmagoecapgoaa
open Go.RowKit Go.Maps Go.Sort

/-- The reference's disk has what a disk has. -/
def RD (w : World) (base X : Nat) (v : Value) (D : Dsk) : Prop := ∃ l, RDAt w base X v D.room l ∧ IsRows D l

theorem fcells_set : ∀ (l : List RF) (i : Nat) (f f' : RF) (j : Nat) (u : Value), l[i]? = some f → j < 3 → f'.row = f.row.set j u → (fcells l).set (i * 3 + j) u = fcells (l.set i f')
  | [], _, _, _, _, _, h, _, _ => by simp at h
  | g :: l, 0, f, f', j, u, h, hj, hr => by
    cases h
    rw [fcells_cons, List.set_append_left _ _ (by show 0 * 3 + j < 3; omega), List.set_cons_zero, fcells_cons, hr, show 0 * 3 + j = j by omega]
  | g :: l, i + 1, f, f', j, u, h, hj, hr => by
    rw [fcells_cons, List.set_append_right _ _ (by show 3 ≤ _; omega), List.set_cons_succ, fcells_cons, ← fcells_set l i f f' j u h hj hr]
    congr 2
    show (i + 1) * 3 + j - 3 = _
    omega

section
variable {w : World} {base X : Nat} {v : Value} {room : Int} {l : List RF}
theorem RDAt.set {g cp : Nat} (h : RDAt w base X (.slice (some ⟨g, 0, none⟩) l.length cp) room l) {i : Nat} {f f' : RF} (hi : l[i]? = some f) {j : Nat} (hj : j < 3) {u : Value} (hr : f'.row = f.row.set j u) :
    RDAt (w.setCell ⟨g, i * 3 + j, none⟩ u) base X (.slice (some ⟨g, 0, none⟩) l.length cp) room (l.set i f') := by
  have hne := (h.block (k := g) rfl).2.2
  have hil := (List.getElem?_eq_some_iff.1 hi).1
  refine ⟨h.blk.far (Ne.symm hne) u, ?_⟩
  rcases h.own.2 with ⟨e, h0⟩ | ⟨g2, cap, cur, e, hb, hh, h1, h2, h3, h4⟩
  · cases e
  · cases e
    have hB : Blk w g 71 cur := hh
    refine ⟨by rw [fcells_len], .inr ⟨g, cp, cur.setIfInBounds (i * 3 + j) u, by rw [List.length_set], hb, hB.set (i * 3 + j) u, by rw [List.length_set]; exact h1, h2, by rw [Array.size_setIfInBounds]; exact h3, ?_⟩⟩
    rw [Array.toList_setIfInBounds, List.length_set, List.take_set, h4]
    exact fcells_set l i f f' j u hi hj hr
theorem RDAt.frozen (h : RDAt w base X v room l) {g : Nat} (hg : v.ownBlock = some g) (k : Nat) : w.frozen? ⟨g, k, none⟩ = false := by
  rcases h.own.2 with ⟨rfl, h0⟩ | ⟨g2, cap, cur, rfl, hb, hh, h1, h2, h3, h4⟩
  · simp [Value.ownBlock] at hg
  · simp [Value.ownBlock] at hg
    subst hg
    have hB : Blk w g2 71 cur := hh
    exact hB.frozen k
end

theorem set_mid (a b : List RF) (x y : RF) : (a ++ (x :: b)).set a.length y = a ++ (y :: b) := by
  rw [List.set_append_right _ _ (Nat.le_refl _), Nat.sub_self]
  rfl
theorem get_mid (a b : List RF) (x : RF) : (a ++ (x :: b))[a.length]? = some x := by
  rw [List.getElem?_append_right (Nat.le_refl _), Nat.sub_self]
  rfl

theorem rd_find {w : World} {base X : Nat} {v : Value} {room : Int} {l : List RF} {D : Dsk} (h : RDAt w base X v room l) {n : Nam} {a m b : List RF} (ha : Around D l n a m b) (hl : l.length ≤ 1000000) :
    Calls Try.prog 37 #[.pointer (some ⟨X, 0, none⟩), encStr n] w fun e w' => e = .returned (.tuple #[.int .i64 a.length, .bool (D.fl n).isSome]) ∧ w' = w.drew := by
  rcases ha.mid with ⟨hf, rfl⟩ | ⟨F, hf, rfl⟩
  · refine rd_at h n a b (by rw [ha.eq]; rfl) ha.lo _ (fun _ => by rw [hf]; rfl) (fun f r e => ?_) hl
    have := ha.hi f (by rw [e]; exact List.mem_cons_self ..)
    refine ⟨nam_asym this, ?_⟩
    rw [hf]
    show (f.nm == n) = false
    simp only [beq_eq_false_iff_ne, ne_eq]
    intro e2
    rw [e2] at this
    exact nam_irr n this
  · refine rd_at h n a (RF.of n F :: b) (by rw [ha.eq]; rfl) ha.lo _ (fun h => by cases h) (fun f r e => ?_) hl
    cases e
    refine ⟨nam_irr n, ?_⟩
    rw [hf]
    show (n == n) = true
    simp

set_option maxRecDepth 100000 in
set_option maxHeartbeats 1000000 in
theorem rd_good (w : World) (n : Nam) (hn : n.length ≤ maxLen) : Calls Try.prog 35 #[encStr n] w fun e w' => e = .returned (.bool (may n)) ∧ w' = w := by
  obtain ⟨k, hk⟩ : ∃ k, may n = k := ⟨_, rfl⟩
  rw [hk]
  unfold may at hk
  go_enter Try.func35, Try.ntmps35
  by_cases h1 : 1 ≤ n.length
  · by_cases h2 : n.length ≤ 20
    · have : k = true := by rw [← hk]; simp [h1, h2]
      subst this
      clear hk
      have d1 : decide ((1 : Int) ≤ n.length) = true := decide_eq_true (by omega)
      have d2 : decide ((n.length : Int) ≤ 20) = true := decide_eq_true (by omega)
      go_wp2_with fail
      go_ret
      exact ⟨rfl, rfl⟩
    · have : k = false := by rw [← hk]; simp [h2]
      subst this
      clear hk
      have d1 : decide ((1 : Int) ≤ n.length) = true := decide_eq_true (by omega)
      have d2 : decide ((n.length : Int) ≤ 20) = false := decide_eq_false (by omega)
      go_wp2_with fail
      go_ret
      exact ⟨rfl, rfl⟩
  · have : k = false := by rw [← hk]; simp [h1]
    subst this
    clear hk
    have d1 : decide ((1 : Int) ≤ n.length) = false := decide_eq_false (by omega)
    go_wp2_with fail
    go_ret
    exact ⟨rfl, rfl⟩

set_option maxRecDepth 100000 in
set_option maxHeartbeats 1000000 in
theorem rd_read {w : World} {base X : Nat} {v : Value} {D : Dsk} (h : RD w base X v D) (hG : D.Good) (hmx : D.ks.length ≤ 1000000) (n : Nam) :
    Calls Try.prog 29 #[.pointer (some ⟨X, 0, none⟩), encStr n] w fun e w' => e = .returned (.tuple #[encStr (bsF (D.fl n)), .int .i64 (if (D.fl n).isSome then 0 else 5)]) ∧ w' = w.drew := by
  obtain ⟨l, hA, hI⟩ := h
  have hl : l.length ≤ 1000000 := by rw [hI.len hG]; exact hmx
  obtain ⟨a, m, b, ha⟩ := hI.around n
  have hAd := hA.keep ((Chg.refl _ w).drew)
  rcases ha.mid with ⟨hf, rfl⟩ | ⟨F, hf, rfl⟩
  · have hfind := Lib.hid (rd_find hA ha hl)
    rw [hf] at hfind ⊢
    rw [show (none : Option Fil).isSome = false from rfl] at hfind ⊢
    rw [show bsF none = [] from rfl]
    clear hf ha hA hAd hI
    go_enter Try.func29, Try.ntmps29
    go_wp2_with fail
    refine hfind.out.mono ?_
    rintro e w1 ⟨rfl, rfl⟩
    go_wp2_with fail
    go_ret2
    exact ⟨rfl, rfl⟩
  · have hfind := Lib.hid (rd_find hA ha hl)
    rw [hf] at hfind ⊢
    rw [show (some F).isSome = true from rfl] at hfind ⊢
    rw [show bsF (some F) = F.bs from rfl]
    have hm := get_mid a b (RF.of n F)
    have hle : l = a ++ (RF.of n F :: b) := ha.eq
    rw [← hle] at hm
    obtain ⟨g, cp, hv, hg, k0, k1, k2⟩ := hAd.file hm
    have c1 := hAd.c1
    rw [hv] at c1
    have k1 : w.drew.cell? ⟨g, a.length * 3 + 1, none⟩ = some (encStr F.bs) := k1
    have hal := (List.getElem?_eq_some_iff.1 hm).1
    clear hf hle hm ha hv hA hAd hI k0 k2
    go_enter Try.func29, Try.ntmps29
    go_wp2_with fail
    refine hfind.out.mono ?_
    rintro e w1 ⟨rfl, rfl⟩
    go_wp2_with fail
    go_ret2
    exact ⟨rfl, rfl⟩

theorem sum_takeS (l : List RF) (k : Nat) : ((l.take k).map (fun f => f.s.length)).sum ≤ (l.map (fun f => f.s.length)).sum := by
  have h := List.take_append_drop k l
  have : (l.map (fun f => f.s.length)).sum = ((l.take k).map (fun f => f.s.length)).sum + ((l.drop k).map (fun f => f.s.length)).sum := by
    conv => lhs; rw [← h]
    rw [List.map_append, List.sum_append]
  omega

set_option maxRecDepth 100000 in
set_option maxHeartbeats 1000000 in
theorem rd_used {w : World} {base X : Nat} {v : Value} {D : Dsk} (h : RD w base X v D) (hG : D.Good) (hmx : D.ks.length ≤ 1000000) :
    Calls Try.prog 36 #[.pointer (some ⟨X, 0, none⟩)] w fun e w' => e = .returned (.int .i64 D.used) ∧ w' = w := by
  obtain ⟨l, hA, hI⟩ := h
  have hl : l.length ≤ 1000000 := by rw [hI.len hG]; exact hmx
  have hu := hI.used hG
  have hfit := hG.fit
  have hrm := hG.rm
  rw [← hu]
  rw [← hu] at hfit
  clear hu
  obtain ⟨ao, cp, hv⟩ := hA.slice
  have c1 := hA.c1
  rw [hv] at c1
  go_enter Try.func36, Try.ntmps36
  go_wp2_with fail
  go_loopw [3, 4] (fun v3 v4 wr => ∃ k : Nat, v4 = .int .i64 k ∧ k ≤ l.length ∧ v3 = .int .i64 (((l.take k).map (fun f => f.s.length)).sum : Nat) ∧ wr = w) (fun _ v4 _ => 2000000 - (RowKit.intOf v4).toNat)
  case atStart => exact ⟨0, rfl, Nat.zero_le _, rfl, rfl⟩
  case round =>
    obtain ⟨k, rfl, hk, rfl, rfl⟩ := hrel
    by_cases hkl : k < l.length
    · obtain ⟨f, hf⟩ : ∃ f, l[k]? = some f := ⟨_, List.getElem?_eq_getElem hkl⟩
      obtain ⟨g, cp2, e, hg, _, k1, _⟩ := hA.file hf
      rw [hv] at e
      cases e
      have hsn : ((l.take (k + 1)).map (fun f => f.s.length)).sum = ((l.take k).map (fun f => f.s.length)).sum + f.s.length := by
        rw [List.take_add_one, hf, List.map_append, List.sum_append]
        rfl
      have hle := sum_takeS l (k + 1)
      obtain ⟨S0, hS0⟩ : ∃ S0, ((l.take k).map (fun f => f.s.length)).sum = S0 := ⟨_, rfl⟩
      obtain ⟨S1, hS1⟩ : ∃ S1, (l.map (fun f => f.s.length)).sum = S1 := ⟨_, rfl⟩
      rw [hS0] at hsn ⊢
      rw [hS1] at hle hfit
      have Hf := Lib.hid hf
      have Hsn := Lib.hid hsn
      have hle2 : S0 + f.s.length ≤ 1000000 := by omega
      clear hf hsn hle hfit hS0 hS1
      go_wp2_with fail
      go_roundw
      case rel => exact ⟨k + 1, by go_num, by omega, by rw [Hsn.out]; go_num, trivial⟩
      case measure => simp [RowKit.intOf]; omega
    · have hke : k = l.length := by omega
      subst hke
      rw [List.take_length]
      go_wp2_with fail
      go_ret
      exact ⟨rfl, rfl⟩
end Go.Proofs.Ytgcmagoecapgoaa
