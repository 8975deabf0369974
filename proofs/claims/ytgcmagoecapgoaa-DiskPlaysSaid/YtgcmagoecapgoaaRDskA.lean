/-
  the reference's disk in memory; where a name stands.
-/
import Derived.Test.YtgcmagoecapgoaaRDskM
import Derived.Test.YtgcmagoecapgoaaRegionT
import Derived.Sort.Walk0
namespace Go.Proofs.Ytgcmagoecapgoaa
open Go.RowKit Go.Maps Go.Sort

def RF.row (f : RF) : List Value := [encStr f.nm, encStr f.s, .int .i64 f.sy]
def fcells (l : List RF) : List Value := l.flatMap RF.row
theorem fcells_nil : fcells [] = [] := rfl
theorem fcells_cons (f : RF) (l : List RF) : fcells (f :: l) = f.row ++ fcells l := rfl
theorem fcells_app (a b : List RF) : fcells (a ++ b) = fcells a ++ fcells b := List.flatMap_append
theorem fcells_len : ∀ l : List RF, (fcells l).length = l.length * 3
  | [] => rfl
  | f :: l => by
    rw [fcells_cons, List.length_append, fcells_len l, List.length_cons]
    show 3 + _ = _
    omega
theorem fcells_get : ∀ {l : List RF} {i : Nat} {f : RF}, l[i]? = some f → ∀ j u, f.row[j]? = some u → (fcells l)[i * 3 + j]? = some u
  | [], _, _, h, _, _, _ => by simp at h
  | g :: l, 0, f, h, j, u, hj => by
    cases h
    rw [fcells_cons, List.getElem?_append_left (by have := (List.getElem?_eq_some_iff.1 hj).1; show 0 * 3 + j < _; omega)]
    simpa using hj
  | g :: l, i + 1, f, h, j, u, hj => by
    have h : l[i]? = some f := h
    rw [fcells_cons, List.getElem?_append_right (by show 3 ≤ _; omega)]
    have := fcells_get h j u hj
    rw [← this]
    congr 1
    show (i + 1) * 3 + j - 3 = _
    omega
theorem fcells_one (l : List RF) : ∀ u ∈ fcells l, u.oneCell' = true := fun u hu => by
  obtain ⟨f, _, hf⟩ := List.mem_flatMap.1 hu
  unfold RF.row at hf
  simp at hf
  rcases hf with rfl | rfl | rfl <;> rfl

/-- The reference's disk: its block, its row of files. -/
structure RDAt (w : World) (base X : Nat) (v : Value) (room : Int) (l : List RF) : Prop where
  blk : Blk w X 44 #[.int .i64 room, v]
  own : w.ownsRow base 71 3 v l.length (fcells l)

section
variable {w : World} {base X : Nat} {v : Value} {room : Int} {l : List RF} (h : RDAt w base X v room l)
include h
theorem RDAt.chg {w' : World} {S : Nat → Prop} (hc : Chg S w w') (hX : ¬ S X) (hv : ∀ k, v.ownBlock = some k → ¬ S k) : RDAt w' base X v room l := ⟨h.blk.chg hc hX, own_chg h.own hc hv⟩
theorem RDAt.keep {w' : World} (hc : Chg (fun _ => False) w w') : RDAt w' base X v room l := h.chg hc id (fun _ _ => id)
theorem RDAt.slice : ∃ ao cp, v = .slice ao l.length cp := by
  rcases h.own.2 with ⟨rfl, h0⟩ | ⟨g, cp, _, rfl, _⟩
  · exact ⟨none, 0, by rw [h0]⟩
  · exact ⟨_, _, rfl⟩
theorem RDAt.c0 : w.cell? ⟨X, 0, none⟩ = some (.int .i64 room) := h.blk.cell 0
theorem RDAt.c1 : w.cell? ⟨X, 1, none⟩ = some v := h.blk.cell 1
theorem RDAt.block {k : Nat} (hk : v.ownBlock = some k) : base ≤ k ∧ k < w.heap.size ∧ k ≠ X := by
  rcases h.own.2 with ⟨rfl, _⟩ | ⟨g, cap, cur, rfl, hb, hh, _⟩
  · simp [Value.ownBlock] at hk
  · simp [Value.ownBlock] at hk
    subst hk
    have hB : Blk w g 71 cur := hh
    exact ⟨hb, (Array.getElem?_eq_some_iff.1 hh).1, hB.ne h.blk (by decide)⟩
/-- A file's cells. -/
theorem RDAt.file {i : Nat} {f : RF} (hi : l[i]? = some f) : ∃ g cp, v = .slice (some ⟨g, 0, none⟩) l.length cp ∧ g < w.heap.size ∧ w.cell? ⟨g, i * 3, none⟩ = some (encStr f.nm) ∧ w.cell? ⟨g, i * 3 + 1, none⟩ = some (encStr f.s) ∧ w.cell? ⟨g, i * 3 + 2, none⟩ = some (.int .i64 f.sy) := by
  have hl := (List.getElem?_eq_some_iff.1 hi).1
  rcases h.own.2 with ⟨rfl, h0⟩ | ⟨g, cap, cur, rfl, hb, hh, h1, h2, h3, h4⟩
  · omega
  · have hB : Blk w g 71 cur := hh
    have hc : ∀ j u, f.row[j]? = some u → w.cell? ⟨g, i * 3 + j, none⟩ = some u := fun j u hj => by
      have h5 := fcells_get hi j u hj
      have h6 := (List.getElem?_eq_some_iff.1 h5).1
      rw [fcells_len] at h6
      rw [hB.cell, ← Array.getElem?_toList, ← h5, ← h4, List.getElem?_take_of_lt h6]
    exact ⟨g, cap, rfl, hB.lt, hc 0 _ rfl, hc 1 _ rfl, hc 2 _ rfl⟩
end

theorem less_yes {a b : Nam} (h : a < b) : Op.bytesLess a b = true := by
  rw [bytesLess_eq]
  exact decide_eq_true h
theorem less_no {a b : Nam} (h : ¬ a < b) : Op.bytesLess a b = false := by
  rw [bytesLess_eq]
  exact decide_eq_false h

set_option maxRecDepth 100000 in
set_option maxHeartbeats 1000000 in
theorem rd_at {w : World} {base X : Nat} {v : Value} {room : Int} {l : List RF} (h : RDAt w base X v room l) (n : Nam) (a b : List RF) (he : l = a ++ b) (hlo : ∀ f ∈ a, f.nm < n) (is : Bool)
    (hb : b = [] → is = false) (hb2 : ∀ f r, b = f :: r → ¬ f.nm < n ∧ (f.nm == n) = is) (hl : l.length ≤ 1000000) :
    Calls Try.prog 37 #[.pointer (some ⟨X, 0, none⟩), encStr n] w fun e w' => e = .returned (.tuple #[.int .i64 a.length, .bool is]) ∧ w' = w.drew := by
  obtain ⟨ao, cp, hv⟩ := h.slice
  have c1 := h.c1
  rw [hv] at c1
  have hal : a.length ≤ l.length := by rw [he, List.length_append]; omega
  go_enter Try.func37, Try.ntmps37
  go_wp2_with fail
  go_loopw [6] (fun v6 wr => ∃ k : Nat, v6 = .int .i64 k ∧ k ≤ a.length ∧ wr = w) (fun v6 _ => 2000000 - (RowKit.intOf v6).toNat)
  case atStart => exact ⟨0, rfl, Nat.zero_le _, rfl⟩
  case round =>
    obtain ⟨k, rfl, hk, rfl⟩ := hrel
    by_cases hka : k < a.length
    · obtain ⟨f, hf⟩ : ∃ f, a[k]? = some f := ⟨_, List.getElem?_eq_getElem hka⟩
      have hfl : l[k]? = some f := by rw [he, List.getElem?_append_left hka]; exact hf
      obtain ⟨g, cp2, e, hg, k0, _, _⟩ := h.file hfl
      rw [hv] at e
      cases e
      have hlt := hlo f (List.mem_of_getElem? hf)
      have hcmp := less_yes hlt
      have hkl : k < l.length := by omega
      have Hf := Lib.hid (And.intro hf hfl)
      clear hf hfl hlt he hb hb2 hlo
      go_wp2_with fail
      go_roundw
      case rel => exact ⟨k + 1, by go_num, by omega, trivial⟩
      case measure => simp [RowKit.intOf]; omega
    · have hke : k = a.length := by omega
      subst hke
      cases b with
      | nil =>
        have hla : l.length = a.length := by rw [he, List.append_nil]
        have his := hb rfl
        subst his
        rw [hla] at c1
        have d1 : decide ((a.length : Int) < (a.length : Int)) = false := by simp
        clear he hb hb2 hlo hv hka
        go_wp2_with fail
        refine wp_region_plan (by kernel_rfl) [{ fl := [0, 1, 2, 3, 4, 5, 6, 7, 8, 9, 10, 11, 12, 13, 14, 15, 16, 17, 18, 19, 20], long := [6, 18], ef := 21 }] [] (by kernel_rfl) (fun _ _ => True) ?_
        simp only [wpPlan, longOK, keepOK, opsAt_cons, opsAt_nil, consO_some, List.getElem?_toArray, List.getElem?_cons_succ, List.getElem?_cons_zero, and_true, true_and]
        have c1 : wr.drew.cell? ⟨X, 1, none⟩ = some (.slice ao a.length cp) := c1
        go_wp2_with fail
        refine ⟨by kernel_rfl, ⟨?_, ?_⟩, ?_⟩
        · intro _ w9 _
          go_simp
        · intro h9
          exact absurd h9 (by simp [Region.wanted, yielded, go_sem])
        go_wp2_with fail
        refine ⟨by kernel_rfl, ?_⟩
        go_wp2_with fail
        go_ret2
        exact ⟨rfl, rfl⟩
      | cons f r =>
        obtain ⟨hnl, hq⟩ := hb2 f r rfl
        have hfl : l[a.length]? = some f := by rw [he, List.getElem?_append_right (Nat.le_refl _), Nat.sub_self]; rfl
        obtain ⟨g, cp2, e, hg, k0, _, _⟩ := h.file hfl
        rw [hv] at e
        cases e
        have hcmp := less_no hnl
        have hkl := (List.getElem?_eq_some_iff.1 hfl).1
        have d1 : decide ((a.length : Int) < (l.length : Int)) = true := decide_eq_true (by omega)
        clear he hb hb2 hlo hv hka hfl hnl
        go_wp2_with fail
        refine wp_region_plan (by kernel_rfl) [{ fl := [0, 1, 2, 3, 4, 5, 6, 7, 8, 9, 10, 11, 12, 13, 14, 15, 16, 17, 18, 19, 20], long := [6, 18], ef := 21 }] [] (by kernel_rfl) (fun _ _ => True) ?_
        simp only [wpPlan, longOK, keepOK, opsAt_cons, opsAt_nil, consO_some, List.getElem?_toArray, List.getElem?_cons_succ, List.getElem?_cons_zero, and_true, true_and]
        have c1 : wr.drew.cell? ⟨X, 1, none⟩ = some (.slice (some ⟨g, 0, none⟩) l.length cp) := c1
        have k0 : wr.drew.cell? ⟨g, a.length * 3, none⟩ = some (encStr f.nm) := k0
        go_wp2_with fail
        refine ⟨by kernel_rfl, ⟨?_, ?_⟩, ?_⟩
        · intro _ w9 _
          go_simp
        · intro _ w9 _
          go_simp
        go_wp2_with fail
        refine ⟨by kernel_rfl, ?_⟩
        go_wp2_with fail
        go_ret2
        exact ⟨rfl, rfl⟩
end Go.Proofs.Ytgcmagoecapgoaa
