/-
  layer 9: the reference's inventory in memory; its Units.
-/
import Derived.Test.YtdeoipioinnkcaaStockA
import Derived.Test.YtdeoipioinnkcaaUnitP
import Derived.LoopTactic
namespace Go.Proofs.Ytdeoipioinnkcaa
open Go.RowKit Go.Maps

def arrF (n : Nat) (f : Nat → Value) : Array Value := ((List.range n).map f).toArray
theorem arrF_get (n : Nat) (f : Nat → Value) (i : Nat) (h : i < n) : (arrF n f)[i]? = some (f i) := by
  unfold arrF
  simp [List.getElem?_range h]
theorem arrF_set (n : Nat) (f : Nat → Value) (i : Nat) (v : Value) : (arrF n f).setIfInBounds i v = arrF n (fun j => if j = i then v else f j) := by
  unfold arrF
  rw [List.setIfInBounds_toArray]
  congr 1
  apply List.ext_getElem?
  intro j
  rw [List.getElem?_set]
  simp only [List.getElem?_map, List.length_map, List.length_range]
  by_cases hj : j < n
  · rw [List.getElem?_range hj]
    by_cases e : i = j
    · subst e; simp [hj]
    · have : ¬ (j = i) := fun h => e h.symm
      simp [e, this]
  · rw [List.getElem?_eq_none (l := List.range n) (i := j) (by simp; omega)]
    by_cases e : i = j
    · subst e; simp [hj]
    · simp [e]
theorem arrF_congr (n : Nat) (f g : Nat → Value) (h : ∀ i, i < n → f i = g i) : arrF n f = arrF n g := by
  unfold arrF
  congr 1
  exact List.map_congr_left (fun i hi => h i (List.mem_range.1 hi))

/-- An entry's cells. -/
def entCell (e : Ent) (j : Nat) : Value := if j = 0 then .int .i64 e.st else if j = 1 then .int .i64 e.un else if j = 2 then .int .i64 e.til else if j = 3 then .int .i64 e.cu else .int .i64 e.am
def refCell (s : Stk) (n : Nat) : Value := if n = 0 then .int .i64 s.cap else if n = 1 then .int .i64 s.over else entCell (s.en (((n - 2) / 5 : Nat) : Int)) ((n - 2) % 5)
/-- Where the reference's inventory lies: a block of a type, so many cells, the first 1007 of them the inventory's, and what the others are. -/
structure REnv where
  T : TypeId
  n : Nat
  g : Nat → Value
  h : 1007 ≤ n
def ovl (g : Nat → Value) (s : Stk) (i : Nat) : Value := if i < 1007 then refCell s i else g i
variable {R : REnv}
/-- The reference's inventory. -/
def RefAt (R : REnv) (w : World) (x : Nat) (s : Stk) : Prop := Blk w x R.T (arrF R.n (ovl R.g s))
theorem RefAt.chg {w w' : World} {x : Nat} {s : Stk} {S : Nat → Prop} (h : RefAt R w x s) (hc : Chg S w w') (hn : ¬ S x) : RefAt R w' x s := Blk.chg h hc hn
theorem RefAt.cell0 {w : World} {x : Nat} {s : Stk} (h : RefAt R w x s) (i : Nat) (hi : i < 1007) : w.cell? ⟨x, i, none⟩ = some (refCell s i) := by
  rw [Blk.cell h, arrF_get _ _ _ (Nat.lt_of_lt_of_le hi R.h)]
  unfold ovl
  rw [if_pos hi]
theorem refCell_en (s : Stk) (i j : Nat) (hj : j < 5) : refCell s (2 + i * 5 + j) = entCell (s.en (i : Int)) j := by
  unfold refCell
  rw [if_neg (by omega), if_neg (by omega)]
  have e1 : (2 + i * 5 + j - 2) / 5 = i := by omega
  have e2 : (2 + i * 5 + j - 2) % 5 = j := by omega
  rw [e1, e2]
theorem RefAt.cell {w : World} {x : Nat} {s : Stk} (h : RefAt R w x s) (i j : Nat) (hi : i ≤ 200) (hj : j < 5) : w.cell? ⟨x, 2 + i * 5 + j, none⟩ = some (entCell (s.en (i : Int)) j) := by
  rw [h.cell0 _ (by omega), refCell_en _ _ _ hj]
/-- The five cells of a booking, as the walk spells them. -/
theorem RefAt.cells {w : World} {x : Nat} {s : Stk} (h : RefAt R w x s) (i : Nat) (hi : i ≤ 200) {y : Ent} {b : Int} (hb : (i : Int) = b) (hy : s.en b = y) :
    w.cell? ⟨x, 2 + i * 5, none⟩ = some (.int .i64 y.st) ∧ w.cell? ⟨x, 2 + i * 5 + 1, none⟩ = some (.int .i64 y.un) ∧ w.cell? ⟨x, 2 + i * 5 + 2, none⟩ = some (.int .i64 y.til) ∧
      w.cell? ⟨x, 2 + i * 5 + 3, none⟩ = some (.int .i64 y.cu) ∧ w.cell? ⟨x, 2 + i * 5 + 4, none⟩ = some (.int .i64 y.am) := by
  subst hb
  rw [← hy]
  refine ⟨?_, ?_, ?_, ?_, ?_⟩
  · exact h.cell i 0 hi (by omega)
  · exact h.cell i 1 hi (by omega)
  · exact h.cell i 2 hi (by omega)
  · exact h.cell i 3 hi (by omega)
  · exact h.cell i 4 hi (by omega)
theorem RefAt.frozen {w : World} {x : Nat} {s : Stk} (h : RefAt R w x s) (i : Nat) : w.frozen? ⟨x, i, none⟩ = false := Blk.frozen h i

set_option maxRecDepth 100000 in
set_option maxHeartbeats 4000000 in
theorem ref_units {w : World} {x : Nat} {s : Stk} (h : RefAt R w x s) (hG : s.Good) :
    Calls Try.prog 49 #[.pointer (some ⟨x, 0, none⟩)] w fun e w' => e = .returned (.tuple #[.int .i64 (s.of 1), .int .i64 (s.of 2)]) ∧ w' = w := by
  go_enter Try.func49, Try.ntmps49
  go_wp2_with fail
  go_loop [4, 5, 6] (fun v4 v5 v6 => ∃ k : Nat, k ≤ 200 ∧ v4 = .int .i64 (s.ofN 1 k) ∧ v5 = .int .i64 (s.ofN 2 k) ∧ v6 = .int .i64 ((k : Int) + 1)) (fun _ _ v6 => 201 - (RowKit.intOf v6).toNat)
  case atStart => exact ⟨0, Nat.zero_le _, rfl, rfl, rfl⟩
  case round =>
    obtain ⟨k, hk, rfl, rfl, rfl⟩ := hrel
    have hb1 := hG.ofN 1 k hk
    have hb2 := hG.ofN 2 k hk
    by_cases hlt : k < 200
    · have e1 := Lib.hid (s.ofN_succ 1 k)
      have e2 := Lib.hid (s.ofN_succ 2 k)
      obtain ⟨y, hy⟩ : ∃ y, s.en ((k : Int) + 1) = y := ⟨_, rfl⟩
      have hxu := hG.un ((k : Int) + 1)
      rw [hy] at hxu
      obtain ⟨c0, c1, _, _, _⟩ := h.cells (k + 1) (by omega) (b := (k : Int) + 1) (by omega) hy
      obtain ⟨hxu0, hxu1⟩ := hxu
      have hxh := Lib.hid hy
      clear hy
      obtain ⟨S1, hS1⟩ : ∃ S1, s.ofN 1 k = S1 := ⟨_, rfl⟩
      obtain ⟨S2, hS2⟩ : ∃ S2, s.ofN 2 k = S2 := ⟨_, rfl⟩
      rw [hS1] at hb1 ⊢
      rw [hS2] at hb2 ⊢
      have hS1h := Lib.hid hS1
      have hS2h := Lib.hid hS2
      clear hS1 hS2
      by_cases hx1 : y.st = 1
      · have b1 : (y.st == 1) = true := by simp [hx1]
        have b2 : (y.st == 2) = false := by simp [hx1]
        have hx1h := Lib.hid hx1
        clear hx1
        go_wp2_with fail
        go_round
        case rel => exact ⟨k + 1, by omega, by rw [e1.out, hxh.out, if_pos hx1h.out, hS1h.out], by rw [e2.out, hxh.out, if_neg (by rw [hx1h.out]; decide), hS2h.out]; simp, by go_num⟩
        case measure => simp [RowKit.intOf]; omega
      · by_cases hx2 : y.st = 2
        · have b1 : (y.st == 1) = false := by simp [hx1]
          have b2 : (y.st == 2) = true := by simp [hx2]
          have hx2h := Lib.hid hx2
          clear hx1 hx2
          go_wp2_with fail
          go_round
          case rel => exact ⟨k + 1, by omega, by rw [e1.out, hxh.out, if_neg (by rw [hx2h.out]; decide), hS1h.out]; simp, by rw [e2.out, hxh.out, if_pos hx2h.out, hS2h.out], by go_num⟩
          case measure => simp [RowKit.intOf]; omega
        · have b1 : (y.st == 1) = false := by simp [hx1]
          have b2 : (y.st == 2) = false := by simp [hx2]
          have hx1h := Lib.hid hx1
          have hx2h := Lib.hid hx2
          clear hx1 hx2
          go_wp2_with fail
          go_round
          case rel => exact ⟨k + 1, by omega, by rw [e1.out, hxh.out, if_neg hx1h.out, hS1h.out]; simp, by rw [e2.out, hxh.out, if_neg hx2h.out, hS2h.out]; simp, by go_num⟩
          case measure => simp [RowKit.intOf]; omega
    · have hk2 : k = 200 := by omega
      subst hk2
      go_wp2_with fail
      go_ret2
      exact ⟨rfl, rfl⟩

set_option maxRecDepth 100000 in
set_option maxHeartbeats 4000000 in
theorem ref_free {w : World} {x : Nat} {s : Stk} (h : RefAt R w x s) (hG : s.Good) :
    Calls Try.prog 42 #[.pointer (some ⟨x, 0, none⟩)] w fun e w' => e = .returned (.int .i64 s.free) ∧ w' = w.drew := by
  have c0 : w.cell? ⟨x, 0, none⟩ = some (.int .i64 s.cap) := h.cell0 0 (by omega)
  have c1 : w.cell? ⟨x, 1, none⟩ = some (.int .i64 s.over) := h.cell0 1 (by omega)
  obtain ⟨hf0, hp1, hp2, hsum⟩ := hG.all
  have hcap := hG.cap
  have hover := hG.over
  have hU := Lib.hid h
  obtain ⟨H1, hH1⟩ : ∃ H1, s.of 1 = H1 := ⟨_, rfl⟩
  obtain ⟨H2, hH2⟩ : ∃ H2, s.of 2 = H2 := ⟨_, rfl⟩
  have hcall := ref_units h hG
  rw [hH1, hH2] at hcall
  rw [hH1] at hp1 hsum
  rw [hH2] at hp2 hsum
  have hsumh := Lib.hid hsum
  clear hsum hH1 hH2
  obtain ⟨cap0, cap1⟩ := hcap
  obtain ⟨over0, over1⟩ := hover
  have hb1 : H1 ≤ 2000000 := by have := hsumh.out; omega
  have hb2 : H2 ≤ 2000000 := by have := hsumh.out; omega
  go_enter Try.func42, Try.ntmps42
  go_wp2_with fail
  refine hcall.mono ?_
  rintro e w1 ⟨rfl, rfl⟩
  go_wp2_with fail
  refine wp_region_plan (by kernel_rfl) [] [0, 1, 2, 3, 4, 5, 6, 7, 8, 9, 10, 11, 12, 13, 14, 15] (by kernel_rfl) (fun _ _ => True) ?_
  simp only [wpPlan, opsAt_cons, opsAt_nil, consO_some, List.getElem?_toArray, List.getElem?_cons_succ, List.getElem?_cons_zero]
  go_wp2
  refine ⟨by kernel_rfl, ?_⟩
  go_wp2
  go_ret
  refine ⟨?_, rfl⟩
  have := hsumh.out
  go_num
end Go.Proofs.Ytdeoipioinnkcaa
