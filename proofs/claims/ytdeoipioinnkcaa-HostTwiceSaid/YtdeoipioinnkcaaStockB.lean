/-
  stock: confirm, hold, Do by their contracts.
-/
import Derived.Test.YtdeoipioinnkcaaStockA
namespace Go.Proofs.Ytdeoipioinnkcaa
open Go.RowKit Go.Maps

set_option maxRecDepth 100000 in
set_option maxHeartbeats 1000000 in
theorem stk_confirm {w : World} {b mb : Nat} {s : Stk} (h : StkAt w b mb s) (hG : s.Good) (k now : Int) (hk : 1 ≤ k ∧ k ≤ 200) :
    Calls Try.prog 39 #[.pointer (some ⟨b, 0, none⟩), .int .i64 k, .int .i64 now] w fun e w' => e = .returned (.int .i64 (s.confirm k now).1) ∧ StkAt w' b mb (s.confirm k now).2 ∧ Chg (fun i => i = b ∨ i = mb) w w' := by
  obtain ⟨x, hx⟩ : ∃ x, s.en k = x := ⟨_, rfl⟩
  have c3 : w.cell? ⟨b, 3, none⟩ = some (.map (some mb)) := by rw [h.blk.cell]; rfl
  have k0 := h.look (w1 := w) hG rfl k hk x hx
  have hcA : Chg (fun i => i = b ∨ i = mb) w (w.alloc (.cells x.row 40)) := (Chg.refl _ w).alloc _
  have hcA0 : Chg (fun _ => False) w (w.alloc (.cells x.row 40)) := (Chg.refl _ w).alloc _
  have hA := h.chg hcA0 id id
  have hX := Blk.new w 40 x.row
  unfold Ent.row at hcA hcA0 hA hX
  have hst := hG.sts k
  rw [hx] at hst
  have hsplit : x.st = 2 ∨ x.st = 3 ∨ ((x.st = 0 ∨ x.til ≤ now) ∧ x.st ≠ 2 ∧ x.st ≠ 3) ∨ (x.st = 1 ∧ now < x.til) := by
    rcases hst with e | e | e | e
    · right; right; left; omega
    · right; left; rw [e]; rfl
    · by_cases ht : x.til ≤ now
      · right; right; left; omega
      · right; right; right; omega
    · left; omega
  have hxh := Lib.hid hx
  clear hx hst
  rcases hsplit with hs | hs | ⟨hs, hs2, hs3⟩ | ⟨hs, ht⟩
  · have hr : s.confirm k now = (1, s) := by unfold Stk.confirm; rw [hxh.out]; simp [hs]
    rw [hr]
    have b2 : (x.st == 2) = true := by simp [hs]
    clear hs hr
    go_enter Try.func39, Try.ntmps39
    go_wp2_with fail
    go_ret
    exact ⟨rfl, hA, hcA⟩
  · have hr : s.confirm k now = (2, s) := by unfold Stk.confirm; rw [hxh.out]; simp [hs]
    rw [hr]
    have b2 : (x.st == 2) = false := by simp [hs]
    have b3 : (x.st == 3) = true := by simp [hs]
    clear hs hr
    go_enter Try.func39, Try.ntmps39
    go_wp2_with fail
    go_ret
    exact ⟨rfl, hA, hcA⟩
  · have hr : s.confirm k now = (2, s.gone k) := by unfold Stk.confirm; rw [hxh.out]; simp [hs, hs2, hs3]
    rw [hr]
    have b2 : (x.st == 2) = false := by simp [hs2]
    have b3 : (x.st == 3) = false := by simp [hs3]
    clear hs2 hs3 hr
    by_cases h0 : x.st = 0
    · have b0 : (x.st == 0) = true := by simp [h0]
      clear hs h0
      go_enter Try.func39, Try.ntmps39
      go_wp2_with fail
      refine (stk_gone hA hG k hk).mono ?_
      rintro e w2 ⟨rfl, hS, hc⟩
      go_wp2_with fail
      go_ret
      exact ⟨rfl, hS, hcA.trans hc (fun _ _ h => h)⟩
    · have b0 : (x.st == 0) = false := by simp [h0]
      have ht : x.til ≤ now := by omega
      clear hs h0
      go_enter Try.func39, Try.ntmps39
      go_wp2_with fail
      refine (stk_gone hA hG k hk).mono ?_
      rintro e w2 ⟨rfl, hS, hc⟩
      go_wp2_with fail
      go_ret
      exact ⟨rfl, hS, hcA.trans hc (fun _ _ h => h)⟩
  · have hr : s.confirm k now = (1, s.set k s.free ⟨2, x.un, 0, 0, 0⟩) := by unfold Stk.confirm; rw [hxh.out]; simp [hs, show ¬ x.til ≤ now by omega]
    rw [hr]
    have b2 : (x.st == 2) = false := by simp [hs]
    have b3 : (x.st == 3) = false := by simp [hs]
    have b0 : (x.st == 0) = false := by simp [hs]
    clear hs hr
    have hne : ¬ b = mb := fun e => (h.map.ne h.blk) e.symm
    go_enter Try.func39, Try.ntmps39
    go_wp2_with fail
    generalize w.alloc (.cells #[.int .i64 x.st, .int .i64 x.un, .int .i64 x.til, .int .i64 x.cu, .int .i64 x.am] 40) = w1 at *
    have d3 : w1.cell? ⟨b, 3, none⟩ = some (.map (some mb)) := by rw [hA.blk.cell]; rfl
    have x1 : w1.cell? ⟨w.heap.size, 1, none⟩ = some (.int .i64 x.un) := by rw [hX.cell]; rfl
    obtain ⟨w3, hrun, hM3, hc3⟩ := ent_store (show MapOf encI w1.drew mb (entMap s.en) from hA.map) h.keys k hk ⟨2, x.un, 0, 0, 0⟩ (by show (2 : Int) ≠ 0; decide)
    have hB3 := (show Blk w1.drew _ _ _ from hA.blk).chg hc3 (fun h => hne h)
    have hcF : Chg (fun i => i = b ∨ i = mb) w w3 := hcA.drew.trans hc3 (fun _ _ h => .inr h)
    have hfin : StkAt w3 b mb (s.set k s.free ⟨2, x.un, 0, 0, 0⟩) := ⟨hB3, hM3, upd_keys h.keys k hk _⟩
    clear hM3 hB3 hc3
    refine wp_region_plan (by kernel_rfl) [{ fl := [0, 1, 2, 3, 4, 5, 6, 7, 8], ef := 9 }] [] (by kernel_rfl) (fun _ _ => True) ?_
    simp only [wpPlan, longOK, keepOK, opsAt_cons, opsAt_nil, consO_some, List.getElem?_toArray, List.getElem?_cons_succ, List.getElem?_cons_zero, true_and]
    go_wp2_with fail
    refine ⟨by kernel_rfl, ?_⟩
    go_wp2_with fail
    refine ⟨by kernel_rfl, ?_⟩
    go_wp2_with fail
    go_ret
    exact ⟨rfl, hfin, hcF⟩
end Go.Proofs.Ytdeoipioinnkcaa
