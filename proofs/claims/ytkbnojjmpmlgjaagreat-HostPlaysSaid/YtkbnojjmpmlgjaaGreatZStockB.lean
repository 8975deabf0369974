/-
  stock: confirm, hold, Do by their contracts.
-/
import Derived.Test.YtkbnojjmpmlgjaaGreatStockA
namespace Go.Proofs.YtkbnojjmpmlgjaaGreat
open Go.RowKit Go.Maps

set_option maxRecDepth 100000 in
set_option maxHeartbeats 1000000 in
theorem stk_confirm {w : World} {b mb : Nat} {s : Stk} (h : StkAt w b mb s) (hG : s.Good) (k now : Int) (hk : 1 ≤ k ∧ k ≤ 200) :
    Calls Tryz.prog 43 #[.pointer (some ⟨b, 0, none⟩), .int .i64 k, .int .i64 now] w fun e w' => e = .returned (.int .i64 (s.confirm k now).1) ∧ StkAt w' b mb (s.confirm k now).2 ∧ Chg (fun i => i = b ∨ i = mb) w w' := by
  obtain ⟨x, hx⟩ : ∃ x, s.en k = x := ⟨_, rfl⟩
  have c3 : w.cell? ⟨b, 3, none⟩ = some (.map (some mb)) := by rw [h.blk.cell]; rfl
  have k0 := h.look (w1 := w) hG rfl k hk x hx
  have hcA : Chg (fun i => i = b ∨ i = mb) w (w.alloc (.cells x.row 32)) := (Chg.refl _ w).alloc _
  have hcA0 : Chg (fun _ => False) w (w.alloc (.cells x.row 32)) := (Chg.refl _ w).alloc _
  have hA := h.chg hcA0 id id
  have hX := Blk.new w 32 x.row
  unfold Ent.row at hcA hcA0 hA hX
  have hst := hG.sts k
  rw [hx] at hst
  have hsplit : x.st = 2 ∨ x.st = 3 ∨ ((x.st = 0 ∨ x.til ≤ now) ∧ x.st ≠ 2 ∧ x.st ≠ 3) ∨ (x.st = 1 ∧ now < x.til) := by
    rcases hst with e | e | e | e
    · right; right; left; omega
    · right; left; rw [e]; rfl
    · by_cases ht : x.til ≤ now
      · right; right; left; omega
      · right; right; right; omega
    · left; omega
  have hxh := Lib.hid hx
  clear hx hst
  rcases hsplit with hs | hs | ⟨hs, hs2, hs3⟩ | ⟨hs, ht⟩
  · have hr : s.confirm k now = (1, s) := by unfold Stk.confirm; rw [hxh.out]; simp [hs]
    rw [hr]
    have b2 : (x.st == 2) = true := by simp [hs]
    clear hs hr
    go_enter Tryz.func43, Tryz.ntmps43
    go_wp2_with fail
    go_ret
    exact ⟨rfl, hA, hcA⟩
  · have hr : s.confirm k now = (2, s) := by unfold Stk.confirm; rw [hxh.out]; simp [hs]
    rw [hr]
    have b2 : (x.st == 2) = false := by simp [hs]
    have b3 : (x.st == 3) = true := by simp [hs]
    clear hs hr
    go_enter Tryz.func43, Tryz.ntmps43
    go_wp2_with fail
    go_ret
    exact ⟨rfl, hA, hcA⟩
  · have hr : s.confirm k now = (2, s.gone k) := by unfold Stk.confirm; rw [hxh.out]; simp [hs, hs2, hs3]
    rw [hr]
    have b2 : (x.st == 2) = false := by simp [hs2]
    have b3 : (x.st == 3) = false := by simp [hs3]
    clear hs2 hs3 hr
    by_cases h0 : x.st = 0
    · have b0 : (x.st == 0) = true := by simp [h0]
      clear hs h0
      go_enter Tryz.func43, Tryz.ntmps43
      go_wp2_with fail
      refine (stk_gone hA hG k hk).mono ?_
      rintro e w2 ⟨rfl, hS, hc⟩
      go_wp2_with fail
      go_ret
      exact ⟨rfl, hS, hcA.trans hc (fun _ _ h => h)⟩
    · have b0 : (x.st == 0) = false := by simp [h0]
      have ht : x.til ≤ now := by omega
      clear hs h0
      go_enter Tryz.func43, Tryz.ntmps43
      go_wp2_with fail
      refine (stk_gone hA hG k hk).mono ?_
      rintro e w2 ⟨rfl, hS, hc⟩
      go_wp2_with fail
      go_ret
      exact ⟨rfl, hS, hcA.trans hc (fun _ _ h => h)⟩
  · have hr : s.confirm k now = (1, s.set k s.free ⟨2, x.un, 0, 0, 0⟩) := by unfold Stk.confirm; rw [hxh.out]; simp [hs, show ¬ x.til ≤ now by omega]
    rw [hr]
    have b2 : (x.st == 2) = false := by simp [hs]
    have b3 : (x.st == 3) = false := by simp [hs]
    have b0 : (x.st == 0) = false := by simp [hs]
    clear hs hr
    have hne : ¬ b = mb := fun e => (h.map.ne h.blk) e.symm
    go_enter Tryz.func43, Tryz.ntmps43
    go_wp2_with fail
    generalize w.alloc (.cells #[.int .i64 x.st, .int .i64 x.un, .int .i64 x.til, .int .i64 x.cu, .int .i64 x.am] 32) = w1 at *
    have d3 : w1.cell? ⟨b, 3, none⟩ = some (.map (some mb)) := by rw [hA.blk.cell]; rfl
    have x1 : w1.cell? ⟨w.heap.size, 1, none⟩ = some (.int .i64 x.un) := by rw [hX.cell]; rfl
    obtain ⟨w3, hrun, hM3, hc3⟩ := ent_store (show MapOf encI w1.drew mb (entMap s.en) from hA.map) h.keys k hk ⟨2, x.un, 0, 0, 0⟩ (by show (2 : Int) ≠ 0; decide)
    have hB3 := (show Blk w1.drew _ _ _ from hA.blk).chg hc3 (fun h => hne h)
    have hcF : Chg (fun i => i = b ∨ i = mb) w w3 := hcA.drew.trans hc3 (fun _ _ h => .inr h)
    have hfin : StkAt w3 b mb (s.set k s.free ⟨2, x.un, 0, 0, 0⟩) := ⟨hB3, hM3, upd_keys h.keys k hk _⟩
    clear hM3 hB3 hc3
    refine wp_region_plan (by kernel_rfl) [{ fl := [0, 1, 2, 3, 4, 5, 6, 7, 8], ef := 9 }] [] (by kernel_rfl) (fun _ _ => True) ?_
    simp only [wpPlan, longOK, keepOK, opsAt_cons, opsAt_nil, consO_some, List.getElem?_toArray, List.getElem?_cons_succ, List.getElem?_cons_zero, true_and]
    go_wp2_with fail
    refine ⟨by kernel_rfl, ?_⟩
    go_wp2_with fail
    refine ⟨by kernel_rfl, ?_⟩
    go_wp2_with fail
    go_ret
    exact ⟨rfl, hfin, hcF⟩
end Go.Proofs.YtkbnojjmpmlgjaaGreat

namespace Go.Proofs.YtkbnojjmpmlgjaaGreat
open Go.RowKit Go.Maps

theorem answer_any (w : World) (d : Bool) : Calls Tryz.prog 54 #[.bool d] w fun e w' => e = .returned (.int .i64 (if d then 1 else 2)) ∧ w' = w := by
  cases d
  all_goals
    go_enter Tryz.func54, Tryz.ntmps54
    go_wp2
    go_ret
    exact ⟨rfl, rfl⟩

set_option maxRecDepth 100000 in
set_option maxHeartbeats 2000000 in
theorem stk_hold {w : World} {b mb : Nat} {s : Stk} (h : StkAt w b mb s) (hG : s.Good) (o : POp) (now : Int) (hk : 1 ≤ o.bk ∧ o.bk ≤ 200) (hu : 1 ≤ o.un ∧ o.un ≤ 1000) (hn : 0 ≤ now ∧ now ≤ 1099511627776) :
    Calls Tryz.prog 42 #[.pointer (some ⟨b, 0, none⟩), o.val, .int .i64 now] w fun e w' => e = .returned (.int .i64 (s.hold o.bk o.un now).1) ∧ StkAt w' b mb (s.hold o.bk o.un now).2 ∧ Chg (fun i => i = b ∨ i = mb) w w' := by
  obtain ⟨x, hx⟩ : ∃ x, s.en o.bk = x := ⟨_, rfl⟩
  have hst := hG.sts o.bk
  rw [hx] at hst
  have hsplit : (x.st = 1 ∨ x.st = 2) ∨ x.st = 3 ∨ (x.st = 0 ∧ s.free < o.un) ∨ (x.st = 0 ∧ o.un ≤ s.free) := by
    rcases hst with e | e | e | e
    · by_cases hf : s.free < o.un
      · right; right; left; exact ⟨e, hf⟩
      · right; right; right; exact ⟨e, by omega⟩
    · right; left; rw [e]; rfl
    · left; left; exact e.1
    · left; right; exact e.1
  have hfr := hG.free
  have hbd := hG.bound
  have hxh := Lib.hid hx
  clear hst
  go_enter Tryz.func42, Tryz.ntmps42
  unfold POp.val
  go_wp2_with fail
  have hc1 : Chg (fun _ => False) w (w.alloc (.cells #[.int .i64 o.kd, .int .i64 o.bk, .int .i64 o.un, .int .i64 o.cu, .int .i64 o.am] 43)) := (Chg.refl _ w).alloc _
  have h1 := h.chg hc1 id id
  have hO := Blk.new w 43 o.row
  unfold POp.row at hO
  generalize w.alloc (.cells #[.int .i64 o.kd, .int .i64 o.bk, .int .i64 o.un, .int .i64 o.cu, .int .i64 o.am] 43) = w1 at *
  generalize w.heap.size = O at *
  have hF : ∀ w9 : World, (∀ g, g < w1.heap.size → w9.heap[g]? = w1.heap[g]?) → w9.cell? ⟨b, 3, none⟩ = some (.map (some mb)) ∧ w9.cell? ⟨O, 1, none⟩ = some (.int .i64 o.bk) ∧ (Instr.lookup 81 (.map (some mb)) (.int .i64 o.bk) false).run Tryz.prog w9 = .ok (.agg #[.int .i64 x.st, .int .i64 x.un, .int .i64 x.til, .int .i64 x.cu, .int .i64 x.am]) w9 := by
    intro w9 hb
    refine ⟨?_, ?_, h1.look (w1 := w9) hG (hb _ h1.map.lt) o.bk hk x hx⟩
    · rw [(h1.blk.keep (hb _ h1.blk.lt)).cell]; rfl
    · rw [(hO.keep (hb _ hO.lt)).cell]; rfl
  have hF0 := hF w1.drew (fun _ _ => rfl)
  have hFh := Lib.hid hF
  clear hF hx
  refine wp_region_plan (by kernel_rfl) [{ fl := [0, 1, 2, 3, 4, 5, 6, 7], long := [4, 6, 7], ef := 8, keep := [4, 6, 7] }, { fl := [], ef := 9 }] [] (by kernel_rfl) (fun _ w9 => w9.cell? ⟨b, 3, none⟩ = some (.map (some mb)) ∧ w9.cell? ⟨O, 1, none⟩ = some (.int .i64 o.bk) ∧ (Instr.lookup 81 (.map (some mb)) (.int .i64 o.bk) false).run Tryz.prog w9 = .ok (.agg #[.int .i64 x.st, .int .i64 x.un, .int .i64 x.til, .int .i64 x.cu, .int .i64 x.am]) w9) ?_
  simp only [wpPlan, longOK, keepOK, opsAt_cons, opsAt_nil, consO_some, List.getElem?_toArray, List.getElem?_cons_succ, List.getElem?_cons_zero, and_true, true_and]
  refine ⟨⟨hF0, hF0, hF0⟩, ?_⟩
  have hF1 := hFh.out w1 (fun _ _ => rfl)
  obtain ⟨_, _, hlk⟩ := hF0
  obtain ⟨cB, cO, hlk1⟩ := hF1
  go_wp2_with fail
  refine ⟨by kernel_rfl, ⟨?_, ?_, ?_⟩, ?_⟩
  · intro _ w9 ⟨g1, g2, g3⟩
    go_simp
  · intro _ w9 ⟨g1, g2, g3⟩
    go_simp
  · intro _ w9 ⟨g1, g2, g3⟩
    go_simp
  go_wp2_with fail
  have hal : ∀ ob g, g < w1.heap.size → (w1.alloc ob).drew.heap[g]? = w1.heap[g]? := fun ob g hg => Below.heap_alloc w1 ob g hg
  refine ⟨⟨hFh.out _ (hal _), hFh.out _ (hal _), hFh.out _ (hal _)⟩, ?_⟩
  go_wp2_with fail
  refine ⟨by kernel_rfl, ?_⟩
  go_wp2_with fail
  refine ⟨by kernel_rfl, ?_⟩
  clear hal hFh hlk hlk1 cB cO
  have hc2 : Chg (fun _ => False) w1 (w1.alloc (.cells #[.int .i64 x.st, .int .i64 x.un, .int .i64 x.til, .int .i64 x.cu, .int .i64 x.am] 32)) := (Chg.refl _ w1).alloc _
  have hX := Blk.new w1 32 x.row
  unfold Ent.row at hX
  have hA := h1.chg hc2 id id
  have hO2 := hO.chg hc2 id
  have hcA : Chg (fun i => i = b ∨ i = mb) w (w1.alloc (.cells #[.int .i64 x.st, .int .i64 x.un, .int .i64 x.til, .int .i64 x.cu, .int .i64 x.am] 32)) := (hc1.trans hc2 (fun _ _ h => h)).mono (fun _ _ h => h.elim)
  have hOX : O ≠ w1.heap.size := by have := hO.lt; omega
  generalize w1.alloc (.cells #[.int .i64 x.st, .int .i64 x.un, .int .i64 x.til, .int .i64 x.cu, .int .i64 x.am] 32) = w2 at *
  generalize w1.heap.size = X at *
  have x0 : w2.cell? ⟨X, 0, none⟩ = some (.int .i64 x.st) := by rw [hX.cell]; rfl
  have x1 : w2.cell? ⟨X, 1, none⟩ = some (.int .i64 x.un) := by rw [hX.cell]; rfl
  have o1 : w2.cell? ⟨O, 1, none⟩ = some (.int .i64 o.bk) := by rw [hO2.cell]; rfl
  have o2 : w2.cell? ⟨O, 2, none⟩ = some (.int .i64 o.un) := by rw [hO2.cell]; rfl
  have c2 : w2.cell? ⟨b, 2, none⟩ = some (.int .i64 s.free) := by rw [hA.blk.cell]; rfl
  clear hc1 hc2 h1 hO
  rcases hsplit with hs | hs | ⟨hs, hf⟩ | ⟨hs, hf⟩
  · by_cases hun : x.un = o.un
    · have hr : s.hold o.bk o.un now = (1, s) := by unfold Stk.hold; rw [hxh.out]; simp [hs, hun]
      have hrh := Lib.hid hr
      have bu : (x.un == o.un) = true := by simp [hun]
      clear hr hun
      rcases hs with hs | hs
      · have b1 : (x.st == 1) = true := by simp [hs]
        clear hs
        go_wp2_with (go_at_call 54; refine (answer_any _ _).mono ?_; rintro e w' ⟨rfl, rfl⟩)
        go_ret
        rw [hrh.out]
        exact ⟨rfl, hA.chg ((Chg.refl (fun _ => False) _).drew) id id, hcA.drew⟩
      · have b1 : (x.st == 1) = false := by simp [hs]
        have b2 : (x.st == 2) = true := by simp [hs]
        clear hs
        go_wp2_with (go_at_call 54; refine (answer_any _ _).mono ?_; rintro e w' ⟨rfl, rfl⟩)
        go_ret
        rw [hrh.out]
        exact ⟨rfl, hA.chg ((Chg.refl (fun _ => False) _).drew) id id, hcA.drew⟩
    · have hr : s.hold o.bk o.un now = (2, s) := by unfold Stk.hold; rw [hxh.out]; simp [hs, hun]
      have hrh := Lib.hid hr
      have bu : (x.un == o.un) = false := by simp [hun]
      clear hr hun
      rcases hs with hs | hs
      · have b1 : (x.st == 1) = true := by simp [hs]
        clear hs
        go_wp2_with (go_at_call 54; refine (answer_any _ _).mono ?_; rintro e w' ⟨rfl, rfl⟩)
        go_ret
        rw [hrh.out]
        exact ⟨rfl, hA.chg ((Chg.refl (fun _ => False) _).drew) id id, hcA.drew⟩
      · have b1 : (x.st == 1) = false := by simp [hs]
        have b2 : (x.st == 2) = true := by simp [hs]
        clear hs
        go_wp2_with (go_at_call 54; refine (answer_any _ _).mono ?_; rintro e w' ⟨rfl, rfl⟩)
        go_ret
        rw [hrh.out]
        exact ⟨rfl, hA.chg ((Chg.refl (fun _ => False) _).drew) id id, hcA.drew⟩
  · have hr : s.hold o.bk o.un now = (2, s) := by unfold Stk.hold; rw [hxh.out]; simp [hs]
    have hrh := Lib.hid hr
    have b1 : (x.st == 1) = false := by simp [hs]
    have b2 : (x.st == 2) = false := by simp [hs]
    have b3 : (x.st == 3) = true := by simp [hs]
    clear hs hr
    go_wp2_with fail
    go_ret
    rw [hrh.out]
    exact ⟨rfl, hA.chg ((Chg.refl (fun _ => False) _).drew) id id, hcA.drew⟩
  · have hr : s.hold o.bk o.un now = (2, s.gone o.bk) := by unfold Stk.hold; rw [hxh.out]; simp [hs, hf]
    have hrh := Lib.hid hr
    have b1 : (x.st == 1) = false := by simp [hs]
    have b2 : (x.st == 2) = false := by simp [hs]
    have b3 : (x.st == 3) = false := by simp [hs]
    have bf : decide (s.free < o.un) = true := by simp [hf]
    clear hs hr
    go_wp2_with fail
    refine wp_region_plan (by kernel_rfl) [] [0, 1, 2, 3, 4, 5, 6, 7] (by kernel_rfl) (fun _ _ => True) ?_
    simp only [wpPlan, opsAt_cons, opsAt_nil, consO_some, List.getElem?_toArray, List.getElem?_cons_succ, List.getElem?_cons_zero]
    go_wp2_with fail
    refine ⟨by kernel_rfl, ?_⟩
    go_wp2_with fail
    refine (stk_gone (b := b) (mb := mb) (s := s) (by exact hA.chg ((Chg.refl (fun _ => False) w2).drew.drew) id id) hG o.bk hk).mono ?_
    rintro e w3 ⟨rfl, hS, hc⟩
    go_wp2_with fail
    go_ret
    rw [hrh.out]
    exact ⟨rfl, hS, hcA.drew.drew.trans hc (fun _ _ h => h)⟩
  · have hr : s.hold o.bk o.un now = (1, s.set o.bk (s.free - o.un) ⟨1, o.un, now + 60, 0, 0⟩) := by unfold Stk.hold; rw [hxh.out]; simp [hs, show ¬ s.free < o.un by omega]
    have hrh := Lib.hid hr
    have b1 : (x.st == 1) = false := by simp [hs]
    have b2 : (x.st == 2) = false := by simp [hs]
    have b3 : (x.st == 3) = false := by simp [hs]
    have bf : decide (s.free < o.un) = false := by simp; omega
    clear hs hr
    go_wp2_with fail
    refine wp_region_plan (by kernel_rfl) [] [0, 1, 2, 3, 4, 5, 6, 7] (by kernel_rfl) (fun _ _ => True) ?_
    simp only [wpPlan, opsAt_cons, opsAt_nil, consO_some, List.getElem?_toArray, List.getElem?_cons_succ, List.getElem?_cons_zero]
    go_wp2_with fail
    refine ⟨by kernel_rfl, ?_⟩
    have f2 : w2.frozen? ⟨b, 2, none⟩ = false := hA.blk.frozen 2
    go_wp2_with fail
    refine wp_region_plan (by kernel_rfl) [{ fl := [0, 1, 2, 3, 4, 5, 6, 7, 8, 9], ef := 10 }] [] (by kernel_rfl) (fun _ _ => True) ?_
    simp only [wpPlan, longOK, keepOK, opsAt_cons, opsAt_nil, consO_some, List.getElem?_toArray, List.getElem?_cons_succ, List.getElem?_cons_zero, true_and]
    go_wp2_with fail
    refine ⟨by kernel_rfl, ?_⟩
    go_wp2_with fail
    refine ⟨by kernel_rfl, ?_⟩
    have hne : ¬ mb = b := hA.map.ne hA.blk
    have hB2 : Blk (w2.setCell ⟨b, 2, none⟩ (.int .i64 (s.free - o.un))) b 85 #[.int .i64 s.cap, .int .i64 s.over, .int .i64 (s.free - o.un), .map (some mb)] := hA.blk.set 2 _
    have hM2 : MapOf encI (w2.setCell ⟨b, 2, none⟩ (.int .i64 (s.free - o.un))) mb (entMap s.en) := hA.map.keep (Below.heap_setCell w2 _ _ mb hne)
    have hOb : O ≠ b := Blk.ne hO2 hA.blk (by decide)
    have hO3 := hO2.far (p := ⟨b, 2, none⟩) hOb (.int .i64 (s.free - o.un))
    have hcS := hcA.setCell (p := ⟨b, 2, none⟩) (.inl (.inl rfl)) (.int .i64 (s.free - o.un))
    generalize w2.setCell ⟨b, 2, none⟩ (.int .i64 (s.free - o.un)) = w3 at *
    clear x0 x1 o1 o2 c2 f2
    have d3 : w3.cell? ⟨b, 3, none⟩ = some (.map (some mb)) := by rw [hB2.cell]; rfl
    have o1 : w3.cell? ⟨O, 1, none⟩ = some (.int .i64 o.bk) := by rw [hO3.cell]; rfl
    have o2 : w3.cell? ⟨O, 2, none⟩ = some (.int .i64 o.un) := by rw [hO3.cell]; rfl
    obtain ⟨w4, hrun, hM4, hc4⟩ := ent_store (show MapOf encI w3.drew.drew.drew.drew mb (entMap s.en) from hM2) h.keys o.bk hk ⟨1, o.un, now + 60, 0, 0⟩ (by show (1 : Int) ≠ 0; decide)
    have hB4 := (show Blk w3.drew.drew.drew.drew _ _ _ from hB2).chg hc4 (fun h => hne h.symm)
    have hcF : Chg (fun i => i = b ∨ i = mb) w w4 := hcS.drew.drew.drew.drew.trans hc4 (fun _ _ h => .inr h)
    have hfin : StkAt w4 b mb (s.set o.bk (s.free - o.un) ⟨1, o.un, now + 60, 0, 0⟩) := ⟨hB4, hM4, upd_keys h.keys o.bk hk _⟩
    clear hM4 hB4 hc4 hcS hM2
    go_wp2_with fail
    refine wp_region_plan (by kernel_rfl) [{ fl := [0, 1, 2, 3, 4, 5, 6, 7, 8, 9, 10, 11], ef := 12 }] [] (by kernel_rfl) (fun _ _ => True) ?_
    simp only [wpPlan, longOK, keepOK, opsAt_cons, opsAt_nil, consO_some, List.getElem?_toArray, List.getElem?_cons_succ, List.getElem?_cons_zero, true_and]
    go_wp2_with fail
    refine ⟨by kernel_rfl, ?_⟩
    go_wp2_with fail
    refine ⟨by kernel_rfl, ?_⟩
    go_wp2_with fail
    go_ret
    rw [hrh.out]
    exact ⟨rfl, hfin, hcF⟩
end Go.Proofs.YtkbnojjmpmlgjaaGreat

namespace Go.Proofs.YtkbnojjmpmlgjaaGreat
open Go.RowKit Go.Maps

set_option maxRecDepth 100000 in
set_option maxHeartbeats 1000000 in
theorem stk_do_no (w : World) (b : Nat) (o : POp) (now : Int) (hh : mayOp o = false ∨ now < 0 ∨ 1099511627776 < now) :
    Calls Tryz.prog 16 #[.pointer (some ⟨b, 0, none⟩), o.val, .int .i64 now] w fun e w' => e = .returned (.int .i64 2) ∧ Chg (fun _ => False) w w' := by
  have hhh := Lib.hid hh
  clear hh
  go_enter Tryz.func16, Tryz.ntmps16
  unfold POp.val
  go_wp2_with fail
  refine (mayOp_any o _).mono ?_
  rintro e w2 ⟨rfl, hc2⟩
  have hcF : Chg (fun _ => False) w w2 := ((Chg.refl _ w).alloc _).trans hc2 (fun _ _ h => h)
  have hO := (Blk.new w 43 o.row).chg hc2 id
  have o0 : w2.cell? ⟨w.heap.size, 0, none⟩ = some (.int .i64 o.kd) := by rw [hO.cell]; rfl
  have o1 : w2.cell? ⟨w.heap.size, 1, none⟩ = some (.int .i64 o.bk) := by rw [hO.cell]; rfl
  have o2 : w2.cell? ⟨w.heap.size, 2, none⟩ = some (.int .i64 o.un) := by rw [hO.cell]; rfl
  have o3 : w2.cell? ⟨w.heap.size, 3, none⟩ = some (.int .i64 o.cu) := by rw [hO.cell]; rfl
  have o4 : w2.cell? ⟨w.heap.size, 4, none⟩ = some (.int .i64 o.am) := by rw [hO.cell]; rfl
  clear o0 o1 o2 o3 o4
  cases hm : mayOp o with
  | false =>
    clear hm
    go_wp2_with fail
    go_ret
    exact ⟨rfl, hcF⟩
  | true =>
    have hn : now < 0 ∨ 1099511627776 < now := by
      rcases hhh.out with h | h | h
      · rw [hm] at h; cases h
      · exact .inl h
      · exact .inr h
    clear hm
    rcases hn with hn | hn
    · go_wp2_with fail
      go_ret
      exact ⟨rfl, hcF⟩
    · have hn2 : 0 ≤ now := by omega
      go_wp2_with fail
      go_ret
      exact ⟨rfl, hcF⟩

set_option maxRecDepth 100000 in
set_option maxHeartbeats 2000000 in
theorem stk_do_yes {w : World} {b mb : Nat} {s : Stk} (h : StkAt w b mb s) (hG : s.Good) (o : POp) (now : Int) (hh : mayOp o = true) (hn0 : 0 ≤ now) (hn1 : now ≤ 1099511627776) :
    Calls Tryz.prog 16 #[.pointer (some ⟨b, 0, none⟩), o.val, .int .i64 now] w fun e w' => e = .returned (.int .i64 (s.act o now).1) ∧ StkAt w' b mb (s.act o now).2 ∧ Chg (fun i => i = b ∨ i = mb) w w' := by
  have hk := mayOp_bkS hh
  have hu : o.kd = 1 → 1 ≤ o.un ∧ o.un ≤ 1000 := mayOp_1 hh
  have hact : Hid (s.act o now = if o.kd = 1 then s.hold o.bk o.un now else if o.kd = 2 then s.confirm o.bk now else if o.kd = 3 then (1, s.gone o.bk) else (2, s)) := by
    unfold Hid Stk.act
    rw [if_neg (by rw [hh]; simp; omega)]
  have huh := Lib.hid hu
  clear hu
  have hhh := Lib.hid hh
  clear hh
  go_enter Tryz.func16, Tryz.ntmps16
  unfold POp.val
  go_wp2_with fail
  refine (mayOp_any o _).mono ?_
  rintro e w2 ⟨rfl, hc2⟩
  have hcF : Chg (fun _ => False) w w2 := ((Chg.refl _ w).alloc _).trans hc2 (fun _ _ h => h)
  have hO := (Blk.new w 43 o.row).chg hc2 id
  have o0 : w2.cell? ⟨w.heap.size, 0, none⟩ = some (.int .i64 o.kd) := by rw [hO.cell]; rfl
  have o1 : w2.cell? ⟨w.heap.size, 1, none⟩ = some (.int .i64 o.bk) := by rw [hO.cell]; rfl
  have o2 : w2.cell? ⟨w.heap.size, 2, none⟩ = some (.int .i64 o.un) := by rw [hO.cell]; rfl
  have o3 : w2.cell? ⟨w.heap.size, 3, none⟩ = some (.int .i64 o.cu) := by rw [hO.cell]; rfl
  have o4 : w2.cell? ⟨w.heap.size, 4, none⟩ = some (.int .i64 o.am) := by rw [hO.cell]; rfl
  rw [hhh.out]
  have h2 := h.chg hcF id id
  have hcG : Chg (fun i => i = b ∨ i = mb) w w2 := hcF.mono (fun _ _ h => h.elim)
  by_cases k1 : o.kd = 1
  · have hu := huh.out k1
    have e : s.act o now = s.hold o.bk o.un now := by rw [hact.out, if_pos k1]
    have eh := Lib.hid e
    have b1 : (o.kd == 1) = true := by simp [k1]
    clear e k1
    go_wp2_with fail
    refine (stk_hold h2 hG o now hk hu ⟨hn0, hn1⟩).mono ?_
    rintro e w3 ⟨rfl, hS, hc⟩
    go_wp2_with fail
    go_ret
    rw [eh.out]
    exact ⟨rfl, hS, hcG.trans hc (fun _ _ h => h)⟩
  by_cases k2 : o.kd = 2
  · have e : s.act o now = s.confirm o.bk now := by rw [hact.out, if_neg k1, if_pos k2]
    have eh := Lib.hid e
    have b1 : (o.kd == 1) = false := by simp [k1]
    have b2 : (o.kd == 2) = true := by simp [k2]
    clear e k1 k2
    go_wp2_with fail
    refine (stk_confirm h2 hG o.bk now hk).mono ?_
    rintro e w3 ⟨rfl, hS, hc⟩
    go_wp2_with fail
    go_ret
    rw [eh.out]
    exact ⟨rfl, hS, hcG.trans hc (fun _ _ h => h)⟩
  by_cases k3 : o.kd = 3
  · have e : s.act o now = (1, s.gone o.bk) := by rw [hact.out, if_neg k1, if_neg k2, if_pos k3]
    have eh := Lib.hid e
    have b1 : (o.kd == 1) = false := by simp [k1]
    have b2 : (o.kd == 2) = false := by simp [k2]
    have b3 : (o.kd == 3) = true := by simp [k3]
    clear e k1 k2 k3
    go_wp2_with fail
    refine (stk_gone h2 hG o.bk hk).mono ?_
    rintro e w3 ⟨rfl, hS, hc⟩
    go_wp2_with fail
    go_ret
    rw [eh.out]
    exact ⟨rfl, hS, hcG.trans hc (fun _ _ h => h)⟩
  · have e : s.act o now = (2, s) := by rw [hact.out, if_neg k1, if_neg k2, if_neg k3]
    have eh := Lib.hid e
    have b1 : (o.kd == 1) = false := by simp [k1]
    have b2 : (o.kd == 2) = false := by simp [k2]
    have b3 : (o.kd == 3) = false := by simp [k3]
    clear e k1 k2 k3
    go_wp2_with fail
    go_ret
    rw [eh.out]
    exact ⟨rfl, h2, hcG⟩

theorem stk_do {w : World} {b mb : Nat} {s : Stk} (h : StkAt w b mb s) (hG : s.Good) (o : POp) (now : Int) :
    Calls Tryz.prog 16 #[.pointer (some ⟨b, 0, none⟩), o.val, .int .i64 now] w fun e w' => e = .returned (.int .i64 (s.act o now).1) ∧ StkAt w' b mb (s.act o now).2 ∧ Chg (fun i => i = b ∨ i = mb) w w' := by
  by_cases hh : mayOp o = false ∨ now < 0 ∨ 1099511627776 < now
  · have e : s.act o now = (2, s) := by unfold Stk.act; rw [if_pos hh]
    refine (stk_do_no w b o now hh).mono ?_
    rintro e' w' ⟨rfl, hc⟩
    rw [e]
    exact ⟨rfl, h.chg hc id id, hc.mono (fun _ _ h => h.elim)⟩
  · have hm : mayOp o = true := by
      cases hm : mayOp o with
      | true => rfl
      | false => exact absurd (.inl hm) hh
    exact stk_do_yes h hG o now hm (by omega) (by omega)
end Go.Proofs.YtkbnojjmpmlgjaaGreat
