/-
  purse: Do by its contract.
-/
import Derived.Test.YtddnpjlcmokbiaaZEntM
import Derived.Test.YtddnpjlcmokbiaaRegionC
import Derived.Test.YtddnpjlcmokbiaaPurseN
import Derived.Test.YtddnpjlcmokbiaaZPurseP
namespace Go.Proofs.Ytddnpjlcmokbiaa
open Go.RowKit Go.Maps

set_option maxRecDepth 100000 in
set_option maxHeartbeats 4000000 in
theorem do_5n0 (w : World) (b mb : Nat) (lv : Value) (p : Pur) (o : POp) (T : Int) (hP : PurAt w b mb lv p) (hG : p.Good T) (_hT : T ≤ 1125899906842624) (_hlen : p.ln.length ≤ 1000000) (k5 : o.kd = 5) (s4' : (p.en o.bk).st = 0) :
    Calls Try.prog 9 #[.pointer (some ⟨b, 0, none⟩), o.val] w fun e w' => e = .returned (.int .i64 (p.act o).1) ∧
      ∃ lv', PurAt w' b mb lv' (p.act o).2 ∧ Chg (fun i => i = b ∨ i = mb ∨ lv.ownBlock = some i) w w' ∧ (lv'.ownBlock = lv.ownBlock ∨ ∃ k, lv'.ownBlock = some k ∧ w.heap.size ≤ k) := by
  have k5_h := Lib.hid k5
  clear k5
  have s4'_h := Lib.hid s4'
  clear s4'
  go_enter Try.func9, Try.ntmps9
  unfold POp.val
  go_wp2_with (go_at_call 28; refine (mayOp_any o _).mono ?_; rintro e w' ⟨rfl, hw'⟩)
  · rename_i hm
    have hm : mayOp o = false := by cases e : mayOp o <;> simp_all
    have hc : Chg (fun _ => False) w w' := (((Chg.refl _ w).alloc _).alloc _).trans hw' (fun _ _ h => h.elim)
    go_ret
    have ha : p.act o = (2, p) := by unfold Pur.act; rw [if_pos hm]
    rw [ha]
    exact ⟨rfl, lv, hP.chg hc id id (fun _ _ => id), hc.mono (fun _ _ h => h.elim), .inl rfl⟩
  rename_i hm
  have hm : mayOp o = true := by cases e : mayOp o <;> simp_all
  have hbk := mayOp_bk hm
  have hL : Blk w' w.heap.size 24 #[.pointer (some ⟨b, 0, none⟩)] := ((Blk.new w _ _).alloc _).chg hw' id
  have hO : Blk w' (w.heap.size + 1) 33 o.row := by
    have h := (Blk.new (w.alloc (.cells #[.pointer (some ⟨b, 0, none⟩)] 24)) 33 o.row).chg hw' id
    simpa using h
  have hc : Chg (fun _ => False) w w' := (((Chg.refl _ w).alloc _).alloc _).trans hw' (fun _ _ h => h.elim)
  have hP' : PurAt w' b mb lv p := hP.chg hc id id (fun _ _ => id)
  clear hw'
  generalize hLe : w.heap.size = L at *
  generalize hOe : L + 1 = O at *
  have hLO : L ≠ O := by omega
  obtain ⟨x, hx⟩ : ∃ x, x = p.en o.bk := ⟨_, rfl⟩
  have hxh := Lib.hid hx
  have hFd : ∀ w1, (∀ g, g < w'.heap.size → w1.heap[g]? = w'.heap[g]?) → w1.cell? ⟨L, 0, none⟩ = some (.pointer (some ⟨b, 0, none⟩)) ∧ w1.cell? ⟨b, 6, none⟩ = some (.map (some mb)) ∧ w1.cell? ⟨O, 1, none⟩ = some (.int .i64 o.bk) ∧
      (Instr.lookup 64 (.map (some mb)) (.int .i64 o.bk) false).run Try.prog w1 = .ok (.agg #[.int .i64 x.st, .int .i64 x.un, .int .i64 x.til, .int .i64 x.cu, .int .i64 x.am]) w1 := by
    intro w1 hb
    refine ⟨?_, ?_, ?_, ?_⟩
    · rw [(hL.keep (hb _ hL.lt)).cell]; rfl
    · rw [(hP'.blk.keep (hb _ hP'.blk.lt)).cell]; rfl
    · rw [(hO.keep (hb _ hO.lt)).cell]; rfl
    · have h := (hP'.map.keep (hb _ hP'.map.lt)).look law3 encI_inj (entMap_keys hP.keys) (e := 44) (t := 64) Try.underlying64 (zeroEnt w1) (a := o.bk) (keyI hbk) false
      rw [entMap_getD _ _ hG.non, ← hx] at h
      exact h
  refine wp_region_plan (by kernel_rfl) [{ fl := [0, 1, 2, 3, 4, 5, 6], long := [0, 3, 5, 6], ef := 7, keep := [0, 3, 5, 6] }, { fl := [], ef := 8 }] [] (by kernel_rfl) (fun _ w1 => w1.cell? ⟨L, 0, none⟩ = some (.pointer (some ⟨b, 0, none⟩)) ∧ w1.cell? ⟨b, 6, none⟩ = some (.map (some mb)) ∧ w1.cell? ⟨O, 1, none⟩ = some (.int .i64 o.bk) ∧
      (Instr.lookup 64 (.map (some mb)) (.int .i64 o.bk) false).run Try.prog w1 = .ok (.agg #[.int .i64 x.st, .int .i64 x.un, .int .i64 x.til, .int .i64 x.cu, .int .i64 x.am]) w1) ?_
  simp only [wpPlan, longOK, keepOK, opsAt_cons, opsAt_nil, consO_some, List.getElem?_toArray, List.getElem?_cons_succ, List.getElem?_cons_zero, and_true, true_and]
  clear hx
  have hF0 := hFd w'.drew (fun _ _ => rfl)
  refine ⟨⟨hF0, hF0, hF0, hF0⟩, ?_⟩
  have hF1 := hFd w' (fun _ _ => rfl)
  obtain ⟨_, _, _, hlk⟩ := hF0
  obtain ⟨cL, cB, cO, _⟩ := hF1
  go_wp2
  refine ⟨by kernel_rfl, ⟨?_, ?_, ?_, ?_⟩, ?_⟩
  · intro _ w1 ⟨h1, h2, h3, h4⟩
    go_simp
  · intro _ w1 ⟨h1, h2, h3, h4⟩
    go_simp
  · intro _ w1 ⟨h1, h2, h3, h4⟩
    go_simp
  · intro _ w1 ⟨h1, h2, h3, h4⟩
    go_simp
  go_wp2
  have hal : ∀ ob g, g < w'.heap.size → (w'.alloc ob).drew.heap[g]? = w'.heap[g]? := fun ob g hg => Below.heap_alloc w' ob g hg
  refine ⟨⟨hFd _ (hal _), hFd _ (hal _), hFd _ (hal _), hFd _ (hal _)⟩, ?_⟩
  go_wp2
  refine ⟨by kernel_rfl, ?_⟩
  go_wp2
  refine ⟨by kernel_rfl, ?_⟩
  go_wp2
  clear hFd hal
  have hX : Blk (w'.alloc (.cells x.row 44)).drew w'.heap.size 44 x.row := Blk.new _ _ _
  have hcA : Chg (fun _ => False) w' (w'.alloc (.cells x.row 44)).drew := ((Chg.refl _ w').alloc _).drew
  have hc5 := hc.trans hcA (fun _ _ h => h.elim)
  have hP5 := hP'.chg hcA id id (fun _ _ => id)
  have hL5 := hL.chg hcA id
  have hO5 := hO.chg hcA id
  have hXL : L ≤ w'.heap.size := hLe ▸ hc.size
  clear hcA hc hP' hL hO cL cB cO hlk
  simp only [Ent.row] at hX hP5 hL5 hO5 hc5
  generalize w'.heap.size = X at *
  generalize (w'.alloc (.cells #[.int .i64 x.st, .int .i64 x.un, .int .i64 x.til, .int .i64 x.cu, .int .i64 x.am] 44)).drew = w5 at *
  have hcD : Chg (fun _ => False) w5 w5.drew := (Chg.refl _ w5).drew
  have hP7 := hP5.chg hcD id id (fun _ _ => id)
  have hX7 := hX.chg hcD id
  have hL7 := hL5.chg hcD id
  have hO7 := hO5.chg hcD id
  have hc7 : Chg (fun i => i = b ∨ i = mb ∨ lv.ownBlock = some i) w w5.drew := hc5.drew.mono (fun _ _ h => h.elim)
  clear hcD
  have cO0 : w5.cell? ⟨O, 0, none⟩ = some (.int .i64 o.kd) := by rw [hO5.cell]; rfl
  have cO3 : w5.cell? ⟨O, 3, none⟩ = some (.int .i64 o.cu) := by rw [hO5.cell]; rfl
  have cO4 : w5.cell? ⟨O, 4, none⟩ = some (.int .i64 o.am) := by rw [hO5.cell]; rfl
  have cX0 : w5.cell? ⟨X, 0, none⟩ = some (.int .i64 x.st) := by rw [hX.cell]; rfl
  have cX3 : w5.cell? ⟨X, 3, none⟩ = some (.int .i64 x.cu) := by rw [hX.cell]; rfl
  have cX4 : w5.cell? ⟨X, 4, none⟩ = some (.int .i64 x.am) := by rw [hX.cell]; rfl
  have cL0 : w5.cell? ⟨L, 0, none⟩ = some (.pointer (some ⟨b, 0, none⟩)) := by rw [hL5.cell]; rfl
  have k5 := k5_h.out
  have s4' := s4'_h.out
  have s4 : x.st = 0 := by rw [hxh.out]; exact s4'
  clear s4'
  refine wp_region_plan (by kernel_rfl) [] [0, 1, 2, 3, 4, 5, 6, 7, 8, 9, 10, 11, 12, 13, 14, 15, 16, 17, 18, 19, 20] (by kernel_rfl) (fun _ _ => True) ?_
  simp only [wpPlan, opsAt_cons, opsAt_nil, consO_some, List.getElem?_toArray, List.getElem?_cons_succ, List.getElem?_cons_zero]
  go_wp2
  refine ⟨by kernel_rfl, ?_⟩
  go_wp2_with (go_at_call 30; refine (stay_any w5.drew b mb X O L lv p o x _ hP7 hX7 hO7 hL7 hxh.out hbk).mono ?_; rintro e w6 ⟨rfl, hP6, hc6⟩)
  all_goals
    have hact : p.act o = (if x.st = 5 then 1 else 2, p.stay o.bk) := by rw [Pur.act, if_neg (by simp [hm])]; simp [← hxh.out, k5, s4]
    go_ret
    rw [hact]
    refine ⟨?_, lv, hP6, (hc7.mono (fun _ _ h => h)).trans hc6 (fun i _ h => .inr (.inl h)), .inl rfl⟩
    simp [*]
end Go.Proofs.Ytddnpjlcmokbiaa

namespace Go.Proofs.Ytddnpjlcmokbiaa
open Go.RowKit Go.Maps

set_option maxRecDepth 100000 in
set_option maxHeartbeats 4000000 in
theorem do_5n3 (w : World) (b mb : Nat) (lv : Value) (p : Pur) (o : POp) (T : Int) (hP : PurAt w b mb lv p) (hG : p.Good T) (_hT : T ≤ 1125899906842624) (_hlen : p.ln.length ≤ 1000000) (k5 : o.kd = 5) (s4' : (p.en o.bk).st = 3) :
    Calls Try.prog 9 #[.pointer (some ⟨b, 0, none⟩), o.val] w fun e w' => e = .returned (.int .i64 (p.act o).1) ∧
      ∃ lv', PurAt w' b mb lv' (p.act o).2 ∧ Chg (fun i => i = b ∨ i = mb ∨ lv.ownBlock = some i) w w' ∧ (lv'.ownBlock = lv.ownBlock ∨ ∃ k, lv'.ownBlock = some k ∧ w.heap.size ≤ k) := by
  have k5_h := Lib.hid k5
  clear k5
  have s4'_h := Lib.hid s4'
  clear s4'
  go_enter Try.func9, Try.ntmps9
  unfold POp.val
  go_wp2_with (go_at_call 28; refine (mayOp_any o _).mono ?_; rintro e w' ⟨rfl, hw'⟩)
  · rename_i hm
    have hm : mayOp o = false := by cases e : mayOp o <;> simp_all
    have hc : Chg (fun _ => False) w w' := (((Chg.refl _ w).alloc _).alloc _).trans hw' (fun _ _ h => h.elim)
    go_ret
    have ha : p.act o = (2, p) := by unfold Pur.act; rw [if_pos hm]
    rw [ha]
    exact ⟨rfl, lv, hP.chg hc id id (fun _ _ => id), hc.mono (fun _ _ h => h.elim), .inl rfl⟩
  rename_i hm
  have hm : mayOp o = true := by cases e : mayOp o <;> simp_all
  have hbk := mayOp_bk hm
  have hL : Blk w' w.heap.size 24 #[.pointer (some ⟨b, 0, none⟩)] := ((Blk.new w _ _).alloc _).chg hw' id
  have hO : Blk w' (w.heap.size + 1) 33 o.row := by
    have h := (Blk.new (w.alloc (.cells #[.pointer (some ⟨b, 0, none⟩)] 24)) 33 o.row).chg hw' id
    simpa using h
  have hc : Chg (fun _ => False) w w' := (((Chg.refl _ w).alloc _).alloc _).trans hw' (fun _ _ h => h.elim)
  have hP' : PurAt w' b mb lv p := hP.chg hc id id (fun _ _ => id)
  clear hw'
  generalize hLe : w.heap.size = L at *
  generalize hOe : L + 1 = O at *
  have hLO : L ≠ O := by omega
  obtain ⟨x, hx⟩ : ∃ x, x = p.en o.bk := ⟨_, rfl⟩
  have hxh := Lib.hid hx
  have hFd : ∀ w1, (∀ g, g < w'.heap.size → w1.heap[g]? = w'.heap[g]?) → w1.cell? ⟨L, 0, none⟩ = some (.pointer (some ⟨b, 0, none⟩)) ∧ w1.cell? ⟨b, 6, none⟩ = some (.map (some mb)) ∧ w1.cell? ⟨O, 1, none⟩ = some (.int .i64 o.bk) ∧
      (Instr.lookup 64 (.map (some mb)) (.int .i64 o.bk) false).run Try.prog w1 = .ok (.agg #[.int .i64 x.st, .int .i64 x.un, .int .i64 x.til, .int .i64 x.cu, .int .i64 x.am]) w1 := by
    intro w1 hb
    refine ⟨?_, ?_, ?_, ?_⟩
    · rw [(hL.keep (hb _ hL.lt)).cell]; rfl
    · rw [(hP'.blk.keep (hb _ hP'.blk.lt)).cell]; rfl
    · rw [(hO.keep (hb _ hO.lt)).cell]; rfl
    · have h := (hP'.map.keep (hb _ hP'.map.lt)).look law3 encI_inj (entMap_keys hP.keys) (e := 44) (t := 64) Try.underlying64 (zeroEnt w1) (a := o.bk) (keyI hbk) false
      rw [entMap_getD _ _ hG.non, ← hx] at h
      exact h
  refine wp_region_plan (by kernel_rfl) [{ fl := [0, 1, 2, 3, 4, 5, 6], long := [0, 3, 5, 6], ef := 7, keep := [0, 3, 5, 6] }, { fl := [], ef := 8 }] [] (by kernel_rfl) (fun _ w1 => w1.cell? ⟨L, 0, none⟩ = some (.pointer (some ⟨b, 0, none⟩)) ∧ w1.cell? ⟨b, 6, none⟩ = some (.map (some mb)) ∧ w1.cell? ⟨O, 1, none⟩ = some (.int .i64 o.bk) ∧
      (Instr.lookup 64 (.map (some mb)) (.int .i64 o.bk) false).run Try.prog w1 = .ok (.agg #[.int .i64 x.st, .int .i64 x.un, .int .i64 x.til, .int .i64 x.cu, .int .i64 x.am]) w1) ?_
  simp only [wpPlan, longOK, keepOK, opsAt_cons, opsAt_nil, consO_some, List.getElem?_toArray, List.getElem?_cons_succ, List.getElem?_cons_zero, and_true, true_and]
  clear hx
  have hF0 := hFd w'.drew (fun _ _ => rfl)
  refine ⟨⟨hF0, hF0, hF0, hF0⟩, ?_⟩
  have hF1 := hFd w' (fun _ _ => rfl)
  obtain ⟨_, _, _, hlk⟩ := hF0
  obtain ⟨cL, cB, cO, _⟩ := hF1
  go_wp2
  refine ⟨by kernel_rfl, ⟨?_, ?_, ?_, ?_⟩, ?_⟩
  · intro _ w1 ⟨h1, h2, h3, h4⟩
    go_simp
  · intro _ w1 ⟨h1, h2, h3, h4⟩
    go_simp
  · intro _ w1 ⟨h1, h2, h3, h4⟩
    go_simp
  · intro _ w1 ⟨h1, h2, h3, h4⟩
    go_simp
  go_wp2
  have hal : ∀ ob g, g < w'.heap.size → (w'.alloc ob).drew.heap[g]? = w'.heap[g]? := fun ob g hg => Below.heap_alloc w' ob g hg
  refine ⟨⟨hFd _ (hal _), hFd _ (hal _), hFd _ (hal _), hFd _ (hal _)⟩, ?_⟩
  go_wp2
  refine ⟨by kernel_rfl, ?_⟩
  go_wp2
  refine ⟨by kernel_rfl, ?_⟩
  go_wp2
  clear hFd hal
  have hX : Blk (w'.alloc (.cells x.row 44)).drew w'.heap.size 44 x.row := Blk.new _ _ _
  have hcA : Chg (fun _ => False) w' (w'.alloc (.cells x.row 44)).drew := ((Chg.refl _ w').alloc _).drew
  have hc5 := hc.trans hcA (fun _ _ h => h.elim)
  have hP5 := hP'.chg hcA id id (fun _ _ => id)
  have hL5 := hL.chg hcA id
  have hO5 := hO.chg hcA id
  have hXL : L ≤ w'.heap.size := hLe ▸ hc.size
  clear hcA hc hP' hL hO cL cB cO hlk
  simp only [Ent.row] at hX hP5 hL5 hO5 hc5
  generalize w'.heap.size = X at *
  generalize (w'.alloc (.cells #[.int .i64 x.st, .int .i64 x.un, .int .i64 x.til, .int .i64 x.cu, .int .i64 x.am] 44)).drew = w5 at *
  have hcD : Chg (fun _ => False) w5 w5.drew := (Chg.refl _ w5).drew
  have hP7 := hP5.chg hcD id id (fun _ _ => id)
  have hX7 := hX.chg hcD id
  have hL7 := hL5.chg hcD id
  have hO7 := hO5.chg hcD id
  have hc7 : Chg (fun i => i = b ∨ i = mb ∨ lv.ownBlock = some i) w w5.drew := hc5.drew.mono (fun _ _ h => h.elim)
  clear hcD
  have cO0 : w5.cell? ⟨O, 0, none⟩ = some (.int .i64 o.kd) := by rw [hO5.cell]; rfl
  have cO3 : w5.cell? ⟨O, 3, none⟩ = some (.int .i64 o.cu) := by rw [hO5.cell]; rfl
  have cO4 : w5.cell? ⟨O, 4, none⟩ = some (.int .i64 o.am) := by rw [hO5.cell]; rfl
  have cX0 : w5.cell? ⟨X, 0, none⟩ = some (.int .i64 x.st) := by rw [hX.cell]; rfl
  have cX3 : w5.cell? ⟨X, 3, none⟩ = some (.int .i64 x.cu) := by rw [hX.cell]; rfl
  have cX4 : w5.cell? ⟨X, 4, none⟩ = some (.int .i64 x.am) := by rw [hX.cell]; rfl
  have cL0 : w5.cell? ⟨L, 0, none⟩ = some (.pointer (some ⟨b, 0, none⟩)) := by rw [hL5.cell]; rfl
  have k5 := k5_h.out
  have s4' := s4'_h.out
  have s4 : x.st = 3 := by rw [hxh.out]; exact s4'
  clear s4'
  refine wp_region_plan (by kernel_rfl) [] [0, 1, 2, 3, 4, 5, 6, 7, 8, 9, 10, 11, 12, 13, 14, 15, 16, 17, 18, 19, 20] (by kernel_rfl) (fun _ _ => True) ?_
  simp only [wpPlan, opsAt_cons, opsAt_nil, consO_some, List.getElem?_toArray, List.getElem?_cons_succ, List.getElem?_cons_zero]
  go_wp2
  refine ⟨by kernel_rfl, ?_⟩
  go_wp2_with (go_at_call 30; refine (stay_any w5.drew b mb X O L lv p o x _ hP7 hX7 hO7 hL7 hxh.out hbk).mono ?_; rintro e w6 ⟨rfl, hP6, hc6⟩)
  all_goals
    have hact : p.act o = (if x.st = 5 then 1 else 2, p.stay o.bk) := by rw [Pur.act, if_neg (by simp [hm])]; simp [← hxh.out, k5, s4]
    go_ret
    rw [hact]
    refine ⟨?_, lv, hP6, (hc7.mono (fun _ _ h => h)).trans hc6 (fun i _ h => .inr (.inl h)), .inl rfl⟩
    simp [*]
end Go.Proofs.Ytddnpjlcmokbiaa

namespace Go.Proofs.Ytddnpjlcmokbiaa
open Go.RowKit Go.Maps

set_option maxRecDepth 100000 in
set_option maxHeartbeats 4000000 in
theorem do_5n5 (w : World) (b mb : Nat) (lv : Value) (p : Pur) (o : POp) (T : Int) (hP : PurAt w b mb lv p) (hG : p.Good T) (_hT : T ≤ 1125899906842624) (_hlen : p.ln.length ≤ 1000000) (k5 : o.kd = 5) (s4' : (p.en o.bk).st = 5) :
    Calls Try.prog 9 #[.pointer (some ⟨b, 0, none⟩), o.val] w fun e w' => e = .returned (.int .i64 (p.act o).1) ∧
      ∃ lv', PurAt w' b mb lv' (p.act o).2 ∧ Chg (fun i => i = b ∨ i = mb ∨ lv.ownBlock = some i) w w' ∧ (lv'.ownBlock = lv.ownBlock ∨ ∃ k, lv'.ownBlock = some k ∧ w.heap.size ≤ k) := by
  have k5_h := Lib.hid k5
  clear k5
  have s4'_h := Lib.hid s4'
  clear s4'
  go_enter Try.func9, Try.ntmps9
  unfold POp.val
  go_wp2_with (go_at_call 28; refine (mayOp_any o _).mono ?_; rintro e w' ⟨rfl, hw'⟩)
  · rename_i hm
    have hm : mayOp o = false := by cases e : mayOp o <;> simp_all
    have hc : Chg (fun _ => False) w w' := (((Chg.refl _ w).alloc _).alloc _).trans hw' (fun _ _ h => h.elim)
    go_ret
    have ha : p.act o = (2, p) := by unfold Pur.act; rw [if_pos hm]
    rw [ha]
    exact ⟨rfl, lv, hP.chg hc id id (fun _ _ => id), hc.mono (fun _ _ h => h.elim), .inl rfl⟩
  rename_i hm
  have hm : mayOp o = true := by cases e : mayOp o <;> simp_all
  have hbk := mayOp_bk hm
  have hL : Blk w' w.heap.size 24 #[.pointer (some ⟨b, 0, none⟩)] := ((Blk.new w _ _).alloc _).chg hw' id
  have hO : Blk w' (w.heap.size + 1) 33 o.row := by
    have h := (Blk.new (w.alloc (.cells #[.pointer (some ⟨b, 0, none⟩)] 24)) 33 o.row).chg hw' id
    simpa using h
  have hc : Chg (fun _ => False) w w' := (((Chg.refl _ w).alloc _).alloc _).trans hw' (fun _ _ h => h.elim)
  have hP' : PurAt w' b mb lv p := hP.chg hc id id (fun _ _ => id)
  clear hw'
  generalize hLe : w.heap.size = L at *
  generalize hOe : L + 1 = O at *
  have hLO : L ≠ O := by omega
  obtain ⟨x, hx⟩ : ∃ x, x = p.en o.bk := ⟨_, rfl⟩
  have hxh := Lib.hid hx
  have hFd : ∀ w1, (∀ g, g < w'.heap.size → w1.heap[g]? = w'.heap[g]?) → w1.cell? ⟨L, 0, none⟩ = some (.pointer (some ⟨b, 0, none⟩)) ∧ w1.cell? ⟨b, 6, none⟩ = some (.map (some mb)) ∧ w1.cell? ⟨O, 1, none⟩ = some (.int .i64 o.bk) ∧
      (Instr.lookup 64 (.map (some mb)) (.int .i64 o.bk) false).run Try.prog w1 = .ok (.agg #[.int .i64 x.st, .int .i64 x.un, .int .i64 x.til, .int .i64 x.cu, .int .i64 x.am]) w1 := by
    intro w1 hb
    refine ⟨?_, ?_, ?_, ?_⟩
    · rw [(hL.keep (hb _ hL.lt)).cell]; rfl
    · rw [(hP'.blk.keep (hb _ hP'.blk.lt)).cell]; rfl
    · rw [(hO.keep (hb _ hO.lt)).cell]; rfl
    · have h := (hP'.map.keep (hb _ hP'.map.lt)).look law3 encI_inj (entMap_keys hP.keys) (e := 44) (t := 64) Try.underlying64 (zeroEnt w1) (a := o.bk) (keyI hbk) false
      rw [entMap_getD _ _ hG.non, ← hx] at h
      exact h
  refine wp_region_plan (by kernel_rfl) [{ fl := [0, 1, 2, 3, 4, 5, 6], long := [0, 3, 5, 6], ef := 7, keep := [0, 3, 5, 6] }, { fl := [], ef := 8 }] [] (by kernel_rfl) (fun _ w1 => w1.cell? ⟨L, 0, none⟩ = some (.pointer (some ⟨b, 0, none⟩)) ∧ w1.cell? ⟨b, 6, none⟩ = some (.map (some mb)) ∧ w1.cell? ⟨O, 1, none⟩ = some (.int .i64 o.bk) ∧
      (Instr.lookup 64 (.map (some mb)) (.int .i64 o.bk) false).run Try.prog w1 = .ok (.agg #[.int .i64 x.st, .int .i64 x.un, .int .i64 x.til, .int .i64 x.cu, .int .i64 x.am]) w1) ?_
  simp only [wpPlan, longOK, keepOK, opsAt_cons, opsAt_nil, consO_some, List.getElem?_toArray, List.getElem?_cons_succ, List.getElem?_cons_zero, and_true, true_and]
  clear hx
  have hF0 := hFd w'.drew (fun _ _ => rfl)
  refine ⟨⟨hF0, hF0, hF0, hF0⟩, ?_⟩
  have hF1 := hFd w' (fun _ _ => rfl)
  obtain ⟨_, _, _, hlk⟩ := hF0
  obtain ⟨cL, cB, cO, _⟩ := hF1
  go_wp2
  refine ⟨by kernel_rfl, ⟨?_, ?_, ?_, ?_⟩, ?_⟩
  · intro _ w1 ⟨h1, h2, h3, h4⟩
    go_simp
  · intro _ w1 ⟨h1, h2, h3, h4⟩
    go_simp
  · intro _ w1 ⟨h1, h2, h3, h4⟩
    go_simp
  · intro _ w1 ⟨h1, h2, h3, h4⟩
    go_simp
  go_wp2
  have hal : ∀ ob g, g < w'.heap.size → (w'.alloc ob).drew.heap[g]? = w'.heap[g]? := fun ob g hg => Below.heap_alloc w' ob g hg
  refine ⟨⟨hFd _ (hal _), hFd _ (hal _), hFd _ (hal _), hFd _ (hal _)⟩, ?_⟩
  go_wp2
  refine ⟨by kernel_rfl, ?_⟩
  go_wp2
  refine ⟨by kernel_rfl, ?_⟩
  go_wp2
  clear hFd hal
  have hX : Blk (w'.alloc (.cells x.row 44)).drew w'.heap.size 44 x.row := Blk.new _ _ _
  have hcA : Chg (fun _ => False) w' (w'.alloc (.cells x.row 44)).drew := ((Chg.refl _ w').alloc _).drew
  have hc5 := hc.trans hcA (fun _ _ h => h.elim)
  have hP5 := hP'.chg hcA id id (fun _ _ => id)
  have hL5 := hL.chg hcA id
  have hO5 := hO.chg hcA id
  have hXL : L ≤ w'.heap.size := hLe ▸ hc.size
  clear hcA hc hP' hL hO cL cB cO hlk
  simp only [Ent.row] at hX hP5 hL5 hO5 hc5
  generalize w'.heap.size = X at *
  generalize (w'.alloc (.cells #[.int .i64 x.st, .int .i64 x.un, .int .i64 x.til, .int .i64 x.cu, .int .i64 x.am] 44)).drew = w5 at *
  have hcD : Chg (fun _ => False) w5 w5.drew := (Chg.refl _ w5).drew
  have hP7 := hP5.chg hcD id id (fun _ _ => id)
  have hX7 := hX.chg hcD id
  have hL7 := hL5.chg hcD id
  have hO7 := hO5.chg hcD id
  have hc7 : Chg (fun i => i = b ∨ i = mb ∨ lv.ownBlock = some i) w w5.drew := hc5.drew.mono (fun _ _ h => h.elim)
  clear hcD
  have cO0 : w5.cell? ⟨O, 0, none⟩ = some (.int .i64 o.kd) := by rw [hO5.cell]; rfl
  have cO3 : w5.cell? ⟨O, 3, none⟩ = some (.int .i64 o.cu) := by rw [hO5.cell]; rfl
  have cO4 : w5.cell? ⟨O, 4, none⟩ = some (.int .i64 o.am) := by rw [hO5.cell]; rfl
  have cX0 : w5.cell? ⟨X, 0, none⟩ = some (.int .i64 x.st) := by rw [hX.cell]; rfl
  have cX3 : w5.cell? ⟨X, 3, none⟩ = some (.int .i64 x.cu) := by rw [hX.cell]; rfl
  have cX4 : w5.cell? ⟨X, 4, none⟩ = some (.int .i64 x.am) := by rw [hX.cell]; rfl
  have cL0 : w5.cell? ⟨L, 0, none⟩ = some (.pointer (some ⟨b, 0, none⟩)) := by rw [hL5.cell]; rfl
  have k5 := k5_h.out
  have s4' := s4'_h.out
  have s4 : x.st = 5 := by rw [hxh.out]; exact s4'
  clear s4'
  refine wp_region_plan (by kernel_rfl) [] [0, 1, 2, 3, 4, 5, 6, 7, 8, 9, 10, 11, 12, 13, 14, 15, 16, 17, 18, 19, 20] (by kernel_rfl) (fun _ _ => True) ?_
  simp only [wpPlan, opsAt_cons, opsAt_nil, consO_some, List.getElem?_toArray, List.getElem?_cons_succ, List.getElem?_cons_zero]
  go_wp2
  refine ⟨by kernel_rfl, ?_⟩
  go_wp2_with (go_at_call 30; refine (stay_any w5.drew b mb X O L lv p o x _ hP7 hX7 hO7 hL7 hxh.out hbk).mono ?_; rintro e w6 ⟨rfl, hP6, hc6⟩)
  all_goals
    have hact : p.act o = (if x.st = 5 then 1 else 2, p.stay o.bk) := by rw [Pur.act, if_neg (by simp [hm])]; simp [← hxh.out, k5, s4]
    go_ret
    rw [hact]
    refine ⟨?_, lv, hP6, (hc7.mono (fun _ _ h => h)).trans hc6 (fun i _ h => .inr (.inl h)), .inl rfl⟩
    simp [*]
end Go.Proofs.Ytddnpjlcmokbiaa
