/-
  purse: Do by its contract.
-/
import Derived.Test.YtddnpjlcmokbiaaZEntM
import Derived.Test.YtddnpjlcmokbiaaRegionC
import Derived.Test.YtddnpjlcmokbiaaPurseN
import Derived.Test.YtddnpjlcmokbiaaZPurseP
import Derived.Test.YtddnpjlcmokbiaaPurseC5x
import Derived.Test.YtddnpjlcmokbiaaZPurseC6
import Derived.Maps.AppendAt
namespace Go.Proofs.Ytddnpjlcmokbiaa
open Go.RowKit Go.Maps

set_option maxRecDepth 100000 in
set_option maxHeartbeats 4000000 in
theorem do_o1 (w : World) (b mb : Nat) (lv : Value) (p : Pur) (o : POp) (T : Int) (hP : PurAt w b mb lv p) (hG : p.Good T) (_hT : T ≤ 1125899906842624) (_hlen : p.ln.length ≤ 1000000) (k : o.kd = 1) :
    Calls Try.prog 9 #[.pointer (some ⟨b, 0, none⟩), o.val] w fun e w' => e = .returned (.int .i64 (p.act o).1) ∧
      ∃ lv', PurAt w' b mb lv' (p.act o).2 ∧ Chg (fun i => i = b ∨ i = mb ∨ lv.ownBlock = some i) w w' ∧ (lv'.ownBlock = lv.ownBlock ∨ ∃ k, lv'.ownBlock = some k ∧ w.heap.size ≤ k) := by
  have k_h := Lib.hid k
  clear k
  go_enter Try.func9, Try.ntmps9
  unfold POp.val
  go_wp2_with (go_at_call 28; refine (mayOp_any o _).mono ?_; rintro e w' ⟨rfl, hw'⟩)
  · rename_i hm
    have hm : mayOp o = false := by cases e : mayOp o <;> simp_all
    have hc : Chg (fun _ => False) w w' := (((Chg.refl _ w).alloc _).alloc _).trans hw' (fun _ _ h => h.elim)
    go_ret
    have ha : p.act o = (2, p) := by unfold Pur.act; rw [if_pos hm]
    rw [ha]
    exact ⟨rfl, lv, hP.chg hc id id (fun _ _ => id), hc.mono (fun _ _ h => h.elim), .inl rfl⟩
  rename_i hm
  have hm : mayOp o = true := by cases e : mayOp o <;> simp_all
  have hbk := mayOp_bk hm
  have hL : Blk w' w.heap.size 24 #[.pointer (some ⟨b, 0, none⟩)] := ((Blk.new w _ _).alloc _).chg hw' id
  have hO : Blk w' (w.heap.size + 1) 33 o.row := by
    have h := (Blk.new (w.alloc (.cells #[.pointer (some ⟨b, 0, none⟩)] 24)) 33 o.row).chg hw' id
    simpa using h
  have hc : Chg (fun _ => False) w w' := (((Chg.refl _ w).alloc _).alloc _).trans hw' (fun _ _ h => h.elim)
  have hP' : PurAt w' b mb lv p := hP.chg hc id id (fun _ _ => id)
  clear hw'
  generalize hLe : w.heap.size = L at *
  generalize hOe : L + 1 = O at *
  have hLO : L ≠ O := by omega
  obtain ⟨x, hx⟩ : ∃ x, x = p.en o.bk := ⟨_, rfl⟩
  have hxh := Lib.hid hx
  have hFd : ∀ w1, (∀ g, g < w'.heap.size → w1.heap[g]? = w'.heap[g]?) → w1.cell? ⟨L, 0, none⟩ = some (.pointer (some ⟨b, 0, none⟩)) ∧ w1.cell? ⟨b, 6, none⟩ = some (.map (some mb)) ∧ w1.cell? ⟨O, 1, none⟩ = some (.int .i64 o.bk) ∧
      (Instr.lookup 64 (.map (some mb)) (.int .i64 o.bk) false).run Try.prog w1 = .ok (.agg #[.int .i64 x.st, .int .i64 x.un, .int .i64 x.til, .int .i64 x.cu, .int .i64 x.am]) w1 := by
    intro w1 hb
    refine ⟨?_, ?_, ?_, ?_⟩
    · rw [(hL.keep (hb _ hL.lt)).cell]; rfl
    · rw [(hP'.blk.keep (hb _ hP'.blk.lt)).cell]; rfl
    · rw [(hO.keep (hb _ hO.lt)).cell]; rfl
    · have h := (hP'.map.keep (hb _ hP'.map.lt)).look law3 encI_inj (entMap_keys hP.keys) (e := 44) (t := 64) Try.underlying64 (zeroEnt w1) (a := o.bk) (keyI hbk) false
      rw [entMap_getD _ _ hG.non, ← hx] at h
      exact h
  refine wp_region_plan (by kernel_rfl) [{ fl := [0, 1, 2, 3, 4, 5, 6], long := [0, 3, 5, 6], ef := 7, keep := [0, 3, 5, 6] }, { fl := [], ef := 8 }] [] (by kernel_rfl) (fun _ w1 => w1.cell? ⟨L, 0, none⟩ = some (.pointer (some ⟨b, 0, none⟩)) ∧ w1.cell? ⟨b, 6, none⟩ = some (.map (some mb)) ∧ w1.cell? ⟨O, 1, none⟩ = some (.int .i64 o.bk) ∧
      (Instr.lookup 64 (.map (some mb)) (.int .i64 o.bk) false).run Try.prog w1 = .ok (.agg #[.int .i64 x.st, .int .i64 x.un, .int .i64 x.til, .int .i64 x.cu, .int .i64 x.am]) w1) ?_
  simp only [wpPlan, longOK, keepOK, opsAt_cons, opsAt_nil, consO_some, List.getElem?_toArray, List.getElem?_cons_succ, List.getElem?_cons_zero, and_true, true_and]
  clear hx
  have hF0 := hFd w'.drew (fun _ _ => rfl)
  refine ⟨⟨hF0, hF0, hF0, hF0⟩, ?_⟩
  have hF1 := hFd w' (fun _ _ => rfl)
  obtain ⟨_, _, _, hlk⟩ := hF0
  obtain ⟨cL, cB, cO, _⟩ := hF1
  go_wp2
  refine ⟨by kernel_rfl, ⟨?_, ?_, ?_, ?_⟩, ?_⟩
  · intro _ w1 ⟨h1, h2, h3, h4⟩
    go_simp
  · intro _ w1 ⟨h1, h2, h3, h4⟩
    go_simp
  · intro _ w1 ⟨h1, h2, h3, h4⟩
    go_simp
  · intro _ w1 ⟨h1, h2, h3, h4⟩
    go_simp
  go_wp2
  have hal : ∀ ob g, g < w'.heap.size → (w'.alloc ob).drew.heap[g]? = w'.heap[g]? := fun ob g hg => Below.heap_alloc w' ob g hg
  refine ⟨⟨hFd _ (hal _), hFd _ (hal _), hFd _ (hal _), hFd _ (hal _)⟩, ?_⟩
  go_wp2
  refine ⟨by kernel_rfl, ?_⟩
  go_wp2
  refine ⟨by kernel_rfl, ?_⟩
  go_wp2
  clear hFd hal
  have hX : Blk (w'.alloc (.cells x.row 44)).drew w'.heap.size 44 x.row := Blk.new _ _ _
  have hcA : Chg (fun _ => False) w' (w'.alloc (.cells x.row 44)).drew := ((Chg.refl _ w').alloc _).drew
  have hc5 := hc.trans hcA (fun _ _ h => h.elim)
  have hP5 := hP'.chg hcA id id (fun _ _ => id)
  have hL5 := hL.chg hcA id
  have hO5 := hO.chg hcA id
  have hXL : L ≤ w'.heap.size := hLe ▸ hc.size
  clear hcA hc hP' hL hO cL cB cO hlk
  simp only [Ent.row] at hX hP5 hL5 hO5 hc5
  generalize w'.heap.size = X at *
  generalize (w'.alloc (.cells #[.int .i64 x.st, .int .i64 x.un, .int .i64 x.til, .int .i64 x.cu, .int .i64 x.am] 44)).drew = w5 at *
  have hcD : Chg (fun _ => False) w5 w5.drew := (Chg.refl _ w5).drew
  have hP7 := hP5.chg hcD id id (fun _ _ => id)
  have hX7 := hX.chg hcD id
  have hL7 := hL5.chg hcD id
  have hO7 := hO5.chg hcD id
  have hc7 : Chg (fun i => i = b ∨ i = mb ∨ lv.ownBlock = some i) w w5.drew := hc5.drew.mono (fun _ _ h => h.elim)
  clear hcD
  have cO0 : w5.cell? ⟨O, 0, none⟩ = some (.int .i64 o.kd) := by rw [hO5.cell]; rfl
  have cO3 : w5.cell? ⟨O, 3, none⟩ = some (.int .i64 o.cu) := by rw [hO5.cell]; rfl
  have cO4 : w5.cell? ⟨O, 4, none⟩ = some (.int .i64 o.am) := by rw [hO5.cell]; rfl
  have cX0 : w5.cell? ⟨X, 0, none⟩ = some (.int .i64 x.st) := by rw [hX.cell]; rfl
  have cX3 : w5.cell? ⟨X, 3, none⟩ = some (.int .i64 x.cu) := by rw [hX.cell]; rfl
  have cX4 : w5.cell? ⟨X, 4, none⟩ = some (.int .i64 x.am) := by rw [hX.cell]; rfl
  have cL0 : w5.cell? ⟨L, 0, none⟩ = some (.pointer (some ⟨b, 0, none⟩)) := by rw [hL5.cell]; rfl
  have k := k_h.out
  refine wp_region_plan (by kernel_rfl) [] [0, 1, 2, 3, 4, 5, 6, 7, 8, 9, 10, 11, 12, 13, 14, 15, 16, 17, 18, 19, 20] (by kernel_rfl) (fun _ _ => True) ?_
  simp only [wpPlan, opsAt_cons, opsAt_nil, consO_some, List.getElem?_toArray, List.getElem?_cons_succ, List.getElem?_cons_zero]
  go_wp2
  refine ⟨by kernel_rfl, ?_⟩
  have hact : p.act o = (2, p) := by rw [Pur.act, if_neg (by simp [hm])]; simp [k]
  go_wp2
  go_ret
  rw [hact]
  exact ⟨rfl, lv, hP7, hc7, .inl rfl⟩
end Go.Proofs.Ytddnpjlcmokbiaa

namespace Go.Proofs.Ytddnpjlcmokbiaa
open Go.RowKit Go.Maps

set_option maxRecDepth 100000 in
set_option maxHeartbeats 4000000 in
theorem do_o2 (w : World) (b mb : Nat) (lv : Value) (p : Pur) (o : POp) (T : Int) (hP : PurAt w b mb lv p) (hG : p.Good T) (_hT : T ≤ 1125899906842624) (_hlen : p.ln.length ≤ 1000000) (k : o.kd = 2) :
    Calls Try.prog 9 #[.pointer (some ⟨b, 0, none⟩), o.val] w fun e w' => e = .returned (.int .i64 (p.act o).1) ∧
      ∃ lv', PurAt w' b mb lv' (p.act o).2 ∧ Chg (fun i => i = b ∨ i = mb ∨ lv.ownBlock = some i) w w' ∧ (lv'.ownBlock = lv.ownBlock ∨ ∃ k, lv'.ownBlock = some k ∧ w.heap.size ≤ k) := by
  have k_h := Lib.hid k
  clear k
  go_enter Try.func9, Try.ntmps9
  unfold POp.val
  go_wp2_with (go_at_call 28; refine (mayOp_any o _).mono ?_; rintro e w' ⟨rfl, hw'⟩)
  · rename_i hm
    have hm : mayOp o = false := by cases e : mayOp o <;> simp_all
    have hc : Chg (fun _ => False) w w' := (((Chg.refl _ w).alloc _).alloc _).trans hw' (fun _ _ h => h.elim)
    go_ret
    have ha : p.act o = (2, p) := by unfold Pur.act; rw [if_pos hm]
    rw [ha]
    exact ⟨rfl, lv, hP.chg hc id id (fun _ _ => id), hc.mono (fun _ _ h => h.elim), .inl rfl⟩
  rename_i hm
  have hm : mayOp o = true := by cases e : mayOp o <;> simp_all
  have hbk := mayOp_bk hm
  have hL : Blk w' w.heap.size 24 #[.pointer (some ⟨b, 0, none⟩)] := ((Blk.new w _ _).alloc _).chg hw' id
  have hO : Blk w' (w.heap.size + 1) 33 o.row := by
    have h := (Blk.new (w.alloc (.cells #[.pointer (some ⟨b, 0, none⟩)] 24)) 33 o.row).chg hw' id
    simpa using h
  have hc : Chg (fun _ => False) w w' := (((Chg.refl _ w).alloc _).alloc _).trans hw' (fun _ _ h => h.elim)
  have hP' : PurAt w' b mb lv p := hP.chg hc id id (fun _ _ => id)
  clear hw'
  generalize hLe : w.heap.size = L at *
  generalize hOe : L + 1 = O at *
  have hLO : L ≠ O := by omega
  obtain ⟨x, hx⟩ : ∃ x, x = p.en o.bk := ⟨_, rfl⟩
  have hxh := Lib.hid hx
  have hFd : ∀ w1, (∀ g, g < w'.heap.size → w1.heap[g]? = w'.heap[g]?) → w1.cell? ⟨L, 0, none⟩ = some (.pointer (some ⟨b, 0, none⟩)) ∧ w1.cell? ⟨b, 6, none⟩ = some (.map (some mb)) ∧ w1.cell? ⟨O, 1, none⟩ = some (.int .i64 o.bk) ∧
      (Instr.lookup 64 (.map (some mb)) (.int .i64 o.bk) false).run Try.prog w1 = .ok (.agg #[.int .i64 x.st, .int .i64 x.un, .int .i64 x.til, .int .i64 x.cu, .int .i64 x.am]) w1 := by
    intro w1 hb
    refine ⟨?_, ?_, ?_, ?_⟩
    · rw [(hL.keep (hb _ hL.lt)).cell]; rfl
    · rw [(hP'.blk.keep (hb _ hP'.blk.lt)).cell]; rfl
    · rw [(hO.keep (hb _ hO.lt)).cell]; rfl
    · have h := (hP'.map.keep (hb _ hP'.map.lt)).look law3 encI_inj (entMap_keys hP.keys) (e := 44) (t := 64) Try.underlying64 (zeroEnt w1) (a := o.bk) (keyI hbk) false
      rw [entMap_getD _ _ hG.non, ← hx] at h
      exact h
  refine wp_region_plan (by kernel_rfl) [{ fl := [0, 1, 2, 3, 4, 5, 6], long := [0, 3, 5, 6], ef := 7, keep := [0, 3, 5, 6] }, { fl := [], ef := 8 }] [] (by kernel_rfl) (fun _ w1 => w1.cell? ⟨L, 0, none⟩ = some (.pointer (some ⟨b, 0, none⟩)) ∧ w1.cell? ⟨b, 6, none⟩ = some (.map (some mb)) ∧ w1.cell? ⟨O, 1, none⟩ = some (.int .i64 o.bk) ∧
      (Instr.lookup 64 (.map (some mb)) (.int .i64 o.bk) false).run Try.prog w1 = .ok (.agg #[.int .i64 x.st, .int .i64 x.un, .int .i64 x.til, .int .i64 x.cu, .int .i64 x.am]) w1) ?_
  simp only [wpPlan, longOK, keepOK, opsAt_cons, opsAt_nil, consO_some, List.getElem?_toArray, List.getElem?_cons_succ, List.getElem?_cons_zero, and_true, true_and]
  clear hx
  have hF0 := hFd w'.drew (fun _ _ => rfl)
  refine ⟨⟨hF0, hF0, hF0, hF0⟩, ?_⟩
  have hF1 := hFd w' (fun _ _ => rfl)
  obtain ⟨_, _, _, hlk⟩ := hF0
  obtain ⟨cL, cB, cO, _⟩ := hF1
  go_wp2
  refine ⟨by kernel_rfl, ⟨?_, ?_, ?_, ?_⟩, ?_⟩
  · intro _ w1 ⟨h1, h2, h3, h4⟩
    go_simp
  · intro _ w1 ⟨h1, h2, h3, h4⟩
    go_simp
  · intro _ w1 ⟨h1, h2, h3, h4⟩
    go_simp
  · intro _ w1 ⟨h1, h2, h3, h4⟩
    go_simp
  go_wp2
  have hal : ∀ ob g, g < w'.heap.size → (w'.alloc ob).drew.heap[g]? = w'.heap[g]? := fun ob g hg => Below.heap_alloc w' ob g hg
  refine ⟨⟨hFd _ (hal _), hFd _ (hal _), hFd _ (hal _), hFd _ (hal _)⟩, ?_⟩
  go_wp2
  refine ⟨by kernel_rfl, ?_⟩
  go_wp2
  refine ⟨by kernel_rfl, ?_⟩
  go_wp2
  clear hFd hal
  have hX : Blk (w'.alloc (.cells x.row 44)).drew w'.heap.size 44 x.row := Blk.new _ _ _
  have hcA : Chg (fun _ => False) w' (w'.alloc (.cells x.row 44)).drew := ((Chg.refl _ w').alloc _).drew
  have hc5 := hc.trans hcA (fun _ _ h => h.elim)
  have hP5 := hP'.chg hcA id id (fun _ _ => id)
  have hL5 := hL.chg hcA id
  have hO5 := hO.chg hcA id
  have hXL : L ≤ w'.heap.size := hLe ▸ hc.size
  clear hcA hc hP' hL hO cL cB cO hlk
  simp only [Ent.row] at hX hP5 hL5 hO5 hc5
  generalize w'.heap.size = X at *
  generalize (w'.alloc (.cells #[.int .i64 x.st, .int .i64 x.un, .int .i64 x.til, .int .i64 x.cu, .int .i64 x.am] 44)).drew = w5 at *
  have hcD : Chg (fun _ => False) w5 w5.drew := (Chg.refl _ w5).drew
  have hP7 := hP5.chg hcD id id (fun _ _ => id)
  have hX7 := hX.chg hcD id
  have hL7 := hL5.chg hcD id
  have hO7 := hO5.chg hcD id
  have hc7 : Chg (fun i => i = b ∨ i = mb ∨ lv.ownBlock = some i) w w5.drew := hc5.drew.mono (fun _ _ h => h.elim)
  clear hcD
  have cO0 : w5.cell? ⟨O, 0, none⟩ = some (.int .i64 o.kd) := by rw [hO5.cell]; rfl
  have cO3 : w5.cell? ⟨O, 3, none⟩ = some (.int .i64 o.cu) := by rw [hO5.cell]; rfl
  have cO4 : w5.cell? ⟨O, 4, none⟩ = some (.int .i64 o.am) := by rw [hO5.cell]; rfl
  have cX0 : w5.cell? ⟨X, 0, none⟩ = some (.int .i64 x.st) := by rw [hX.cell]; rfl
  have cX3 : w5.cell? ⟨X, 3, none⟩ = some (.int .i64 x.cu) := by rw [hX.cell]; rfl
  have cX4 : w5.cell? ⟨X, 4, none⟩ = some (.int .i64 x.am) := by rw [hX.cell]; rfl
  have cL0 : w5.cell? ⟨L, 0, none⟩ = some (.pointer (some ⟨b, 0, none⟩)) := by rw [hL5.cell]; rfl
  have k := k_h.out
  refine wp_region_plan (by kernel_rfl) [] [0, 1, 2, 3, 4, 5, 6, 7, 8, 9, 10, 11, 12, 13, 14, 15, 16, 17, 18, 19, 20] (by kernel_rfl) (fun _ _ => True) ?_
  simp only [wpPlan, opsAt_cons, opsAt_nil, consO_some, List.getElem?_toArray, List.getElem?_cons_succ, List.getElem?_cons_zero]
  go_wp2
  refine ⟨by kernel_rfl, ?_⟩
  have hact : p.act o = (2, p) := by rw [Pur.act, if_neg (by simp [hm])]; simp [k]
  go_wp2
  go_ret
  rw [hact]
  exact ⟨rfl, lv, hP7, hc7, .inl rfl⟩
end Go.Proofs.Ytddnpjlcmokbiaa

namespace Go.Proofs.Ytddnpjlcmokbiaa
open Go.RowKit Go.Maps

set_option maxRecDepth 100000 in
set_option maxHeartbeats 4000000 in
theorem do_o3 (w : World) (b mb : Nat) (lv : Value) (p : Pur) (o : POp) (T : Int) (hP : PurAt w b mb lv p) (hG : p.Good T) (_hT : T ≤ 1125899906842624) (_hlen : p.ln.length ≤ 1000000) (k : o.kd = 3) :
    Calls Try.prog 9 #[.pointer (some ⟨b, 0, none⟩), o.val] w fun e w' => e = .returned (.int .i64 (p.act o).1) ∧
      ∃ lv', PurAt w' b mb lv' (p.act o).2 ∧ Chg (fun i => i = b ∨ i = mb ∨ lv.ownBlock = some i) w w' ∧ (lv'.ownBlock = lv.ownBlock ∨ ∃ k, lv'.ownBlock = some k ∧ w.heap.size ≤ k) := by
  have k_h := Lib.hid k
  clear k
  go_enter Try.func9, Try.ntmps9
  unfold POp.val
  go_wp2_with (go_at_call 28; refine (mayOp_any o _).mono ?_; rintro e w' ⟨rfl, hw'⟩)
  · rename_i hm
    have hm : mayOp o = false := by cases e : mayOp o <;> simp_all
    have hc : Chg (fun _ => False) w w' := (((Chg.refl _ w).alloc _).alloc _).trans hw' (fun _ _ h => h.elim)
    go_ret
    have ha : p.act o = (2, p) := by unfold Pur.act; rw [if_pos hm]
    rw [ha]
    exact ⟨rfl, lv, hP.chg hc id id (fun _ _ => id), hc.mono (fun _ _ h => h.elim), .inl rfl⟩
  rename_i hm
  have hm : mayOp o = true := by cases e : mayOp o <;> simp_all
  have hbk := mayOp_bk hm
  have hL : Blk w' w.heap.size 24 #[.pointer (some ⟨b, 0, none⟩)] := ((Blk.new w _ _).alloc _).chg hw' id
  have hO : Blk w' (w.heap.size + 1) 33 o.row := by
    have h := (Blk.new (w.alloc (.cells #[.pointer (some ⟨b, 0, none⟩)] 24)) 33 o.row).chg hw' id
    simpa using h
  have hc : Chg (fun _ => False) w w' := (((Chg.refl _ w).alloc _).alloc _).trans hw' (fun _ _ h => h.elim)
  have hP' : PurAt w' b mb lv p := hP.chg hc id id (fun _ _ => id)
  clear hw'
  generalize hLe : w.heap.size = L at *
  generalize hOe : L + 1 = O at *
  have hLO : L ≠ O := by omega
  obtain ⟨x, hx⟩ : ∃ x, x = p.en o.bk := ⟨_, rfl⟩
  have hxh := Lib.hid hx
  have hFd : ∀ w1, (∀ g, g < w'.heap.size → w1.heap[g]? = w'.heap[g]?) → w1.cell? ⟨L, 0, none⟩ = some (.pointer (some ⟨b, 0, none⟩)) ∧ w1.cell? ⟨b, 6, none⟩ = some (.map (some mb)) ∧ w1.cell? ⟨O, 1, none⟩ = some (.int .i64 o.bk) ∧
      (Instr.lookup 64 (.map (some mb)) (.int .i64 o.bk) false).run Try.prog w1 = .ok (.agg #[.int .i64 x.st, .int .i64 x.un, .int .i64 x.til, .int .i64 x.cu, .int .i64 x.am]) w1 := by
    intro w1 hb
    refine ⟨?_, ?_, ?_, ?_⟩
    · rw [(hL.keep (hb _ hL.lt)).cell]; rfl
    · rw [(hP'.blk.keep (hb _ hP'.blk.lt)).cell]; rfl
    · rw [(hO.keep (hb _ hO.lt)).cell]; rfl
    · have h := (hP'.map.keep (hb _ hP'.map.lt)).look law3 encI_inj (entMap_keys hP.keys) (e := 44) (t := 64) Try.underlying64 (zeroEnt w1) (a := o.bk) (keyI hbk) false
      rw [entMap_getD _ _ hG.non, ← hx] at h
      exact h
  refine wp_region_plan (by kernel_rfl) [{ fl := [0, 1, 2, 3, 4, 5, 6], long := [0, 3, 5, 6], ef := 7, keep := [0, 3, 5, 6] }, { fl := [], ef := 8 }] [] (by kernel_rfl) (fun _ w1 => w1.cell? ⟨L, 0, none⟩ = some (.pointer (some ⟨b, 0, none⟩)) ∧ w1.cell? ⟨b, 6, none⟩ = some (.map (some mb)) ∧ w1.cell? ⟨O, 1, none⟩ = some (.int .i64 o.bk) ∧
      (Instr.lookup 64 (.map (some mb)) (.int .i64 o.bk) false).run Try.prog w1 = .ok (.agg #[.int .i64 x.st, .int .i64 x.un, .int .i64 x.til, .int .i64 x.cu, .int .i64 x.am]) w1) ?_
  simp only [wpPlan, longOK, keepOK, opsAt_cons, opsAt_nil, consO_some, List.getElem?_toArray, List.getElem?_cons_succ, List.getElem?_cons_zero, and_true, true_and]
  clear hx
  have hF0 := hFd w'.drew (fun _ _ => rfl)
  refine ⟨⟨hF0, hF0, hF0, hF0⟩, ?_⟩
  have hF1 := hFd w' (fun _ _ => rfl)
  obtain ⟨_, _, _, hlk⟩ := hF0
  obtain ⟨cL, cB, cO, _⟩ := hF1
  go_wp2
  refine ⟨by kernel_rfl, ⟨?_, ?_, ?_, ?_⟩, ?_⟩
  · intro _ w1 ⟨h1, h2, h3, h4⟩
    go_simp
  · intro _ w1 ⟨h1, h2, h3, h4⟩
    go_simp
  · intro _ w1 ⟨h1, h2, h3, h4⟩
    go_simp
  · intro _ w1 ⟨h1, h2, h3, h4⟩
    go_simp
  go_wp2
  have hal : ∀ ob g, g < w'.heap.size → (w'.alloc ob).drew.heap[g]? = w'.heap[g]? := fun ob g hg => Below.heap_alloc w' ob g hg
  refine ⟨⟨hFd _ (hal _), hFd _ (hal _), hFd _ (hal _), hFd _ (hal _)⟩, ?_⟩
  go_wp2
  refine ⟨by kernel_rfl, ?_⟩
  go_wp2
  refine ⟨by kernel_rfl, ?_⟩
  go_wp2
  clear hFd hal
  have hX : Blk (w'.alloc (.cells x.row 44)).drew w'.heap.size 44 x.row := Blk.new _ _ _
  have hcA : Chg (fun _ => False) w' (w'.alloc (.cells x.row 44)).drew := ((Chg.refl _ w').alloc _).drew
  have hc5 := hc.trans hcA (fun _ _ h => h.elim)
  have hP5 := hP'.chg hcA id id (fun _ _ => id)
  have hL5 := hL.chg hcA id
  have hO5 := hO.chg hcA id
  have hXL : L ≤ w'.heap.size := hLe ▸ hc.size
  clear hcA hc hP' hL hO cL cB cO hlk
  simp only [Ent.row] at hX hP5 hL5 hO5 hc5
  generalize w'.heap.size = X at *
  generalize (w'.alloc (.cells #[.int .i64 x.st, .int .i64 x.un, .int .i64 x.til, .int .i64 x.cu, .int .i64 x.am] 44)).drew = w5 at *
  have hcD : Chg (fun _ => False) w5 w5.drew := (Chg.refl _ w5).drew
  have hP7 := hP5.chg hcD id id (fun _ _ => id)
  have hX7 := hX.chg hcD id
  have hL7 := hL5.chg hcD id
  have hO7 := hO5.chg hcD id
  have hc7 : Chg (fun i => i = b ∨ i = mb ∨ lv.ownBlock = some i) w w5.drew := hc5.drew.mono (fun _ _ h => h.elim)
  clear hcD
  have cO0 : w5.cell? ⟨O, 0, none⟩ = some (.int .i64 o.kd) := by rw [hO5.cell]; rfl
  have cO3 : w5.cell? ⟨O, 3, none⟩ = some (.int .i64 o.cu) := by rw [hO5.cell]; rfl
  have cO4 : w5.cell? ⟨O, 4, none⟩ = some (.int .i64 o.am) := by rw [hO5.cell]; rfl
  have cX0 : w5.cell? ⟨X, 0, none⟩ = some (.int .i64 x.st) := by rw [hX.cell]; rfl
  have cX3 : w5.cell? ⟨X, 3, none⟩ = some (.int .i64 x.cu) := by rw [hX.cell]; rfl
  have cX4 : w5.cell? ⟨X, 4, none⟩ = some (.int .i64 x.am) := by rw [hX.cell]; rfl
  have cL0 : w5.cell? ⟨L, 0, none⟩ = some (.pointer (some ⟨b, 0, none⟩)) := by rw [hL5.cell]; rfl
  have k := k_h.out
  refine wp_region_plan (by kernel_rfl) [] [0, 1, 2, 3, 4, 5, 6, 7, 8, 9, 10, 11, 12, 13, 14, 15, 16, 17, 18, 19, 20] (by kernel_rfl) (fun _ _ => True) ?_
  simp only [wpPlan, opsAt_cons, opsAt_nil, consO_some, List.getElem?_toArray, List.getElem?_cons_succ, List.getElem?_cons_zero]
  go_wp2
  refine ⟨by kernel_rfl, ?_⟩
  have hact : p.act o = (2, p) := by rw [Pur.act, if_neg (by simp [hm])]; simp [k]
  go_wp2
  go_ret
  rw [hact]
  exact ⟨rfl, lv, hP7, hc7, .inl rfl⟩
end Go.Proofs.Ytddnpjlcmokbiaa

namespace Go.Proofs.Ytddnpjlcmokbiaa
open Go.RowKit Go.Maps

set_option maxRecDepth 100000 in
theorem do_no (w : World) (b mb : Nat) (lv : Value) (p : Pur) (o : POp) (hP : PurAt w b mb lv p) (hm : mayOp o = false) :
    Calls Try.prog 9 #[.pointer (some ⟨b, 0, none⟩), o.val] w fun e w' => e = .returned (.int .i64 (p.act o).1) ∧
      ∃ lv', PurAt w' b mb lv' (p.act o).2 ∧ Chg (fun i => i = b ∨ i = mb ∨ lv.ownBlock = some i) w w' ∧ (lv'.ownBlock = lv.ownBlock ∨ ∃ k, lv'.ownBlock = some k ∧ w.heap.size ≤ k) := by
  have hmh := Lib.hid hm
  go_enter Try.func9, Try.ntmps9
  unfold POp.val
  go_wp2_with (go_at_call 28; refine (mayOp_any o _).mono ?_; rintro e w' ⟨rfl, hw'⟩)
  have hc : Chg (fun _ => False) w w' := (((Chg.refl _ w).alloc _).alloc _).trans hw' (fun _ _ h => h.elim)
  go_ret
  have ha : p.act o = (2, p) := by unfold Pur.act; rw [if_pos hmh.out]
  rw [ha]
  exact ⟨rfl, lv, hP.chg hc id id (fun _ _ => id), hc.mono (fun _ _ h => h.elim), .inl rfl⟩

theorem do_any (w : World) (b mb : Nat) (lv : Value) (p : Pur) (o : POp) (T : Int) (hP : PurAt w b mb lv p) (hG : p.Good T) (hT : T ≤ 1125899906842624) (hlen : p.ln.length ≤ 1000000) :
    Calls Try.prog 9 #[.pointer (some ⟨b, 0, none⟩), o.val] w fun e w' => e = .returned (.int .i64 (p.act o).1) ∧
      ∃ lv', PurAt w' b mb lv' (p.act o).2 ∧ Chg (fun i => i = b ∨ i = mb ∨ lv.ownBlock = some i) w w' ∧ (lv'.ownBlock = lv.ownBlock ∨ ∃ k, lv'.ownBlock = some k ∧ w.heap.size ≤ k) := by
  rcases Bool.eq_false_or_eq_true (mayOp o) with hm | hm
  · have hk := mayOp_kd hm
    have hs := hG.sts o.bk
    have : o.kd = 1 ∨ o.kd = 2 ∨ o.kd = 3 ∨ o.kd = 4 ∨ o.kd = 5 ∨ o.kd = 6 := by omega
    rcases this with k | k | k | k | k | k
    · exact do_o1 w b mb lv p o T hP hG hT hlen k
    · exact do_o2 w b mb lv p o T hP hG hT hlen k
    · exact do_o3 w b mb lv p o T hP hG hT hlen k
    · by_cases s0 : (p.en o.bk).st = 0
      · exact do_4a w b mb lv p o T hP hG hT hlen k s0
      · exact do_4b w b mb lv p o T hP hG hT hlen k s0
    · rcases hs with s | s | s | s
      · exact do_5n0 w b mb lv p o T hP hG hT hlen k s
      · exact do_5n3 w b mb lv p o T hP hG hT hlen k s
      · exact do_5 w b mb lv p o T hP hG hT hlen k s
      · exact do_5n5 w b mb lv p o T hP hG hT hlen k s
    · rcases hs with s | s | s | s
      · exact do_6n0 w b mb lv p o T hP hG hT hlen k s
      · exact do_6n3 w b mb lv p o T hP hG hT hlen k s
      · exact do_6a w b mb lv p o T hP hG hT hlen k s
      · exact do_6b w b mb lv p o T hP hG hT hlen k s
  · exact do_no w b mb lv p o hP hm

end Go.Proofs.Ytddnpjlcmokbiaa

namespace Go.Proofs.Ytddnpjlcmokbiaa
open Go.RowKit Go.Maps

def Pur.new (f : Int → Int) : Pur := ⟨fun i => if 0 ≤ i ∧ i ≤ 3 then f i else 0, fun _ => Ent.none, []⟩
def fundsVal (f : Int → Int) : Value := .agg #[.int .i64 (f 0), .int .i64 (f 1), .int .i64 (f 2), .int .i64 (f 3)]
def fundsOK (f : Int → Int) : Bool := decide (0 ≤ f 0 ∧ f 0 ≤ 1099511627776) && decide (0 ≤ f 1 ∧ f 1 ≤ 1099511627776) && decide (0 ≤ f 2 ∧ f 2 ≤ 1099511627776) && decide (0 ≤ f 3 ∧ f 3 ≤ 1099511627776)

set_option maxRecDepth 100000 in
set_option maxHeartbeats 4000000 in
theorem new_ok (w : World) (a b c d : Int) (ha : 0 ≤ a ∧ a ≤ 1099511627776) (hb : 0 ≤ b ∧ b ≤ 1099511627776) (hc : 0 ≤ c ∧ c ≤ 1099511627776) (hd : 0 ≤ d ∧ d ≤ 1099511627776) :
    Calls Try.prog 5 #[.agg #[.int .i64 a, .int .i64 b, .int .i64 c, .int .i64 d]] w fun e w' => e = .returned (.tuple #[.pointer (some ⟨w.heap.size + 2, 0, none⟩), .int .i64 0]) ∧
      w' = ((w.alloc (.cells #[.int .i64 a, .int .i64 b, .int .i64 c, .int .i64 d] 22)).alloc (.map #[] 0)).alloc (.cells #[.int .i64 a, .int .i64 b, .int .i64 c, .int .i64 d, .int .i64 0, .int .i64 0, .map (some (w.heap.size + 1)), .slice none 0 0] 66) := by
  have hmm := @run_makeMap Try.prog
  have i0 : ∀ w1, (Instr.index 22 (.agg #[.int .i64 a, .int .i64 b, .int .i64 c, .int .i64 d]) (.int .i64 0)).run Try.prog w1 = .ok (.int .i64 a) w1 := fun w1 => by kernel_rfl
  have i1 : ∀ w1, (Instr.index 22 (.agg #[.int .i64 a, .int .i64 b, .int .i64 c, .int .i64 d]) (.int .i64 1)).run Try.prog w1 = .ok (.int .i64 b) w1 := fun w1 => by kernel_rfl
  have i2 : ∀ w1, (Instr.index 22 (.agg #[.int .i64 a, .int .i64 b, .int .i64 c, .int .i64 d]) (.int .i64 2)).run Try.prog w1 = .ok (.int .i64 c) w1 := fun w1 => by kernel_rfl
  have i3 : ∀ w1, (Instr.index 22 (.agg #[.int .i64 a, .int .i64 b, .int .i64 c, .int .i64 d]) (.int .i64 3)).run Try.prog w1 = .ok (.int .i64 d) w1 := fun w1 => by kernel_rfl
  go_enter Try.func5, Try.ntmps5
  go_wp2
  refine wp_loop_rounds 5 ?_
  rw [rounds_succ]; go_wp2
  rw [rounds_succ]; go_wp2
  rw [rounds_succ]; go_wp2
  rw [rounds_succ]; go_wp2
  rw [rounds_succ]; go_wp2
  go_ret2
  exact ⟨rfl, rfl⟩

theorem Pur.new_good {f : Int → Int} (hf : ∀ i, 0 ≤ i → i ≤ 3 → 0 ≤ f i) : (Pur.new f).Good (f 0 + f 1 + f 2 + f 3) := by
  refine ⟨?_, ?_, ?_, ?_, ?_, ?_, ?_, ?_, ?_⟩
  · intro i h1 h2; simp only [Pur.new]; rw [if_pos ⟨h1, h2⟩]; exact hf i h1 h2
  · simp [Pur.new]
  · have : (fun b => Ent.inn 4 ((Pur.new f).en b)) = fun _ => 0 := rfl
    rw [this, tot_zero]; rfl
  · have : (fun b => Ent.inn 5 ((Pur.new f).en b)) = fun _ => 0 := rfl
    rw [this, tot_zero]; rfl
  all_goals intro i; simp [Pur.new, Ent.none]

theorem new_any (w : World) (f : Int → Int) (hf : ∀ i, 0 ≤ i → i ≤ 3 → 0 ≤ f i ∧ f i ≤ 1099511627776) :
    Calls Try.prog 5 #[fundsVal f] w fun e w' => ∃ b mb lv, e = .returned (.tuple #[.pointer (some ⟨b, 0, none⟩), .int .i64 0]) ∧
      PurAt w' b mb lv (Pur.new f) ∧ Chg (fun _ => False) w w' ∧ w.heap.size ≤ b ∧ w.heap.size ≤ mb ∧ lv.ownBlock = none := by
  refine (new_ok w (f 0) (f 1) (f 2) (f 3) (hf 0 (by omega) (by omega)) (hf 1 (by omega) (by omega)) (hf 2 (by omega) (by omega)) (hf 3 (by omega) (by omega))).mono ?_
  rintro e w' ⟨rfl, rfl⟩
  refine ⟨_, w.heap.size + 1, .slice none 0 0, rfl, ⟨?_, ?_, ?_, ?_⟩, (((Chg.refl _ w).alloc _).alloc _).alloc _, by omega, by omega, rfl⟩
  · have h := Blk.new ((w.alloc (.cells #[.int .i64 (f 0), .int .i64 (f 1), .int .i64 (f 2), .int .i64 (f 3)] 22)).alloc (.map #[] 0)) 66 (purRow (Pur.new f).ac (w.heap.size + 1) (.slice none 0 0))
    simpa [purRow, Pur.new] using h
  · have h := (MapOf.made (enc := encI) (w.alloc (.cells #[.int .i64 (f 0), .int .i64 (f 1), .int .i64 (f 2), .int .i64 (f 3)] 22))).chg (((Chg.refl (fun _ => False) _).alloc (.cells #[.int .i64 (f 0), .int .i64 (f 1), .int .i64 (f 2), .int .i64 (f 3), .int .i64 0, .int .i64 0, .map (some (w.heap.size + 1)), .slice none 0 0] 66))) id
    have e : entMap (Pur.new f).en = fun _ => none := rfl
    rw [e]; simpa using h
  · exact ⟨rfl, .inl ⟨rfl, rfl⟩⟩
  · intro k hk; exact absurd rfl hk
end Go.Proofs.Ytddnpjlcmokbiaa

namespace Go.Proofs.Ytddnpjlcmokbiaa
open Go.RowKit Go.Maps

set_option maxRecDepth 100000 in
theorem account_any (w : World) (b mb : Nat) (lv : Value) (p : Pur) (n : Nat) (hn : n < 6) (hP : PurAt w b mb lv p) :
    Calls Try.prog 48 #[.pointer (some ⟨b, 0, none⟩), .int .i64 n] w fun e w' => e = .returned (.int .i64 (p.ac n)) ∧ w' = w := by
  have cB : w.cell? ⟨b, n, none⟩ = some (.int .i64 (p.ac n)) := by rw [hP.blk.cell]; exact purRow_get _ _ _ _ hn
  have hb : (0 : Int) ≤ n ∧ (n : Int) < 6 := by omega
  go_enter Try.func48, Try.ntmps48
  go_wp2
  go_ret
  exact ⟨rfl, rfl⟩

set_option maxRecDepth 100000 in
theorem takings_any (w : World) (b mb : Nat) (lv : Value) (p : Pur) (hP : PurAt w b mb lv p) :
    Calls Try.prog 25 #[.pointer (some ⟨b, 0, none⟩)] w fun e w' => e = .returned (.int .i64 (p.ac 5)) ∧ w' = w := by
  go_enter Try.func25, Try.ntmps25
  go_wp2_with (go_at_call 48; refine (account_any _ b mb lv p 5 (by decide) hP).mono ?_; rintro e w' ⟨rfl, rfl⟩)
  go_ret
  exact ⟨rfl, rfl⟩

set_option maxRecDepth 100000 in
theorem balance_any (w : World) (b mb : Nat) (lv : Value) (p : Pur) (n : Nat) (hn : n < 4) (hP : PurAt w b mb lv p) :
    Calls Try.prog 24 #[.pointer (some ⟨b, 0, none⟩), .int .i64 n] w fun e w' => e = .returned (.int .i64 (p.ac n)) ∧ w' = w := by
  have hb : (0 : Int) ≤ n ∧ (n : Int) < 4 := by omega
  go_enter Try.func24, Try.ntmps24
  go_wp2_with (go_at_call 48; refine (account_any _ b mb lv p n (by omega) hP).mono ?_; rintro e w' ⟨rfl, rfl⟩)
  go_ret
  exact ⟨rfl, rfl⟩

set_option maxRecDepth 100000 in
theorem entry_any (w : World) (b mb : Nat) (lv : Value) (p : Pur) (k : Int) (hk : 1 ≤ k ∧ k ≤ 200) (hn : ∀ b, (p.en b).st = 0 → p.en b = Ent.none) (hP : PurAt w b mb lv p) :
    Calls Try.prog 27 #[.pointer (some ⟨b, 0, none⟩), .int .i64 k] w fun e w' => e = .returned (p.en k).val ∧ Chg (fun _ => False) w w' := by
  obtain ⟨x, hx⟩ : ∃ x, x = p.en k := ⟨_, rfl⟩
  have hxh := Lib.hid hx
  have hlk : ∀ w1, w1.heap[mb]? = w.heap[mb]? → (Instr.lookup 64 (.map (some mb)) (.int .i64 k) false).run Try.prog w1 = .ok (.agg #[.int .i64 x.st, .int .i64 x.un, .int .i64 x.til, .int .i64 x.cu, .int .i64 x.am]) w1 := by
    intro w1 h1
    have h := (hP.map.keep h1).look law3 encI_inj (entMap_keys hP.keys) (e := 44) (t := 64) Try.underlying64 (zeroEnt w1) (a := k) (keyI hk) false
    rw [entMap_getD _ _ hn, ← hx] at h
    exact h
  clear hx
  have h0 := hlk (w.alloc (.cells #[.int .i64 0, .int .i64 0, .int .i64 0, .int .i64 0, .int .i64 0] 44)) (Below.heap_alloc w _ mb hP.map.lt)
  clear hlk
  have cB : (w.alloc (.cells #[.int .i64 0, .int .i64 0, .int .i64 0, .int .i64 0, .int .i64 0] 44)).cell? ⟨b, 6, none⟩ = some (.map (some mb)) := by rw [(hP.blk.alloc _).cell]; rfl
  go_enter Try.func27, Try.ntmps27
  go_wp2
  refine bodyPost_ret (v := .agg #[.int .i64 x.st, .int .i64 x.un, .int .i64 x.til, .int .i64 x.cu, .int .i64 x.am]) (by simp [results, Try.results27, go_sem]) rfl ⟨?_, (Chg.refl _ _).alloc _⟩
  rw [← hxh.out]; rfl
end Go.Proofs.Ytddnpjlcmokbiaa
