/-
  layer 9: the reference's Do, holds. (Printed by wip/tools/genrefb.py.)
-/
import Derived.Test.YtkbnojjmpmlgjaaGreatZStockF
namespace Go.Proofs.YtkbnojjmpmlgjaaGreat
open Go.RowKit Go.Maps
variable {R : REnv}

set_option maxRecDepth 100000 in
set_option maxHeartbeats 4000000 in
theorem ref_do_10 {w : World} {x : Nat} {s : Stk} (h : RefAt R w x s) (hG : s.Good) (o : POp) (now : Int) (hm : mayOp o = true) (h3 : o.kd ≤ 3) (h0 : 0 ≤ now) (h1 : now ≤ 1099511627776) (hcase : o.kd = 1 ∧ (s.en o.bk).st = 0) :
    Calls Tryz.prog 27 #[.pointer (some ⟨x, 0, none⟩), o.val, .int .i64 now] w fun e w' => e = .returned (.int .i64 (s.act o now).1) ∧ RefAt R w' x (s.act o now).2 ∧ Chg (fun i => i = x) w w' := by
  have hcA := (Chg.refl (fun _ => False) w).alloc (.cells o.row 43)
  have hO := Blk.new w 43 o.row
  unfold POp.row at hcA
  have hbk := mayOp_bkS hm
  have htime : timeB now = true := by unfold timeB; simp [h0, h1]
  have hth := Lib.hid htime
  have hmh := Lib.hid hm
  clear htime hm
  obtain ⟨kd, bk, un, cu, am⟩ := o
  dsimp only at h3 hbk
  obtain ⟨i, rfl⟩ : ∃ i : Nat, bk = i := ⟨bk.toNat, by omega⟩
  obtain ⟨hb1, hb2⟩ := hbk
  have hcx := Lib.hid hcase
  dsimp only at hcx
  clear hcase
  have hb1 : 1 ≤ i := by omega
  have hb2 : i ≤ 200 := by omega
  obtain ⟨y, hy⟩ : ∃ y, s.en (i : Int) = y := ⟨_, rfl⟩
  obtain ⟨act, hact⟩ : ∃ act, s.act ⟨kd, (i : Int), un, cu, am⟩ now = act := ⟨_, rfl⟩
  rw [hact]
  have hyh := Lib.hid hy
  have hacth := Lib.hid hact
  clear hy hact
  go_enter Tryz.func27, Tryz.ntmps27
  unfold POp.val
  go_wp2_with fail
  refine (mayRef_any ⟨kd, (i : Int), un, cu, am⟩ _).mono ?_
  rintro e w1 ⟨rfl, hc1⟩
  rw [hmh.out]
  have hO1 := hO.chg hc1 id
  have hck := hcA.trans hc1 (fun _ _ h => h)
  have hx1 := h.chg hck id
  have hzx : x ≠ w.heap.size := Nat.ne_of_lt h.lt
  have o0 : w1.cell? ⟨w.heap.size, 0, none⟩ = some (.int .i64 kd) := by rw [hO1.cell]; rfl
  clear hcA hO hc1
  go_wp2_with fail
  refine (time_any _ now).mono ?_
  rintro e w2 ⟨rfl, rfl⟩
  rw [hth.out]
  have o1 : w2.cell? ⟨w.heap.size, 1, none⟩ = some (.int .i64 (i : Int)) := by rw [hO1.cell]; rfl
  obtain ⟨c0, c1, c2, c3, c4⟩ := hx1.cells i (by omega) rfl hyh.out
  go_wp2_with fail
  refine wp_region_plan (by kernel_rfl) [{ fl := [0, 1, 2, 3, 4, 5, 6], long := [2, 6], ef := 7, keep := [2, 6] }, { fl := [], ef := 8 }] [] (by kernel_rfl) (fun _ w9 => w9.heap[x]? = w2.heap[x]? ∧ w9.heap[w.heap.size]? = w2.heap[w.heap.size]?) ?_
  simp only [wpPlan, longOK, keepOK, opsAt_cons, opsAt_nil, consO_some, List.getElem?_toArray, List.getElem?_cons_succ, List.getElem?_cons_zero, and_true, true_and]
  refine ⟨⟨⟨rfl, rfl⟩, ⟨rfl, rfl⟩⟩, ?_⟩
  go_wp2_with fail
  refine ⟨by kernel_rfl, ⟨?_, ?_⟩, ?_⟩
  · intro _ w9 h9
    have o1 : w9.cell? ⟨w.heap.size, 1, none⟩ = some (.int .i64 (i : Int)) := by rw [(hO1.keep h9.2).cell]; rfl
    clear h9
    go_simp
  · intro _ w9 h9
    obtain ⟨c0, c1, c2, c3, c4⟩ := RefAt.cells (w := w9) (hx1.keep h9.1) i (by omega) rfl hyh.out
    clear h9
    go_simp
  go_wp2_with fail
  have hcB := ((Chg.refl (fun _ => False) w2).drew).alloc (.cells #[.int .i64 0, .int .i64 0, .int .i64 0, .int .i64 0, .int .i64 0] 32)
  refine ⟨⟨⟨hcB.block x hx1.lt id, hcB.block _ hO1.lt id⟩, ⟨hcB.block x hx1.lt id, hcB.block _ hO1.lt id⟩⟩, ?_⟩
  go_wp2_with fail
  refine ⟨by kernel_rfl, ?_⟩
  go_wp2_with fail
  refine ⟨by kernel_rfl, ?_⟩
  have hw3 : Chg (fun i => i = x) w (w2.alloc (.cells y.row 32)).drew := ((hck.mono (fun _ _ h => h.elim)).alloc _).drew
  have hx3 : RefAt R (w2.alloc (.cells y.row 32)).drew x s := Blk.alloc hx1 _
  have hO3 : Blk (w2.alloc (.cells y.row 32)).drew w.heap.size 43 #[.int .i64 kd, .int .i64 (i : Int), .int .i64 un, .int .i64 cu, .int .i64 am] := hO1.alloc _
  have hY3 : Blk (w2.alloc (.cells y.row 32)).drew w2.heap.size 32 y.row := Blk.new w2 _ _
  unfold Ent.row at hw3 hx3 hO3 hY3
  clear hcB c0 c1 c2 c3 c4 o0 o1 hO1 hx1 hck
  generalize hyb : w2.heap.size = Y at *
  generalize (w2.alloc (.cells #[.int .i64 y.st, .int .i64 y.un, .int .i64 y.til, .int .i64 y.cu, .int .i64 y.am] 32)).drew = w3 at *
  clear hyb
  have hgr : Chg (fun i => i = x) w (w3.alloc (.cells #[.int .i64 3, .int .i64 0, .int .i64 0, .int .i64 0, .int .i64 0] 32)) := hw3.alloc _
  have hck4 := hgr
  have hx4 : RefAt R (w3.alloc (.cells #[.int .i64 3, .int .i64 0, .int .i64 0, .int .i64 0, .int .i64 0] 32)) x s := Blk.alloc hx3 _
  have hO4 := hO3.alloc (.cells #[.int .i64 3, .int .i64 0, .int .i64 0, .int .i64 0, .int .i64 0] 32)
  have hY4 := hY3.alloc (.cells #[.int .i64 3, .int .i64 0, .int .i64 0, .int .i64 0, .int .i64 0] 32)
  have o0 : (w3.alloc (.cells #[.int .i64 3, .int .i64 0, .int .i64 0, .int .i64 0, .int .i64 0] 32)).cell? ⟨w.heap.size, 0, none⟩ = some (.int .i64 kd) := by rw [hO4.cell]; rfl
  have o1 : (w3.alloc (.cells #[.int .i64 3, .int .i64 0, .int .i64 0, .int .i64 0, .int .i64 0] 32)).cell? ⟨w.heap.size, 1, none⟩ = some (.int .i64 (i : Int)) := by rw [hO4.cell]; rfl
  have o2 : (w3.alloc (.cells #[.int .i64 3, .int .i64 0, .int .i64 0, .int .i64 0, .int .i64 0] 32)).cell? ⟨w.heap.size, 2, none⟩ = some (.int .i64 un) := by rw [hO4.cell]; rfl
  have y0 : (w3.alloc (.cells #[.int .i64 3, .int .i64 0, .int .i64 0, .int .i64 0, .int .i64 0] 32)).cell? ⟨Y, 0, none⟩ = some (.int .i64 y.st) := by rw [hY4.cell]; rfl
  have y1 : (w3.alloc (.cells #[.int .i64 3, .int .i64 0, .int .i64 0, .int .i64 0, .int .i64 0] 32)).cell? ⟨Y, 1, none⟩ = some (.int .i64 y.un) := by rw [hY4.cell]; rfl
  have y2 : (w3.alloc (.cells #[.int .i64 3, .int .i64 0, .int .i64 0, .int .i64 0, .int .i64 0] 32)).cell? ⟨Y, 2, none⟩ = some (.int .i64 y.til) := by rw [hY4.cell]; rfl
  obtain ⟨c0, c1, c2, c3, c4⟩ := hx4.cells i (by omega) rfl hyh.out
  have f0 := hx4.frozen (2 + i * 5)
  have f1 := hx4.frozen (2 + i * 5 + 1)
  have f2 := hx4.frozen (2 + i * 5 + 2)
  have f3 := hx4.frozen (2 + i * 5 + 3)
  have f4 := hx4.frozen (2 + i * 5 + 4)
  have hsts := hG.sts (i : Int)
  rw [hyh.out] at hsts
  have hnon := hG.non (i : Int)
  rw [hyh.out] at hnon
  have hcx := hcx.out
  rw [hyh.out] at hcx
  have hkds : kd = 1 ∨ kd = 2 ∨ kd = 3 := by
    have h := hmh.out
    unfold mayOp at h
    simp at h
    omega
  have hsth : y.st = 0 ∨ y.st = 1 ∨ y.st = 2 ∨ y.st = 3 := by
    rcases hsts with e | e | e | e
    · omega
    · rw [e]; decide
    · omega
    · omega
  have h22 : y.st = 2 → y = ⟨2, y.un, 0, 0, 0⟩ := by
    intro h2
    obtain ⟨a, b, c, d, e⟩ := y
    dsimp only at *
    rcases hsts with h | h | h | h
    · omega
    · injection h with h; omega
    · omega
    · obtain ⟨_, _, _, rfl, rfl, rfl⟩ := h
      subst h2; rfl
  have h22h := Lib.hid h22
  have hun0 := hG.un (i : Int)
  rw [hyh.out] at hun0
  obtain ⟨hun0, hun1⟩ := hun0
  clear h22 hsts hnon hO3 hY3 hO4 hY4 hw3 hx3 hgr
  obtain ⟨hk, hst⟩ := hcx
  subst hk
  clear hkds hsth
  have b0 : (y.st == 0) = true := by simp [hst]
  have b1 : (y.st == 1) = false := by simp [hst]
  have b3 : (y.st == 3) = false := by simp [hst]
  by_cases hfr : s.free < un
  · have hr : act = (2, s.gone (i : Int)) := by
      rw [← hacth.out, Stk.act_ok s hmh.out h0 h1]
      show s.hold (i : Int) un now = _
      unfold Stk.hold
      rw [hyh.out]
      simp [hst]
      first | omega | (intro hh; omega)
    have hrh := Lib.hid hr
    clear hr hst
    go_wp2_with fail
    refine wp_region_plan (by kernel_rfl) [{ fl := [0, 1, 2], long := [1], ef := 3, keep := [1] }] [4] (by kernel_rfl) (fun _ w9 => w9.cell? ⟨w.heap.size, 2, none⟩ = some (.int .i64 un)) ?_
    simp only [wpPlan, longOK, keepOK, opsAt_cons, opsAt_nil, consO_some, List.getElem?_toArray, List.getElem?_cons_succ, List.getElem?_cons_zero, and_true]
    refine ⟨o2, ?_⟩
    go_wp2_with fail
    refine ⟨by kernel_rfl, ?_, ?_⟩
    · intro _ w9 h9
      have h9 : w9.cell? ⟨w.heap.size, 2, none⟩ = some (.int .i64 un) := h9
      go_simp
    go_wp2_with fail
    refine (ref_free hx4.drew hG).mono ?_
    rintro e w5 ⟨rfl, rfl⟩
    go_wp2_with fail
    refine ⟨by simpa using o2, ?_⟩
    go_wp2_with fail
    refine ⟨by kernel_rfl, ?_⟩
    go_wp2_with fail
    refine wp_region_plan (by kernel_rfl) [{ fl := [0, 1, 2, 3, 4, 5, 6], ef := 7 }] [] (by kernel_rfl) (fun _ _ => True) ?_
    simp only [wpPlan, longOK, keepOK, opsAt_cons, opsAt_nil, consO_some, List.getElem?_toArray, List.getElem?_cons_succ, List.getElem?_cons_zero, true_and]
    go_wp2_with fail
    refine ⟨by kernel_rfl, ?_⟩
    go_wp2_with fail
    refine ⟨by kernel_rfl, ?_⟩
    go_wp2_with fail
    go_ret
    rw [hrh.out]
    exact ⟨rfl, (hx4.put i hb2 (s.free + (s.en (i : Int)).un) Ent.gone).drew.drew.drew, (((((hck4.setCell (.inl rfl) _).setCell (.inl rfl) _).setCell (.inl rfl) _).setCell (.inl rfl) _).setCell (.inl rfl) _).drew.drew.drew⟩
  · have hr : act = (1, s.set (i : Int) (s.free - un) ⟨1, un, now + 60, 0, 0⟩) := by
      rw [← hacth.out, Stk.act_ok s hmh.out h0 h1]
      show s.hold (i : Int) un now = _
      unfold Stk.hold
      rw [hyh.out]
      simp [hst]
      first | omega | (intro hh; omega)
    have hrh := Lib.hid hr
    clear hr hst
    go_wp2_with fail
    refine wp_region_plan (by kernel_rfl) [{ fl := [0, 1, 2], long := [1], ef := 3, keep := [1] }] [4] (by kernel_rfl) (fun _ w9 => w9.cell? ⟨w.heap.size, 2, none⟩ = some (.int .i64 un)) ?_
    simp only [wpPlan, longOK, keepOK, opsAt_cons, opsAt_nil, consO_some, List.getElem?_toArray, List.getElem?_cons_succ, List.getElem?_cons_zero, and_true]
    refine ⟨o2, ?_⟩
    go_wp2_with fail
    refine ⟨by kernel_rfl, ?_, ?_⟩
    · intro _ w9 h9
      have h9 : w9.cell? ⟨w.heap.size, 2, none⟩ = some (.int .i64 un) := h9
      go_simp
    go_wp2_with fail
    refine (ref_free hx4.drew hG).mono ?_
    rintro e w5 ⟨rfl, rfl⟩
    go_wp2_with fail
    refine ⟨by simpa using o2, ?_⟩
    go_wp2_with fail
    refine ⟨by kernel_rfl, ?_⟩
    go_wp2_with fail
    refine wp_region_plan (by kernel_rfl) [{ fl := [0, 1, 2, 3, 4, 5, 6, 7, 8, 9, 10], ef := 11 }] [] (by kernel_rfl) (fun _ _ => True) ?_
    simp only [wpPlan, longOK, keepOK, opsAt_cons, opsAt_nil, consO_some, List.getElem?_toArray, List.getElem?_cons_succ, List.getElem?_cons_zero, true_and]
    go_wp2_with fail
    refine ⟨by kernel_rfl, ?_⟩
    go_wp2_with fail
    refine ⟨by kernel_rfl, ?_⟩
    go_wp2_with fail
    go_ret
    rw [hrh.out]
    exact ⟨rfl, (hx4.put i hb2 (s.free - un) ⟨1, un, now + 60, 0, 0⟩).drew.drew.drew, (((((hck4.setCell (.inl rfl) _).setCell (.inl rfl) _).setCell (.inl rfl) _).setCell (.inl rfl) _).setCell (.inl rfl) _).drew.drew.drew⟩

set_option maxRecDepth 100000 in
set_option maxHeartbeats 4000000 in
theorem ref_do_11 {w : World} {x : Nat} {s : Stk} (h : RefAt R w x s) (hG : s.Good) (o : POp) (now : Int) (hm : mayOp o = true) (h3 : o.kd ≤ 3) (h0 : 0 ≤ now) (h1 : now ≤ 1099511627776) (hcase : o.kd = 1 ∧ (s.en o.bk).st = 1) :
    Calls Tryz.prog 27 #[.pointer (some ⟨x, 0, none⟩), o.val, .int .i64 now] w fun e w' => e = .returned (.int .i64 (s.act o now).1) ∧ RefAt R w' x (s.act o now).2 ∧ Chg (fun i => i = x) w w' := by
  have hcA := (Chg.refl (fun _ => False) w).alloc (.cells o.row 43)
  have hO := Blk.new w 43 o.row
  unfold POp.row at hcA
  have hbk := mayOp_bkS hm
  have htime : timeB now = true := by unfold timeB; simp [h0, h1]
  have hth := Lib.hid htime
  have hmh := Lib.hid hm
  clear htime hm
  obtain ⟨kd, bk, un, cu, am⟩ := o
  dsimp only at h3 hbk
  obtain ⟨i, rfl⟩ : ∃ i : Nat, bk = i := ⟨bk.toNat, by omega⟩
  obtain ⟨hb1, hb2⟩ := hbk
  have hcx := Lib.hid hcase
  dsimp only at hcx
  clear hcase
  have hb1 : 1 ≤ i := by omega
  have hb2 : i ≤ 200 := by omega
  obtain ⟨y, hy⟩ : ∃ y, s.en (i : Int) = y := ⟨_, rfl⟩
  obtain ⟨act, hact⟩ : ∃ act, s.act ⟨kd, (i : Int), un, cu, am⟩ now = act := ⟨_, rfl⟩
  rw [hact]
  have hyh := Lib.hid hy
  have hacth := Lib.hid hact
  clear hy hact
  go_enter Tryz.func27, Tryz.ntmps27
  unfold POp.val
  go_wp2_with fail
  refine (mayRef_any ⟨kd, (i : Int), un, cu, am⟩ _).mono ?_
  rintro e w1 ⟨rfl, hc1⟩
  rw [hmh.out]
  have hO1 := hO.chg hc1 id
  have hck := hcA.trans hc1 (fun _ _ h => h)
  have hx1 := h.chg hck id
  have hzx : x ≠ w.heap.size := Nat.ne_of_lt h.lt
  have o0 : w1.cell? ⟨w.heap.size, 0, none⟩ = some (.int .i64 kd) := by rw [hO1.cell]; rfl
  clear hcA hO hc1
  go_wp2_with fail
  refine (time_any _ now).mono ?_
  rintro e w2 ⟨rfl, rfl⟩
  rw [hth.out]
  have o1 : w2.cell? ⟨w.heap.size, 1, none⟩ = some (.int .i64 (i : Int)) := by rw [hO1.cell]; rfl
  obtain ⟨c0, c1, c2, c3, c4⟩ := hx1.cells i (by omega) rfl hyh.out
  go_wp2_with fail
  refine wp_region_plan (by kernel_rfl) [{ fl := [0, 1, 2, 3, 4, 5, 6], long := [2, 6], ef := 7, keep := [2, 6] }, { fl := [], ef := 8 }] [] (by kernel_rfl) (fun _ w9 => w9.heap[x]? = w2.heap[x]? ∧ w9.heap[w.heap.size]? = w2.heap[w.heap.size]?) ?_
  simp only [wpPlan, longOK, keepOK, opsAt_cons, opsAt_nil, consO_some, List.getElem?_toArray, List.getElem?_cons_succ, List.getElem?_cons_zero, and_true, true_and]
  refine ⟨⟨⟨rfl, rfl⟩, ⟨rfl, rfl⟩⟩, ?_⟩
  go_wp2_with fail
  refine ⟨by kernel_rfl, ⟨?_, ?_⟩, ?_⟩
  · intro _ w9 h9
    have o1 : w9.cell? ⟨w.heap.size, 1, none⟩ = some (.int .i64 (i : Int)) := by rw [(hO1.keep h9.2).cell]; rfl
    clear h9
    go_simp
  · intro _ w9 h9
    obtain ⟨c0, c1, c2, c3, c4⟩ := RefAt.cells (w := w9) (hx1.keep h9.1) i (by omega) rfl hyh.out
    clear h9
    go_simp
  go_wp2_with fail
  have hcB := ((Chg.refl (fun _ => False) w2).drew).alloc (.cells #[.int .i64 0, .int .i64 0, .int .i64 0, .int .i64 0, .int .i64 0] 32)
  refine ⟨⟨⟨hcB.block x hx1.lt id, hcB.block _ hO1.lt id⟩, ⟨hcB.block x hx1.lt id, hcB.block _ hO1.lt id⟩⟩, ?_⟩
  go_wp2_with fail
  refine ⟨by kernel_rfl, ?_⟩
  go_wp2_with fail
  refine ⟨by kernel_rfl, ?_⟩
  have hw3 : Chg (fun i => i = x) w (w2.alloc (.cells y.row 32)).drew := ((hck.mono (fun _ _ h => h.elim)).alloc _).drew
  have hx3 : RefAt R (w2.alloc (.cells y.row 32)).drew x s := Blk.alloc hx1 _
  have hO3 : Blk (w2.alloc (.cells y.row 32)).drew w.heap.size 43 #[.int .i64 kd, .int .i64 (i : Int), .int .i64 un, .int .i64 cu, .int .i64 am] := hO1.alloc _
  have hY3 : Blk (w2.alloc (.cells y.row 32)).drew w2.heap.size 32 y.row := Blk.new w2 _ _
  unfold Ent.row at hw3 hx3 hO3 hY3
  clear hcB c0 c1 c2 c3 c4 o0 o1 hO1 hx1 hck
  generalize hyb : w2.heap.size = Y at *
  generalize (w2.alloc (.cells #[.int .i64 y.st, .int .i64 y.un, .int .i64 y.til, .int .i64 y.cu, .int .i64 y.am] 32)).drew = w3 at *
  clear hyb
  have hgr : Chg (fun i => i = x) w (w3.alloc (.cells #[.int .i64 3, .int .i64 0, .int .i64 0, .int .i64 0, .int .i64 0] 32)) := hw3.alloc _
  have hck4 := hgr
  have hx4 : RefAt R (w3.alloc (.cells #[.int .i64 3, .int .i64 0, .int .i64 0, .int .i64 0, .int .i64 0] 32)) x s := Blk.alloc hx3 _
  have hO4 := hO3.alloc (.cells #[.int .i64 3, .int .i64 0, .int .i64 0, .int .i64 0, .int .i64 0] 32)
  have hY4 := hY3.alloc (.cells #[.int .i64 3, .int .i64 0, .int .i64 0, .int .i64 0, .int .i64 0] 32)
  have o0 : (w3.alloc (.cells #[.int .i64 3, .int .i64 0, .int .i64 0, .int .i64 0, .int .i64 0] 32)).cell? ⟨w.heap.size, 0, none⟩ = some (.int .i64 kd) := by rw [hO4.cell]; rfl
  have o1 : (w3.alloc (.cells #[.int .i64 3, .int .i64 0, .int .i64 0, .int .i64 0, .int .i64 0] 32)).cell? ⟨w.heap.size, 1, none⟩ = some (.int .i64 (i : Int)) := by rw [hO4.cell]; rfl
  have o2 : (w3.alloc (.cells #[.int .i64 3, .int .i64 0, .int .i64 0, .int .i64 0, .int .i64 0] 32)).cell? ⟨w.heap.size, 2, none⟩ = some (.int .i64 un) := by rw [hO4.cell]; rfl
  have y0 : (w3.alloc (.cells #[.int .i64 3, .int .i64 0, .int .i64 0, .int .i64 0, .int .i64 0] 32)).cell? ⟨Y, 0, none⟩ = some (.int .i64 y.st) := by rw [hY4.cell]; rfl
  have y1 : (w3.alloc (.cells #[.int .i64 3, .int .i64 0, .int .i64 0, .int .i64 0, .int .i64 0] 32)).cell? ⟨Y, 1, none⟩ = some (.int .i64 y.un) := by rw [hY4.cell]; rfl
  have y2 : (w3.alloc (.cells #[.int .i64 3, .int .i64 0, .int .i64 0, .int .i64 0, .int .i64 0] 32)).cell? ⟨Y, 2, none⟩ = some (.int .i64 y.til) := by rw [hY4.cell]; rfl
  obtain ⟨c0, c1, c2, c3, c4⟩ := hx4.cells i (by omega) rfl hyh.out
  have f0 := hx4.frozen (2 + i * 5)
  have f1 := hx4.frozen (2 + i * 5 + 1)
  have f2 := hx4.frozen (2 + i * 5 + 2)
  have f3 := hx4.frozen (2 + i * 5 + 3)
  have f4 := hx4.frozen (2 + i * 5 + 4)
  have hsts := hG.sts (i : Int)
  rw [hyh.out] at hsts
  have hnon := hG.non (i : Int)
  rw [hyh.out] at hnon
  have hcx := hcx.out
  rw [hyh.out] at hcx
  have hkds : kd = 1 ∨ kd = 2 ∨ kd = 3 := by
    have h := hmh.out
    unfold mayOp at h
    simp at h
    omega
  have hsth : y.st = 0 ∨ y.st = 1 ∨ y.st = 2 ∨ y.st = 3 := by
    rcases hsts with e | e | e | e
    · omega
    · rw [e]; decide
    · omega
    · omega
  have h22 : y.st = 2 → y = ⟨2, y.un, 0, 0, 0⟩ := by
    intro h2
    obtain ⟨a, b, c, d, e⟩ := y
    dsimp only at *
    rcases hsts with h | h | h | h
    · omega
    · injection h with h; omega
    · omega
    · obtain ⟨_, _, _, rfl, rfl, rfl⟩ := h
      subst h2; rfl
  have h22h := Lib.hid h22
  have hun0 := hG.un (i : Int)
  rw [hyh.out] at hun0
  obtain ⟨hun0, hun1⟩ := hun0
  clear h22 hsts hnon hO3 hY3 hO4 hY4 hw3 hx3 hgr
  obtain ⟨hk, hst⟩ := hcx
  subst hk
  clear hkds hsth
  have b0 : (y.st == 0) = false := by simp [hst]
  have b1 : (y.st == 1) = true := by simp [hst]
  have b3 : (y.st == 3) = false := by simp [hst]
  by_cases hu : y.un = un
  · have hub : (y.un == un) = true := by simp [hu]
    have hr : act = (1, s) := by
      rw [← hacth.out, Stk.act_ok s hmh.out h0 h1]
      show s.hold (i : Int) un now = _
      unfold Stk.hold
      rw [hyh.out]
      simp [hst]
      try exact hu
    have hrh := Lib.hid hr
    clear hr hst hu
    go_wp2_with fail
    go_ret
    rw [hrh.out]
    exact ⟨rfl, hx4, hck4⟩
  · have hub : (y.un == un) = false := by simp [hu]
    have hr : act = (2, s) := by
      rw [← hacth.out, Stk.act_ok s hmh.out h0 h1]
      show s.hold (i : Int) un now = _
      unfold Stk.hold
      rw [hyh.out]
      simp [hst]
      try (first | exact hu | (intro hh; exact absurd hh hu))
    have hrh := Lib.hid hr
    clear hr hst hu
    go_wp2_with fail
    go_ret
    rw [hrh.out]
    exact ⟨rfl, hx4, hck4⟩

set_option maxRecDepth 100000 in
set_option maxHeartbeats 4000000 in
theorem ref_do_12 {w : World} {x : Nat} {s : Stk} (h : RefAt R w x s) (hG : s.Good) (o : POp) (now : Int) (hm : mayOp o = true) (h3 : o.kd ≤ 3) (h0 : 0 ≤ now) (h1 : now ≤ 1099511627776) (hcase : o.kd = 1 ∧ (s.en o.bk).st = 2) :
    Calls Tryz.prog 27 #[.pointer (some ⟨x, 0, none⟩), o.val, .int .i64 now] w fun e w' => e = .returned (.int .i64 (s.act o now).1) ∧ RefAt R w' x (s.act o now).2 ∧ Chg (fun i => i = x) w w' := by
  have hcA := (Chg.refl (fun _ => False) w).alloc (.cells o.row 43)
  have hO := Blk.new w 43 o.row
  unfold POp.row at hcA
  have hbk := mayOp_bkS hm
  have htime : timeB now = true := by unfold timeB; simp [h0, h1]
  have hth := Lib.hid htime
  have hmh := Lib.hid hm
  clear htime hm
  obtain ⟨kd, bk, un, cu, am⟩ := o
  dsimp only at h3 hbk
  obtain ⟨i, rfl⟩ : ∃ i : Nat, bk = i := ⟨bk.toNat, by omega⟩
  obtain ⟨hb1, hb2⟩ := hbk
  have hcx := Lib.hid hcase
  dsimp only at hcx
  clear hcase
  have hb1 : 1 ≤ i := by omega
  have hb2 : i ≤ 200 := by omega
  obtain ⟨y, hy⟩ : ∃ y, s.en (i : Int) = y := ⟨_, rfl⟩
  obtain ⟨act, hact⟩ : ∃ act, s.act ⟨kd, (i : Int), un, cu, am⟩ now = act := ⟨_, rfl⟩
  rw [hact]
  have hyh := Lib.hid hy
  have hacth := Lib.hid hact
  clear hy hact
  go_enter Tryz.func27, Tryz.ntmps27
  unfold POp.val
  go_wp2_with fail
  refine (mayRef_any ⟨kd, (i : Int), un, cu, am⟩ _).mono ?_
  rintro e w1 ⟨rfl, hc1⟩
  rw [hmh.out]
  have hO1 := hO.chg hc1 id
  have hck := hcA.trans hc1 (fun _ _ h => h)
  have hx1 := h.chg hck id
  have hzx : x ≠ w.heap.size := Nat.ne_of_lt h.lt
  have o0 : w1.cell? ⟨w.heap.size, 0, none⟩ = some (.int .i64 kd) := by rw [hO1.cell]; rfl
  clear hcA hO hc1
  go_wp2_with fail
  refine (time_any _ now).mono ?_
  rintro e w2 ⟨rfl, rfl⟩
  rw [hth.out]
  have o1 : w2.cell? ⟨w.heap.size, 1, none⟩ = some (.int .i64 (i : Int)) := by rw [hO1.cell]; rfl
  obtain ⟨c0, c1, c2, c3, c4⟩ := hx1.cells i (by omega) rfl hyh.out
  go_wp2_with fail
  refine wp_region_plan (by kernel_rfl) [{ fl := [0, 1, 2, 3, 4, 5, 6], long := [2, 6], ef := 7, keep := [2, 6] }, { fl := [], ef := 8 }] [] (by kernel_rfl) (fun _ w9 => w9.heap[x]? = w2.heap[x]? ∧ w9.heap[w.heap.size]? = w2.heap[w.heap.size]?) ?_
  simp only [wpPlan, longOK, keepOK, opsAt_cons, opsAt_nil, consO_some, List.getElem?_toArray, List.getElem?_cons_succ, List.getElem?_cons_zero, and_true, true_and]
  refine ⟨⟨⟨rfl, rfl⟩, ⟨rfl, rfl⟩⟩, ?_⟩
  go_wp2_with fail
  refine ⟨by kernel_rfl, ⟨?_, ?_⟩, ?_⟩
  · intro _ w9 h9
    have o1 : w9.cell? ⟨w.heap.size, 1, none⟩ = some (.int .i64 (i : Int)) := by rw [(hO1.keep h9.2).cell]; rfl
    clear h9
    go_simp
  · intro _ w9 h9
    obtain ⟨c0, c1, c2, c3, c4⟩ := RefAt.cells (w := w9) (hx1.keep h9.1) i (by omega) rfl hyh.out
    clear h9
    go_simp
  go_wp2_with fail
  have hcB := ((Chg.refl (fun _ => False) w2).drew).alloc (.cells #[.int .i64 0, .int .i64 0, .int .i64 0, .int .i64 0, .int .i64 0] 32)
  refine ⟨⟨⟨hcB.block x hx1.lt id, hcB.block _ hO1.lt id⟩, ⟨hcB.block x hx1.lt id, hcB.block _ hO1.lt id⟩⟩, ?_⟩
  go_wp2_with fail
  refine ⟨by kernel_rfl, ?_⟩
  go_wp2_with fail
  refine ⟨by kernel_rfl, ?_⟩
  have hw3 : Chg (fun i => i = x) w (w2.alloc (.cells y.row 32)).drew := ((hck.mono (fun _ _ h => h.elim)).alloc _).drew
  have hx3 : RefAt R (w2.alloc (.cells y.row 32)).drew x s := Blk.alloc hx1 _
  have hO3 : Blk (w2.alloc (.cells y.row 32)).drew w.heap.size 43 #[.int .i64 kd, .int .i64 (i : Int), .int .i64 un, .int .i64 cu, .int .i64 am] := hO1.alloc _
  have hY3 : Blk (w2.alloc (.cells y.row 32)).drew w2.heap.size 32 y.row := Blk.new w2 _ _
  unfold Ent.row at hw3 hx3 hO3 hY3
  clear hcB c0 c1 c2 c3 c4 o0 o1 hO1 hx1 hck
  generalize hyb : w2.heap.size = Y at *
  generalize (w2.alloc (.cells #[.int .i64 y.st, .int .i64 y.un, .int .i64 y.til, .int .i64 y.cu, .int .i64 y.am] 32)).drew = w3 at *
  clear hyb
  have hgr : Chg (fun i => i = x) w (w3.alloc (.cells #[.int .i64 3, .int .i64 0, .int .i64 0, .int .i64 0, .int .i64 0] 32)) := hw3.alloc _
  have hck4 := hgr
  have hx4 : RefAt R (w3.alloc (.cells #[.int .i64 3, .int .i64 0, .int .i64 0, .int .i64 0, .int .i64 0] 32)) x s := Blk.alloc hx3 _
  have hO4 := hO3.alloc (.cells #[.int .i64 3, .int .i64 0, .int .i64 0, .int .i64 0, .int .i64 0] 32)
  have hY4 := hY3.alloc (.cells #[.int .i64 3, .int .i64 0, .int .i64 0, .int .i64 0, .int .i64 0] 32)
  have o0 : (w3.alloc (.cells #[.int .i64 3, .int .i64 0, .int .i64 0, .int .i64 0, .int .i64 0] 32)).cell? ⟨w.heap.size, 0, none⟩ = some (.int .i64 kd) := by rw [hO4.cell]; rfl
  have o1 : (w3.alloc (.cells #[.int .i64 3, .int .i64 0, .int .i64 0, .int .i64 0, .int .i64 0] 32)).cell? ⟨w.heap.size, 1, none⟩ = some (.int .i64 (i : Int)) := by rw [hO4.cell]; rfl
  have o2 : (w3.alloc (.cells #[.int .i64 3, .int .i64 0, .int .i64 0, .int .i64 0, .int .i64 0] 32)).cell? ⟨w.heap.size, 2, none⟩ = some (.int .i64 un) := by rw [hO4.cell]; rfl
  have y0 : (w3.alloc (.cells #[.int .i64 3, .int .i64 0, .int .i64 0, .int .i64 0, .int .i64 0] 32)).cell? ⟨Y, 0, none⟩ = some (.int .i64 y.st) := by rw [hY4.cell]; rfl
  have y1 : (w3.alloc (.cells #[.int .i64 3, .int .i64 0, .int .i64 0, .int .i64 0, .int .i64 0] 32)).cell? ⟨Y, 1, none⟩ = some (.int .i64 y.un) := by rw [hY4.cell]; rfl
  have y2 : (w3.alloc (.cells #[.int .i64 3, .int .i64 0, .int .i64 0, .int .i64 0, .int .i64 0] 32)).cell? ⟨Y, 2, none⟩ = some (.int .i64 y.til) := by rw [hY4.cell]; rfl
  obtain ⟨c0, c1, c2, c3, c4⟩ := hx4.cells i (by omega) rfl hyh.out
  have f0 := hx4.frozen (2 + i * 5)
  have f1 := hx4.frozen (2 + i * 5 + 1)
  have f2 := hx4.frozen (2 + i * 5 + 2)
  have f3 := hx4.frozen (2 + i * 5 + 3)
  have f4 := hx4.frozen (2 + i * 5 + 4)
  have hsts := hG.sts (i : Int)
  rw [hyh.out] at hsts
  have hnon := hG.non (i : Int)
  rw [hyh.out] at hnon
  have hcx := hcx.out
  rw [hyh.out] at hcx
  have hkds : kd = 1 ∨ kd = 2 ∨ kd = 3 := by
    have h := hmh.out
    unfold mayOp at h
    simp at h
    omega
  have hsth : y.st = 0 ∨ y.st = 1 ∨ y.st = 2 ∨ y.st = 3 := by
    rcases hsts with e | e | e | e
    · omega
    · rw [e]; decide
    · omega
    · omega
  have h22 : y.st = 2 → y = ⟨2, y.un, 0, 0, 0⟩ := by
    intro h2
    obtain ⟨a, b, c, d, e⟩ := y
    dsimp only at *
    rcases hsts with h | h | h | h
    · omega
    · injection h with h; omega
    · omega
    · obtain ⟨_, _, _, rfl, rfl, rfl⟩ := h
      subst h2; rfl
  have h22h := Lib.hid h22
  have hun0 := hG.un (i : Int)
  rw [hyh.out] at hun0
  obtain ⟨hun0, hun1⟩ := hun0
  clear h22 hsts hnon hO3 hY3 hO4 hY4 hw3 hx3 hgr
  obtain ⟨hk, hst⟩ := hcx
  subst hk
  clear hkds hsth
  have b0 : (y.st == 0) = false := by simp [hst]
  have b1 : (y.st == 1) = false := by simp [hst]
  have b3 : (y.st == 3) = false := by simp [hst]
  by_cases hu : y.un = un
  · have hub : (y.un == un) = true := by simp [hu]
    have hr : act = (1, s) := by
      rw [← hacth.out, Stk.act_ok s hmh.out h0 h1]
      show s.hold (i : Int) un now = _
      unfold Stk.hold
      rw [hyh.out]
      simp [hst]
      try exact hu
    have hrh := Lib.hid hr
    clear hr hst hu
    go_wp2_with fail
    go_ret
    rw [hrh.out]
    exact ⟨rfl, hx4, hck4⟩
  · have hub : (y.un == un) = false := by simp [hu]
    have hr : act = (2, s) := by
      rw [← hacth.out, Stk.act_ok s hmh.out h0 h1]
      show s.hold (i : Int) un now = _
      unfold Stk.hold
      rw [hyh.out]
      simp [hst]
      try (first | exact hu | (intro hh; exact absurd hh hu))
    have hrh := Lib.hid hr
    clear hr hst hu
    go_wp2_with fail
    go_ret
    rw [hrh.out]
    exact ⟨rfl, hx4, hck4⟩

end Go.Proofs.YtkbnojjmpmlgjaaGreat
