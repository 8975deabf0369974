/-
  The reference's purse: capture, nothing goes. (Printed by wip/tools/genrpur.py.)
-/
import Derived.Test.YtddnpjlcmokbiaaZRTabA
namespace Go.Proofs.Ytddnpjlcmokbiaa
open Go.RowKit Go.Maps
variable {R : QEnv}

set_option maxRecDepth 100000 in
set_option maxHeartbeats 2000000 in
theorem rq_do_50 {w : World} {x : Nat} {lv : Value} {p : Pur} {T : Int} (h : QAt R w x lv p) (hG : p.Good T) (_hT : T ≤ 1125899906842624) (_hlen : p.ln.length ≤ 1000000) (o : POp) (hm : mayOp o = true) (hk : o.kd = 5) (hst : (p.en o.bk).st = 0) :
    Calls Try.prog 10 #[.pointer (some ⟨x, 0, none⟩), o.val] w fun e w' => e = .returned (.int .i64 (p.act o).1) ∧ ∃ lv', QAt R w' x lv' (p.act o).2 ∧ Chg (fun i => i = x ∨ lv.ownBlock = some i) w w' ∧ (lv'.ownBlock = lv.ownBlock ∨ ∃ k, lv'.ownBlock = some k ∧ w.heap.size ≤ k) := by
  have hcA := (Chg.refl (fun _ => False) w).alloc (.cells o.row 33)
  have hO := Blk.new w 33 o.row
  unfold POp.row at hcA
  have hbk := mayOp_bk hm
  have hmh := Lib.hid hm
  clear hm
  have hbnd := hG.bounds
  have hamt := hG.amt o.bk
  have hnon := hG.non o.bk
  have hgon := hG.gon o.bk
  obtain ⟨kd, bk, un, cu, am⟩ := o
  dsimp only at *
  obtain ⟨i, rfl⟩ : ∃ i : Nat, bk = i := ⟨bk.toNat, by omega⟩
  obtain ⟨hb1, hb2⟩ := hbk
  have hb1 : 1 ≤ i := by omega
  have hb2 : i ≤ 200 := by omega
  subst hk
  obtain ⟨y, hy⟩ : ∃ y, p.en (i : Int) = y := ⟨_, rfl⟩
  rw [hy] at hst hamt hnon hgon
  obtain rfl := hnon hst
  unfold Ent.none at hy
  clear hamt hnon hgon hst
  have hr : p.act ⟨5, (i : Int), un, cu, am⟩ = (2, p.set (i : Int) Ent.gone) := by
    unfold Pur.act
    rw [if_neg (by rw [hmh.out]; decide)]
    dsimp only
    rw [hy]
    simp [Pur.stay, hy]
  rw [hr]
  have hyh := Lib.hid hy
  clear hy
  go_enter Try.func10, Try.ntmps10
  unfold POp.val
  go_wp2_with fail
  refine (mayRef_any ⟨5, (i : Int), un, cu, am⟩ _).mono ?_
  rintro e w1 ⟨rfl, hc1⟩
  rw [hmh.out]
  have hO1 := hO.chg hc1 id
  have hck := hcA.trans hc1 (fun _ _ h => h)
  have hx1 := h.chg hck id (fun _ _ => id)
  have hzx : x ≠ w.heap.size := Nat.ne_of_lt (Blk.lt h.blk)
  have hlw := own_lt0 h.own
  have o0 : w1.cell? ⟨w.heap.size, 0, none⟩ = some (.int .i64 5) := by rw [hO1.cell]; rfl
  have o1 : w1.cell? ⟨w.heap.size, 1, none⟩ = some (.int .i64 (i : Int)) := by rw [hO1.cell]; rfl
  obtain ⟨c0, c1, c2, c3, c4⟩ := hx1.blk.cells i (by omega) hyh.out
  dsimp only at c0 c1 c2 c3 c4
  clear hcA hO hc1
  go_wp2_with fail
  refine wp_region_plan (by kernel_rfl) [{ fl := [0, 1, 2, 3, 4, 5, 6], long := [2, 6], ef := 7, keep := [2, 6] }, { fl := [], ef := 8 }] [] (by kernel_rfl) (fun _ w9 => w9.heap[x]? = w1.heap[x]? ∧ w9.heap[w.heap.size]? = w1.heap[w.heap.size]?) ?_
  simp only [wpPlan, longOK, keepOK, opsAt_cons, opsAt_nil, consO_some, List.getElem?_toArray, List.getElem?_cons_succ, List.getElem?_cons_zero, and_true, true_and]
  refine ⟨⟨⟨rfl, rfl⟩, ⟨rfl, rfl⟩⟩, ?_⟩
  go_wp2_with fail
  refine ⟨by kernel_rfl, ⟨?_, ?_⟩, ?_⟩
  · intro _ w9 h9
    have o1 : w9.cell? ⟨w.heap.size, 1, none⟩ = some (.int .i64 (i : Int)) := by rw [(hO1.keep h9.2).cell]; rfl
    clear h9
    go_simp
  · intro _ w9 h9
    obtain ⟨c0, c1, c2, c3, c4⟩ := QBlk.cells (R := R) (w := w9) (Blk.keep hx1.blk h9.1) i (by omega) hyh.out
    dsimp only at c0 c1 c2 c3 c4
    clear h9
    go_simp
  go_wp2_with fail
  have hcB := ((Chg.refl (fun _ => False) w1).drew).alloc (.cells #[.int .i64 0, .int .i64 0, .int .i64 0, .int .i64 0, .int .i64 0] 44)
  refine ⟨⟨⟨hcB.block x (Blk.lt hx1.blk) id, hcB.block _ hO1.lt id⟩, ⟨hcB.block x (Blk.lt hx1.blk) id, hcB.block _ hO1.lt id⟩⟩, ?_⟩
  go_wp2_with fail
  refine ⟨by kernel_rfl, ?_⟩
  go_wp2_with fail
  refine ⟨by kernel_rfl, ?_⟩
  have hw3 : Chg (fun _ => False) w (w1.alloc (.cells #[.int .i64 0, .int .i64 0, .int .i64 0, .int .i64 0, .int .i64 0] 44)).drew := (hck.alloc _).drew
  have hx3 : QAt R (w1.alloc (.cells #[.int .i64 0, .int .i64 0, .int .i64 0, .int .i64 0, .int .i64 0] 44)).drew x lv p := h.chg hw3 id (fun _ _ => id)
  have hO3 : Blk (w1.alloc (.cells #[.int .i64 0, .int .i64 0, .int .i64 0, .int .i64 0, .int .i64 0] 44)).drew w.heap.size 33 #[.int .i64 5, .int .i64 (i : Int), .int .i64 un, .int .i64 cu, .int .i64 am] := hO1.alloc _
  have hY3 : Blk (w1.alloc (.cells #[.int .i64 0, .int .i64 0, .int .i64 0, .int .i64 0, .int .i64 0] 44)).drew w1.heap.size 44 #[.int .i64 0, .int .i64 0, .int .i64 0, .int .i64 0, .int .i64 0] := Blk.new w1 _ _
  clear hcB c0 c1 c2 c3 c4 o0 o1 hO1 hx1 hck
  generalize hyb : w1.heap.size = Y at *
  generalize (w1.alloc (.cells #[.int .i64 0, .int .i64 0, .int .i64 0, .int .i64 0, .int .i64 0] 44)).drew = w3 at *
  clear hyb
  have hck4 := hw3.alloc (.cells #[.int .i64 3, .int .i64 0, .int .i64 0, .int .i64 0, .int .i64 0] 44)
  have hx4 : QAt R (w3.alloc (.cells #[.int .i64 3, .int .i64 0, .int .i64 0, .int .i64 0, .int .i64 0] 44)) x lv p := h.chg hck4 id (fun _ _ => id)
  have hO4 := hO3.alloc (.cells #[.int .i64 3, .int .i64 0, .int .i64 0, .int .i64 0, .int .i64 0] 44)
  have hY4 := hY3.alloc (.cells #[.int .i64 3, .int .i64 0, .int .i64 0, .int .i64 0, .int .i64 0] 44)
  have hG4 := Blk.new w3 44 #[.int .i64 3, .int .i64 0, .int .i64 0, .int .i64 0, .int .i64 0]
  have o0 : (w3.alloc (.cells #[.int .i64 3, .int .i64 0, .int .i64 0, .int .i64 0, .int .i64 0] 44)).cell? ⟨w.heap.size, 0, none⟩ = some (.int .i64 5) := by rw [hO4.cell]; rfl
  have o1 : (w3.alloc (.cells #[.int .i64 3, .int .i64 0, .int .i64 0, .int .i64 0, .int .i64 0] 44)).cell? ⟨w.heap.size, 1, none⟩ = some (.int .i64 (i : Int)) := by rw [hO4.cell]; rfl
  have o2 : (w3.alloc (.cells #[.int .i64 3, .int .i64 0, .int .i64 0, .int .i64 0, .int .i64 0] 44)).cell? ⟨w.heap.size, 2, none⟩ = some (.int .i64 un) := by rw [hO4.cell]; rfl
  have o3 : (w3.alloc (.cells #[.int .i64 3, .int .i64 0, .int .i64 0, .int .i64 0, .int .i64 0] 44)).cell? ⟨w.heap.size, 3, none⟩ = some (.int .i64 cu) := by rw [hO4.cell]; rfl
  have o4 : (w3.alloc (.cells #[.int .i64 3, .int .i64 0, .int .i64 0, .int .i64 0, .int .i64 0] 44)).cell? ⟨w.heap.size, 4, none⟩ = some (.int .i64 am) := by rw [hO4.cell]; rfl
  have y0 : (w3.alloc (.cells #[.int .i64 3, .int .i64 0, .int .i64 0, .int .i64 0, .int .i64 0] 44)).cell? ⟨Y, 0, none⟩ = some (.int .i64 0) := by rw [hY4.cell]; rfl
  have y1 : (w3.alloc (.cells #[.int .i64 3, .int .i64 0, .int .i64 0, .int .i64 0, .int .i64 0] 44)).cell? ⟨Y, 1, none⟩ = some (.int .i64 0) := by rw [hY4.cell]; rfl
  have y2 : (w3.alloc (.cells #[.int .i64 3, .int .i64 0, .int .i64 0, .int .i64 0, .int .i64 0] 44)).cell? ⟨Y, 2, none⟩ = some (.int .i64 0) := by rw [hY4.cell]; rfl
  have y3 : (w3.alloc (.cells #[.int .i64 3, .int .i64 0, .int .i64 0, .int .i64 0, .int .i64 0] 44)).cell? ⟨Y, 3, none⟩ = some (.int .i64 0) := by rw [hY4.cell]; rfl
  have y4 : (w3.alloc (.cells #[.int .i64 3, .int .i64 0, .int .i64 0, .int .i64 0, .int .i64 0] 44)).cell? ⟨Y, 4, none⟩ = some (.int .i64 0) := by rw [hY4.cell]; rfl
  have g0 : (w3.alloc (.cells #[.int .i64 3, .int .i64 0, .int .i64 0, .int .i64 0, .int .i64 0] 44)).cell? ⟨w3.heap.size, 0, none⟩ = some (.int .i64 3) := by rw [hG4.cell]; rfl
  have g1 : (w3.alloc (.cells #[.int .i64 3, .int .i64 0, .int .i64 0, .int .i64 0, .int .i64 0] 44)).cell? ⟨w3.heap.size, 1, none⟩ = some (.int .i64 0) := by rw [hG4.cell]; rfl
  have g2 : (w3.alloc (.cells #[.int .i64 3, .int .i64 0, .int .i64 0, .int .i64 0, .int .i64 0] 44)).cell? ⟨w3.heap.size, 2, none⟩ = some (.int .i64 0) := by rw [hG4.cell]; rfl
  have g3 : (w3.alloc (.cells #[.int .i64 3, .int .i64 0, .int .i64 0, .int .i64 0, .int .i64 0] 44)).cell? ⟨w3.heap.size, 3, none⟩ = some (.int .i64 0) := by rw [hG4.cell]; rfl
  have g4 : (w3.alloc (.cells #[.int .i64 3, .int .i64 0, .int .i64 0, .int .i64 0, .int .i64 0] 44)).cell? ⟨w3.heap.size, 4, none⟩ = some (.int .i64 0) := by rw [hG4.cell]; rfl
  have f0 := hx4.blk.frozen (6 + i * 5)
  have f1 := hx4.blk.frozen (6 + i * 5 + 1)
  have f2 := hx4.blk.frozen (6 + i * 5 + 2)
  have f3 := hx4.blk.frozen (6 + i * 5 + 3)
  have f4 := hx4.blk.frozen (6 + i * 5 + 4)
  obtain ⟨c0, c1, c2, c3, c4⟩ := QBlk.cells hx4.blk i (by omega) hyh.out
  dsimp only at c0 c1 c2 c3 c4
  have hck5 := hck4.mono (T := fun i => i = x ∨ lv.ownBlock = some i) (fun _ _ h => h.elim)
  clear hO3 hY3 hw3 hx3
  go_wp2_with fail
  refine wp_region_plan (by kernel_rfl) [{ fl := [0, 1, 2, 3, 4, 5, 6], ef := 7 }] [] (by kernel_rfl) (fun _ _ => True) ?_
  simp only [wpPlan, longOK, keepOK, opsAt_cons, opsAt_nil, consO_some, List.getElem?_toArray, List.getElem?_cons_succ, List.getElem?_cons_zero, true_and]
  go_wp2_with fail
  refine ⟨by kernel_rfl, ?_⟩
  go_wp2_with fail
  refine ⟨by kernel_rfl, ?_⟩
  go_wp2_with fail
  go_ret
  exact ⟨rfl, lv, (hx4.put i hb2 Ent.gone).drew, (hck5.put5 (.inl rfl) _ _ _ _ _).drew, .inl rfl⟩

set_option maxRecDepth 100000 in
set_option maxHeartbeats 2000000 in
theorem rq_do_53 {w : World} {x : Nat} {lv : Value} {p : Pur} {T : Int} (h : QAt R w x lv p) (hG : p.Good T) (_hT : T ≤ 1125899906842624) (_hlen : p.ln.length ≤ 1000000) (o : POp) (hm : mayOp o = true) (hk : o.kd = 5) (hst : (p.en o.bk).st = 3) :
    Calls Try.prog 10 #[.pointer (some ⟨x, 0, none⟩), o.val] w fun e w' => e = .returned (.int .i64 (p.act o).1) ∧ ∃ lv', QAt R w' x lv' (p.act o).2 ∧ Chg (fun i => i = x ∨ lv.ownBlock = some i) w w' ∧ (lv'.ownBlock = lv.ownBlock ∨ ∃ k, lv'.ownBlock = some k ∧ w.heap.size ≤ k) := by
  have hcA := (Chg.refl (fun _ => False) w).alloc (.cells o.row 33)
  have hO := Blk.new w 33 o.row
  unfold POp.row at hcA
  have hbk := mayOp_bk hm
  have hmh := Lib.hid hm
  clear hm
  have hbnd := hG.bounds
  have hamt := hG.amt o.bk
  have hnon := hG.non o.bk
  have hgon := hG.gon o.bk
  obtain ⟨kd, bk, un, cu, am⟩ := o
  dsimp only at *
  obtain ⟨i, rfl⟩ : ∃ i : Nat, bk = i := ⟨bk.toNat, by omega⟩
  obtain ⟨hb1, hb2⟩ := hbk
  have hb1 : 1 ≤ i := by omega
  have hb2 : i ≤ 200 := by omega
  subst hk
  obtain ⟨y, hy⟩ : ∃ y, p.en (i : Int) = y := ⟨_, rfl⟩
  rw [hy] at hst hamt hnon hgon
  obtain rfl := hgon hst
  unfold Ent.gone at hy
  clear hamt hnon hgon hst
  have hr : p.act ⟨5, (i : Int), un, cu, am⟩ = (2, p) := by
    unfold Pur.act
    rw [if_neg (by rw [hmh.out]; decide)]
    dsimp only
    rw [hy]
    simp [Pur.stay, hy]
  rw [hr]
  have hyh := Lib.hid hy
  clear hy
  go_enter Try.func10, Try.ntmps10
  unfold POp.val
  go_wp2_with fail
  refine (mayRef_any ⟨5, (i : Int), un, cu, am⟩ _).mono ?_
  rintro e w1 ⟨rfl, hc1⟩
  rw [hmh.out]
  have hO1 := hO.chg hc1 id
  have hck := hcA.trans hc1 (fun _ _ h => h)
  have hx1 := h.chg hck id (fun _ _ => id)
  have hzx : x ≠ w.heap.size := Nat.ne_of_lt (Blk.lt h.blk)
  have hlw := own_lt0 h.own
  have o0 : w1.cell? ⟨w.heap.size, 0, none⟩ = some (.int .i64 5) := by rw [hO1.cell]; rfl
  have o1 : w1.cell? ⟨w.heap.size, 1, none⟩ = some (.int .i64 (i : Int)) := by rw [hO1.cell]; rfl
  obtain ⟨c0, c1, c2, c3, c4⟩ := hx1.blk.cells i (by omega) hyh.out
  dsimp only at c0 c1 c2 c3 c4
  clear hcA hO hc1
  go_wp2_with fail
  refine wp_region_plan (by kernel_rfl) [{ fl := [0, 1, 2, 3, 4, 5, 6], long := [2, 6], ef := 7, keep := [2, 6] }, { fl := [], ef := 8 }] [] (by kernel_rfl) (fun _ w9 => w9.heap[x]? = w1.heap[x]? ∧ w9.heap[w.heap.size]? = w1.heap[w.heap.size]?) ?_
  simp only [wpPlan, longOK, keepOK, opsAt_cons, opsAt_nil, consO_some, List.getElem?_toArray, List.getElem?_cons_succ, List.getElem?_cons_zero, and_true, true_and]
  refine ⟨⟨⟨rfl, rfl⟩, ⟨rfl, rfl⟩⟩, ?_⟩
  go_wp2_with fail
  refine ⟨by kernel_rfl, ⟨?_, ?_⟩, ?_⟩
  · intro _ w9 h9
    have o1 : w9.cell? ⟨w.heap.size, 1, none⟩ = some (.int .i64 (i : Int)) := by rw [(hO1.keep h9.2).cell]; rfl
    clear h9
    go_simp
  · intro _ w9 h9
    obtain ⟨c0, c1, c2, c3, c4⟩ := QBlk.cells (R := R) (w := w9) (Blk.keep hx1.blk h9.1) i (by omega) hyh.out
    dsimp only at c0 c1 c2 c3 c4
    clear h9
    go_simp
  go_wp2_with fail
  have hcB := ((Chg.refl (fun _ => False) w1).drew).alloc (.cells #[.int .i64 0, .int .i64 0, .int .i64 0, .int .i64 0, .int .i64 0] 44)
  refine ⟨⟨⟨hcB.block x (Blk.lt hx1.blk) id, hcB.block _ hO1.lt id⟩, ⟨hcB.block x (Blk.lt hx1.blk) id, hcB.block _ hO1.lt id⟩⟩, ?_⟩
  go_wp2_with fail
  refine ⟨by kernel_rfl, ?_⟩
  go_wp2_with fail
  refine ⟨by kernel_rfl, ?_⟩
  have hw3 : Chg (fun _ => False) w (w1.alloc (.cells #[.int .i64 3, .int .i64 0, .int .i64 0, .int .i64 0, .int .i64 0] 44)).drew := (hck.alloc _).drew
  have hx3 : QAt R (w1.alloc (.cells #[.int .i64 3, .int .i64 0, .int .i64 0, .int .i64 0, .int .i64 0] 44)).drew x lv p := h.chg hw3 id (fun _ _ => id)
  have hO3 : Blk (w1.alloc (.cells #[.int .i64 3, .int .i64 0, .int .i64 0, .int .i64 0, .int .i64 0] 44)).drew w.heap.size 33 #[.int .i64 5, .int .i64 (i : Int), .int .i64 un, .int .i64 cu, .int .i64 am] := hO1.alloc _
  have hY3 : Blk (w1.alloc (.cells #[.int .i64 3, .int .i64 0, .int .i64 0, .int .i64 0, .int .i64 0] 44)).drew w1.heap.size 44 #[.int .i64 3, .int .i64 0, .int .i64 0, .int .i64 0, .int .i64 0] := Blk.new w1 _ _
  clear hcB c0 c1 c2 c3 c4 o0 o1 hO1 hx1 hck
  generalize hyb : w1.heap.size = Y at *
  generalize (w1.alloc (.cells #[.int .i64 3, .int .i64 0, .int .i64 0, .int .i64 0, .int .i64 0] 44)).drew = w3 at *
  clear hyb
  have hck4 := hw3.alloc (.cells #[.int .i64 3, .int .i64 0, .int .i64 0, .int .i64 0, .int .i64 0] 44)
  have hx4 : QAt R (w3.alloc (.cells #[.int .i64 3, .int .i64 0, .int .i64 0, .int .i64 0, .int .i64 0] 44)) x lv p := h.chg hck4 id (fun _ _ => id)
  have hO4 := hO3.alloc (.cells #[.int .i64 3, .int .i64 0, .int .i64 0, .int .i64 0, .int .i64 0] 44)
  have hY4 := hY3.alloc (.cells #[.int .i64 3, .int .i64 0, .int .i64 0, .int .i64 0, .int .i64 0] 44)
  have hG4 := Blk.new w3 44 #[.int .i64 3, .int .i64 0, .int .i64 0, .int .i64 0, .int .i64 0]
  have o0 : (w3.alloc (.cells #[.int .i64 3, .int .i64 0, .int .i64 0, .int .i64 0, .int .i64 0] 44)).cell? ⟨w.heap.size, 0, none⟩ = some (.int .i64 5) := by rw [hO4.cell]; rfl
  have o1 : (w3.alloc (.cells #[.int .i64 3, .int .i64 0, .int .i64 0, .int .i64 0, .int .i64 0] 44)).cell? ⟨w.heap.size, 1, none⟩ = some (.int .i64 (i : Int)) := by rw [hO4.cell]; rfl
  have o2 : (w3.alloc (.cells #[.int .i64 3, .int .i64 0, .int .i64 0, .int .i64 0, .int .i64 0] 44)).cell? ⟨w.heap.size, 2, none⟩ = some (.int .i64 un) := by rw [hO4.cell]; rfl
  have o3 : (w3.alloc (.cells #[.int .i64 3, .int .i64 0, .int .i64 0, .int .i64 0, .int .i64 0] 44)).cell? ⟨w.heap.size, 3, none⟩ = some (.int .i64 cu) := by rw [hO4.cell]; rfl
  have o4 : (w3.alloc (.cells #[.int .i64 3, .int .i64 0, .int .i64 0, .int .i64 0, .int .i64 0] 44)).cell? ⟨w.heap.size, 4, none⟩ = some (.int .i64 am) := by rw [hO4.cell]; rfl
  have y0 : (w3.alloc (.cells #[.int .i64 3, .int .i64 0, .int .i64 0, .int .i64 0, .int .i64 0] 44)).cell? ⟨Y, 0, none⟩ = some (.int .i64 3) := by rw [hY4.cell]; rfl
  have y1 : (w3.alloc (.cells #[.int .i64 3, .int .i64 0, .int .i64 0, .int .i64 0, .int .i64 0] 44)).cell? ⟨Y, 1, none⟩ = some (.int .i64 0) := by rw [hY4.cell]; rfl
  have y2 : (w3.alloc (.cells #[.int .i64 3, .int .i64 0, .int .i64 0, .int .i64 0, .int .i64 0] 44)).cell? ⟨Y, 2, none⟩ = some (.int .i64 0) := by rw [hY4.cell]; rfl
  have y3 : (w3.alloc (.cells #[.int .i64 3, .int .i64 0, .int .i64 0, .int .i64 0, .int .i64 0] 44)).cell? ⟨Y, 3, none⟩ = some (.int .i64 0) := by rw [hY4.cell]; rfl
  have y4 : (w3.alloc (.cells #[.int .i64 3, .int .i64 0, .int .i64 0, .int .i64 0, .int .i64 0] 44)).cell? ⟨Y, 4, none⟩ = some (.int .i64 0) := by rw [hY4.cell]; rfl
  have g0 : (w3.alloc (.cells #[.int .i64 3, .int .i64 0, .int .i64 0, .int .i64 0, .int .i64 0] 44)).cell? ⟨w3.heap.size, 0, none⟩ = some (.int .i64 3) := by rw [hG4.cell]; rfl
  have g1 : (w3.alloc (.cells #[.int .i64 3, .int .i64 0, .int .i64 0, .int .i64 0, .int .i64 0] 44)).cell? ⟨w3.heap.size, 1, none⟩ = some (.int .i64 0) := by rw [hG4.cell]; rfl
  have g2 : (w3.alloc (.cells #[.int .i64 3, .int .i64 0, .int .i64 0, .int .i64 0, .int .i64 0] 44)).cell? ⟨w3.heap.size, 2, none⟩ = some (.int .i64 0) := by rw [hG4.cell]; rfl
  have g3 : (w3.alloc (.cells #[.int .i64 3, .int .i64 0, .int .i64 0, .int .i64 0, .int .i64 0] 44)).cell? ⟨w3.heap.size, 3, none⟩ = some (.int .i64 0) := by rw [hG4.cell]; rfl
  have g4 : (w3.alloc (.cells #[.int .i64 3, .int .i64 0, .int .i64 0, .int .i64 0, .int .i64 0] 44)).cell? ⟨w3.heap.size, 4, none⟩ = some (.int .i64 0) := by rw [hG4.cell]; rfl
  have f0 := hx4.blk.frozen (6 + i * 5)
  have f1 := hx4.blk.frozen (6 + i * 5 + 1)
  have f2 := hx4.blk.frozen (6 + i * 5 + 2)
  have f3 := hx4.blk.frozen (6 + i * 5 + 3)
  have f4 := hx4.blk.frozen (6 + i * 5 + 4)
  obtain ⟨c0, c1, c2, c3, c4⟩ := QBlk.cells hx4.blk i (by omega) hyh.out
  dsimp only at c0 c1 c2 c3 c4
  have hck5 := hck4.mono (T := fun i => i = x ∨ lv.ownBlock = some i) (fun _ _ h => h.elim)
  clear hO3 hY3 hw3 hx3
  go_wp2_with fail
  go_ret
  exact ⟨rfl, lv, hx4, hck5, .inl rfl⟩

set_option maxRecDepth 100000 in
set_option maxHeartbeats 2000000 in
theorem rq_do_55 {w : World} {x : Nat} {lv : Value} {p : Pur} {T : Int} (h : QAt R w x lv p) (hG : p.Good T) (_hT : T ≤ 1125899906842624) (_hlen : p.ln.length ≤ 1000000) (o : POp) (hm : mayOp o = true) (hk : o.kd = 5) (hst : (p.en o.bk).st = 5) :
    Calls Try.prog 10 #[.pointer (some ⟨x, 0, none⟩), o.val] w fun e w' => e = .returned (.int .i64 (p.act o).1) ∧ ∃ lv', QAt R w' x lv' (p.act o).2 ∧ Chg (fun i => i = x ∨ lv.ownBlock = some i) w w' ∧ (lv'.ownBlock = lv.ownBlock ∨ ∃ k, lv'.ownBlock = some k ∧ w.heap.size ≤ k) := by
  have hcA := (Chg.refl (fun _ => False) w).alloc (.cells o.row 33)
  have hO := Blk.new w 33 o.row
  unfold POp.row at hcA
  have hbk := mayOp_bk hm
  have hmh := Lib.hid hm
  clear hm
  have hbnd := hG.bounds
  have hamt := hG.amt o.bk
  have hnon := hG.non o.bk
  have hgon := hG.gon o.bk
  obtain ⟨kd, bk, un, cu, am⟩ := o
  dsimp only at *
  obtain ⟨i, rfl⟩ : ∃ i : Nat, bk = i := ⟨bk.toNat, by omega⟩
  obtain ⟨hb1, hb2⟩ := hbk
  have hb1 : 1 ≤ i := by omega
  have hb2 : i ≤ 200 := by omega
  subst hk
  obtain ⟨y, hy⟩ : ∃ y, p.en (i : Int) = y := ⟨_, rfl⟩
  rw [hy] at hst hamt hnon hgon
  obtain ⟨yst, yun, ytil, ycu, yam⟩ := y
  dsimp only at hst hamt
  obtain ⟨yam0, yam1, ycu0, ycu1⟩ := hamt (.inr hst)
  subst hst
  clear hamt hnon hgon
  have hr : p.act ⟨5, (i : Int), un, cu, am⟩ = (1, p) := by
    unfold Pur.act
    rw [if_neg (by rw [hmh.out]; decide)]
    dsimp only
    rw [hy]
    simp [Pur.stay, hy]
  rw [hr]
  have hyh := Lib.hid hy
  clear hy
  go_enter Try.func10, Try.ntmps10
  unfold POp.val
  go_wp2_with fail
  refine (mayRef_any ⟨5, (i : Int), un, cu, am⟩ _).mono ?_
  rintro e w1 ⟨rfl, hc1⟩
  rw [hmh.out]
  have hO1 := hO.chg hc1 id
  have hck := hcA.trans hc1 (fun _ _ h => h)
  have hx1 := h.chg hck id (fun _ _ => id)
  have hzx : x ≠ w.heap.size := Nat.ne_of_lt (Blk.lt h.blk)
  have hlw := own_lt0 h.own
  have o0 : w1.cell? ⟨w.heap.size, 0, none⟩ = some (.int .i64 5) := by rw [hO1.cell]; rfl
  have o1 : w1.cell? ⟨w.heap.size, 1, none⟩ = some (.int .i64 (i : Int)) := by rw [hO1.cell]; rfl
  obtain ⟨c0, c1, c2, c3, c4⟩ := hx1.blk.cells i (by omega) hyh.out
  dsimp only at c0 c1 c2 c3 c4
  clear hcA hO hc1
  go_wp2_with fail
  refine wp_region_plan (by kernel_rfl) [{ fl := [0, 1, 2, 3, 4, 5, 6], long := [2, 6], ef := 7, keep := [2, 6] }, { fl := [], ef := 8 }] [] (by kernel_rfl) (fun _ w9 => w9.heap[x]? = w1.heap[x]? ∧ w9.heap[w.heap.size]? = w1.heap[w.heap.size]?) ?_
  simp only [wpPlan, longOK, keepOK, opsAt_cons, opsAt_nil, consO_some, List.getElem?_toArray, List.getElem?_cons_succ, List.getElem?_cons_zero, and_true, true_and]
  refine ⟨⟨⟨rfl, rfl⟩, ⟨rfl, rfl⟩⟩, ?_⟩
  go_wp2_with fail
  refine ⟨by kernel_rfl, ⟨?_, ?_⟩, ?_⟩
  · intro _ w9 h9
    have o1 : w9.cell? ⟨w.heap.size, 1, none⟩ = some (.int .i64 (i : Int)) := by rw [(hO1.keep h9.2).cell]; rfl
    clear h9
    go_simp
  · intro _ w9 h9
    obtain ⟨c0, c1, c2, c3, c4⟩ := QBlk.cells (R := R) (w := w9) (Blk.keep hx1.blk h9.1) i (by omega) hyh.out
    dsimp only at c0 c1 c2 c3 c4
    clear h9
    go_simp
  go_wp2_with fail
  have hcB := ((Chg.refl (fun _ => False) w1).drew).alloc (.cells #[.int .i64 0, .int .i64 0, .int .i64 0, .int .i64 0, .int .i64 0] 44)
  refine ⟨⟨⟨hcB.block x (Blk.lt hx1.blk) id, hcB.block _ hO1.lt id⟩, ⟨hcB.block x (Blk.lt hx1.blk) id, hcB.block _ hO1.lt id⟩⟩, ?_⟩
  go_wp2_with fail
  refine ⟨by kernel_rfl, ?_⟩
  go_wp2_with fail
  refine ⟨by kernel_rfl, ?_⟩
  have hw3 : Chg (fun _ => False) w (w1.alloc (.cells #[.int .i64 5, .int .i64 yun, .int .i64 ytil, .int .i64 ycu, .int .i64 yam] 44)).drew := (hck.alloc _).drew
  have hx3 : QAt R (w1.alloc (.cells #[.int .i64 5, .int .i64 yun, .int .i64 ytil, .int .i64 ycu, .int .i64 yam] 44)).drew x lv p := h.chg hw3 id (fun _ _ => id)
  have hO3 : Blk (w1.alloc (.cells #[.int .i64 5, .int .i64 yun, .int .i64 ytil, .int .i64 ycu, .int .i64 yam] 44)).drew w.heap.size 33 #[.int .i64 5, .int .i64 (i : Int), .int .i64 un, .int .i64 cu, .int .i64 am] := hO1.alloc _
  have hY3 : Blk (w1.alloc (.cells #[.int .i64 5, .int .i64 yun, .int .i64 ytil, .int .i64 ycu, .int .i64 yam] 44)).drew w1.heap.size 44 #[.int .i64 5, .int .i64 yun, .int .i64 ytil, .int .i64 ycu, .int .i64 yam] := Blk.new w1 _ _
  clear hcB c0 c1 c2 c3 c4 o0 o1 hO1 hx1 hck
  generalize hyb : w1.heap.size = Y at *
  generalize (w1.alloc (.cells #[.int .i64 5, .int .i64 yun, .int .i64 ytil, .int .i64 ycu, .int .i64 yam] 44)).drew = w3 at *
  clear hyb
  have hck4 := hw3.alloc (.cells #[.int .i64 3, .int .i64 0, .int .i64 0, .int .i64 0, .int .i64 0] 44)
  have hx4 : QAt R (w3.alloc (.cells #[.int .i64 3, .int .i64 0, .int .i64 0, .int .i64 0, .int .i64 0] 44)) x lv p := h.chg hck4 id (fun _ _ => id)
  have hO4 := hO3.alloc (.cells #[.int .i64 3, .int .i64 0, .int .i64 0, .int .i64 0, .int .i64 0] 44)
  have hY4 := hY3.alloc (.cells #[.int .i64 3, .int .i64 0, .int .i64 0, .int .i64 0, .int .i64 0] 44)
  have hG4 := Blk.new w3 44 #[.int .i64 3, .int .i64 0, .int .i64 0, .int .i64 0, .int .i64 0]
  have o0 : (w3.alloc (.cells #[.int .i64 3, .int .i64 0, .int .i64 0, .int .i64 0, .int .i64 0] 44)).cell? ⟨w.heap.size, 0, none⟩ = some (.int .i64 5) := by rw [hO4.cell]; rfl
  have o1 : (w3.alloc (.cells #[.int .i64 3, .int .i64 0, .int .i64 0, .int .i64 0, .int .i64 0] 44)).cell? ⟨w.heap.size, 1, none⟩ = some (.int .i64 (i : Int)) := by rw [hO4.cell]; rfl
  have o2 : (w3.alloc (.cells #[.int .i64 3, .int .i64 0, .int .i64 0, .int .i64 0, .int .i64 0] 44)).cell? ⟨w.heap.size, 2, none⟩ = some (.int .i64 un) := by rw [hO4.cell]; rfl
  have o3 : (w3.alloc (.cells #[.int .i64 3, .int .i64 0, .int .i64 0, .int .i64 0, .int .i64 0] 44)).cell? ⟨w.heap.size, 3, none⟩ = some (.int .i64 cu) := by rw [hO4.cell]; rfl
  have o4 : (w3.alloc (.cells #[.int .i64 3, .int .i64 0, .int .i64 0, .int .i64 0, .int .i64 0] 44)).cell? ⟨w.heap.size, 4, none⟩ = some (.int .i64 am) := by rw [hO4.cell]; rfl
  have y0 : (w3.alloc (.cells #[.int .i64 3, .int .i64 0, .int .i64 0, .int .i64 0, .int .i64 0] 44)).cell? ⟨Y, 0, none⟩ = some (.int .i64 5) := by rw [hY4.cell]; rfl
  have y1 : (w3.alloc (.cells #[.int .i64 3, .int .i64 0, .int .i64 0, .int .i64 0, .int .i64 0] 44)).cell? ⟨Y, 1, none⟩ = some (.int .i64 yun) := by rw [hY4.cell]; rfl
  have y2 : (w3.alloc (.cells #[.int .i64 3, .int .i64 0, .int .i64 0, .int .i64 0, .int .i64 0] 44)).cell? ⟨Y, 2, none⟩ = some (.int .i64 ytil) := by rw [hY4.cell]; rfl
  have y3 : (w3.alloc (.cells #[.int .i64 3, .int .i64 0, .int .i64 0, .int .i64 0, .int .i64 0] 44)).cell? ⟨Y, 3, none⟩ = some (.int .i64 ycu) := by rw [hY4.cell]; rfl
  have y4 : (w3.alloc (.cells #[.int .i64 3, .int .i64 0, .int .i64 0, .int .i64 0, .int .i64 0] 44)).cell? ⟨Y, 4, none⟩ = some (.int .i64 yam) := by rw [hY4.cell]; rfl
  have g0 : (w3.alloc (.cells #[.int .i64 3, .int .i64 0, .int .i64 0, .int .i64 0, .int .i64 0] 44)).cell? ⟨w3.heap.size, 0, none⟩ = some (.int .i64 3) := by rw [hG4.cell]; rfl
  have g1 : (w3.alloc (.cells #[.int .i64 3, .int .i64 0, .int .i64 0, .int .i64 0, .int .i64 0] 44)).cell? ⟨w3.heap.size, 1, none⟩ = some (.int .i64 0) := by rw [hG4.cell]; rfl
  have g2 : (w3.alloc (.cells #[.int .i64 3, .int .i64 0, .int .i64 0, .int .i64 0, .int .i64 0] 44)).cell? ⟨w3.heap.size, 2, none⟩ = some (.int .i64 0) := by rw [hG4.cell]; rfl
  have g3 : (w3.alloc (.cells #[.int .i64 3, .int .i64 0, .int .i64 0, .int .i64 0, .int .i64 0] 44)).cell? ⟨w3.heap.size, 3, none⟩ = some (.int .i64 0) := by rw [hG4.cell]; rfl
  have g4 : (w3.alloc (.cells #[.int .i64 3, .int .i64 0, .int .i64 0, .int .i64 0, .int .i64 0] 44)).cell? ⟨w3.heap.size, 4, none⟩ = some (.int .i64 0) := by rw [hG4.cell]; rfl
  have f0 := hx4.blk.frozen (6 + i * 5)
  have f1 := hx4.blk.frozen (6 + i * 5 + 1)
  have f2 := hx4.blk.frozen (6 + i * 5 + 2)
  have f3 := hx4.blk.frozen (6 + i * 5 + 3)
  have f4 := hx4.blk.frozen (6 + i * 5 + 4)
  obtain ⟨c0, c1, c2, c3, c4⟩ := QBlk.cells hx4.blk i (by omega) hyh.out
  dsimp only at c0 c1 c2 c3 c4
  have hck5 := hck4.mono (T := fun i => i = x ∨ lv.ownBlock = some i) (fun _ _ h => h.elim)
  clear hO3 hY3 hw3 hx3
  go_wp2_with fail
  go_ret
  exact ⟨rfl, lv, hx4, hck5, .inl rfl⟩
end Go.Proofs.Ytddnpjlcmokbiaa

namespace Go.Proofs.Ytddnpjlcmokbiaa
open Go.RowKit Go.Maps
variable {R : QEnv}

set_option maxRecDepth 100000 in
set_option maxHeartbeats 2000000 in
theorem rq_do_54 {w : World} {x : Nat} {lv : Value} {p : Pur} {T : Int} (h : QAt R w x lv p) (hG : p.Good T) (hT : T ≤ 1125899906842624) (hlen : p.ln.length ≤ 1000000) (o : POp) (hm : mayOp o = true) (hk : o.kd = 5) (hst : (p.en o.bk).st = 4) :
    Calls Try.prog 10 #[.pointer (some ⟨x, 0, none⟩), o.val] w fun e w' => e = .returned (.int .i64 (p.act o).1) ∧ ∃ lv', QAt R w' x lv' (p.act o).2 ∧ Chg (fun i => i = x ∨ lv.ownBlock = some i) w w' ∧ (lv'.ownBlock = lv.ownBlock ∨ ∃ k, lv'.ownBlock = some k ∧ w.heap.size ≤ k) := by
  have hcA := (Chg.refl (fun _ => False) w).alloc (.cells o.row 33)
  have hO := Blk.new w 33 o.row
  unfold POp.row at hcA
  have hbk := mayOp_bk hm
  have hmh := Lib.hid hm
  clear hm
  have hbnd := hG.bounds
  have hamt := hG.amt o.bk
  have hnon := hG.non o.bk
  have hgon := hG.gon o.bk
  obtain ⟨kd, bk, un, cu, am⟩ := o
  dsimp only at *
  obtain ⟨i, rfl⟩ : ∃ i : Nat, bk = i := ⟨bk.toNat, by omega⟩
  obtain ⟨hb1, hb2⟩ := hbk
  have hb1 : 1 ≤ i := by omega
  have hb2 : i ≤ 200 := by omega
  subst hk
  obtain ⟨y, hy⟩ : ∃ y, p.en (i : Int) = y := ⟨_, rfl⟩
  rw [hy] at hst hamt hnon hgon
  obtain ⟨yst, yun, ytil, ycu, yam⟩ := y
  dsimp only at hst hamt
  obtain ⟨yam0, yam1, ycu0, ycu1⟩ := hamt (.inl hst)
  subst hst
  clear hamt hnon hgon
  have hr : p.act ⟨5, (i : Int), un, cu, am⟩ = (1, p.move (i : Int) 4 5 yam ⟨5, yun, ytil, ycu, yam⟩) := by
    unfold Pur.act
    rw [if_neg (by rw [hmh.out]; decide)]
    dsimp only
    rw [hy]
    simp
  rw [hr]
  have hyh := Lib.hid hy
  clear hy
  go_enter Try.func10, Try.ntmps10
  unfold POp.val
  go_wp2_with fail
  refine (mayRef_any ⟨5, (i : Int), un, cu, am⟩ _).mono ?_
  rintro e w1 ⟨rfl, hc1⟩
  rw [hmh.out]
  have hO1 := hO.chg hc1 id
  have hck := hcA.trans hc1 (fun _ _ h => h)
  have hx1 := h.chg hck id (fun _ _ => id)
  have hzx : x ≠ w.heap.size := Nat.ne_of_lt (Blk.lt h.blk)
  have hlw := own_lt0 h.own
  have o0 : w1.cell? ⟨w.heap.size, 0, none⟩ = some (.int .i64 5) := by rw [hO1.cell]; rfl
  have o1 : w1.cell? ⟨w.heap.size, 1, none⟩ = some (.int .i64 (i : Int)) := by rw [hO1.cell]; rfl
  obtain ⟨c0, c1, c2, c3, c4⟩ := hx1.blk.cells i (by omega) hyh.out
  dsimp only at c0 c1 c2 c3 c4
  clear hcA hO hc1
  go_wp2_with fail
  refine wp_region_plan (by kernel_rfl) [{ fl := [0, 1, 2, 3, 4, 5, 6], long := [2, 6], ef := 7, keep := [2, 6] }, { fl := [], ef := 8 }] [] (by kernel_rfl) (fun _ w9 => w9.heap[x]? = w1.heap[x]? ∧ w9.heap[w.heap.size]? = w1.heap[w.heap.size]?) ?_
  simp only [wpPlan, longOK, keepOK, opsAt_cons, opsAt_nil, consO_some, List.getElem?_toArray, List.getElem?_cons_succ, List.getElem?_cons_zero, and_true, true_and]
  refine ⟨⟨⟨rfl, rfl⟩, ⟨rfl, rfl⟩⟩, ?_⟩
  go_wp2_with fail
  refine ⟨by kernel_rfl, ⟨?_, ?_⟩, ?_⟩
  · intro _ w9 h9
    have o1 : w9.cell? ⟨w.heap.size, 1, none⟩ = some (.int .i64 (i : Int)) := by rw [(hO1.keep h9.2).cell]; rfl
    clear h9
    go_simp
  · intro _ w9 h9
    obtain ⟨c0, c1, c2, c3, c4⟩ := QBlk.cells (R := R) (w := w9) (Blk.keep hx1.blk h9.1) i (by omega) hyh.out
    dsimp only at c0 c1 c2 c3 c4
    clear h9
    go_simp
  go_wp2_with fail
  have hcB := ((Chg.refl (fun _ => False) w1).drew).alloc (.cells #[.int .i64 0, .int .i64 0, .int .i64 0, .int .i64 0, .int .i64 0] 44)
  refine ⟨⟨⟨hcB.block x (Blk.lt hx1.blk) id, hcB.block _ hO1.lt id⟩, ⟨hcB.block x (Blk.lt hx1.blk) id, hcB.block _ hO1.lt id⟩⟩, ?_⟩
  go_wp2_with fail
  refine ⟨by kernel_rfl, ?_⟩
  go_wp2_with fail
  refine ⟨by kernel_rfl, ?_⟩
  have hw3 : Chg (fun _ => False) w (w1.alloc (.cells #[.int .i64 4, .int .i64 yun, .int .i64 ytil, .int .i64 ycu, .int .i64 yam] 44)).drew := (hck.alloc _).drew
  have hx3 : QAt R (w1.alloc (.cells #[.int .i64 4, .int .i64 yun, .int .i64 ytil, .int .i64 ycu, .int .i64 yam] 44)).drew x lv p := h.chg hw3 id (fun _ _ => id)
  have hO3 : Blk (w1.alloc (.cells #[.int .i64 4, .int .i64 yun, .int .i64 ytil, .int .i64 ycu, .int .i64 yam] 44)).drew w.heap.size 33 #[.int .i64 5, .int .i64 (i : Int), .int .i64 un, .int .i64 cu, .int .i64 am] := hO1.alloc _
  have hY3 : Blk (w1.alloc (.cells #[.int .i64 4, .int .i64 yun, .int .i64 ytil, .int .i64 ycu, .int .i64 yam] 44)).drew w1.heap.size 44 #[.int .i64 4, .int .i64 yun, .int .i64 ytil, .int .i64 ycu, .int .i64 yam] := Blk.new w1 _ _
  clear hcB c0 c1 c2 c3 c4 o0 o1 hO1 hx1 hck
  generalize hyb : w1.heap.size = Y at *
  generalize (w1.alloc (.cells #[.int .i64 4, .int .i64 yun, .int .i64 ytil, .int .i64 ycu, .int .i64 yam] 44)).drew = w3 at *
  clear hyb
  have hck4 := hw3.alloc (.cells #[.int .i64 3, .int .i64 0, .int .i64 0, .int .i64 0, .int .i64 0] 44)
  have hx4 : QAt R (w3.alloc (.cells #[.int .i64 3, .int .i64 0, .int .i64 0, .int .i64 0, .int .i64 0] 44)) x lv p := h.chg hck4 id (fun _ _ => id)
  have hO4 := hO3.alloc (.cells #[.int .i64 3, .int .i64 0, .int .i64 0, .int .i64 0, .int .i64 0] 44)
  have hY4 := hY3.alloc (.cells #[.int .i64 3, .int .i64 0, .int .i64 0, .int .i64 0, .int .i64 0] 44)
  have hG4 := Blk.new w3 44 #[.int .i64 3, .int .i64 0, .int .i64 0, .int .i64 0, .int .i64 0]
  have o0 : (w3.alloc (.cells #[.int .i64 3, .int .i64 0, .int .i64 0, .int .i64 0, .int .i64 0] 44)).cell? ⟨w.heap.size, 0, none⟩ = some (.int .i64 5) := by rw [hO4.cell]; rfl
  have o1 : (w3.alloc (.cells #[.int .i64 3, .int .i64 0, .int .i64 0, .int .i64 0, .int .i64 0] 44)).cell? ⟨w.heap.size, 1, none⟩ = some (.int .i64 (i : Int)) := by rw [hO4.cell]; rfl
  have o2 : (w3.alloc (.cells #[.int .i64 3, .int .i64 0, .int .i64 0, .int .i64 0, .int .i64 0] 44)).cell? ⟨w.heap.size, 2, none⟩ = some (.int .i64 un) := by rw [hO4.cell]; rfl
  have o3 : (w3.alloc (.cells #[.int .i64 3, .int .i64 0, .int .i64 0, .int .i64 0, .int .i64 0] 44)).cell? ⟨w.heap.size, 3, none⟩ = some (.int .i64 cu) := by rw [hO4.cell]; rfl
  have o4 : (w3.alloc (.cells #[.int .i64 3, .int .i64 0, .int .i64 0, .int .i64 0, .int .i64 0] 44)).cell? ⟨w.heap.size, 4, none⟩ = some (.int .i64 am) := by rw [hO4.cell]; rfl
  have y0 : (w3.alloc (.cells #[.int .i64 3, .int .i64 0, .int .i64 0, .int .i64 0, .int .i64 0] 44)).cell? ⟨Y, 0, none⟩ = some (.int .i64 4) := by rw [hY4.cell]; rfl
  have y1 : (w3.alloc (.cells #[.int .i64 3, .int .i64 0, .int .i64 0, .int .i64 0, .int .i64 0] 44)).cell? ⟨Y, 1, none⟩ = some (.int .i64 yun) := by rw [hY4.cell]; rfl
  have y2 : (w3.alloc (.cells #[.int .i64 3, .int .i64 0, .int .i64 0, .int .i64 0, .int .i64 0] 44)).cell? ⟨Y, 2, none⟩ = some (.int .i64 ytil) := by rw [hY4.cell]; rfl
  have y3 : (w3.alloc (.cells #[.int .i64 3, .int .i64 0, .int .i64 0, .int .i64 0, .int .i64 0] 44)).cell? ⟨Y, 3, none⟩ = some (.int .i64 ycu) := by rw [hY4.cell]; rfl
  have y4 : (w3.alloc (.cells #[.int .i64 3, .int .i64 0, .int .i64 0, .int .i64 0, .int .i64 0] 44)).cell? ⟨Y, 4, none⟩ = some (.int .i64 yam) := by rw [hY4.cell]; rfl
  have g0 : (w3.alloc (.cells #[.int .i64 3, .int .i64 0, .int .i64 0, .int .i64 0, .int .i64 0] 44)).cell? ⟨w3.heap.size, 0, none⟩ = some (.int .i64 3) := by rw [hG4.cell]; rfl
  have g1 : (w3.alloc (.cells #[.int .i64 3, .int .i64 0, .int .i64 0, .int .i64 0, .int .i64 0] 44)).cell? ⟨w3.heap.size, 1, none⟩ = some (.int .i64 0) := by rw [hG4.cell]; rfl
  have g2 : (w3.alloc (.cells #[.int .i64 3, .int .i64 0, .int .i64 0, .int .i64 0, .int .i64 0] 44)).cell? ⟨w3.heap.size, 2, none⟩ = some (.int .i64 0) := by rw [hG4.cell]; rfl
  have g3 : (w3.alloc (.cells #[.int .i64 3, .int .i64 0, .int .i64 0, .int .i64 0, .int .i64 0] 44)).cell? ⟨w3.heap.size, 3, none⟩ = some (.int .i64 0) := by rw [hG4.cell]; rfl
  have g4 : (w3.alloc (.cells #[.int .i64 3, .int .i64 0, .int .i64 0, .int .i64 0, .int .i64 0] 44)).cell? ⟨w3.heap.size, 4, none⟩ = some (.int .i64 0) := by rw [hG4.cell]; rfl
  have f0 := hx4.blk.frozen (6 + i * 5)
  have f1 := hx4.blk.frozen (6 + i * 5 + 1)
  have f2 := hx4.blk.frozen (6 + i * 5 + 2)
  have f3 := hx4.blk.frozen (6 + i * 5 + 3)
  have f4 := hx4.blk.frozen (6 + i * 5 + 4)
  obtain ⟨c0, c1, c2, c3, c4⟩ := QBlk.cells hx4.blk i (by omega) hyh.out
  dsimp only at c0 c1 c2 c3 c4
  have hck5 := hck4.mono (T := fun i => i = x ∨ lv.ownBlock = some i) (fun _ _ h => h.elim)
  clear hO3 hY3 hw3 hx3
  go_wp2_with fail
  refine (rq_move_i (R := R) hx4 (i : Int) 4 5 yam (by omega) (by omega) yam0 yam1 ⟨(hbnd 4 (by omega) (by omega)).1, Int.le_trans (hbnd 4 (by omega) (by omega)).2 hT⟩ ⟨(hbnd 5 (by omega) (by omega)).1, Int.le_trans (hbnd 5 (by omega) (by omega)).2 hT⟩ (by omega) hlen).mono ?_
  rintro e w5 ⟨rfl, lv', hx5, hc5, hl5⟩
  have hO5 := hO4.chg hc5 (by rintro (e | e); exact hO4.ne hx4.blk R.ne1 e; exact own_ne hx4.own hO4 (by decide) e)
  have hG5 := hG4.chg hc5 (by rintro (e | e); exact hG4.ne hx4.blk R.ne2 e; exact own_ne hx4.own hG4 (by decide) e)
  have hck5 := hck5.trans hc5 (fun _ _ h => h)
  have hl5 : lv'.ownBlock = lv.ownBlock ∨ ∃ k, lv'.ownBlock = some k ∧ w.heap.size ≤ k := hl5.imp id fun ⟨k, h, h'⟩ => ⟨k, h, Nat.le_trans hck4.size h'⟩
  clear c0 c1 c2 c3 c4 o0 o1 o2 o3 o4 y0 y1 y2 y3 y4 g0 g1 g2 g3 g4 f0 f1 f2 f3 f4 hc5 hO4 hG4 hY4
  have o0 : w5.cell? ⟨w.heap.size, 0, none⟩ = some (.int .i64 5) := by rw [hO5.cell]; rfl
  have o1 : w5.cell? ⟨w.heap.size, 1, none⟩ = some (.int .i64 (i : Int)) := by rw [hO5.cell]; rfl
  have o2 : w5.cell? ⟨w.heap.size, 2, none⟩ = some (.int .i64 un) := by rw [hO5.cell]; rfl
  have o3 : w5.cell? ⟨w.heap.size, 3, none⟩ = some (.int .i64 cu) := by rw [hO5.cell]; rfl
  have o4 : w5.cell? ⟨w.heap.size, 4, none⟩ = some (.int .i64 am) := by rw [hO5.cell]; rfl
  have g0 : w5.cell? ⟨w3.heap.size, 0, none⟩ = some (.int .i64 3) := by rw [hG5.cell]; rfl
  have g1 : w5.cell? ⟨w3.heap.size, 1, none⟩ = some (.int .i64 0) := by rw [hG5.cell]; rfl
  have g2 : w5.cell? ⟨w3.heap.size, 2, none⟩ = some (.int .i64 0) := by rw [hG5.cell]; rfl
  have g3 : w5.cell? ⟨w3.heap.size, 3, none⟩ = some (.int .i64 0) := by rw [hG5.cell]; rfl
  have g4 : w5.cell? ⟨w3.heap.size, 4, none⟩ = some (.int .i64 0) := by rw [hG5.cell]; rfl
  have f0 := hx5.blk.frozen (6 + i * 5)
  have f1 := hx5.blk.frozen (6 + i * 5 + 1)
  have f2 := hx5.blk.frozen (6 + i * 5 + 2)
  have f3 := hx5.blk.frozen (6 + i * 5 + 3)
  have f4 := hx5.blk.frozen (6 + i * 5 + 4)
  obtain ⟨c0, c1, c2, c3, c4⟩ := QBlk.cells hx5.blk i (by omega) hyh.out
  dsimp only at c0 c1 c2 c3 c4
  go_wp2_with fail
  refine wp_region_plan (by kernel_rfl) [{ fl := [0, 1, 2, 3, 4, 5, 6], ef := 7 }] [] (by kernel_rfl) (fun _ _ => True) ?_
  simp only [wpPlan, longOK, keepOK, opsAt_cons, opsAt_nil, consO_some, List.getElem?_toArray, List.getElem?_cons_succ, List.getElem?_cons_zero, true_and]
  go_wp2_with fail
  refine ⟨by kernel_rfl, ?_⟩
  go_wp2_with fail
  refine ⟨by kernel_rfl, ?_⟩
  go_wp2_with fail
  go_ret
  exact ⟨rfl, lv', (hx5.put0 i hb2 ⟨5, yun, ytil, ycu, yam⟩ (by show _ = { p.en (i : Int) with st := 5 }; rw [hyh.out])).drew, (hck5.setCell (.inl (.inl rfl)) _).drew, hl5⟩
end Go.Proofs.Ytddnpjlcmokbiaa

namespace Go.Proofs.Ytddnpjlcmokbiaa
open Go.RowKit Go.Maps
variable {R : QEnv}

set_option maxRecDepth 100000 in
set_option maxHeartbeats 2000000 in
theorem rq_do_60 {w : World} {x : Nat} {lv : Value} {p : Pur} {T : Int} (h : QAt R w x lv p) (hG : p.Good T) (_hT : T ≤ 1125899906842624) (_hlen : p.ln.length ≤ 1000000) (o : POp) (hm : mayOp o = true) (hk : o.kd = 6) (hst : (p.en o.bk).st = 0) :
    Calls Try.prog 10 #[.pointer (some ⟨x, 0, none⟩), o.val] w fun e w' => e = .returned (.int .i64 (p.act o).1) ∧ ∃ lv', QAt R w' x lv' (p.act o).2 ∧ Chg (fun i => i = x ∨ lv.ownBlock = some i) w w' ∧ (lv'.ownBlock = lv.ownBlock ∨ ∃ k, lv'.ownBlock = some k ∧ w.heap.size ≤ k) := by
  have hcA := (Chg.refl (fun _ => False) w).alloc (.cells o.row 33)
  have hO := Blk.new w 33 o.row
  unfold POp.row at hcA
  have hbk := mayOp_bk hm
  have hmh := Lib.hid hm
  clear hm
  have hbnd := hG.bounds
  have hamt := hG.amt o.bk
  have hnon := hG.non o.bk
  have hgon := hG.gon o.bk
  obtain ⟨kd, bk, un, cu, am⟩ := o
  dsimp only at *
  obtain ⟨i, rfl⟩ : ∃ i : Nat, bk = i := ⟨bk.toNat, by omega⟩
  obtain ⟨hb1, hb2⟩ := hbk
  have hb1 : 1 ≤ i := by omega
  have hb2 : i ≤ 200 := by omega
  subst hk
  obtain ⟨y, hy⟩ : ∃ y, p.en (i : Int) = y := ⟨_, rfl⟩
  rw [hy] at hst hamt hnon hgon
  obtain rfl := hnon hst
  unfold Ent.none at hy
  clear hamt hnon hgon hst
  have hr : p.act ⟨6, (i : Int), un, cu, am⟩ = (1, p.set (i : Int) Ent.gone) := by
    unfold Pur.act
    rw [if_neg (by rw [hmh.out]; decide)]
    dsimp only
    rw [hy]
    simp [Pur.stay, hy]
  rw [hr]
  have hyh := Lib.hid hy
  clear hy
  go_enter Try.func10, Try.ntmps10
  unfold POp.val
  go_wp2_with fail
  refine (mayRef_any ⟨6, (i : Int), un, cu, am⟩ _).mono ?_
  rintro e w1 ⟨rfl, hc1⟩
  rw [hmh.out]
  have hO1 := hO.chg hc1 id
  have hck := hcA.trans hc1 (fun _ _ h => h)
  have hx1 := h.chg hck id (fun _ _ => id)
  have hzx : x ≠ w.heap.size := Nat.ne_of_lt (Blk.lt h.blk)
  have hlw := own_lt0 h.own
  have o0 : w1.cell? ⟨w.heap.size, 0, none⟩ = some (.int .i64 6) := by rw [hO1.cell]; rfl
  have o1 : w1.cell? ⟨w.heap.size, 1, none⟩ = some (.int .i64 (i : Int)) := by rw [hO1.cell]; rfl
  obtain ⟨c0, c1, c2, c3, c4⟩ := hx1.blk.cells i (by omega) hyh.out
  dsimp only at c0 c1 c2 c3 c4
  clear hcA hO hc1
  go_wp2_with fail
  refine wp_region_plan (by kernel_rfl) [{ fl := [0, 1, 2, 3, 4, 5, 6], long := [2, 6], ef := 7, keep := [2, 6] }, { fl := [], ef := 8 }] [] (by kernel_rfl) (fun _ w9 => w9.heap[x]? = w1.heap[x]? ∧ w9.heap[w.heap.size]? = w1.heap[w.heap.size]?) ?_
  simp only [wpPlan, longOK, keepOK, opsAt_cons, opsAt_nil, consO_some, List.getElem?_toArray, List.getElem?_cons_succ, List.getElem?_cons_zero, and_true, true_and]
  refine ⟨⟨⟨rfl, rfl⟩, ⟨rfl, rfl⟩⟩, ?_⟩
  go_wp2_with fail
  refine ⟨by kernel_rfl, ⟨?_, ?_⟩, ?_⟩
  · intro _ w9 h9
    have o1 : w9.cell? ⟨w.heap.size, 1, none⟩ = some (.int .i64 (i : Int)) := by rw [(hO1.keep h9.2).cell]; rfl
    clear h9
    go_simp
  · intro _ w9 h9
    obtain ⟨c0, c1, c2, c3, c4⟩ := QBlk.cells (R := R) (w := w9) (Blk.keep hx1.blk h9.1) i (by omega) hyh.out
    dsimp only at c0 c1 c2 c3 c4
    clear h9
    go_simp
  go_wp2_with fail
  have hcB := ((Chg.refl (fun _ => False) w1).drew).alloc (.cells #[.int .i64 0, .int .i64 0, .int .i64 0, .int .i64 0, .int .i64 0] 44)
  refine ⟨⟨⟨hcB.block x (Blk.lt hx1.blk) id, hcB.block _ hO1.lt id⟩, ⟨hcB.block x (Blk.lt hx1.blk) id, hcB.block _ hO1.lt id⟩⟩, ?_⟩
  go_wp2_with fail
  refine ⟨by kernel_rfl, ?_⟩
  go_wp2_with fail
  refine ⟨by kernel_rfl, ?_⟩
  have hw3 : Chg (fun _ => False) w (w1.alloc (.cells #[.int .i64 0, .int .i64 0, .int .i64 0, .int .i64 0, .int .i64 0] 44)).drew := (hck.alloc _).drew
  have hx3 : QAt R (w1.alloc (.cells #[.int .i64 0, .int .i64 0, .int .i64 0, .int .i64 0, .int .i64 0] 44)).drew x lv p := h.chg hw3 id (fun _ _ => id)
  have hO3 : Blk (w1.alloc (.cells #[.int .i64 0, .int .i64 0, .int .i64 0, .int .i64 0, .int .i64 0] 44)).drew w.heap.size 33 #[.int .i64 6, .int .i64 (i : Int), .int .i64 un, .int .i64 cu, .int .i64 am] := hO1.alloc _
  have hY3 : Blk (w1.alloc (.cells #[.int .i64 0, .int .i64 0, .int .i64 0, .int .i64 0, .int .i64 0] 44)).drew w1.heap.size 44 #[.int .i64 0, .int .i64 0, .int .i64 0, .int .i64 0, .int .i64 0] := Blk.new w1 _ _
  clear hcB c0 c1 c2 c3 c4 o0 o1 hO1 hx1 hck
  generalize hyb : w1.heap.size = Y at *
  generalize (w1.alloc (.cells #[.int .i64 0, .int .i64 0, .int .i64 0, .int .i64 0, .int .i64 0] 44)).drew = w3 at *
  clear hyb
  have hck4 := hw3.alloc (.cells #[.int .i64 3, .int .i64 0, .int .i64 0, .int .i64 0, .int .i64 0] 44)
  have hx4 : QAt R (w3.alloc (.cells #[.int .i64 3, .int .i64 0, .int .i64 0, .int .i64 0, .int .i64 0] 44)) x lv p := h.chg hck4 id (fun _ _ => id)
  have hO4 := hO3.alloc (.cells #[.int .i64 3, .int .i64 0, .int .i64 0, .int .i64 0, .int .i64 0] 44)
  have hY4 := hY3.alloc (.cells #[.int .i64 3, .int .i64 0, .int .i64 0, .int .i64 0, .int .i64 0] 44)
  have hG4 := Blk.new w3 44 #[.int .i64 3, .int .i64 0, .int .i64 0, .int .i64 0, .int .i64 0]
  have o0 : (w3.alloc (.cells #[.int .i64 3, .int .i64 0, .int .i64 0, .int .i64 0, .int .i64 0] 44)).cell? ⟨w.heap.size, 0, none⟩ = some (.int .i64 6) := by rw [hO4.cell]; rfl
  have o1 : (w3.alloc (.cells #[.int .i64 3, .int .i64 0, .int .i64 0, .int .i64 0, .int .i64 0] 44)).cell? ⟨w.heap.size, 1, none⟩ = some (.int .i64 (i : Int)) := by rw [hO4.cell]; rfl
  have o2 : (w3.alloc (.cells #[.int .i64 3, .int .i64 0, .int .i64 0, .int .i64 0, .int .i64 0] 44)).cell? ⟨w.heap.size, 2, none⟩ = some (.int .i64 un) := by rw [hO4.cell]; rfl
  have o3 : (w3.alloc (.cells #[.int .i64 3, .int .i64 0, .int .i64 0, .int .i64 0, .int .i64 0] 44)).cell? ⟨w.heap.size, 3, none⟩ = some (.int .i64 cu) := by rw [hO4.cell]; rfl
  have o4 : (w3.alloc (.cells #[.int .i64 3, .int .i64 0, .int .i64 0, .int .i64 0, .int .i64 0] 44)).cell? ⟨w.heap.size, 4, none⟩ = some (.int .i64 am) := by rw [hO4.cell]; rfl
  have y0 : (w3.alloc (.cells #[.int .i64 3, .int .i64 0, .int .i64 0, .int .i64 0, .int .i64 0] 44)).cell? ⟨Y, 0, none⟩ = some (.int .i64 0) := by rw [hY4.cell]; rfl
  have y1 : (w3.alloc (.cells #[.int .i64 3, .int .i64 0, .int .i64 0, .int .i64 0, .int .i64 0] 44)).cell? ⟨Y, 1, none⟩ = some (.int .i64 0) := by rw [hY4.cell]; rfl
  have y2 : (w3.alloc (.cells #[.int .i64 3, .int .i64 0, .int .i64 0, .int .i64 0, .int .i64 0] 44)).cell? ⟨Y, 2, none⟩ = some (.int .i64 0) := by rw [hY4.cell]; rfl
  have y3 : (w3.alloc (.cells #[.int .i64 3, .int .i64 0, .int .i64 0, .int .i64 0, .int .i64 0] 44)).cell? ⟨Y, 3, none⟩ = some (.int .i64 0) := by rw [hY4.cell]; rfl
  have y4 : (w3.alloc (.cells #[.int .i64 3, .int .i64 0, .int .i64 0, .int .i64 0, .int .i64 0] 44)).cell? ⟨Y, 4, none⟩ = some (.int .i64 0) := by rw [hY4.cell]; rfl
  have g0 : (w3.alloc (.cells #[.int .i64 3, .int .i64 0, .int .i64 0, .int .i64 0, .int .i64 0] 44)).cell? ⟨w3.heap.size, 0, none⟩ = some (.int .i64 3) := by rw [hG4.cell]; rfl
  have g1 : (w3.alloc (.cells #[.int .i64 3, .int .i64 0, .int .i64 0, .int .i64 0, .int .i64 0] 44)).cell? ⟨w3.heap.size, 1, none⟩ = some (.int .i64 0) := by rw [hG4.cell]; rfl
  have g2 : (w3.alloc (.cells #[.int .i64 3, .int .i64 0, .int .i64 0, .int .i64 0, .int .i64 0] 44)).cell? ⟨w3.heap.size, 2, none⟩ = some (.int .i64 0) := by rw [hG4.cell]; rfl
  have g3 : (w3.alloc (.cells #[.int .i64 3, .int .i64 0, .int .i64 0, .int .i64 0, .int .i64 0] 44)).cell? ⟨w3.heap.size, 3, none⟩ = some (.int .i64 0) := by rw [hG4.cell]; rfl
  have g4 : (w3.alloc (.cells #[.int .i64 3, .int .i64 0, .int .i64 0, .int .i64 0, .int .i64 0] 44)).cell? ⟨w3.heap.size, 4, none⟩ = some (.int .i64 0) := by rw [hG4.cell]; rfl
  have f0 := hx4.blk.frozen (6 + i * 5)
  have f1 := hx4.blk.frozen (6 + i * 5 + 1)
  have f2 := hx4.blk.frozen (6 + i * 5 + 2)
  have f3 := hx4.blk.frozen (6 + i * 5 + 3)
  have f4 := hx4.blk.frozen (6 + i * 5 + 4)
  obtain ⟨c0, c1, c2, c3, c4⟩ := QBlk.cells hx4.blk i (by omega) hyh.out
  dsimp only at c0 c1 c2 c3 c4
  have hck5 := hck4.mono (T := fun i => i = x ∨ lv.ownBlock = some i) (fun _ _ h => h.elim)
  clear hO3 hY3 hw3 hx3
  go_wp2_with fail
  refine wp_region_plan (by kernel_rfl) [{ fl := [0, 1, 2, 3, 4, 5, 6], ef := 7 }] [] (by kernel_rfl) (fun _ _ => True) ?_
  simp only [wpPlan, longOK, keepOK, opsAt_cons, opsAt_nil, consO_some, List.getElem?_toArray, List.getElem?_cons_succ, List.getElem?_cons_zero, true_and]
  go_wp2_with fail
  refine ⟨by kernel_rfl, ?_⟩
  go_wp2_with fail
  refine ⟨by kernel_rfl, ?_⟩
  go_wp2_with fail
  go_ret
  exact ⟨rfl, lv, (hx4.put i hb2 Ent.gone).drew, (hck5.put5 (.inl rfl) _ _ _ _ _).drew, .inl rfl⟩

set_option maxRecDepth 100000 in
set_option maxHeartbeats 2000000 in
theorem rq_do_63 {w : World} {x : Nat} {lv : Value} {p : Pur} {T : Int} (h : QAt R w x lv p) (hG : p.Good T) (_hT : T ≤ 1125899906842624) (_hlen : p.ln.length ≤ 1000000) (o : POp) (hm : mayOp o = true) (hk : o.kd = 6) (hst : (p.en o.bk).st = 3) :
    Calls Try.prog 10 #[.pointer (some ⟨x, 0, none⟩), o.val] w fun e w' => e = .returned (.int .i64 (p.act o).1) ∧ ∃ lv', QAt R w' x lv' (p.act o).2 ∧ Chg (fun i => i = x ∨ lv.ownBlock = some i) w w' ∧ (lv'.ownBlock = lv.ownBlock ∨ ∃ k, lv'.ownBlock = some k ∧ w.heap.size ≤ k) := by
  have hcA := (Chg.refl (fun _ => False) w).alloc (.cells o.row 33)
  have hO := Blk.new w 33 o.row
  unfold POp.row at hcA
  have hbk := mayOp_bk hm
  have hmh := Lib.hid hm
  clear hm
  have hbnd := hG.bounds
  have hamt := hG.amt o.bk
  have hnon := hG.non o.bk
  have hgon := hG.gon o.bk
  obtain ⟨kd, bk, un, cu, am⟩ := o
  dsimp only at *
  obtain ⟨i, rfl⟩ : ∃ i : Nat, bk = i := ⟨bk.toNat, by omega⟩
  obtain ⟨hb1, hb2⟩ := hbk
  have hb1 : 1 ≤ i := by omega
  have hb2 : i ≤ 200 := by omega
  subst hk
  obtain ⟨y, hy⟩ : ∃ y, p.en (i : Int) = y := ⟨_, rfl⟩
  rw [hy] at hst hamt hnon hgon
  obtain rfl := hgon hst
  unfold Ent.gone at hy
  clear hamt hnon hgon hst
  have hr : p.act ⟨6, (i : Int), un, cu, am⟩ = (1, p) := by
    unfold Pur.act
    rw [if_neg (by rw [hmh.out]; decide)]
    dsimp only
    rw [hy]
    simp [Pur.stay, hy]
  rw [hr]
  have hps : p.set (i : Int) Ent.gone = p := set_self hy
  rw [← hps]
  have hyh := Lib.hid hy
  clear hy
  go_enter Try.func10, Try.ntmps10
  unfold POp.val
  go_wp2_with fail
  refine (mayRef_any ⟨6, (i : Int), un, cu, am⟩ _).mono ?_
  rintro e w1 ⟨rfl, hc1⟩
  rw [hmh.out]
  have hO1 := hO.chg hc1 id
  have hck := hcA.trans hc1 (fun _ _ h => h)
  have hx1 := h.chg hck id (fun _ _ => id)
  have hzx : x ≠ w.heap.size := Nat.ne_of_lt (Blk.lt h.blk)
  have hlw := own_lt0 h.own
  have o0 : w1.cell? ⟨w.heap.size, 0, none⟩ = some (.int .i64 6) := by rw [hO1.cell]; rfl
  have o1 : w1.cell? ⟨w.heap.size, 1, none⟩ = some (.int .i64 (i : Int)) := by rw [hO1.cell]; rfl
  obtain ⟨c0, c1, c2, c3, c4⟩ := hx1.blk.cells i (by omega) hyh.out
  dsimp only at c0 c1 c2 c3 c4
  clear hcA hO hc1
  go_wp2_with fail
  refine wp_region_plan (by kernel_rfl) [{ fl := [0, 1, 2, 3, 4, 5, 6], long := [2, 6], ef := 7, keep := [2, 6] }, { fl := [], ef := 8 }] [] (by kernel_rfl) (fun _ w9 => w9.heap[x]? = w1.heap[x]? ∧ w9.heap[w.heap.size]? = w1.heap[w.heap.size]?) ?_
  simp only [wpPlan, longOK, keepOK, opsAt_cons, opsAt_nil, consO_some, List.getElem?_toArray, List.getElem?_cons_succ, List.getElem?_cons_zero, and_true, true_and]
  refine ⟨⟨⟨rfl, rfl⟩, ⟨rfl, rfl⟩⟩, ?_⟩
  go_wp2_with fail
  refine ⟨by kernel_rfl, ⟨?_, ?_⟩, ?_⟩
  · intro _ w9 h9
    have o1 : w9.cell? ⟨w.heap.size, 1, none⟩ = some (.int .i64 (i : Int)) := by rw [(hO1.keep h9.2).cell]; rfl
    clear h9
    go_simp
  · intro _ w9 h9
    obtain ⟨c0, c1, c2, c3, c4⟩ := QBlk.cells (R := R) (w := w9) (Blk.keep hx1.blk h9.1) i (by omega) hyh.out
    dsimp only at c0 c1 c2 c3 c4
    clear h9
    go_simp
  go_wp2_with fail
  have hcB := ((Chg.refl (fun _ => False) w1).drew).alloc (.cells #[.int .i64 0, .int .i64 0, .int .i64 0, .int .i64 0, .int .i64 0] 44)
  refine ⟨⟨⟨hcB.block x (Blk.lt hx1.blk) id, hcB.block _ hO1.lt id⟩, ⟨hcB.block x (Blk.lt hx1.blk) id, hcB.block _ hO1.lt id⟩⟩, ?_⟩
  go_wp2_with fail
  refine ⟨by kernel_rfl, ?_⟩
  go_wp2_with fail
  refine ⟨by kernel_rfl, ?_⟩
  have hw3 : Chg (fun _ => False) w (w1.alloc (.cells #[.int .i64 3, .int .i64 0, .int .i64 0, .int .i64 0, .int .i64 0] 44)).drew := (hck.alloc _).drew
  have hx3 : QAt R (w1.alloc (.cells #[.int .i64 3, .int .i64 0, .int .i64 0, .int .i64 0, .int .i64 0] 44)).drew x lv p := h.chg hw3 id (fun _ _ => id)
  have hO3 : Blk (w1.alloc (.cells #[.int .i64 3, .int .i64 0, .int .i64 0, .int .i64 0, .int .i64 0] 44)).drew w.heap.size 33 #[.int .i64 6, .int .i64 (i : Int), .int .i64 un, .int .i64 cu, .int .i64 am] := hO1.alloc _
  have hY3 : Blk (w1.alloc (.cells #[.int .i64 3, .int .i64 0, .int .i64 0, .int .i64 0, .int .i64 0] 44)).drew w1.heap.size 44 #[.int .i64 3, .int .i64 0, .int .i64 0, .int .i64 0, .int .i64 0] := Blk.new w1 _ _
  clear hcB c0 c1 c2 c3 c4 o0 o1 hO1 hx1 hck
  generalize hyb : w1.heap.size = Y at *
  generalize (w1.alloc (.cells #[.int .i64 3, .int .i64 0, .int .i64 0, .int .i64 0, .int .i64 0] 44)).drew = w3 at *
  clear hyb
  have hck4 := hw3.alloc (.cells #[.int .i64 3, .int .i64 0, .int .i64 0, .int .i64 0, .int .i64 0] 44)
  have hx4 : QAt R (w3.alloc (.cells #[.int .i64 3, .int .i64 0, .int .i64 0, .int .i64 0, .int .i64 0] 44)) x lv p := h.chg hck4 id (fun _ _ => id)
  have hO4 := hO3.alloc (.cells #[.int .i64 3, .int .i64 0, .int .i64 0, .int .i64 0, .int .i64 0] 44)
  have hY4 := hY3.alloc (.cells #[.int .i64 3, .int .i64 0, .int .i64 0, .int .i64 0, .int .i64 0] 44)
  have hG4 := Blk.new w3 44 #[.int .i64 3, .int .i64 0, .int .i64 0, .int .i64 0, .int .i64 0]
  have o0 : (w3.alloc (.cells #[.int .i64 3, .int .i64 0, .int .i64 0, .int .i64 0, .int .i64 0] 44)).cell? ⟨w.heap.size, 0, none⟩ = some (.int .i64 6) := by rw [hO4.cell]; rfl
  have o1 : (w3.alloc (.cells #[.int .i64 3, .int .i64 0, .int .i64 0, .int .i64 0, .int .i64 0] 44)).cell? ⟨w.heap.size, 1, none⟩ = some (.int .i64 (i : Int)) := by rw [hO4.cell]; rfl
  have o2 : (w3.alloc (.cells #[.int .i64 3, .int .i64 0, .int .i64 0, .int .i64 0, .int .i64 0] 44)).cell? ⟨w.heap.size, 2, none⟩ = some (.int .i64 un) := by rw [hO4.cell]; rfl
  have o3 : (w3.alloc (.cells #[.int .i64 3, .int .i64 0, .int .i64 0, .int .i64 0, .int .i64 0] 44)).cell? ⟨w.heap.size, 3, none⟩ = some (.int .i64 cu) := by rw [hO4.cell]; rfl
  have o4 : (w3.alloc (.cells #[.int .i64 3, .int .i64 0, .int .i64 0, .int .i64 0, .int .i64 0] 44)).cell? ⟨w.heap.size, 4, none⟩ = some (.int .i64 am) := by rw [hO4.cell]; rfl
  have y0 : (w3.alloc (.cells #[.int .i64 3, .int .i64 0, .int .i64 0, .int .i64 0, .int .i64 0] 44)).cell? ⟨Y, 0, none⟩ = some (.int .i64 3) := by rw [hY4.cell]; rfl
  have y1 : (w3.alloc (.cells #[.int .i64 3, .int .i64 0, .int .i64 0, .int .i64 0, .int .i64 0] 44)).cell? ⟨Y, 1, none⟩ = some (.int .i64 0) := by rw [hY4.cell]; rfl
  have y2 : (w3.alloc (.cells #[.int .i64 3, .int .i64 0, .int .i64 0, .int .i64 0, .int .i64 0] 44)).cell? ⟨Y, 2, none⟩ = some (.int .i64 0) := by rw [hY4.cell]; rfl
  have y3 : (w3.alloc (.cells #[.int .i64 3, .int .i64 0, .int .i64 0, .int .i64 0, .int .i64 0] 44)).cell? ⟨Y, 3, none⟩ = some (.int .i64 0) := by rw [hY4.cell]; rfl
  have y4 : (w3.alloc (.cells #[.int .i64 3, .int .i64 0, .int .i64 0, .int .i64 0, .int .i64 0] 44)).cell? ⟨Y, 4, none⟩ = some (.int .i64 0) := by rw [hY4.cell]; rfl
  have g0 : (w3.alloc (.cells #[.int .i64 3, .int .i64 0, .int .i64 0, .int .i64 0, .int .i64 0] 44)).cell? ⟨w3.heap.size, 0, none⟩ = some (.int .i64 3) := by rw [hG4.cell]; rfl
  have g1 : (w3.alloc (.cells #[.int .i64 3, .int .i64 0, .int .i64 0, .int .i64 0, .int .i64 0] 44)).cell? ⟨w3.heap.size, 1, none⟩ = some (.int .i64 0) := by rw [hG4.cell]; rfl
  have g2 : (w3.alloc (.cells #[.int .i64 3, .int .i64 0, .int .i64 0, .int .i64 0, .int .i64 0] 44)).cell? ⟨w3.heap.size, 2, none⟩ = some (.int .i64 0) := by rw [hG4.cell]; rfl
  have g3 : (w3.alloc (.cells #[.int .i64 3, .int .i64 0, .int .i64 0, .int .i64 0, .int .i64 0] 44)).cell? ⟨w3.heap.size, 3, none⟩ = some (.int .i64 0) := by rw [hG4.cell]; rfl
  have g4 : (w3.alloc (.cells #[.int .i64 3, .int .i64 0, .int .i64 0, .int .i64 0, .int .i64 0] 44)).cell? ⟨w3.heap.size, 4, none⟩ = some (.int .i64 0) := by rw [hG4.cell]; rfl
  have f0 := hx4.blk.frozen (6 + i * 5)
  have f1 := hx4.blk.frozen (6 + i * 5 + 1)
  have f2 := hx4.blk.frozen (6 + i * 5 + 2)
  have f3 := hx4.blk.frozen (6 + i * 5 + 3)
  have f4 := hx4.blk.frozen (6 + i * 5 + 4)
  obtain ⟨c0, c1, c2, c3, c4⟩ := QBlk.cells hx4.blk i (by omega) hyh.out
  dsimp only at c0 c1 c2 c3 c4
  have hck5 := hck4.mono (T := fun i => i = x ∨ lv.ownBlock = some i) (fun _ _ h => h.elim)
  clear hO3 hY3 hw3 hx3
  go_wp2_with fail
  refine wp_region_plan (by kernel_rfl) [{ fl := [0, 1, 2, 3, 4, 5, 6], ef := 7 }] [] (by kernel_rfl) (fun _ _ => True) ?_
  simp only [wpPlan, longOK, keepOK, opsAt_cons, opsAt_nil, consO_some, List.getElem?_toArray, List.getElem?_cons_succ, List.getElem?_cons_zero, true_and]
  go_wp2_with fail
  refine ⟨by kernel_rfl, ?_⟩
  go_wp2_with fail
  refine ⟨by kernel_rfl, ?_⟩
  go_wp2_with fail
  go_ret
  exact ⟨rfl, lv, (hx4.put i hb2 Ent.gone).drew, (hck5.put5 (.inl rfl) _ _ _ _ _).drew, .inl rfl⟩
end Go.Proofs.Ytddnpjlcmokbiaa

namespace Go.Proofs.Ytddnpjlcmokbiaa
open Go.RowKit Go.Maps
variable {R : QEnv}

set_option maxRecDepth 100000 in
set_option maxHeartbeats 2000000 in
theorem rq_do_64 {w : World} {x : Nat} {lv : Value} {p : Pur} {T : Int} (h : QAt R w x lv p) (hG : p.Good T) (hT : T ≤ 1125899906842624) (hlen : p.ln.length ≤ 1000000) (o : POp) (hm : mayOp o = true) (hk : o.kd = 6) (hst : (p.en o.bk).st = 4) :
    Calls Try.prog 10 #[.pointer (some ⟨x, 0, none⟩), o.val] w fun e w' => e = .returned (.int .i64 (p.act o).1) ∧ ∃ lv', QAt R w' x lv' (p.act o).2 ∧ Chg (fun i => i = x ∨ lv.ownBlock = some i) w w' ∧ (lv'.ownBlock = lv.ownBlock ∨ ∃ k, lv'.ownBlock = some k ∧ w.heap.size ≤ k) := by
  have hcA := (Chg.refl (fun _ => False) w).alloc (.cells o.row 33)
  have hO := Blk.new w 33 o.row
  unfold POp.row at hcA
  have hbk := mayOp_bk hm
  have hmh := Lib.hid hm
  clear hm
  have hbnd := hG.bounds
  have hamt := hG.amt o.bk
  have hnon := hG.non o.bk
  have hgon := hG.gon o.bk
  obtain ⟨kd, bk, un, cu, am⟩ := o
  dsimp only at *
  obtain ⟨i, rfl⟩ : ∃ i : Nat, bk = i := ⟨bk.toNat, by omega⟩
  obtain ⟨hb1, hb2⟩ := hbk
  have hb1 : 1 ≤ i := by omega
  have hb2 : i ≤ 200 := by omega
  subst hk
  obtain ⟨y, hy⟩ : ∃ y, p.en (i : Int) = y := ⟨_, rfl⟩
  rw [hy] at hst hamt hnon hgon
  obtain ⟨yst, yun, ytil, ycu, yam⟩ := y
  dsimp only at hst hamt
  obtain ⟨yam0, yam1, ycu0, ycu1⟩ := hamt (.inl hst)
  subst hst
  clear hamt hnon hgon
  have hr : p.act ⟨6, (i : Int), un, cu, am⟩ = (1, p.move (i : Int) 4 ycu yam Ent.gone) := by
    unfold Pur.act
    rw [if_neg (by rw [hmh.out]; decide)]
    dsimp only
    rw [hy]
    simp
  rw [hr]
  have hyh := Lib.hid hy
  clear hy
  go_enter Try.func10, Try.ntmps10
  unfold POp.val
  go_wp2_with fail
  refine (mayRef_any ⟨6, (i : Int), un, cu, am⟩ _).mono ?_
  rintro e w1 ⟨rfl, hc1⟩
  rw [hmh.out]
  have hO1 := hO.chg hc1 id
  have hck := hcA.trans hc1 (fun _ _ h => h)
  have hx1 := h.chg hck id (fun _ _ => id)
  have hzx : x ≠ w.heap.size := Nat.ne_of_lt (Blk.lt h.blk)
  have hlw := own_lt0 h.own
  have o0 : w1.cell? ⟨w.heap.size, 0, none⟩ = some (.int .i64 6) := by rw [hO1.cell]; rfl
  have o1 : w1.cell? ⟨w.heap.size, 1, none⟩ = some (.int .i64 (i : Int)) := by rw [hO1.cell]; rfl
  obtain ⟨c0, c1, c2, c3, c4⟩ := hx1.blk.cells i (by omega) hyh.out
  dsimp only at c0 c1 c2 c3 c4
  clear hcA hO hc1
  go_wp2_with fail
  refine wp_region_plan (by kernel_rfl) [{ fl := [0, 1, 2, 3, 4, 5, 6], long := [2, 6], ef := 7, keep := [2, 6] }, { fl := [], ef := 8 }] [] (by kernel_rfl) (fun _ w9 => w9.heap[x]? = w1.heap[x]? ∧ w9.heap[w.heap.size]? = w1.heap[w.heap.size]?) ?_
  simp only [wpPlan, longOK, keepOK, opsAt_cons, opsAt_nil, consO_some, List.getElem?_toArray, List.getElem?_cons_succ, List.getElem?_cons_zero, and_true, true_and]
  refine ⟨⟨⟨rfl, rfl⟩, ⟨rfl, rfl⟩⟩, ?_⟩
  go_wp2_with fail
  refine ⟨by kernel_rfl, ⟨?_, ?_⟩, ?_⟩
  · intro _ w9 h9
    have o1 : w9.cell? ⟨w.heap.size, 1, none⟩ = some (.int .i64 (i : Int)) := by rw [(hO1.keep h9.2).cell]; rfl
    clear h9
    go_simp
  · intro _ w9 h9
    obtain ⟨c0, c1, c2, c3, c4⟩ := QBlk.cells (R := R) (w := w9) (Blk.keep hx1.blk h9.1) i (by omega) hyh.out
    dsimp only at c0 c1 c2 c3 c4
    clear h9
    go_simp
  go_wp2_with fail
  have hcB := ((Chg.refl (fun _ => False) w1).drew).alloc (.cells #[.int .i64 0, .int .i64 0, .int .i64 0, .int .i64 0, .int .i64 0] 44)
  refine ⟨⟨⟨hcB.block x (Blk.lt hx1.blk) id, hcB.block _ hO1.lt id⟩, ⟨hcB.block x (Blk.lt hx1.blk) id, hcB.block _ hO1.lt id⟩⟩, ?_⟩
  go_wp2_with fail
  refine ⟨by kernel_rfl, ?_⟩
  go_wp2_with fail
  refine ⟨by kernel_rfl, ?_⟩
  have hw3 : Chg (fun _ => False) w (w1.alloc (.cells #[.int .i64 4, .int .i64 yun, .int .i64 ytil, .int .i64 ycu, .int .i64 yam] 44)).drew := (hck.alloc _).drew
  have hx3 : QAt R (w1.alloc (.cells #[.int .i64 4, .int .i64 yun, .int .i64 ytil, .int .i64 ycu, .int .i64 yam] 44)).drew x lv p := h.chg hw3 id (fun _ _ => id)
  have hO3 : Blk (w1.alloc (.cells #[.int .i64 4, .int .i64 yun, .int .i64 ytil, .int .i64 ycu, .int .i64 yam] 44)).drew w.heap.size 33 #[.int .i64 6, .int .i64 (i : Int), .int .i64 un, .int .i64 cu, .int .i64 am] := hO1.alloc _
  have hY3 : Blk (w1.alloc (.cells #[.int .i64 4, .int .i64 yun, .int .i64 ytil, .int .i64 ycu, .int .i64 yam] 44)).drew w1.heap.size 44 #[.int .i64 4, .int .i64 yun, .int .i64 ytil, .int .i64 ycu, .int .i64 yam] := Blk.new w1 _ _
  clear hcB c0 c1 c2 c3 c4 o0 o1 hO1 hx1 hck
  generalize hyb : w1.heap.size = Y at *
  generalize (w1.alloc (.cells #[.int .i64 4, .int .i64 yun, .int .i64 ytil, .int .i64 ycu, .int .i64 yam] 44)).drew = w3 at *
  clear hyb
  have hck4 := hw3.alloc (.cells #[.int .i64 3, .int .i64 0, .int .i64 0, .int .i64 0, .int .i64 0] 44)
  have hx4 : QAt R (w3.alloc (.cells #[.int .i64 3, .int .i64 0, .int .i64 0, .int .i64 0, .int .i64 0] 44)) x lv p := h.chg hck4 id (fun _ _ => id)
  have hO4 := hO3.alloc (.cells #[.int .i64 3, .int .i64 0, .int .i64 0, .int .i64 0, .int .i64 0] 44)
  have hY4 := hY3.alloc (.cells #[.int .i64 3, .int .i64 0, .int .i64 0, .int .i64 0, .int .i64 0] 44)
  have hG4 := Blk.new w3 44 #[.int .i64 3, .int .i64 0, .int .i64 0, .int .i64 0, .int .i64 0]
  have o0 : (w3.alloc (.cells #[.int .i64 3, .int .i64 0, .int .i64 0, .int .i64 0, .int .i64 0] 44)).cell? ⟨w.heap.size, 0, none⟩ = some (.int .i64 6) := by rw [hO4.cell]; rfl
  have o1 : (w3.alloc (.cells #[.int .i64 3, .int .i64 0, .int .i64 0, .int .i64 0, .int .i64 0] 44)).cell? ⟨w.heap.size, 1, none⟩ = some (.int .i64 (i : Int)) := by rw [hO4.cell]; rfl
  have o2 : (w3.alloc (.cells #[.int .i64 3, .int .i64 0, .int .i64 0, .int .i64 0, .int .i64 0] 44)).cell? ⟨w.heap.size, 2, none⟩ = some (.int .i64 un) := by rw [hO4.cell]; rfl
  have o3 : (w3.alloc (.cells #[.int .i64 3, .int .i64 0, .int .i64 0, .int .i64 0, .int .i64 0] 44)).cell? ⟨w.heap.size, 3, none⟩ = some (.int .i64 cu) := by rw [hO4.cell]; rfl
  have o4 : (w3.alloc (.cells #[.int .i64 3, .int .i64 0, .int .i64 0, .int .i64 0, .int .i64 0] 44)).cell? ⟨w.heap.size, 4, none⟩ = some (.int .i64 am) := by rw [hO4.cell]; rfl
  have y0 : (w3.alloc (.cells #[.int .i64 3, .int .i64 0, .int .i64 0, .int .i64 0, .int .i64 0] 44)).cell? ⟨Y, 0, none⟩ = some (.int .i64 4) := by rw [hY4.cell]; rfl
  have y1 : (w3.alloc (.cells #[.int .i64 3, .int .i64 0, .int .i64 0, .int .i64 0, .int .i64 0] 44)).cell? ⟨Y, 1, none⟩ = some (.int .i64 yun) := by rw [hY4.cell]; rfl
  have y2 : (w3.alloc (.cells #[.int .i64 3, .int .i64 0, .int .i64 0, .int .i64 0, .int .i64 0] 44)).cell? ⟨Y, 2, none⟩ = some (.int .i64 ytil) := by rw [hY4.cell]; rfl
  have y3 : (w3.alloc (.cells #[.int .i64 3, .int .i64 0, .int .i64 0, .int .i64 0, .int .i64 0] 44)).cell? ⟨Y, 3, none⟩ = some (.int .i64 ycu) := by rw [hY4.cell]; rfl
  have y4 : (w3.alloc (.cells #[.int .i64 3, .int .i64 0, .int .i64 0, .int .i64 0, .int .i64 0] 44)).cell? ⟨Y, 4, none⟩ = some (.int .i64 yam) := by rw [hY4.cell]; rfl
  have g0 : (w3.alloc (.cells #[.int .i64 3, .int .i64 0, .int .i64 0, .int .i64 0, .int .i64 0] 44)).cell? ⟨w3.heap.size, 0, none⟩ = some (.int .i64 3) := by rw [hG4.cell]; rfl
  have g1 : (w3.alloc (.cells #[.int .i64 3, .int .i64 0, .int .i64 0, .int .i64 0, .int .i64 0] 44)).cell? ⟨w3.heap.size, 1, none⟩ = some (.int .i64 0) := by rw [hG4.cell]; rfl
  have g2 : (w3.alloc (.cells #[.int .i64 3, .int .i64 0, .int .i64 0, .int .i64 0, .int .i64 0] 44)).cell? ⟨w3.heap.size, 2, none⟩ = some (.int .i64 0) := by rw [hG4.cell]; rfl
  have g3 : (w3.alloc (.cells #[.int .i64 3, .int .i64 0, .int .i64 0, .int .i64 0, .int .i64 0] 44)).cell? ⟨w3.heap.size, 3, none⟩ = some (.int .i64 0) := by rw [hG4.cell]; rfl
  have g4 : (w3.alloc (.cells #[.int .i64 3, .int .i64 0, .int .i64 0, .int .i64 0, .int .i64 0] 44)).cell? ⟨w3.heap.size, 4, none⟩ = some (.int .i64 0) := by rw [hG4.cell]; rfl
  have f0 := hx4.blk.frozen (6 + i * 5)
  have f1 := hx4.blk.frozen (6 + i * 5 + 1)
  have f2 := hx4.blk.frozen (6 + i * 5 + 2)
  have f3 := hx4.blk.frozen (6 + i * 5 + 3)
  have f4 := hx4.blk.frozen (6 + i * 5 + 4)
  obtain ⟨c0, c1, c2, c3, c4⟩ := QBlk.cells hx4.blk i (by omega) hyh.out
  dsimp only at c0 c1 c2 c3 c4
  have hck5 := hck4.mono (T := fun i => i = x ∨ lv.ownBlock = some i) (fun _ _ h => h.elim)
  clear hO3 hY3 hw3 hx3
  go_wp2_with fail
  refine (rq_move_i (R := R) hx4 (i : Int) 4 ycu yam (by omega) (by omega) yam0 yam1 ⟨(hbnd 4 (by omega) (by omega)).1, Int.le_trans (hbnd 4 (by omega) (by omega)).2 hT⟩ ⟨(hbnd ycu (by omega) (by omega)).1, Int.le_trans (hbnd ycu (by omega) (by omega)).2 hT⟩ (by omega) hlen).mono ?_
  rintro e w5 ⟨rfl, lv', hx5, hc5, hl5⟩
  have hO5 := hO4.chg hc5 (by rintro (e | e); exact hO4.ne hx4.blk R.ne1 e; exact own_ne hx4.own hO4 (by decide) e)
  have hG5 := hG4.chg hc5 (by rintro (e | e); exact hG4.ne hx4.blk R.ne2 e; exact own_ne hx4.own hG4 (by decide) e)
  have hck5 := hck5.trans hc5 (fun _ _ h => h)
  have hl5 : lv'.ownBlock = lv.ownBlock ∨ ∃ k, lv'.ownBlock = some k ∧ w.heap.size ≤ k := hl5.imp id fun ⟨k, h, h'⟩ => ⟨k, h, Nat.le_trans hck4.size h'⟩
  clear c0 c1 c2 c3 c4 o0 o1 o2 o3 o4 y0 y1 y2 y3 y4 g0 g1 g2 g3 g4 f0 f1 f2 f3 f4 hc5 hO4 hG4 hY4
  have o0 : w5.cell? ⟨w.heap.size, 0, none⟩ = some (.int .i64 6) := by rw [hO5.cell]; rfl
  have o1 : w5.cell? ⟨w.heap.size, 1, none⟩ = some (.int .i64 (i : Int)) := by rw [hO5.cell]; rfl
  have o2 : w5.cell? ⟨w.heap.size, 2, none⟩ = some (.int .i64 un) := by rw [hO5.cell]; rfl
  have o3 : w5.cell? ⟨w.heap.size, 3, none⟩ = some (.int .i64 cu) := by rw [hO5.cell]; rfl
  have o4 : w5.cell? ⟨w.heap.size, 4, none⟩ = some (.int .i64 am) := by rw [hO5.cell]; rfl
  have g0 : w5.cell? ⟨w3.heap.size, 0, none⟩ = some (.int .i64 3) := by rw [hG5.cell]; rfl
  have g1 : w5.cell? ⟨w3.heap.size, 1, none⟩ = some (.int .i64 0) := by rw [hG5.cell]; rfl
  have g2 : w5.cell? ⟨w3.heap.size, 2, none⟩ = some (.int .i64 0) := by rw [hG5.cell]; rfl
  have g3 : w5.cell? ⟨w3.heap.size, 3, none⟩ = some (.int .i64 0) := by rw [hG5.cell]; rfl
  have g4 : w5.cell? ⟨w3.heap.size, 4, none⟩ = some (.int .i64 0) := by rw [hG5.cell]; rfl
  have f0 := hx5.blk.frozen (6 + i * 5)
  have f1 := hx5.blk.frozen (6 + i * 5 + 1)
  have f2 := hx5.blk.frozen (6 + i * 5 + 2)
  have f3 := hx5.blk.frozen (6 + i * 5 + 3)
  have f4 := hx5.blk.frozen (6 + i * 5 + 4)
  obtain ⟨c0, c1, c2, c3, c4⟩ := QBlk.cells hx5.blk i (by omega) hyh.out
  dsimp only at c0 c1 c2 c3 c4
  go_wp2_with fail
  refine wp_region_plan (by kernel_rfl) [{ fl := [0, 1, 2, 3, 4, 5, 6], ef := 7 }] [] (by kernel_rfl) (fun _ _ => True) ?_
  simp only [wpPlan, longOK, keepOK, opsAt_cons, opsAt_nil, consO_some, List.getElem?_toArray, List.getElem?_cons_succ, List.getElem?_cons_zero, true_and]
  go_wp2_with fail
  refine ⟨by kernel_rfl, ?_⟩
  go_wp2_with fail
  refine ⟨by kernel_rfl, ?_⟩
  go_wp2_with fail
  go_ret
  exact ⟨rfl, lv', (hx5.put i hb2 Ent.gone).drew, (hck5.put5 (.inl rfl) _ _ _ _ _).drew, hl5⟩

set_option maxRecDepth 100000 in
set_option maxHeartbeats 2000000 in
theorem rq_do_65 {w : World} {x : Nat} {lv : Value} {p : Pur} {T : Int} (h : QAt R w x lv p) (hG : p.Good T) (hT : T ≤ 1125899906842624) (hlen : p.ln.length ≤ 1000000) (o : POp) (hm : mayOp o = true) (hk : o.kd = 6) (hst : (p.en o.bk).st = 5) :
    Calls Try.prog 10 #[.pointer (some ⟨x, 0, none⟩), o.val] w fun e w' => e = .returned (.int .i64 (p.act o).1) ∧ ∃ lv', QAt R w' x lv' (p.act o).2 ∧ Chg (fun i => i = x ∨ lv.ownBlock = some i) w w' ∧ (lv'.ownBlock = lv.ownBlock ∨ ∃ k, lv'.ownBlock = some k ∧ w.heap.size ≤ k) := by
  have hcA := (Chg.refl (fun _ => False) w).alloc (.cells o.row 33)
  have hO := Blk.new w 33 o.row
  unfold POp.row at hcA
  have hbk := mayOp_bk hm
  have hmh := Lib.hid hm
  clear hm
  have hbnd := hG.bounds
  have hamt := hG.amt o.bk
  have hnon := hG.non o.bk
  have hgon := hG.gon o.bk
  obtain ⟨kd, bk, un, cu, am⟩ := o
  dsimp only at *
  obtain ⟨i, rfl⟩ : ∃ i : Nat, bk = i := ⟨bk.toNat, by omega⟩
  obtain ⟨hb1, hb2⟩ := hbk
  have hb1 : 1 ≤ i := by omega
  have hb2 : i ≤ 200 := by omega
  subst hk
  obtain ⟨y, hy⟩ : ∃ y, p.en (i : Int) = y := ⟨_, rfl⟩
  rw [hy] at hst hamt hnon hgon
  obtain ⟨yst, yun, ytil, ycu, yam⟩ := y
  dsimp only at hst hamt
  obtain ⟨yam0, yam1, ycu0, ycu1⟩ := hamt (.inr hst)
  subst hst
  clear hamt hnon hgon
  have hr : p.act ⟨6, (i : Int), un, cu, am⟩ = (1, p.move (i : Int) 5 ycu yam Ent.gone) := by
    unfold Pur.act
    rw [if_neg (by rw [hmh.out]; decide)]
    dsimp only
    rw [hy]
    simp
  rw [hr]
  have hyh := Lib.hid hy
  clear hy
  go_enter Try.func10, Try.ntmps10
  unfold POp.val
  go_wp2_with fail
  refine (mayRef_any ⟨6, (i : Int), un, cu, am⟩ _).mono ?_
  rintro e w1 ⟨rfl, hc1⟩
  rw [hmh.out]
  have hO1 := hO.chg hc1 id
  have hck := hcA.trans hc1 (fun _ _ h => h)
  have hx1 := h.chg hck id (fun _ _ => id)
  have hzx : x ≠ w.heap.size := Nat.ne_of_lt (Blk.lt h.blk)
  have hlw := own_lt0 h.own
  have o0 : w1.cell? ⟨w.heap.size, 0, none⟩ = some (.int .i64 6) := by rw [hO1.cell]; rfl
  have o1 : w1.cell? ⟨w.heap.size, 1, none⟩ = some (.int .i64 (i : Int)) := by rw [hO1.cell]; rfl
  obtain ⟨c0, c1, c2, c3, c4⟩ := hx1.blk.cells i (by omega) hyh.out
  dsimp only at c0 c1 c2 c3 c4
  clear hcA hO hc1
  go_wp2_with fail
  refine wp_region_plan (by kernel_rfl) [{ fl := [0, 1, 2, 3, 4, 5, 6], long := [2, 6], ef := 7, keep := [2, 6] }, { fl := [], ef := 8 }] [] (by kernel_rfl) (fun _ w9 => w9.heap[x]? = w1.heap[x]? ∧ w9.heap[w.heap.size]? = w1.heap[w.heap.size]?) ?_
  simp only [wpPlan, longOK, keepOK, opsAt_cons, opsAt_nil, consO_some, List.getElem?_toArray, List.getElem?_cons_succ, List.getElem?_cons_zero, and_true, true_and]
  refine ⟨⟨⟨rfl, rfl⟩, ⟨rfl, rfl⟩⟩, ?_⟩
  go_wp2_with fail
  refine ⟨by kernel_rfl, ⟨?_, ?_⟩, ?_⟩
  · intro _ w9 h9
    have o1 : w9.cell? ⟨w.heap.size, 1, none⟩ = some (.int .i64 (i : Int)) := by rw [(hO1.keep h9.2).cell]; rfl
    clear h9
    go_simp
  · intro _ w9 h9
    obtain ⟨c0, c1, c2, c3, c4⟩ := QBlk.cells (R := R) (w := w9) (Blk.keep hx1.blk h9.1) i (by omega) hyh.out
    dsimp only at c0 c1 c2 c3 c4
    clear h9
    go_simp
  go_wp2_with fail
  have hcB := ((Chg.refl (fun _ => False) w1).drew).alloc (.cells #[.int .i64 0, .int .i64 0, .int .i64 0, .int .i64 0, .int .i64 0] 44)
  refine ⟨⟨⟨hcB.block x (Blk.lt hx1.blk) id, hcB.block _ hO1.lt id⟩, ⟨hcB.block x (Blk.lt hx1.blk) id, hcB.block _ hO1.lt id⟩⟩, ?_⟩
  go_wp2_with fail
  refine ⟨by kernel_rfl, ?_⟩
  go_wp2_with fail
  refine ⟨by kernel_rfl, ?_⟩
  have hw3 : Chg (fun _ => False) w (w1.alloc (.cells #[.int .i64 5, .int .i64 yun, .int .i64 ytil, .int .i64 ycu, .int .i64 yam] 44)).drew := (hck.alloc _).drew
  have hx3 : QAt R (w1.alloc (.cells #[.int .i64 5, .int .i64 yun, .int .i64 ytil, .int .i64 ycu, .int .i64 yam] 44)).drew x lv p := h.chg hw3 id (fun _ _ => id)
  have hO3 : Blk (w1.alloc (.cells #[.int .i64 5, .int .i64 yun, .int .i64 ytil, .int .i64 ycu, .int .i64 yam] 44)).drew w.heap.size 33 #[.int .i64 6, .int .i64 (i : Int), .int .i64 un, .int .i64 cu, .int .i64 am] := hO1.alloc _
  have hY3 : Blk (w1.alloc (.cells #[.int .i64 5, .int .i64 yun, .int .i64 ytil, .int .i64 ycu, .int .i64 yam] 44)).drew w1.heap.size 44 #[.int .i64 5, .int .i64 yun, .int .i64 ytil, .int .i64 ycu, .int .i64 yam] := Blk.new w1 _ _
  clear hcB c0 c1 c2 c3 c4 o0 o1 hO1 hx1 hck
  generalize hyb : w1.heap.size = Y at *
  generalize (w1.alloc (.cells #[.int .i64 5, .int .i64 yun, .int .i64 ytil, .int .i64 ycu, .int .i64 yam] 44)).drew = w3 at *
  clear hyb
  have hck4 := hw3.alloc (.cells #[.int .i64 3, .int .i64 0, .int .i64 0, .int .i64 0, .int .i64 0] 44)
  have hx4 : QAt R (w3.alloc (.cells #[.int .i64 3, .int .i64 0, .int .i64 0, .int .i64 0, .int .i64 0] 44)) x lv p := h.chg hck4 id (fun _ _ => id)
  have hO4 := hO3.alloc (.cells #[.int .i64 3, .int .i64 0, .int .i64 0, .int .i64 0, .int .i64 0] 44)
  have hY4 := hY3.alloc (.cells #[.int .i64 3, .int .i64 0, .int .i64 0, .int .i64 0, .int .i64 0] 44)
  have hG4 := Blk.new w3 44 #[.int .i64 3, .int .i64 0, .int .i64 0, .int .i64 0, .int .i64 0]
  have o0 : (w3.alloc (.cells #[.int .i64 3, .int .i64 0, .int .i64 0, .int .i64 0, .int .i64 0] 44)).cell? ⟨w.heap.size, 0, none⟩ = some (.int .i64 6) := by rw [hO4.cell]; rfl
  have o1 : (w3.alloc (.cells #[.int .i64 3, .int .i64 0, .int .i64 0, .int .i64 0, .int .i64 0] 44)).cell? ⟨w.heap.size, 1, none⟩ = some (.int .i64 (i : Int)) := by rw [hO4.cell]; rfl
  have o2 : (w3.alloc (.cells #[.int .i64 3, .int .i64 0, .int .i64 0, .int .i64 0, .int .i64 0] 44)).cell? ⟨w.heap.size, 2, none⟩ = some (.int .i64 un) := by rw [hO4.cell]; rfl
  have o3 : (w3.alloc (.cells #[.int .i64 3, .int .i64 0, .int .i64 0, .int .i64 0, .int .i64 0] 44)).cell? ⟨w.heap.size, 3, none⟩ = some (.int .i64 cu) := by rw [hO4.cell]; rfl
  have o4 : (w3.alloc (.cells #[.int .i64 3, .int .i64 0, .int .i64 0, .int .i64 0, .int .i64 0] 44)).cell? ⟨w.heap.size, 4, none⟩ = some (.int .i64 am) := by rw [hO4.cell]; rfl
  have y0 : (w3.alloc (.cells #[.int .i64 3, .int .i64 0, .int .i64 0, .int .i64 0, .int .i64 0] 44)).cell? ⟨Y, 0, none⟩ = some (.int .i64 5) := by rw [hY4.cell]; rfl
  have y1 : (w3.alloc (.cells #[.int .i64 3, .int .i64 0, .int .i64 0, .int .i64 0, .int .i64 0] 44)).cell? ⟨Y, 1, none⟩ = some (.int .i64 yun) := by rw [hY4.cell]; rfl
  have y2 : (w3.alloc (.cells #[.int .i64 3, .int .i64 0, .int .i64 0, .int .i64 0, .int .i64 0] 44)).cell? ⟨Y, 2, none⟩ = some (.int .i64 ytil) := by rw [hY4.cell]; rfl
  have y3 : (w3.alloc (.cells #[.int .i64 3, .int .i64 0, .int .i64 0, .int .i64 0, .int .i64 0] 44)).cell? ⟨Y, 3, none⟩ = some (.int .i64 ycu) := by rw [hY4.cell]; rfl
  have y4 : (w3.alloc (.cells #[.int .i64 3, .int .i64 0, .int .i64 0, .int .i64 0, .int .i64 0] 44)).cell? ⟨Y, 4, none⟩ = some (.int .i64 yam) := by rw [hY4.cell]; rfl
  have g0 : (w3.alloc (.cells #[.int .i64 3, .int .i64 0, .int .i64 0, .int .i64 0, .int .i64 0] 44)).cell? ⟨w3.heap.size, 0, none⟩ = some (.int .i64 3) := by rw [hG4.cell]; rfl
  have g1 : (w3.alloc (.cells #[.int .i64 3, .int .i64 0, .int .i64 0, .int .i64 0, .int .i64 0] 44)).cell? ⟨w3.heap.size, 1, none⟩ = some (.int .i64 0) := by rw [hG4.cell]; rfl
  have g2 : (w3.alloc (.cells #[.int .i64 3, .int .i64 0, .int .i64 0, .int .i64 0, .int .i64 0] 44)).cell? ⟨w3.heap.size, 2, none⟩ = some (.int .i64 0) := by rw [hG4.cell]; rfl
  have g3 : (w3.alloc (.cells #[.int .i64 3, .int .i64 0, .int .i64 0, .int .i64 0, .int .i64 0] 44)).cell? ⟨w3.heap.size, 3, none⟩ = some (.int .i64 0) := by rw [hG4.cell]; rfl
  have g4 : (w3.alloc (.cells #[.int .i64 3, .int .i64 0, .int .i64 0, .int .i64 0, .int .i64 0] 44)).cell? ⟨w3.heap.size, 4, none⟩ = some (.int .i64 0) := by rw [hG4.cell]; rfl
  have f0 := hx4.blk.frozen (6 + i * 5)
  have f1 := hx4.blk.frozen (6 + i * 5 + 1)
  have f2 := hx4.blk.frozen (6 + i * 5 + 2)
  have f3 := hx4.blk.frozen (6 + i * 5 + 3)
  have f4 := hx4.blk.frozen (6 + i * 5 + 4)
  obtain ⟨c0, c1, c2, c3, c4⟩ := QBlk.cells hx4.blk i (by omega) hyh.out
  dsimp only at c0 c1 c2 c3 c4
  have hck5 := hck4.mono (T := fun i => i = x ∨ lv.ownBlock = some i) (fun _ _ h => h.elim)
  clear hO3 hY3 hw3 hx3
  go_wp2_with fail
  refine (rq_move_i (R := R) hx4 (i : Int) 5 ycu yam (by omega) (by omega) yam0 yam1 ⟨(hbnd 5 (by omega) (by omega)).1, Int.le_trans (hbnd 5 (by omega) (by omega)).2 hT⟩ ⟨(hbnd ycu (by omega) (by omega)).1, Int.le_trans (hbnd ycu (by omega) (by omega)).2 hT⟩ (by omega) hlen).mono ?_
  rintro e w5 ⟨rfl, lv', hx5, hc5, hl5⟩
  have hO5 := hO4.chg hc5 (by rintro (e | e); exact hO4.ne hx4.blk R.ne1 e; exact own_ne hx4.own hO4 (by decide) e)
  have hG5 := hG4.chg hc5 (by rintro (e | e); exact hG4.ne hx4.blk R.ne2 e; exact own_ne hx4.own hG4 (by decide) e)
  have hck5 := hck5.trans hc5 (fun _ _ h => h)
  have hl5 : lv'.ownBlock = lv.ownBlock ∨ ∃ k, lv'.ownBlock = some k ∧ w.heap.size ≤ k := hl5.imp id fun ⟨k, h, h'⟩ => ⟨k, h, Nat.le_trans hck4.size h'⟩
  clear c0 c1 c2 c3 c4 o0 o1 o2 o3 o4 y0 y1 y2 y3 y4 g0 g1 g2 g3 g4 f0 f1 f2 f3 f4 hc5 hO4 hG4 hY4
  have o0 : w5.cell? ⟨w.heap.size, 0, none⟩ = some (.int .i64 6) := by rw [hO5.cell]; rfl
  have o1 : w5.cell? ⟨w.heap.size, 1, none⟩ = some (.int .i64 (i : Int)) := by rw [hO5.cell]; rfl
  have o2 : w5.cell? ⟨w.heap.size, 2, none⟩ = some (.int .i64 un) := by rw [hO5.cell]; rfl
  have o3 : w5.cell? ⟨w.heap.size, 3, none⟩ = some (.int .i64 cu) := by rw [hO5.cell]; rfl
  have o4 : w5.cell? ⟨w.heap.size, 4, none⟩ = some (.int .i64 am) := by rw [hO5.cell]; rfl
  have g0 : w5.cell? ⟨w3.heap.size, 0, none⟩ = some (.int .i64 3) := by rw [hG5.cell]; rfl
  have g1 : w5.cell? ⟨w3.heap.size, 1, none⟩ = some (.int .i64 0) := by rw [hG5.cell]; rfl
  have g2 : w5.cell? ⟨w3.heap.size, 2, none⟩ = some (.int .i64 0) := by rw [hG5.cell]; rfl
  have g3 : w5.cell? ⟨w3.heap.size, 3, none⟩ = some (.int .i64 0) := by rw [hG5.cell]; rfl
  have g4 : w5.cell? ⟨w3.heap.size, 4, none⟩ = some (.int .i64 0) := by rw [hG5.cell]; rfl
  have f0 := hx5.blk.frozen (6 + i * 5)
  have f1 := hx5.blk.frozen (6 + i * 5 + 1)
  have f2 := hx5.blk.frozen (6 + i * 5 + 2)
  have f3 := hx5.blk.frozen (6 + i * 5 + 3)
  have f4 := hx5.blk.frozen (6 + i * 5 + 4)
  obtain ⟨c0, c1, c2, c3, c4⟩ := QBlk.cells hx5.blk i (by omega) hyh.out
  dsimp only at c0 c1 c2 c3 c4
  go_wp2_with fail
  refine wp_region_plan (by kernel_rfl) [{ fl := [0, 1, 2, 3, 4, 5, 6], ef := 7 }] [] (by kernel_rfl) (fun _ _ => True) ?_
  simp only [wpPlan, longOK, keepOK, opsAt_cons, opsAt_nil, consO_some, List.getElem?_toArray, List.getElem?_cons_succ, List.getElem?_cons_zero, true_and]
  go_wp2_with fail
  refine ⟨by kernel_rfl, ?_⟩
  go_wp2_with fail
  refine ⟨by kernel_rfl, ?_⟩
  go_wp2_with fail
  go_ret
  exact ⟨rfl, lv', (hx5.put i hb2 Ent.gone).drew, (hck5.put5 (.inl rfl) _ _ _ _ _).drew, hl5⟩
end Go.Proofs.Ytddnpjlcmokbiaa
