/-
  The reference's host in memory; Ask by its contract.
-/
import Derived.Test.YtkbnojjmpmlgjaaGreatRTabA
import Derived.Test.YtkbnojjmpmlgjaaGreatZRefD
import Derived.Test.YtkbnojjmpmlgjaaGreatZTabH
namespace Go.Proofs.YtkbnojjmpmlgjaaGreat
open Go.RowKit Go.Maps

def rhCell (s : Stk) (f : Tab) (c : Int) (i : Nat) : Value := if i < 1007 then refCell s i else rtCell f c (i - 1007)
def RHostAt (w : World) (x : Nat) (s : Stk) (f : Tab) (c : Int) : Prop := Blk w x 41 (arrF 2415 (rhCell s f c))
theorem RHostAt.chg {w w' : World} {x : Nat} {s : Stk} {f : Tab} {c : Int} {S : Nat → Prop} (h : RHostAt w x s f c) (hc : Chg S w w') (hn : ¬ S x) : RHostAt w' x s f c := Blk.chg h hc hn
def RH (f : Tab) (c : Int) : REnv := ⟨41, 2415, fun i => rtCell f c (i - 1007), by omega⟩
def RT (s : Stk) : TEnv := ⟨41, 2415, 1007, refCell s, by omega⟩
set_option maxRecDepth 100000 in
theorem rh_eqS (s : Stk) (f : Tab) (c : Int) : arrF 2415 (rhCell s f c) = arrF 2415 (ovl (RH f c).g s) := by
  refine arrF_congr 2415 _ _ (fun i _ => ?_)
  unfold rhCell ovl
  have : (RH f c).g i = rtCell f c (i - 1007) := rfl
  rw [this]
theorem RHostAt.stock {w : World} {x : Nat} {s : Stk} {f : Tab} {c : Int} (h : RHostAt w x s f c) : RefAt (RH f c) w x s := by
  unfold RHostAt at h
  rw [rh_eqS] at h
  exact h
theorem RHostAt.ofStock {w : World} {x : Nat} {s : Stk} {f : Tab} {c : Int} (h : RefAt (RH f c) w x s) : RHostAt w x s f c := by
  unfold RHostAt
  rw [rh_eqS]
  exact h
theorem rh_eq (s : Stk) (f : Tab) (c : Int) : arrF 2415 (rhCell s f c) = arrF 2415 (tovl (RT s) f c) := by
  refine arrF_congr 2415 _ _ (fun i hi => ?_)
  unfold rhCell tovl
  show _ = if 1007 ≤ i ∧ i < 1007 + 1408 then rtCell f c (i - 1007) else refCell s i
  by_cases h : i < 1007
  · rw [if_pos h, if_neg (by omega)]
  · rw [if_neg h, if_pos (by omega)]
theorem RHostAt.table {w : World} {x : Nat} {s : Stk} {f : Tab} {c : Int} (h : RHostAt w x s f c) : RTabAt (RT s) w x f c := by
  unfold RHostAt at h
  rw [rh_eq] at h
  exact h
theorem RHostAt.ofTable {w : World} {x : Nat} {s : Stk} {f : Tab} {c : Int} (h : RTabAt (RT s) w x f c) : RHostAt w x s f c := by
  unfold RHostAt
  rw [rh_eq]
  exact h

set_option maxRecDepth 100000 in
set_option maxHeartbeats 1000000 in
theorem rask_no {w : World} {x : Nat} (o : POp) (now : Int) (hno : mayOp o = false ∨ 3 < o.kd ∨ timeB now = false) :
    Calls Tryz.prog 10 #[.pointer (some ⟨x, 0, none⟩), o.val, .int .i64 now] w fun e w' => e = .returned (.tuple #[.int .i64 2, .bool false]) ∧ Chg (fun _ => False) w w' := by
  have hcA := (Chg.refl (fun _ => False) w).alloc (.cells o.row 43)
  have hO := Blk.new w 43 o.row
  unfold POp.row at hcA
  have hnh := Lib.hid hno
  obtain ⟨kd, bk, un, cu, am⟩ := o
  clear hno
  go_enter Tryz.func10, Tryz.ntmps10
  unfold POp.val
  go_wp2_with fail
  refine (mayRef_any ⟨kd, bk, un, cu, am⟩ _).mono ?_
  rintro e w1 ⟨rfl, hc1⟩
  have hO1 := hO.chg hc1 id
  have c0 : w1.cell? ⟨w.heap.size, 0, none⟩ = some (.int .i64 kd) := by rw [hO1.cell]; rfl
  have hck := hcA.trans hc1 (fun _ _ h => h)
  cases hm : mayOp ⟨kd, bk, un, cu, am⟩ with
  | false =>
    go_wp2_with fail
    go_ret2
    exact ⟨rfl, hck⟩
  | true =>
    by_cases h3 : 3 < kd
    · go_wp2_with fail
      go_ret2
      exact ⟨rfl, hck⟩
    · have ht : timeB now = false := by
        rcases hnh.out with h | h | h
        · rw [hm] at h; cases h
        · exact absurd h h3
        · exact h
      have hth := Lib.hid ht
      clear ht hm hnh
      go_wp2_with fail
      refine (time_any _ now).mono ?_
      rintro e w2 ⟨rfl, rfl⟩
      rw [hth.out]
      go_wp2_with fail
      go_ret2
      exact ⟨rfl, hck⟩

set_option maxRecDepth 100000 in
set_option maxHeartbeats 1000000 in
theorem rask_yes {w : World} {x : Nat} {s : Stk} {f : Tab} {c : Int} (h : RHostAt w x s f c) (hG : s.Good) (o : POp) (now : Int) (hm : mayOp o = true) (h3 : o.kd ≤ 3) (h0 : 0 ≤ now) (h1 : now ≤ 1099511627776) (hc0 : 0 ≤ c) (hc1 : c ≤ 1000000)
    (r : Int) (n : Bool) (s' : Stk) (f' : Tab) (ha : hAsk s f o now = (r, n, s', f')) :
    Calls Tryz.prog 10 #[.pointer (some ⟨x, 0, none⟩), o.val, .int .i64 now] w fun e w' => e = .returned (.tuple #[.int .i64 r, .bool n]) ∧ RHostAt w' x s' f' (if n = true then c + 1 else c) ∧ Chg (fun i => i = x) w w' := by
  have hcA := (Chg.refl (fun _ => False) w).alloc (.cells o.row 43)
  have hO := Blk.new w 43 o.row
  unfold POp.row at hcA
  have hbk := mayOp_bk hm
  have hkd := mayOp_kd hm
  have htime : timeB now = true := by unfold timeB; simp [h0, h1]
  have hth := Lib.hid htime
  have hmh := Lib.hid hm
  have hah := Lib.hid ha
  clear htime hm ha
  have hxz : x < w.heap.size := Blk.lt h
  go_enter Tryz.func10, Tryz.ntmps10
  unfold POp.val
  go_wp2_with fail
  refine (mayRef_any o _).mono ?_
  rintro e w1 ⟨rfl, hc1'⟩
  rw [hmh.out]
  have hO1 := hO.chg hc1' id
  have hck := hcA.trans hc1' (fun _ _ h => h)
  have hX1 := h.chg hck id
  have o0 : w1.cell? ⟨w.heap.size, 0, none⟩ = some (.int .i64 o.kd) := by rw [hO1.cell]; rfl
  clear hcA hO hc1'
  go_wp2_with fail
  refine (time_any _ now).mono ?_
  rintro e w2 ⟨rfl, rfl⟩
  rw [hth.out]
  have o1 : w2.cell? ⟨w.heap.size, 1, none⟩ = some (.int .i64 o.bk) := by rw [hO1.cell]; rfl
  have o2 : w2.cell? ⟨w.heap.size, 2, none⟩ = some (.int .i64 o.un) := by rw [hO1.cell]; rfl
  have o3 : w2.cell? ⟨w.heap.size, 3, none⟩ = some (.int .i64 o.cu) := by rw [hO1.cell]; rfl
  have o4 : w2.cell? ⟨w.heap.size, 4, none⟩ = some (.int .i64 o.am) := by rw [hO1.cell]; rfl
  go_wp2_with fail
  refine wp_region_plan (by kernel_rfl) [{ fl := [0, 1, 2, 3], ef := 4 }] [5, 6, 7, 8, 9] (by kernel_rfl) (fun _ _ => True) ?_
  simp only [wpPlan, longOK, keepOK, opsAt_cons, opsAt_nil, consO_some, List.getElem?_toArray, List.getElem?_cons_succ, List.getElem?_cons_zero, true_and]
  go_wp2_with fail
  refine ⟨by kernel_rfl, ?_⟩
  go_wp2_with fail
  refine (rt_find (R := RT s) (w := w2.drew) hX1.table.drew o hbk hkd).mono ?_
  rintro e w3 ⟨rfl, hc3⟩
  have hc3 := ((Chg.refl (fun _ => False) w2).drew).trans hc3 (fun _ _ h => h)
  have hck3 := hck.trans hc3 (fun _ _ h => h)
  have hX3 := hX1.chg hc3 id
  have hO3 := hO1.chg hc3 id
  clear o0 o1 o2 o3 o4 hX1 hO1 hc3 hck
  obtain ⟨a, hfa⟩ : ∃ a, f (o.bk, o.kd) = a := ⟨_, rfl⟩
  rw [hfa]
  have hfah := Lib.hid hfa
  by_cases hf : a = 0
  · have hf0 : f (o.bk, o.kd) = 0 := by rw [hfa]; exact hf
    have ha := hah.out
    rw [hAsk_new hmh.out h3 h0 h1 hf0] at ha
    simp only [Prod.mk.injEq] at ha
    obtain ⟨rfl, rfl, rfl, rfl⟩ := ha
    have hf0h := Lib.hid hf0
    have bz : (!(a == 0)) = false := by simp [hf]
    have hres := s.act_res2 o now
    have hGd := ref_do (R := RH f c) hX3.stock hG o now
    clear hfa hf hf0
    have o0 : w3.cell? ⟨w.heap.size, 0, none⟩ = some (.int .i64 o.kd) := by rw [hO3.cell]; rfl
    have o1 : w3.cell? ⟨w.heap.size, 1, none⟩ = some (.int .i64 o.bk) := by rw [hO3.cell]; rfl
    have o2 : w3.cell? ⟨w.heap.size, 2, none⟩ = some (.int .i64 o.un) := by rw [hO3.cell]; rfl
    have o3 : w3.cell? ⟨w.heap.size, 3, none⟩ = some (.int .i64 o.cu) := by rw [hO3.cell]; rfl
    have o4 : w3.cell? ⟨w.heap.size, 4, none⟩ = some (.int .i64 o.am) := by rw [hO3.cell]; rfl
    rw [bz]
    go_wp2_with fail
    refine ⟨by kernel_rfl, ?_⟩
    go_wp2_with fail
    refine wp_region_plan (by kernel_rfl) [{ fl := [0, 1, 2, 3, 4], ef := 5 }] [6] (by kernel_rfl) (fun _ _ => True) ?_
    simp only [wpPlan, longOK, keepOK, opsAt_cons, opsAt_nil, consO_some, List.getElem?_toArray, List.getElem?_cons_succ, List.getElem?_cons_zero, true_and]
    go_wp2_with fail
    refine ⟨by kernel_rfl, ?_⟩
    go_wp2_with fail
    refine (ref_do (R := RH f c) (w := w3.drew) hX3.stock.drew hG o now).mono ?_
    rintro e w4 ⟨rfl, hX4, hc4⟩
    have hc4 := ((Chg.refl (fun i => i = x) w3).drew).trans hc4 (fun _ _ h => h)
    have hO4 := hO3.chg hc4 (by omega)
    have hck4 := (hck3.mono (T := fun i => i = x) (fun _ _ h => h.elim)).trans hc4 (fun _ _ h => h)
    have hX4 := RHostAt.ofStock hX4
    obtain ⟨q, hq⟩ : ∃ q, s.act o now = q := ⟨_, rfl⟩
    rw [hq] at hX4 hres ⊢
    have hqh := Lib.hid hq
    clear hq hGd o0 o1 o2 o3 o4 hO3 hX3 hc4
    have o0 : w4.cell? ⟨w.heap.size, 0, none⟩ = some (.int .i64 o.kd) := by rw [hO4.cell]; rfl
    have o1 : w4.cell? ⟨w.heap.size, 1, none⟩ = some (.int .i64 o.bk) := by rw [hO4.cell]; rfl
    have o2 : w4.cell? ⟨w.heap.size, 2, none⟩ = some (.int .i64 o.un) := by rw [hO4.cell]; rfl
    have o3 : w4.cell? ⟨w.heap.size, 3, none⟩ = some (.int .i64 o.cu) := by rw [hO4.cell]; rfl
    have o4 : w4.cell? ⟨w.heap.size, 4, none⟩ = some (.int .i64 o.am) := by rw [hO4.cell]; rfl
    have hput := rt_put_new (R := RT q.2) (w := w4.drew) hX4.table.drew o q.1 hmh.out hres hf0h.out hc0 hc1
    have hputh := Lib.hid hput
    clear hput hres
    go_wp2_with fail
    refine ⟨by kernel_rfl, ?_⟩
    go_wp2_with fail
    refine wp_region_plan (by kernel_rfl) [{ fl := [0, 1, 2, 3, 4], ef := 5 }] [] (by kernel_rfl) (fun _ _ => True) ?_
    simp only [wpPlan, longOK, keepOK, opsAt_cons, opsAt_nil, consO_some, List.getElem?_toArray, List.getElem?_cons_succ, List.getElem?_cons_zero, true_and]
    go_wp2_with fail
    refine ⟨by kernel_rfl, ?_⟩
    go_wp2_with fail
    refine hputh.out.mono ?_
    rintro e w5 ⟨rfl, hX5, hc5⟩
    have hX5 := RHostAt.ofTable hX5
    have hck5 := hck4.drew.trans hc5 (fun _ _ h => h)
    go_wp2_with fail
    refine ⟨by kernel_rfl, ?_⟩
    go_wp2_with fail
    go_ret2
    rw [hqh.out]
    exact ⟨rfl, hX5, hck5⟩
  · have hf0 : f (o.bk, o.kd) ≠ 0 := by rw [hfa]; exact hf
    have ha := hah.out
    rw [hAsk_old hmh.out h3 h0 h1 hf0, hfa] at ha
    simp only [Prod.mk.injEq] at ha
    obtain ⟨rfl, rfl, rfl, rfl⟩ := ha
    have bz : (!(a == 0)) = true := by simp [hf]
    clear hfa hf hf0
    rw [bz]
    go_wp2_with fail
    refine ⟨by kernel_rfl, ?_⟩
    go_wp2_with fail
    go_ret2
    exact ⟨rfl, hX3, hck3.mono (fun _ _ h => h.elim)⟩

theorem rask_any {w : World} {x : Nat} {s : Stk} {f : Tab} {c : Int} (h : RHostAt w x s f c) (hG : s.Good) (o : POp) (now : Int) (hc0 : 0 ≤ c) (hc1 : c ≤ 1000000)
    (r : Int) (n : Bool) (s' : Stk) (f' : Tab) (ha : hAsk s f o now = (r, n, s', f')) :
    Calls Tryz.prog 10 #[.pointer (some ⟨x, 0, none⟩), o.val, .int .i64 now] w fun e w' => e = .returned (.tuple #[.int .i64 r, .bool n]) ∧ RHostAt w' x s' f' (if n = true then c + 1 else c) ∧ Chg (fun i => i = x) w w' := by
  by_cases hno : mayOp o = false ∨ 3 < o.kd ∨ now < 0 ∨ 1099511627776 < now
  · rw [hAsk_no hno] at ha
    simp only [Prod.mk.injEq] at ha
    obtain ⟨rfl, rfl, rfl, rfl⟩ := ha
    refine (rask_no o now (hno.imp id fun h => h.imp id fun h => by unfold timeB; simp; omega)).mono ?_
    rintro e w' ⟨rfl, hc⟩
    exact ⟨rfl, by rw [if_neg (by decide)]; exact h.chg hc id, hc.mono (fun _ _ h => h.elim)⟩
  · have hm : mayOp o = true := by
      cases hm : mayOp o with
      | true => rfl
      | false => exact absurd (.inl hm) hno
    exact rask_yes h hG o now hm (by omega) (by omega) (by omega) hc0 hc1 r n s' f' ha
end Go.Proofs.YtkbnojjmpmlgjaaGreat
