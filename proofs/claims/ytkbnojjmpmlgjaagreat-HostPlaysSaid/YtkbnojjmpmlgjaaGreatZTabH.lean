/-
  table: Answer by its contract, over whatever the host's closure does.
-/
import Derived.Test.YtkbnojjmpmlgjaaGreatZTabB
import Derived.Test.YtkbnojjmpmlgjaaGreatZStockB
namespace Go.Proofs.YtkbnojjmpmlgjaaGreat
open Go.RowKit Go.Maps

set_option maxRecDepth 100000 in
set_option maxHeartbeats 1000000 in
theorem answer_old (w : World) (t mt : Nat) (f : Tab) (o : POp) (cx co cn : Value) (hT : TabAt w t mt f) (hm : mayOp o = true) (hf : f (o.bk, o.kd) ≠ 0) :
    Calls Tryz.prog 23 #[.pointer (some ⟨t, 0, none⟩), o.val, .func (.func 24) #[] #[cx, co, cn]] w fun e w' => e = .returned (.tuple #[.int .i64 (f (o.bk, o.kd)), .bool false]) ∧ Chg (fun _ => False) w w' := by
  have hb := mayOp_bk hm
  have hk := mayOp_kd hm
  have hfh := Lib.hid (show (!(f (o.bk, o.kd) == 0)) = true by simp [hf])
  clear hm hf
  go_enter Tryz.func23, Tryz.ntmps23
  unfold POp.val
  go_wp2_with fail
  refine (find_any _ t mt f o (by exact hT.chg ((Chg.refl (fun _ => False) w).alloc _) id id) ⟨by omega, by omega⟩ ⟨by omega, by omega⟩).mono ?_
  rintro e w2 ⟨rfl, hc2⟩
  rw [hfh.out]
  have hcF : Chg (fun _ => False) w w2 := ((Chg.refl _ w).alloc _).trans hc2 (fun _ _ h => h)
  go_wp2_with fail
  go_ret2
  exact ⟨rfl, hcF⟩

set_option maxRecDepth 100000 in
set_option maxHeartbeats 1000000 in
theorem answer_new (w : World) (t mt : Nat) (f : Tab) (o : POp) (cx co cn : Value) (hT : TabAt w t mt f) (hm : mayOp o = true) (hf : f (o.bk, o.kd) = 0) (r : Int) (hr : r = 1 ∨ r = 2) (S : Nat → Prop) (Post : World → Prop) (hS : ¬ S t ∧ ¬ S mt)
    (hdo : ∀ w1, Chg (fun _ => False) w w1 → Calls Tryz.prog 24 #[cx, co, cn] w1 fun e w' => e = .returned (.int .i64 r) ∧ Post w' ∧ Chg S w1 w') (hSl : ∀ i, S i → i < w.heap.size) :
    Calls Tryz.prog 23 #[.pointer (some ⟨t, 0, none⟩), o.val, .func (.func 24) #[] #[cx, co, cn]] w fun e w' => e = .returned (.tuple #[.int .i64 r, .bool true]) ∧ TabAt w' t mt (upd f (o.bk, o.kd) r) ∧ Chg (fun i => S i ∨ i = mt) w w' ∧ ∃ w3, Post w3 ∧ Chg (fun i => i = mt) w3 w' := by
  have hb := mayOp_bk hm
  have hk := mayOp_kd hm
  have hfz := Lib.hid hf
  have hmh := Lib.hid hm
  have hfh := Lib.hid (show (!(f (o.bk, o.kd) == 0)) = false by simp [hf])
  have hdoh := Lib.hid hdo
  clear hm hf hdo
  go_enter Tryz.func23, Tryz.ntmps23
  unfold POp.val
  go_wp2_with fail
  refine (find_any _ t mt f o (by exact hT.chg ((Chg.refl (fun _ => False) w).alloc _) id id) ⟨by omega, by omega⟩ ⟨by omega, by omega⟩).mono ?_
  rintro e w2 ⟨rfl, hc2⟩
  rw [hfh.out]
  have hO := (Blk.new w 43 o.row).chg hc2 id
  have hcF : Chg (fun _ => False) w w2 := ((Chg.refl _ w).alloc _).trans hc2 (fun _ _ h => h)
  have hT2 := hT.chg hcF id id
  go_wp2_with fail
  refine (hdoh.out w2 hcF).mono ?_
  rintro e w3 ⟨rfl, hpost, hc3⟩
  have hnO : ¬ S w.heap.size := fun h => by have := hSl _ h; omega
  have hO3 := hO.chg hc3 hnO
  have hT3 := hT2.chg hc3 hS.1 hS.2
  have hcG : Chg S w w3 := (hcF.mono (fun _ _ h => h.elim)).trans hc3 (fun _ _ h => h)
  have o0 : w3.cell? ⟨w.heap.size, 0, none⟩ = some (.int .i64 o.kd) := by rw [hO3.cell]; rfl
  have o1 : w3.cell? ⟨w.heap.size, 1, none⟩ = some (.int .i64 o.bk) := by rw [hO3.cell]; rfl
  have o2 : w3.cell? ⟨w.heap.size, 2, none⟩ = some (.int .i64 o.un) := by rw [hO3.cell]; rfl
  have o3 : w3.cell? ⟨w.heap.size, 3, none⟩ = some (.int .i64 o.cu) := by rw [hO3.cell]; rfl
  have o4 : w3.cell? ⟨w.heap.size, 4, none⟩ = some (.int .i64 o.am) := by rw [hO3.cell]; rfl
  rcases hr with rfl | rfl
  · go_wp2_with fail
    refine (tput_new1 w3 t mt f o hT3 hmh.out hfz.out).mono ?_
    rintro e w4 ⟨rfl, hT4, hc4⟩
    go_wp2_with fail
    go_ret2
    exact ⟨rfl, hT4, (hcG.mono (fun _ _ h => .inl h)).trans hc4 (fun _ _ h => .inr h), w3, hpost, hc4⟩
  · go_wp2_with fail
    refine (tput_new2 w3 t mt f o hT3 hmh.out hfz.out).mono ?_
    rintro e w4 ⟨rfl, hT4, hc4⟩
    go_wp2_with fail
    go_ret2
    exact ⟨rfl, hT4, (hcG.mono (fun _ _ h => .inl h)).trans hc4 (fun _ _ h => .inr h), w3, hpost, hc4⟩
end Go.Proofs.YtkbnojjmpmlgjaaGreat

namespace Go.Proofs.YtkbnojjmpmlgjaaGreat
open Go.RowKit Go.Maps

/-- Block b is a host: a ledger that reads as s, a table that reads as f; all its blocks are such as S says. -/
def HostW (S : Nat → Prop) (w : World) (b : Nat) (s : Stk) (f : Tab) : Prop := ∃ lb mb t mt, Blk w b 66 #[.pointer (some ⟨lb, 0, none⟩), .pointer (some ⟨t, 0, none⟩)] ∧
  StkAt w lb mb s ∧ TabAt w t mt f ∧ mb ≠ mt ∧ S b ∧ S lb ∧ S mb ∧ S t ∧ S mt

theorem HostW.keep {S : Nat → Prop} {w w' : World} {b : Nat} {s : Stk} {f : Tab} (h : HostW S w b s f) (hc : Chg (fun _ => False) w w') : HostW S w' b s f := by
  obtain ⟨lb, mb, t, mt, h1, h2, h3, h4⟩ := h
  exact ⟨lb, mb, t, mt, h1.chg hc id, h2.chg hc id id, h3.chg hc id id, h4⟩
theorem HostW.keepX {S X : Nat → Prop} {w w' : World} {b : Nat} {s : Stk} {f : Tab} (h : HostW S w b s f) (hc : Chg X w w') (hx : ∀ i, S i → ¬ X i) : HostW S w' b s f := by
  obtain ⟨lb, mb, t, mt, h1, h2, h3, h4, a1, a2, a3, a5, a6⟩ := h
  exact ⟨lb, mb, t, mt, h1.chg hc (hx _ a1), h2.chg hc (hx _ a2) (hx _ a3), h3.chg hc (hx _ a5) (hx _ a6), h4, a1, a2, a3, a5, a6⟩
theorem HostW.mono {S S' : Nat → Prop} {w : World} {b : Nat} {s : Stk} {f : Tab} (h : HostW S w b s f) (hs : ∀ i, S i → S' i) : HostW S' w b s f := by
  obtain ⟨lb, mb, t, mt, h1, h2, h3, h4, a1, a2, a3, a5, a6⟩ := h
  exact ⟨lb, mb, t, mt, h1, h2, h3, h4, hs _ a1, hs _ a2, hs _ a3, hs _ a5, hs _ a6⟩
theorem HostW.here {S : Nat → Prop} {w : World} {b : Nat} {s : Stk} {f : Tab} (h : HostW S w b s f) : HostW (fun i => S i ∧ i < w.heap.size) w b s f := by
  obtain ⟨lb, mb, t, mt, h1, h2, h3, h4, a1, a2, a3, a5, a6⟩ := h
  exact ⟨lb, mb, t, mt, h1, h2, h3, h4, ⟨a1, h1.lt⟩, ⟨a2, h2.blk.lt⟩, ⟨a3, h2.map.lt⟩, ⟨a5, h3.blk.lt⟩, ⟨a6, h3.map.lt⟩⟩

/-- What a host answers. -/
def hAsk (s : Stk) (f : Tab) (o : POp) (now : Int) : Int × Bool × Stk × Tab :=
  if mayOp o = false ∨ 3 < o.kd ∨ now < 0 ∨ 1099511627776 < now then (2, false, s, f)
  else if f (o.bk, o.kd) ≠ 0 then (f (o.bk, o.kd), false, s, f)
  else ((s.act o now).1, true, (s.act o now).2, upd f (o.bk, o.kd) (s.act o now).1)

set_option maxRecDepth 100000 in
theorem hostNew (w : World) (c o : Int) (hc : 0 ≤ c ∧ c ≤ 1000000) (ho : 0 ≤ o ∧ o ≤ 1000000) :
    Calls Tryz.prog 4 #[.agg #[.int .i64 c, .int .i64 o]] w fun e w' => ∃ b, e = .returned (.tuple #[.pointer (some ⟨b, 0, none⟩), .int .i64 0]) ∧ HostW (fun i => w.heap.size ≤ i) w' b (Stk.new c o) (fun _ => 0) ∧ Chg (fun _ => False) w w' := by
  go_enter Tryz.func4, Tryz.ntmps4
  go_wp2_with fail
  refine (stkNew _ c o hc ho).mono ?_
  rintro e w2 ⟨b, mb, rfl, hP, hc2, h1, h2⟩
  have hcF : Chg (fun _ => False) w w2 := ((Chg.refl _ w).alloc _).trans hc2 (fun _ _ h => h)
  simp at h1 h2
  go_wp2_with fail
  refine (tabNew _).mono ?_
  rintro e w3 ⟨t, mt, rfl, hT, hc3, h4, h5⟩
  have hP3 := hP.chg hc3 id id
  have hcG := hcF.trans hc3 (fun _ _ h => h)
  have hmb := hP.map.lt
  have hs := hcF.size
  go_wp2_with fail
  go_ret2
  have hca : Chg (fun _ => False) w3 (w3.alloc (.cells #[.pointer (some ⟨b, 0, none⟩), .pointer (some ⟨t, 0, none⟩)] 66)) := (Chg.refl _ w3).alloc _
  exact ⟨_, rfl, ⟨b, mb, t, mt, Blk.new w3 _ _, hP3.chg hca id id, hT.chg hca id id, by omega, hcG.size, by omega, by omega, by omega, by omega⟩, hcG.alloc _⟩

theorem hAsk_old {s : Stk} {f : Tab} {o : POp} {now : Int} (hm : mayOp o = true) (h3 : o.kd ≤ 3) (h0 : 0 ≤ now) (h1 : now ≤ 1099511627776) (hf : f (o.bk, o.kd) ≠ 0) : hAsk s f o now = (f (o.bk, o.kd), false, s, f) := by
  unfold hAsk
  rw [if_neg (by rw [hm]; simp; omega), if_pos hf]
theorem hAsk_new {s : Stk} {f : Tab} {o : POp} {now : Int} (hm : mayOp o = true) (h3 : o.kd ≤ 3) (h0 : 0 ≤ now) (h1 : now ≤ 1099511627776) (hf : f (o.bk, o.kd) = 0) : hAsk s f o now = ((s.act o now).1, true, (s.act o now).2, upd f (o.bk, o.kd) (s.act o now).1) := by
  unfold hAsk
  rw [if_neg (by rw [hm]; simp; omega), if_neg (by simp [hf])]
theorem hAsk_no {s : Stk} {f : Tab} {o : POp} {now : Int} (h : mayOp o = false ∨ 3 < o.kd ∨ now < 0 ∨ 1099511627776 < now) : hAsk s f o now = (2, false, s, f) := by
  unfold hAsk
  rw [if_pos h]
theorem Stk.act_res2 (s : Stk) (o : POp) (now : Int) : (s.act o now).1 = 1 ∨ (s.act o now).1 = 2 := by
  unfold Stk.act Stk.hold Stk.confirm
  simp only
  repeat' split
  all_goals simp

set_option maxRecDepth 100000 in
set_option maxHeartbeats 1000000 in
theorem hask_no (w : World) (b : Nat) (o : POp) (now : Int) (h : mayOp o = false ∨ 3 < o.kd ∨ now < 0 ∨ 1099511627776 < now) :
    Calls Tryz.prog 9 #[.pointer (some ⟨b, 0, none⟩), o.val, .int .i64 now] w fun e w' => e = .returned (.tuple #[.int .i64 2, .bool false]) ∧ Chg (fun _ => False) w w' := by
  have hh := Lib.hid h
  clear h
  go_enter Tryz.func9, Tryz.ntmps9
  unfold POp.val
  go_wp2_with fail
  refine (mayOp_any o _).mono ?_
  rintro e w2 ⟨rfl, hc2⟩
  have hcF : Chg (fun _ => False) w w2 := ((((Chg.refl _ w).alloc _).alloc _).alloc _).trans hc2 (fun _ _ h => h)
  have hO : Blk w2 (w.heap.size + 1) 43 o.row := by
    have h := ((Blk.new (w.alloc (.cells #[.pointer (some ⟨b, 0, none⟩)] 25)) 43 o.row).alloc (.cells #[.int .i64 now] 3)).chg hc2 id
    simpa using h
  have hN : Blk w2 (w.heap.size + 2) 3 #[.int .i64 now] := by
    have h := (Blk.new ((w.alloc (.cells #[.pointer (some ⟨b, 0, none⟩)] 25)).alloc (.cells o.row 43)) 3 #[.int .i64 now]).chg hc2 id
    simpa using h
  have o0 : w2.cell? ⟨w.heap.size + 1, 0, none⟩ = some (.int .i64 o.kd) := by rw [hO.cell]; rfl
  have n0 : w2.cell? ⟨w.heap.size + 2, 0, none⟩ = some (.int .i64 now) := by rw [hN.cell]; rfl
  cases hm : mayOp o with
  | false =>
    clear hm
    go_wp2_with fail
    go_ret2
    exact ⟨rfl, hcF⟩
  | true =>
    by_cases h3 : 3 < o.kd
    · clear hm
      go_wp2_with fail
      go_ret2
      exact ⟨rfl, hcF⟩
    · by_cases h0 : now < 0
      · clear hm
        go_wp2_with fail
        go_ret2
        exact ⟨rfl, hcF⟩
      · have h1 : 1099511627776 < now := by
          rcases hh.out with h | h | h | h
          · rw [hm] at h; cases h
          · exact absurd h h3
          · exact absurd h h0
          · exact h
        clear hm
        go_wp2_with fail
        go_ret2
        exact ⟨rfl, hcF⟩

set_option maxRecDepth 100000 in
theorem hask1_any (w : World) (X O N b lb mb : Nat) (tv : Value) (s : Stk) (o : POp) (now : Int) (hX : Blk w X 25 #[.pointer (some ⟨b, 0, none⟩)]) (hO : Blk w O 43 o.row) (hN : Blk w N 3 #[.int .i64 now]) (hB : Blk w b 66 #[.pointer (some ⟨lb, 0, none⟩), tv])
    (hS : StkAt w lb mb s) (hG : s.Good) :
    Calls Tryz.prog 24 #[.pointer (some ⟨X, 0, none⟩), .pointer (some ⟨O, 0, none⟩), .pointer (some ⟨N, 0, none⟩)] w fun e w' => e = .returned (.int .i64 (s.act o now).1) ∧ StkAt w' lb mb (s.act o now).2 ∧ Chg (fun i => i = lb ∨ i = mb) w w' := by
  have x0 : w.cell? ⟨X, 0, none⟩ = some (.pointer (some ⟨b, 0, none⟩)) := by rw [hX.cell]; rfl
  have b0 : w.cell? ⟨b, 0, none⟩ = some (.pointer (some ⟨lb, 0, none⟩)) := by rw [hB.cell]; rfl
  have o0 : w.cell? ⟨O, 0, none⟩ = some (.int .i64 o.kd) := by rw [hO.cell]; rfl
  have o1 : w.cell? ⟨O, 1, none⟩ = some (.int .i64 o.bk) := by rw [hO.cell]; rfl
  have o2 : w.cell? ⟨O, 2, none⟩ = some (.int .i64 o.un) := by rw [hO.cell]; rfl
  have o3 : w.cell? ⟨O, 3, none⟩ = some (.int .i64 o.cu) := by rw [hO.cell]; rfl
  have o4 : w.cell? ⟨O, 4, none⟩ = some (.int .i64 o.am) := by rw [hO.cell]; rfl
  have n0 : w.cell? ⟨N, 0, none⟩ = some (.int .i64 now) := by rw [hN.cell]; rfl
  go_enter Tryz.func24, Tryz.ntmps24
  go_wp2
  refine wp_region_plan (by kernel_rfl) [{ fl := [0, 1, 2, 3, 4, 5], ef := 6 }] [7] (by kernel_rfl) (fun _ _ => True) ?_
  simp only [wpPlan, longOK, keepOK, opsAt_cons, opsAt_nil, consO_some, List.getElem?_toArray, List.getElem?_cons_succ, List.getElem?_cons_zero, true_and]
  go_wp2_with fail
  refine ⟨by kernel_rfl, ?_⟩
  go_wp2_with fail
  refine (stk_do (show StkAt w.drew lb mb s from ⟨hS.blk, hS.map, hS.keys⟩) hG o now).mono ?_
  rintro e w3 ⟨rfl, hS', hc3⟩
  have hcF : Chg (fun i => i = lb ∨ i = mb) w w3 := ((Chg.refl _ w).drew).trans hc3 (fun _ _ h => h)
  go_wp2_with fail
  refine ⟨by kernel_rfl, ?_⟩
  go_wp2_with fail
  go_ret
  exact ⟨rfl, hS', hcF⟩

set_option maxRecDepth 100000 in
set_option maxHeartbeats 1000000 in
theorem hask_yes (S : Nat → Prop) (w : World) (b : Nat) (s : Stk) (f : Tab) (o : POp) (now : Int) (hW : HostW S w b s f) (hG : s.Good) (hm : mayOp o = true) (h3 : o.kd ≤ 3) (h0 : 0 ≤ now) (h1 : now ≤ 1099511627776) (r : Int) (n : Bool) (s' : Stk) (f' : Tab) (ha : hAsk s f o now = (r, n, s', f')) :
    Calls Tryz.prog 9 #[.pointer (some ⟨b, 0, none⟩), o.val, .int .i64 now] w fun e w' => e = .returned (.tuple #[.int .i64 r, .bool n]) ∧ HostW S w' b s' f' ∧ Chg S w w' := by
  have hah := Lib.hid ha
  have hmh := Lib.hid hm
  clear ha hm
  obtain ⟨lb, mb, t, mt, hBk, hP, hTb, hne, hB1, hB2, hB3, hB5, hB6⟩ := hW
  go_enter Tryz.func9, Tryz.ntmps9
  unfold POp.val
  go_wp2_with fail
  refine (mayOp_any o _).mono ?_
  rintro e w2 ⟨rfl, hc2⟩
  rw [hmh.out]
  have hcF : Chg (fun _ => False) w w2 := ((((Chg.refl _ w).alloc _).alloc _).alloc _).trans hc2 (fun _ _ h => h)
  have hO : Blk w2 (w.heap.size + 1) 43 o.row := by
    have h := ((Blk.new (w.alloc (.cells #[.pointer (some ⟨b, 0, none⟩)] 25)) 43 o.row).alloc (.cells #[.int .i64 now] 3)).chg hc2 id
    simpa using h
  have hN : Blk w2 (w.heap.size + 2) 3 #[.int .i64 now] := by
    have h := (Blk.new ((w.alloc (.cells #[.pointer (some ⟨b, 0, none⟩)] 25)).alloc (.cells o.row 43)) 3 #[.int .i64 now]).chg hc2 id
    simpa using h
  have hX : Blk w2 w.heap.size 25 #[.pointer (some ⟨b, 0, none⟩)] := (((Blk.new w _ _).alloc _).alloc _).chg hc2 id
  have hBk2 := hBk.chg hcF id
  have hP2 := hP.chg hcF id id
  have hTb2 := hTb.chg hcF id id
  have x0 : w2.cell? ⟨w.heap.size, 0, none⟩ = some (.pointer (some ⟨b, 0, none⟩)) := by rw [hX.cell]; rfl
  have b1 : w2.cell? ⟨b, 1, none⟩ = some (.pointer (some ⟨t, 0, none⟩)) := by rw [hBk2.cell]; rfl
  have o0 : w2.cell? ⟨w.heap.size + 1, 0, none⟩ = some (.int .i64 o.kd) := by rw [hO.cell]; rfl
  have o1 : w2.cell? ⟨w.heap.size + 1, 1, none⟩ = some (.int .i64 o.bk) := by rw [hO.cell]; rfl
  have o2 : w2.cell? ⟨w.heap.size + 1, 2, none⟩ = some (.int .i64 o.un) := by rw [hO.cell]; rfl
  have o3 : w2.cell? ⟨w.heap.size + 1, 3, none⟩ = some (.int .i64 o.cu) := by rw [hO.cell]; rfl
  have o4 : w2.cell? ⟨w.heap.size + 1, 4, none⟩ = some (.int .i64 o.am) := by rw [hO.cell]; rfl
  have n0 : w2.cell? ⟨w.heap.size + 2, 0, none⟩ = some (.int .i64 now) := by rw [hN.cell]; rfl
  go_wp2_with fail
  refine wp_region_plan (by kernel_rfl) [{ fl := [0, 1, 2, 3, 4, 5], ef := 6 }] [7, 8, 9, 10] (by kernel_rfl) (fun _ _ => True) ?_
  simp only [wpPlan, longOK, keepOK, opsAt_cons, opsAt_nil, consO_some, List.getElem?_toArray, List.getElem?_cons_succ, List.getElem?_cons_zero, true_and]
  go_wp2_with fail
  refine ⟨by kernel_rfl, ?_⟩
  go_wp2_with fail
  have hcd : Chg (fun _ => False) w2 w2.drew := (Chg.refl _ w2).drew
  have hcFd : Chg (fun _ => False) w w2.drew := hcF.drew
  by_cases hf : f (o.bk, o.kd) = 0
  · have ha := hah.out
    rw [hAsk_new hmh.out h3 h0 h1 hf] at ha
    simp only [Prod.mk.injEq] at ha
    obtain ⟨rfl, rfl, rfl, rfl⟩ := ha
    have hP3 := hP2.chg hcd id id
    have hT3 := hTb2.chg hcd id id
    have ht1 : t ≠ lb := hT3.blk.ne hP3.blk (by decide)
    have ht2 : ¬ t = mb := fun e => (hP3.map.ne hT3.blk) e.symm
    have ht4 : ¬ mt = lb := hT3.map.ne hP3.blk
    refine (answer_new w2.drew t mt f o _ _ _ hT3 hmh.out hf (s.act o now).1 (s.act_res2 o now) (fun i => i = lb ∨ i = mb) (fun w' => StkAt w' lb mb (s.act o now).2) ⟨?_, ?_⟩ ?_ ?_).mono ?_
    · rintro (h | h)
      · exact ht1 h
      · exact ht2 h
    · rintro (h | h)
      · exact ht4 h
      · exact hne h.symm
    · intro w1 hc1
      exact hask1_any w1 _ _ _ b lb mb _ s o now ((show Blk w2.drew _ _ _ from hX).chg hc1 id) ((show Blk w2.drew _ _ _ from hO).chg hc1 id) ((show Blk w2.drew _ _ _ from hN).chg hc1 id) ((show Blk w2.drew _ _ _ from hBk2).chg hc1 id) (hP3.chg hc1 id id) hG
    · rintro i (h | h)
      · rw [h]; exact hP3.blk.lt
      · rw [h]; exact hP3.map.lt
    · rintro e w5 ⟨rfl, hT5, hc5, w4, hP4, hc45⟩
      have hP5 := hP4.chg hc45 (fun h => ht4 h.symm) hne
      have hnb : ¬ (b = lb ∨ b = mb) := by
        rintro (h | h)
        · exact (hBk2.ne hP2.blk (by decide)) h
        · exact (hP2.map.ne hBk2) h.symm
      have hbm : ¬ b = mt := fun h => (hTb2.map.ne hBk2) h.symm
      have hBk5 := (show Blk w2.drew _ _ _ from hBk2).chg hc5 (fun h => h.elim hnb hbm)
      have hcG : Chg S w w5 := (hcFd.mono (fun _ _ h => h.elim)).trans hc5 (fun i hi h => by
        rcases h with (h | h) | h
        · rw [h]; exact hB2
        · rw [h]; exact hB3
        · rw [h]; exact hB6)
      go_wp2_with fail
      refine ⟨by kernel_rfl, ?_⟩
      go_wp2_with fail
      go_ret2
      exact ⟨rfl, ⟨lb, mb, t, mt, hBk5, hP5, hT5, hne, hB1, hB2, hB3, hB5, hB6⟩, hcG⟩
  · have ha := hah.out
    rw [hAsk_old hmh.out h3 h0 h1 hf] at ha
    simp only [Prod.mk.injEq] at ha
    obtain ⟨rfl, rfl, rfl, rfl⟩ := ha
    refine (answer_old w2.drew t mt f o _ _ _ (hTb2.chg hcd id id) hmh.out hf).mono ?_
    rintro e w5 ⟨rfl, hc5⟩
    have hcG := hcFd.trans hc5 (fun _ _ h => h)
    go_wp2_with fail
    refine ⟨by kernel_rfl, ?_⟩
    go_wp2_with fail
    go_ret2
    exact ⟨rfl, ⟨lb, mb, t, mt, hBk.chg hcG id, hP.chg hcG id id, hTb.chg hcG id id, hne, hB1, hB2, hB3, hB5, hB6⟩, hcG.mono (fun _ _ h => h.elim)⟩

/-- Ask, whatever is asked. -/
theorem hask_any (S : Nat → Prop) (w : World) (b : Nat) (s : Stk) (f : Tab) (o : POp) (now : Int) (hW : HostW S w b s f) (hG : s.Good) (r : Int) (n : Bool) (s' : Stk) (f' : Tab) (ha : hAsk s f o now = (r, n, s', f')) :
    Calls Tryz.prog 9 #[.pointer (some ⟨b, 0, none⟩), o.val, .int .i64 now] w fun e w' => e = .returned (.tuple #[.int .i64 r, .bool n]) ∧ HostW S w' b s' f' ∧ Chg S w w' := by
  by_cases h : mayOp o = false ∨ 3 < o.kd ∨ now < 0 ∨ 1099511627776 < now
  · rw [hAsk_no h] at ha
    simp only [Prod.mk.injEq] at ha
    obtain ⟨rfl, rfl, rfl, rfl⟩ := ha
    refine (hask_no w b o now h).mono ?_
    rintro e w' ⟨rfl, hc⟩
    exact ⟨rfl, hW.keep hc, hc.mono (fun _ _ h => h.elim)⟩
  · have hm : mayOp o = true := by
      cases hm : mayOp o with
      | true => rfl
      | false => exact absurd (.inl hm) h
    exact hask_yes S w b s f o now hW hG hm (by omega) (by omega) (by omega) r n s' f' ha

theorem hAsk_good {s : Stk} {f : Tab} (hG : s.Good) (o : POp) (now : Int) : (hAsk s f o now).2.2.1.Good := by
  unfold hAsk
  split
  · exact hG
  split
  · exact hG
  · exact hG.act o now
end Go.Proofs.YtkbnojjmpmlgjaaGreat
