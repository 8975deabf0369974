/-
  The reference's till in memory; Ask by its contract.
-/
import Derived.Test.YthngllogkejejaaRTabA
import Derived.Test.YthngllogkejejaaRPurC
import Derived.Test.YthngllogkejejaaTillA
namespace Go.Proofs.Ythngllogkejejaa
open Go.RowKit Go.Maps

def rlCell (ac : Int → Int) (en : Int → Ent) (lv : Value) (f : Tab) (c : Int) (i : Nat) : Value := if i < 1012 then qCell ac en lv i else rtCell f c (i - 1012)
structure RTillAt (w : World) (x : Nat) (lv : Value) (p : Pur) (f : Tab) (c : Int) : Prop where
  blk : Blk w x 43 (arrF 2420 (rlCell p.ac p.en lv f c))
  own : w.ownsRow 0 84 4 lv p.ln.length (p.ln.flatMap Mv.cells)
def RQ (f : Tab) (c : Int) : QEnv := ⟨43, 2420, fun i => rtCell f c (i - 1012), by omega, by decide, by decide, by decide⟩
def RV (p : Pur) (lv : Value) : TEnv := ⟨43, 2420, 1012, qCell p.ac p.en lv, by omega⟩
variable {w : World} {x : Nat} {lv : Value} {p : Pur} {f : Tab} {c : Int}
theorem RTillAt.ne (h : RTillAt w x lv p f c) : lv.ownBlock ≠ some x := own_ne h.own h.blk (by decide)
theorem RTillAt.chg {w' : World} {S : Nat → Prop} (h : RTillAt w x lv p f c) (hc : Chg S w w') (hn : ¬ S x) (hl : ∀ k, lv.ownBlock = some k → ¬ S k) : RTillAt w' x lv p f c := ⟨h.blk.chg hc hn, own_chg h.own hc hl⟩
set_option maxRecDepth 100000 in
theorem rl_eqS (ac : Int → Int) (en : Int → Ent) (lv : Value) (f : Tab) (c : Int) : arrF 2420 (rlCell ac en lv f c) = arrF 2420 (qovl (RQ f c).g ac en lv) := by
  refine arrF_congr 2420 _ _ (fun i _ => ?_)
  unfold rlCell qovl
  have : (RQ f c).g i = rtCell f c (i - 1012) := rfl
  rw [this]
theorem RTillAt.purse (h : RTillAt w x lv p f c) : QAt (RQ f c) w x lv p := by
  refine ⟨?_, h.own⟩
  have hb := h.blk
  rw [rl_eqS] at hb
  exact hb
theorem RTillAt.ofPurse (h : QAt (RQ f c) w x lv p) : RTillAt w x lv p f c := by
  refine ⟨?_, h.own⟩
  rw [rl_eqS]
  exact h.blk
theorem rl_eq (p : Pur) (lv : Value) (f : Tab) (c : Int) : arrF 2420 (rlCell p.ac p.en lv f c) = arrF 2420 (tovl (RV p lv) f c) := by
  refine arrF_congr 2420 _ _ (fun i hi => ?_)
  unfold rlCell tovl
  show _ = if 1012 ≤ i ∧ i < 1012 + 1408 then rtCell f c (i - 1012) else qCell p.ac p.en lv i
  by_cases h : i < 1012
  · rw [if_pos h, if_neg (by omega)]
  · rw [if_neg h, if_pos (by omega)]
theorem RTillAt.table (h : RTillAt w x lv p f c) : RTabAt (RV p lv) w x f c := by
  have hb := h.blk
  rw [rl_eq] at hb
  exact hb
theorem RTillAt.ofTable (h : RTabAt (RV p lv) w x f c) (ho : w.ownsRow 0 84 4 lv p.ln.length (p.ln.flatMap Mv.cells)) : RTillAt w x lv p f c := by
  refine ⟨?_, ho⟩
  rw [rl_eq]
  exact h

set_option maxRecDepth 100000 in
set_option maxHeartbeats 1000000 in
theorem rlask_no (o : POp) (hno : mayOp o = false ∨ o.kd < 4) :
    Calls Try.prog 8 #[.pointer (some ⟨x, 0, none⟩), o.val] w fun e w' => e = .returned (.tuple #[.int .i64 2, .bool false]) ∧ Chg (fun _ => False) w w' := by
  have hcA := (Chg.refl (fun _ => False) w).alloc (.cells o.row 45)
  have hO := Blk.new w 45 o.row
  unfold POp.row at hcA
  have hnh := Lib.hid hno
  obtain ⟨kd, bk, un, cu, am⟩ := o
  clear hno
  go_enter Try.func8, Try.ntmps8
  unfold POp.val
  go_wp2_with fail
  refine (mayRef_any ⟨kd, bk, un, cu, am⟩ _).mono ?_
  rintro e w1 ⟨rfl, hc1⟩
  have hO1 := hO.chg hc1 id
  have c0 : w1.cell? ⟨w.heap.size, 0, none⟩ = some (.int .i64 kd) := by rw [hO1.cell]; rfl
  have hck := hcA.trans hc1 (fun _ _ h => h)
  cases hm : mayOp ⟨kd, bk, un, cu, am⟩ with
  | false =>
    go_wp2_with fail
    go_ret2
    exact ⟨rfl, hck⟩
  | true =>
    have h4 : kd < 4 := by
      rcases hnh.out with h | h
      · rw [hm] at h; cases h
      · exact h
    clear hm hnh
    go_wp2_with fail
    go_ret2
    exact ⟨rfl, hck⟩

set_option maxRecDepth 100000 in
set_option maxHeartbeats 1000000 in
theorem rlask_yes {T : Int} (h : RTillAt w x lv p f c) (hG : p.Good T) (hT : T ≤ 1125899906842624) (hlen : p.ln.length ≤ 1000000) (o : POp) (hm : mayOp o = true) (h4 : 4 ≤ o.kd) (hc0 : 0 ≤ c) (hc1 : c ≤ 1000000)
    (r : Int) (n : Bool) (p' : Pur) (f' : Tab) (ha : tAsk p f o = (r, n, p', f')) :
    Calls Try.prog 8 #[.pointer (some ⟨x, 0, none⟩), o.val] w fun e w' => e = .returned (.tuple #[.int .i64 r, .bool n]) ∧ ∃ lv', RTillAt w' x lv' p' f' (if n = true then c + 1 else c) ∧ Chg (fun i => i = x ∨ lv.ownBlock = some i) w w' ∧ (lv'.ownBlock = lv.ownBlock ∨ ∃ k, lv'.ownBlock = some k ∧ w.heap.size ≤ k) := by
  have hcA := (Chg.refl (fun _ => False) w).alloc (.cells o.row 45)
  have hO := Blk.new w 45 o.row
  unfold POp.row at hcA
  have hbk := mayOp_bk hm
  have hkd := mayOp_kd hm
  have hmh := Lib.hid hm
  have hah := Lib.hid ha
  clear hm ha
  have hxz : x < w.heap.size := Blk.lt h.blk
  have hlw := Lib.hid (own_lt0 h.own)
  go_enter Try.func8, Try.ntmps8
  unfold POp.val
  go_wp2_with fail
  refine (mayRef_any o _).mono ?_
  rintro e w1 ⟨rfl, hc1'⟩
  rw [hmh.out]
  have hO1 := hO.chg hc1' id
  have hck := hcA.trans hc1' (fun _ _ h => h)
  have hX1 := h.chg hck id (fun _ _ => id)
  have o0 : w1.cell? ⟨w.heap.size, 0, none⟩ = some (.int .i64 o.kd) := by rw [hO1.cell]; rfl
  have o1 : w1.cell? ⟨w.heap.size, 1, none⟩ = some (.int .i64 o.bk) := by rw [hO1.cell]; rfl
  have o2 : w1.cell? ⟨w.heap.size, 2, none⟩ = some (.int .i64 o.un) := by rw [hO1.cell]; rfl
  have o3 : w1.cell? ⟨w.heap.size, 3, none⟩ = some (.int .i64 o.cu) := by rw [hO1.cell]; rfl
  have o4 : w1.cell? ⟨w.heap.size, 4, none⟩ = some (.int .i64 o.am) := by rw [hO1.cell]; rfl
  clear hcA hO hc1'
  go_wp2_with fail
  refine wp_region_plan (by kernel_rfl) [{ fl := [0, 1, 2, 3], ef := 4 }] [5, 6, 7, 8, 9] (by kernel_rfl) (fun _ _ => True) ?_
  simp only [wpPlan, longOK, keepOK, opsAt_cons, opsAt_nil, consO_some, List.getElem?_toArray, List.getElem?_cons_succ, List.getElem?_cons_zero, true_and]
  go_wp2_with fail
  refine ⟨by kernel_rfl, ?_⟩
  go_wp2_with fail
  refine (rt_find (R := RV p lv) (w := w1.drew) hX1.table.drew o hbk hkd).mono ?_
  rintro e w3 ⟨rfl, hc3⟩
  have hc3 := ((Chg.refl (fun _ => False) w1).drew).trans hc3 (fun _ _ h => h)
  have hck3 := hck.trans hc3 (fun _ _ h => h)
  have hX3 := hX1.chg hc3 id (fun _ _ => id)
  have hO3 := hO1.chg hc3 id
  clear o0 o1 o2 o3 o4 hO1 hX1 hc3 hck
  obtain ⟨a, hfa⟩ : ∃ a, f (o.bk, o.kd) = a := ⟨_, rfl⟩
  rw [hfa]
  by_cases hf : a = 0
  · have hf0 : f (o.bk, o.kd) = 0 := by rw [hfa]; exact hf
    have ha := hah.out
    rw [tAsk_new hmh.out h4 hf0] at ha
    simp only [Prod.mk.injEq] at ha
    obtain ⟨rfl, rfl, rfl, rfl⟩ := ha
    have hf0h := Lib.hid hf0
    have bz : (!(a == 0)) = false := by simp [hf]
    have hres := p.act_res2 o
    clear hfa hf hf0
    have o0 : w3.cell? ⟨w.heap.size, 0, none⟩ = some (.int .i64 o.kd) := by rw [hO3.cell]; rfl
    have o1 : w3.cell? ⟨w.heap.size, 1, none⟩ = some (.int .i64 o.bk) := by rw [hO3.cell]; rfl
    have o2 : w3.cell? ⟨w.heap.size, 2, none⟩ = some (.int .i64 o.un) := by rw [hO3.cell]; rfl
    have o3 : w3.cell? ⟨w.heap.size, 3, none⟩ = some (.int .i64 o.cu) := by rw [hO3.cell]; rfl
    have o4 : w3.cell? ⟨w.heap.size, 4, none⟩ = some (.int .i64 o.am) := by rw [hO3.cell]; rfl
    rw [bz]
    go_wp2_with fail
    refine ⟨by kernel_rfl, ?_⟩
    go_wp2_with fail
    refine wp_region_plan (by kernel_rfl) [{ fl := [0, 1, 2, 3], ef := 4 }] [5] (by kernel_rfl) (fun _ _ => True) ?_
    simp only [wpPlan, longOK, keepOK, opsAt_cons, opsAt_nil, consO_some, List.getElem?_toArray, List.getElem?_cons_succ, List.getElem?_cons_zero, true_and]
    go_wp2_with fail
    refine ⟨by kernel_rfl, ?_⟩
    go_wp2_with fail
    refine (rq_do (R := RQ f c) (w := w3.drew) hX3.purse.drew hG hT hlen o).mono ?_
    rintro e w4 ⟨rfl, lv', hX4, hc4, hl4⟩
    have hc4 := ((Chg.refl (fun i => i = x ∨ lv.ownBlock = some i) w3).drew).trans hc4 (fun _ _ h => h)
    have hO4 := hO3.chg hc4 (by rintro (e | e); omega; exact absurd (hlw.out _ e) (Nat.lt_irrefl _))
    have hl4 : lv'.ownBlock = lv.ownBlock ∨ ∃ k, lv'.ownBlock = some k ∧ w.heap.size ≤ k := hl4.imp id fun ⟨k, h, h'⟩ => ⟨k, h, Nat.le_trans hck3.size h'⟩
    have hck4 := (hck3.mono (T := fun i => i = x ∨ lv.ownBlock = some i) (fun _ _ h => h.elim)).trans hc4 (fun _ _ h => h)
    have hX4 := RTillAt.ofPurse hX4
    obtain ⟨q, hq⟩ : ∃ q, p.act o = q := ⟨_, rfl⟩
    rw [hq] at hX4 hres ⊢
    have hqh := Lib.hid hq
    clear hq o0 o1 o2 o3 o4 hO3 hX3 hc4
    have o0 : w4.cell? ⟨w.heap.size, 0, none⟩ = some (.int .i64 o.kd) := by rw [hO4.cell]; rfl
    have o1 : w4.cell? ⟨w.heap.size, 1, none⟩ = some (.int .i64 o.bk) := by rw [hO4.cell]; rfl
    have o2 : w4.cell? ⟨w.heap.size, 2, none⟩ = some (.int .i64 o.un) := by rw [hO4.cell]; rfl
    have o3 : w4.cell? ⟨w.heap.size, 3, none⟩ = some (.int .i64 o.cu) := by rw [hO4.cell]; rfl
    have o4 : w4.cell? ⟨w.heap.size, 4, none⟩ = some (.int .i64 o.am) := by rw [hO4.cell]; rfl
    have hput := rt_put_new (R := RV q.2 lv') (w := w4.drew) hX4.table.drew o q.1 hmh.out hres hf0h.out hc0 hc1
    have hputh := Lib.hid hput
    clear hput hres
    go_wp2_with fail
    refine ⟨by kernel_rfl, ?_⟩
    go_wp2_with fail
    refine wp_region_plan (by kernel_rfl) [{ fl := [0, 1, 2, 3, 4], ef := 5 }] [] (by kernel_rfl) (fun _ _ => True) ?_
    simp only [wpPlan, longOK, keepOK, opsAt_cons, opsAt_nil, consO_some, List.getElem?_toArray, List.getElem?_cons_succ, List.getElem?_cons_zero, true_and]
    go_wp2_with fail
    refine ⟨by kernel_rfl, ?_⟩
    go_wp2_with fail
    refine hputh.out.mono ?_
    rintro e w5 ⟨rfl, hX5, hc5⟩
    have hc5 := ((Chg.refl (fun i => i = x) w4).drew).trans hc5 (fun _ _ h => h)
    have hX5 := RTillAt.ofTable hX5 (own_chg hX4.own hc5 (fun k hk e => hX4.ne (by rw [hk, e])))
    have hck5 := hck4.trans hc5 (fun _ _ h => .inl h)
    go_wp2_with fail
    refine ⟨by kernel_rfl, ?_⟩
    go_wp2_with fail
    go_ret2
    rw [hqh.out]
    exact ⟨rfl, lv', hX5, hck5, hl4⟩
  · have hf0 : f (o.bk, o.kd) ≠ 0 := by rw [hfa]; exact hf
    have ha := hah.out
    rw [tAsk_old hmh.out h4 hf0, hfa] at ha
    simp only [Prod.mk.injEq] at ha
    obtain ⟨rfl, rfl, rfl, rfl⟩ := ha
    have bz : (!(a == 0)) = true := by simp [hf]
    clear hfa hf hf0
    rw [bz]
    go_wp2_with fail
    refine ⟨by kernel_rfl, ?_⟩
    go_wp2_with fail
    go_ret2
    exact ⟨rfl, lv, hX3, hck3.mono (fun _ _ h => h.elim), .inl rfl⟩

theorem rlask_any {T : Int} (h : RTillAt w x lv p f c) (hG : p.Good T) (hT : T ≤ 1125899906842624) (hlen : p.ln.length ≤ 1000000) (o : POp) (hc0 : 0 ≤ c) (hc1 : c ≤ 1000000)
    (r : Int) (n : Bool) (p' : Pur) (f' : Tab) (ha : tAsk p f o = (r, n, p', f')) :
    Calls Try.prog 8 #[.pointer (some ⟨x, 0, none⟩), o.val] w fun e w' => e = .returned (.tuple #[.int .i64 r, .bool n]) ∧ ∃ lv', RTillAt w' x lv' p' f' (if n = true then c + 1 else c) ∧ Chg (fun i => i = x ∨ lv.ownBlock = some i) w w' ∧ (lv'.ownBlock = lv.ownBlock ∨ ∃ k, lv'.ownBlock = some k ∧ w.heap.size ≤ k) := by
  by_cases hno : mayOp o = false ∨ o.kd < 4
  · rw [tAsk_no hno] at ha
    simp only [Prod.mk.injEq] at ha
    obtain ⟨rfl, rfl, rfl, rfl⟩ := ha
    refine (rlask_no o hno).mono ?_
    rintro e w' ⟨rfl, hc⟩
    exact ⟨rfl, lv, by rw [if_neg (by decide)]; exact h.chg hc id (fun _ _ => id), hc.mono (fun _ _ h => h.elim), .inl rfl⟩
  · have hm : mayOp o = true := by
      cases hm : mayOp o with
      | true => rfl
      | false => exact absurd (.inl hm) hno
    exact rlask_yes h hG hT hlen o hm (by omega) hc0 hc1 r n p' f' ha
end Go.Proofs.Ythngllogkejejaa
