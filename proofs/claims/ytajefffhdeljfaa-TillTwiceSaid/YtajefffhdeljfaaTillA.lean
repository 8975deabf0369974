/-
  till: how a till lies in memory; New, Ask, Purse by their contracts.
-/
import Derived.Test.YtajefffhdeljfaaPurseCp
import Derived.Test.YtajefffhdeljfaaPurseK
import Derived.Test.YtajefffhdeljfaaTabD
namespace Go.Proofs.Ytajefffhdeljfaa
open Go.RowKit Go.Maps

/-- Block b is a till: a ledger that reads as p, a table that reads as f; all its blocks are such as S says. -/
def TillW (S : Nat → Prop) (w : World) (b : Nat) (p : Pur) (f : Tab) : Prop := ∃ lb mb lv t mt, Blk w b 84 #[.pointer (some ⟨lb, 0, none⟩), .pointer (some ⟨t, 0, none⟩)] ∧
  PurAt w lb mb lv p ∧ TabAt w t mt f ∧ mb ≠ mt ∧ S b ∧ S lb ∧ S mb ∧ (∀ k, lv.ownBlock = some k → S k) ∧ S t ∧ S mt

theorem TillW.keep {S : Nat → Prop} {w w' : World} {b : Nat} {p : Pur} {f : Tab} (h : TillW S w b p f) (hc : Chg (fun _ => False) w w') : TillW S w' b p f := by
  obtain ⟨lb, mb, lv, t, mt, h1, h2, h3, h4⟩ := h
  exact ⟨lb, mb, lv, t, mt, h1.chg hc id, h2.chg hc id id (fun _ _ => id), h3.chg hc id id, h4⟩
theorem TillW.mono {S S' : Nat → Prop} {w : World} {b : Nat} {p : Pur} {f : Tab} (h : TillW S w b p f) (hs : ∀ i, S i → S' i) : TillW S' w b p f := by
  obtain ⟨lb, mb, lv, t, mt, h1, h2, h3, h4, a1, a2, a3, a4, a5, a6⟩ := h
  exact ⟨lb, mb, lv, t, mt, h1, h2, h3, h4, hs _ a1, hs _ a2, hs _ a3, fun k hk => hs _ (a4 k hk), hs _ a5, hs _ a6⟩
theorem own_lt {w : World} {base : Nat} {e : TypeId} {size n : Nat} {v : Value} {xs : List Value} (h : w.ownsRow base e size v n xs) (k : Nat) (hk : v.ownBlock = some k) : k < w.heap.size := by
  rcases h.2 with ⟨h0, _⟩ | ⟨g', c', cur, h0, _, hh, _⟩
  · rw [h0] at hk; cases hk
  · rw [h0] at hk
    simp [Value.ownBlock] at hk
    subst hk
    exact (Array.getElem?_eq_some_iff.1 hh).1
theorem TillW.here {S : Nat → Prop} {w : World} {b : Nat} {p : Pur} {f : Tab} (h : TillW S w b p f) : TillW (fun i => S i ∧ i < w.heap.size) w b p f := by
  obtain ⟨lb, mb, lv, t, mt, h1, h2, h3, h4, a1, a2, a3, a4, a5, a6⟩ := h
  exact ⟨lb, mb, lv, t, mt, h1, h2, h3, h4, ⟨a1, h1.lt⟩, ⟨a2, h2.blk.lt⟩, ⟨a3, h2.map.lt⟩, fun k hk => ⟨a4 k hk, own_lt h2.own k hk⟩, ⟨a5, h3.blk.lt⟩, ⟨a6, h3.map.lt⟩⟩

/-- What a till answers. -/
def tAsk (p : Pur) (f : Tab) (o : POp) : Int × Bool × Pur × Tab :=
  if mayOp o = false ∨ o.kd < 4 then (2, false, p, f)
  else if f (o.bk, o.kd) ≠ 0 then (f (o.bk, o.kd), false, p, f)
  else ((p.act o).1, true, (p.act o).2, upd f (o.bk, o.kd) (p.act o).1)

set_option maxRecDepth 100000 in
theorem tillNew (w : World) (g : Int → Int) (hf : ∀ i, 0 ≤ i → i ≤ 3 → 0 ≤ g i ∧ g i ≤ 1099511627776) :
    Calls Try.prog 10 #[fundsVal g] w fun e w' => ∃ b, e = .returned (.tuple #[.pointer (some ⟨b, 0, none⟩), .int .i64 0]) ∧ TillW (fun i => w.heap.size ≤ i) w' b (Pur.new g) (fun _ => 0) ∧ Chg (fun _ => False) w w' := by
  go_enter Try.func10, Try.ntmps10
  unfold fundsVal
  go_wp2_with fail
  refine (new_any _ g hf).mono ?_
  rintro e w2 ⟨b, mb, lv, rfl, hP, hc2, h1, h2, h3⟩
  have hcF : Chg (fun _ => False) w w2 := ((Chg.refl _ w).alloc _).trans hc2 (fun _ _ h => h)
  simp at h1 h2
  go_wp2_with fail
  refine (tabNew _).mono ?_
  rintro e w3 ⟨t, mt, rfl, hT, hc3, h4, h5⟩
  have hP3 := hP.chg hc3 id id (fun _ _ => id)
  have hcG := hcF.trans hc3 (fun _ _ h => h)
  have hmb := hP.map.lt
  have hs := hcF.size
  go_wp2_with fail
  go_ret2
  have hca : Chg (fun _ => False) w3 (w3.alloc (.cells #[.pointer (some ⟨b, 0, none⟩), .pointer (some ⟨t, 0, none⟩)] 84)) := (Chg.refl _ w3).alloc _
  refine ⟨_, rfl, ⟨b, mb, lv, t, mt, Blk.new w3 _ _, hP3.chg hca id id (fun _ _ => id), hT.chg hca id id, by omega, hcG.size, by omega, by omega, fun k hk => ?_, by omega, by omega⟩, hcG.alloc _⟩
  rw [h3] at hk; cases hk

set_option maxRecDepth 100000 in
theorem ask_no (w : World) (b : Nat) (o : POp) (h : mayOp o = false ∨ o.kd < 4) :
    Calls Try.prog 12 #[.pointer (some ⟨b, 0, none⟩), o.val] w fun e w' => e = .returned (.tuple #[.int .i64 2, .bool false]) ∧ Chg (fun _ => False) w w' := by
  have hh := Lib.hid h
  clear h
  go_enter Try.func12, Try.ntmps12
  unfold POp.val
  go_wp2_with fail
  refine (mayOp_any o _).mono ?_
  rintro e w2 ⟨rfl, hc2⟩
  have hcF : Chg (fun _ => False) w w2 := (((Chg.refl _ w).alloc _).alloc _).trans hc2 (fun _ _ h => h)
  have hO : Blk w2 (w.heap.size + 1) 45 o.row := by
    have h := (Blk.new (w.alloc (.cells #[.pointer (some ⟨b, 0, none⟩)] 24)) 45 o.row).chg hc2 id
    simpa using h
  have o0 : w2.cell? ⟨w.heap.size + 1, 0, none⟩ = some (.int .i64 o.kd) := by rw [hO.cell]; rfl
  cases hm : mayOp o with
  | false =>
    clear hm
    go_wp2_with fail
    go_ret2
    exact ⟨rfl, hcF⟩
  | true =>
    have h4 : o.kd < 4 := by
      rcases hh.out with h | h
      · rw [hm] at h; cases h
      · exact h
    clear hm
    go_wp2_with fail
    go_ret2
    exact ⟨rfl, hcF⟩

set_option maxRecDepth 100000 in
theorem ask1_any (w : World) (X O b lb mb : Nat) (tv : Value) (lv : Value) (p : Pur) (o : POp) (T : Int) (hX : Blk w X 24 #[.pointer (some ⟨b, 0, none⟩)]) (hO : Blk w O 45 o.row) (hB : Blk w b 84 #[.pointer (some ⟨lb, 0, none⟩), tv])
    (hP : PurAt w lb mb lv p) (hG : p.Good T) (hT : T ≤ 1125899906842624) (hlen : p.ln.length ≤ 1000000) :
    Calls Try.prog 37 #[.pointer (some ⟨X, 0, none⟩), .pointer (some ⟨O, 0, none⟩)] w fun e w' => e = .returned (.int .i64 (p.act o).1) ∧
      (∃ lv', PurAt w' lb mb lv' (p.act o).2 ∧ (lv'.ownBlock = lv.ownBlock ∨ ∃ k, lv'.ownBlock = some k ∧ w.heap.size ≤ k)) ∧ Chg (fun i => i = lb ∨ i = mb ∨ lv.ownBlock = some i) w w' := by
  have x0 : w.cell? ⟨X, 0, none⟩ = some (.pointer (some ⟨b, 0, none⟩)) := by rw [hX.cell]; rfl
  have b0 : w.cell? ⟨b, 0, none⟩ = some (.pointer (some ⟨lb, 0, none⟩)) := by rw [hB.cell]; rfl
  have o0 : w.cell? ⟨O, 0, none⟩ = some (.int .i64 o.kd) := by rw [hO.cell]; rfl
  have o1 : w.cell? ⟨O, 1, none⟩ = some (.int .i64 o.bk) := by rw [hO.cell]; rfl
  have o2 : w.cell? ⟨O, 2, none⟩ = some (.int .i64 o.un) := by rw [hO.cell]; rfl
  have o3 : w.cell? ⟨O, 3, none⟩ = some (.int .i64 o.cu) := by rw [hO.cell]; rfl
  have o4 : w.cell? ⟨O, 4, none⟩ = some (.int .i64 o.am) := by rw [hO.cell]; rfl
  go_enter Try.func37, Try.ntmps37
  go_wp2
  refine wp_region_plan (by kernel_rfl) [{ fl := [0, 1, 2, 3, 4], ef := 5 }] [6] (by kernel_rfl) (fun _ _ => True) ?_
  simp only [wpPlan, longOK, keepOK, opsAt_cons, opsAt_nil, consO_some, List.getElem?_toArray, List.getElem?_cons_succ, List.getElem?_cons_zero, true_and]
  go_wp2_with fail
  refine ⟨by kernel_rfl, ?_⟩
  go_wp2_with fail
  have hcd : Chg (fun _ => False) w w.drew := (Chg.refl _ w).drew
  refine (do_any w.drew lb mb lv p o T (hP.chg hcd id id (fun _ _ => id)) hG hT hlen).mono ?_
  rintro e w3 ⟨rfl, lv', hP', hc3, hl⟩
  have hcF : Chg (fun i => i = lb ∨ i = mb ∨ lv.ownBlock = some i) w w3 := (hcd.mono (fun _ _ h => h.elim)).trans hc3 (fun _ _ h => h)
  go_wp2_with fail
  refine ⟨by kernel_rfl, ?_⟩
  go_wp2_with fail
  go_ret
  exact ⟨rfl, ⟨lv', hP', hl⟩, hcF⟩

theorem tAsk_old {p : Pur} {f : Tab} {o : POp} (hm : mayOp o = true) (h4 : 4 ≤ o.kd) (hf : f (o.bk, o.kd) ≠ 0) : tAsk p f o = (f (o.bk, o.kd), false, p, f) := by
  unfold tAsk
  rw [if_neg (by rw [hm]; simp; omega), if_pos hf]
theorem tAsk_new {p : Pur} {f : Tab} {o : POp} (hm : mayOp o = true) (h4 : 4 ≤ o.kd) (hf : f (o.bk, o.kd) = 0) : tAsk p f o = ((p.act o).1, true, (p.act o).2, upd f (o.bk, o.kd) (p.act o).1) := by
  unfold tAsk
  rw [if_neg (by rw [hm]; simp; omega), if_neg (by simp [hf])]
theorem tAsk_no {p : Pur} {f : Tab} {o : POp} (h : mayOp o = false ∨ o.kd < 4) : tAsk p f o = (2, false, p, f) := by
  unfold tAsk
  rw [if_pos h]

theorem Pur.act_res2 (p : Pur) (o : POp) : (p.act o).1 = 1 ∨ (p.act o).1 = 2 := by
  unfold Pur.act
  simp only
  repeat' split
  all_goals simp

set_option maxRecDepth 100000 in
set_option maxHeartbeats 1000000 in
theorem ask_yes (S : Nat → Prop) (w : World) (b : Nat) (p : Pur) (f : Tab) (o : POp) (T : Int) (hW : TillW S w b p f) (hG : p.Good T) (hT : T ≤ 1125899906842624) (hlen : p.ln.length ≤ 1000000) (hm : mayOp o = true) (h4 : 4 ≤ o.kd) (r : Int) (n : Bool) (p' : Pur) (f' : Tab) (ha : tAsk p f o = (r, n, p', f')) :
    Calls Try.prog 12 #[.pointer (some ⟨b, 0, none⟩), o.val] w fun e w' => e = .returned (.tuple #[.int .i64 r, .bool n]) ∧ TillW (fun i => S i ∨ w.heap.size ≤ i) w' b p' f' ∧ Chg S w w' := by
  have hah := Lib.hid ha
  have hmh := Lib.hid hm
  clear ha hm
  obtain ⟨lb, mb, lv, t, mt, hBk, hP, hTb, hne, hB1, hB2, hB3, hB4, hB5, hB6⟩ := hW
  go_enter Try.func12, Try.ntmps12
  unfold POp.val
  go_wp2_with fail
  refine (mayOp_any o _).mono ?_
  rintro e w2 ⟨rfl, hc2⟩
  rw [hmh.out]
  have hcF : Chg (fun _ => False) w w2 := (((Chg.refl _ w).alloc _).alloc _).trans hc2 (fun _ _ h => h)
  have hO : Blk w2 (w.heap.size + 1) 45 o.row := by
    have h := (Blk.new (w.alloc (.cells #[.pointer (some ⟨b, 0, none⟩)] 24)) 45 o.row).chg hc2 id
    simpa using h
  have hX : Blk w2 w.heap.size 24 #[.pointer (some ⟨b, 0, none⟩)] := ((Blk.new w _ _).alloc _).chg hc2 id
  have hBk2 := hBk.chg hcF id
  have hP2 := hP.chg hcF id id (fun _ _ => id)
  have hTb2 := hTb.chg hcF id id
  have x0 : w2.cell? ⟨w.heap.size, 0, none⟩ = some (.pointer (some ⟨b, 0, none⟩)) := by rw [hX.cell]; rfl
  have b1 : w2.cell? ⟨b, 1, none⟩ = some (.pointer (some ⟨t, 0, none⟩)) := by rw [hBk2.cell]; rfl
  have o0 : w2.cell? ⟨w.heap.size + 1, 0, none⟩ = some (.int .i64 o.kd) := by rw [hO.cell]; rfl
  have o1 : w2.cell? ⟨w.heap.size + 1, 1, none⟩ = some (.int .i64 o.bk) := by rw [hO.cell]; rfl
  have o2 : w2.cell? ⟨w.heap.size + 1, 2, none⟩ = some (.int .i64 o.un) := by rw [hO.cell]; rfl
  have o3 : w2.cell? ⟨w.heap.size + 1, 3, none⟩ = some (.int .i64 o.cu) := by rw [hO.cell]; rfl
  have o4 : w2.cell? ⟨w.heap.size + 1, 4, none⟩ = some (.int .i64 o.am) := by rw [hO.cell]; rfl
  go_wp2_with fail
  refine wp_region_plan (by kernel_rfl) [{ fl := [0, 1, 2, 3, 4, 5], ef := 6 }] [7, 8, 9, 10] (by kernel_rfl) (fun _ _ => True) ?_
  simp only [wpPlan, longOK, keepOK, opsAt_cons, opsAt_nil, consO_some, List.getElem?_toArray, List.getElem?_cons_succ, List.getElem?_cons_zero, true_and]
  go_wp2_with fail
  refine ⟨by kernel_rfl, ?_⟩
  go_wp2_with fail
  have hcd : Chg (fun _ => False) w2 w2.drew := (Chg.refl _ w2).drew
  have hcFd : Chg (fun _ => False) w w2.drew := hcF.drew
  by_cases hf : f (o.bk, o.kd) = 0
  · have ha := hah.out
    rw [tAsk_new hmh.out h4 hf] at ha
    simp only [Prod.mk.injEq] at ha
    obtain ⟨rfl, rfl, rfl, rfl⟩ := ha
    have hP3 := hP2.chg hcd id id (fun _ _ => id)
    have hT3 := hTb2.chg hcd id id
    have ht1 : t ≠ lb := hT3.blk.ne hP3.blk (by decide)
    have ht2 : ¬ t = mb := fun e => (hP3.map.ne hT3.blk) e.symm
    have ht3 : lv.ownBlock ≠ some t := own_ne hP3.own hT3.blk (by decide)
    have ht4 : ¬ mt = lb := hT3.map.ne hP3.blk
    have ht5 : lv.ownBlock ≠ some mt := own_ne_map hT3.map hP3.own
    have hmt := hT3.map.lt
    refine (answer_new w2.drew t mt f o _ _ hT3 hmh.out hf (p.act o).1 (p.act_res2 o) (fun i => i = lb ∨ i = mb ∨ lv.ownBlock = some i) (fun w' => ∃ lv', PurAt w' lb mb lv' (p.act o).2 ∧ (lv'.ownBlock = lv.ownBlock ∨ ∃ k, lv'.ownBlock = some k ∧ w2.heap.size ≤ k)) ⟨?_, ?_⟩ ?_ ?_).mono ?_
    · rintro (h | h | h)
      · exact ht1 h
      · exact ht2 h
      · exact ht3 h
    · rintro (h | h | h)
      · exact ht4 h
      · exact hne h.symm
      · exact ht5 h
    · intro w1 hc1
      refine (ask1_any w1 _ _ b lb mb _ lv p o T ((show Blk w2.drew _ _ _ from hX).chg hc1 id) ((show Blk w2.drew _ _ _ from hO).chg hc1 id) ((show Blk w2.drew _ _ _ from hBk2).chg hc1 id) (hP3.chg hc1 id id (fun _ _ => id)) hG hT hlen).mono ?_
      rintro e w4 ⟨rfl, ⟨lv', h1, h2⟩, h3⟩
      refine ⟨rfl, ⟨lv', h1, h2.imp id fun ⟨k, h4, h5⟩ => ⟨k, h4, ?_⟩⟩, h3⟩
      have := hc1.size
      exact Nat.le_trans (show w2.heap.size ≤ w1.heap.size from this) h5
    · rintro i (h | h | h)
      · rw [h]; exact hP3.blk.lt
      · rw [h]; exact hP3.map.lt
      · rcases hP3.own.2 with ⟨h0, _⟩ | ⟨g', c', cur, h0, _, hh, _⟩
        · rw [h0] at h; cases h
        · rw [h0] at h
          simp [Value.ownBlock] at h
          subst h
          exact (Array.getElem?_eq_some_iff.1 hh).1
    · rintro e w5 ⟨rfl, hT5, hc5, w4, ⟨lv', hP4, hl4⟩, hc45⟩
      have hl5 : ∀ k, lv'.ownBlock = some k → k ≠ mt := by
        intro k hk e
        rw [e] at hk
        rcases hl4 with h | ⟨k', h, h'⟩
        · exact ht5 (by rw [← h]; exact hk)
        · rw [h] at hk
          injection hk with hk
          have : mt < w2.heap.size := hmt
          omega
      have hP5 := hP4.chg hc45 (fun h => ht4 h.symm) hne (fun k hk h => hl5 k hk h)
      have hnb : ¬ (b = lb ∨ b = mb ∨ lv.ownBlock = some b) := by
        rintro (h | h | h)
        · exact (hBk2.ne hP2.blk (by decide)) h
        · exact (hP2.map.ne hBk2) h.symm
        · exact (own_ne hP2.own hBk2 (by decide)) h
      have hbm : ¬ b = mt := fun h => (hTb2.map.ne hBk2) h.symm
      have hBk5 := (show Blk w2.drew _ _ _ from hBk2).chg hc5 (fun h => h.elim hnb hbm)
      have hcG : Chg S w w5 := (hcFd.mono (fun _ _ h => h.elim)).trans hc5 (fun i hi h => by
        rcases h with (h | h | h) | h
        · rw [h]; exact hB2
        · rw [h]; exact hB3
        · exact hB4 _ h
        · rw [h]; exact hB6)
      have hsz : w.heap.size ≤ w2.heap.size := hcF.size
      have hltw := hP.blk.lt
      go_wp2_with fail
      refine ⟨by kernel_rfl, ?_⟩
      go_wp2_with fail
      go_ret2
      refine ⟨rfl, ⟨lb, mb, lv', t, mt, hBk5, hP5, hT5, hne, .inl hB1, .inl hB2, .inl hB3, fun k hk => ?_, .inl hB5, .inl hB6⟩, hcG⟩
      rcases hl4 with h | ⟨k', h, h'⟩
      · exact .inl (hB4 k (by rw [← h]; exact hk))
      · rw [h] at hk
        injection hk with hk
        exact .inr (by omega)
  · have ha := hah.out
    rw [tAsk_old hmh.out h4 hf] at ha
    simp only [Prod.mk.injEq] at ha
    obtain ⟨rfl, rfl, rfl, rfl⟩ := ha
    refine (answer_old w2.drew t mt f o _ _ (hTb2.chg hcd id id) hmh.out hf).mono ?_
    rintro e w5 ⟨rfl, hc5⟩
    have hcG := hcFd.trans hc5 (fun _ _ h => h)
    go_wp2_with fail
    refine ⟨by kernel_rfl, ?_⟩
    go_wp2_with fail
    go_ret2
    exact ⟨rfl, ⟨lb, mb, lv, t, mt, hBk.chg hcG id, hP.chg hcG id id (fun _ _ => id), hTb.chg hcG id id, hne, .inl hB1, .inl hB2, .inl hB3, fun k hk => .inl (hB4 k hk), .inl hB5, .inl hB6⟩, hcG.mono (fun _ _ h => h.elim)⟩
end Go.Proofs.Ytajefffhdeljfaa
