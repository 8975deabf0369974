/-
  till: how a till lies in memory; New, Ask, Purse by their contracts.
-/
import Derived.Test.YtddnpjlcmokbiaaPurseCp
import Derived.Test.YtddnpjlcmokbiaaPurseK
import Derived.Test.YtddnpjlcmokbiaaZTabB
import Derived.Test.YtddnpjlcmokbiaaZRTabA
import Derived.Test.YtddnpjlcmokbiaaRPurC
namespace Go.Proofs.Ytddnpjlcmokbiaa
open Go.RowKit Go.Maps

/-- Block b is a till: a ledger that reads as p, a table that reads as f; all its blocks are such as S says. -/
def TillW (S : Nat → Prop) (w : World) (b : Nat) (p : Pur) (f : Tab) : Prop := ∃ lb mb lv t mt, Blk w b 82 #[.pointer (some ⟨lb, 0, none⟩), .pointer (some ⟨t, 0, none⟩)] ∧
  PurAt w lb mb lv p ∧ TabAt w t mt f ∧ mb ≠ mt ∧ S b ∧ S lb ∧ S mb ∧ (∀ k, lv.ownBlock = some k → S k) ∧ S t ∧ S mt

theorem TillW.keep {S : Nat → Prop} {w w' : World} {b : Nat} {p : Pur} {f : Tab} (h : TillW S w b p f) (hc : Chg (fun _ => False) w w') : TillW S w' b p f := by
  obtain ⟨lb, mb, lv, t, mt, h1, h2, h3, h4⟩ := h
  exact ⟨lb, mb, lv, t, mt, h1.chg hc id, h2.chg hc id id (fun _ _ => id), h3.chg hc id id, h4⟩
theorem TillW.mono {S S' : Nat → Prop} {w : World} {b : Nat} {p : Pur} {f : Tab} (h : TillW S w b p f) (hs : ∀ i, S i → S' i) : TillW S' w b p f := by
  obtain ⟨lb, mb, lv, t, mt, h1, h2, h3, h4, a1, a2, a3, a4, a5, a6⟩ := h
  exact ⟨lb, mb, lv, t, mt, h1, h2, h3, h4, hs _ a1, hs _ a2, hs _ a3, fun k hk => hs _ (a4 k hk), hs _ a5, hs _ a6⟩
theorem own_lt {w : World} {base : Nat} {e : TypeId} {size n : Nat} {v : Value} {xs : List Value} (h : w.ownsRow base e size v n xs) (k : Nat) (hk : v.ownBlock = some k) : k < w.heap.size := by
  rcases h.2 with ⟨h0, _⟩ | ⟨g', c', cur, h0, _, hh, _⟩
  · rw [h0] at hk; cases hk
  · rw [h0] at hk
    simp [Value.ownBlock] at hk
    subst hk
    exact (Array.getElem?_eq_some_iff.1 hh).1
theorem TillW.here {S : Nat → Prop} {w : World} {b : Nat} {p : Pur} {f : Tab} (h : TillW S w b p f) : TillW (fun i => S i ∧ i < w.heap.size) w b p f := by
  obtain ⟨lb, mb, lv, t, mt, h1, h2, h3, h4, a1, a2, a3, a4, a5, a6⟩ := h
  exact ⟨lb, mb, lv, t, mt, h1, h2, h3, h4, ⟨a1, h1.lt⟩, ⟨a2, h2.blk.lt⟩, ⟨a3, h2.map.lt⟩, fun k hk => ⟨a4 k hk, own_lt h2.own k hk⟩, ⟨a5, h3.blk.lt⟩, ⟨a6, h3.map.lt⟩⟩

/-- What a till answers. -/
def tAsk (p : Pur) (f : Tab) (o : POp) : Int × Bool × Pur × Tab :=
  if mayOp o = false ∨ o.kd < 4 then (2, false, p, f)
  else if f (o.bk, o.kd) ≠ 0 then (f (o.bk, o.kd), false, p, f)
  else ((p.act o).1, true, (p.act o).2, upd f (o.bk, o.kd) (p.act o).1)

set_option maxRecDepth 100000 in
theorem tillNew (w : World) (g : Int → Int) (hf : ∀ i, 0 ≤ i → i ≤ 3 → 0 ≤ g i ∧ g i ≤ 1099511627776) :
    Calls Try.prog 13 #[fundsVal g] w fun e w' => ∃ b, e = .returned (.tuple #[.pointer (some ⟨b, 0, none⟩), .int .i64 0]) ∧ TillW (fun i => w.heap.size ≤ i) w' b (Pur.new g) (fun _ => 0) ∧ Chg (fun _ => False) w w' := by
  go_enter Try.func13, Try.ntmps13
  unfold fundsVal
  go_wp2_with fail
  refine (new_any _ g hf).mono ?_
  rintro e w2 ⟨b, mb, lv, rfl, hP, hc2, h1, h2, h3⟩
  have hcF : Chg (fun _ => False) w w2 := ((Chg.refl _ w).alloc _).trans hc2 (fun _ _ h => h)
  simp at h1 h2
  go_wp2_with fail
  refine (tabNew _).mono ?_
  rintro e w3 ⟨t, mt, rfl, hT, hc3, h4, h5⟩
  have hP3 := hP.chg hc3 id id (fun _ _ => id)
  have hcG := hcF.trans hc3 (fun _ _ h => h)
  have hmb := hP.map.lt
  have hs := hcF.size
  go_wp2_with fail
  go_ret2
  have hca : Chg (fun _ => False) w3 (w3.alloc (.cells #[.pointer (some ⟨b, 0, none⟩), .pointer (some ⟨t, 0, none⟩)] 82)) := (Chg.refl _ w3).alloc _
  refine ⟨_, rfl, ⟨b, mb, lv, t, mt, Blk.new w3 _ _, hP3.chg hca id id (fun _ _ => id), hT.chg hca id id, by omega, hcG.size, by omega, by omega, fun k hk => ?_, by omega, by omega⟩, hcG.alloc _⟩
  rw [h3] at hk; cases hk

set_option maxRecDepth 100000 in
theorem ask_no (w : World) (b : Nat) (o : POp) (h : mayOp o = false ∨ o.kd < 4) :
    Calls Try.prog 15 #[.pointer (some ⟨b, 0, none⟩), o.val] w fun e w' => e = .returned (.tuple #[.int .i64 2, .bool false]) ∧ Chg (fun _ => False) w w' := by
  have hh := Lib.hid h
  clear h
  go_enter Try.func15, Try.ntmps15
  unfold POp.val
  go_wp2_with fail
  refine (mayOp_any o _).mono ?_
  rintro e w2 ⟨rfl, hc2⟩
  have hcF : Chg (fun _ => False) w w2 := (((Chg.refl _ w).alloc _).alloc _).trans hc2 (fun _ _ h => h)
  have hO : Blk w2 (w.heap.size + 1) 33 o.row := by
    have h := (Blk.new (w.alloc (.cells #[.pointer (some ⟨b, 0, none⟩)] 38)) 33 o.row).chg hc2 id
    simpa using h
  have o0 : w2.cell? ⟨w.heap.size + 1, 0, none⟩ = some (.int .i64 o.kd) := by rw [hO.cell]; rfl
  cases hm : mayOp o with
  | false =>
    clear hm
    go_wp2_with fail
    go_ret2
    exact ⟨rfl, hcF⟩
  | true =>
    have h4 : o.kd < 4 := by
      rcases hh.out with h | h
      · rw [hm] at h; cases h
      · exact h
    clear hm
    go_wp2_with fail
    go_ret2
    exact ⟨rfl, hcF⟩

set_option maxRecDepth 100000 in
theorem ask1_any (w : World) (X O b lb mb : Nat) (tv : Value) (lv : Value) (p : Pur) (o : POp) (T : Int) (hX : Blk w X 38 #[.pointer (some ⟨b, 0, none⟩)]) (hO : Blk w O 33 o.row) (hB : Blk w b 82 #[.pointer (some ⟨lb, 0, none⟩), tv])
    (hP : PurAt w lb mb lv p) (hG : p.Good T) (hT : T ≤ 1125899906842624) (hlen : p.ln.length ≤ 1000000) :
    Calls Try.prog 37 #[.pointer (some ⟨X, 0, none⟩), .pointer (some ⟨O, 0, none⟩)] w fun e w' => e = .returned (.int .i64 (p.act o).1) ∧
      (∃ lv', PurAt w' lb mb lv' (p.act o).2 ∧ (lv'.ownBlock = lv.ownBlock ∨ ∃ k, lv'.ownBlock = some k ∧ w.heap.size ≤ k)) ∧ Chg (fun i => i = lb ∨ i = mb ∨ lv.ownBlock = some i) w w' := by
  have x0 : w.cell? ⟨X, 0, none⟩ = some (.pointer (some ⟨b, 0, none⟩)) := by rw [hX.cell]; rfl
  have b0 : w.cell? ⟨b, 0, none⟩ = some (.pointer (some ⟨lb, 0, none⟩)) := by rw [hB.cell]; rfl
  have o0 : w.cell? ⟨O, 0, none⟩ = some (.int .i64 o.kd) := by rw [hO.cell]; rfl
  have o1 : w.cell? ⟨O, 1, none⟩ = some (.int .i64 o.bk) := by rw [hO.cell]; rfl
  have o2 : w.cell? ⟨O, 2, none⟩ = some (.int .i64 o.un) := by rw [hO.cell]; rfl
  have o3 : w.cell? ⟨O, 3, none⟩ = some (.int .i64 o.cu) := by rw [hO.cell]; rfl
  have o4 : w.cell? ⟨O, 4, none⟩ = some (.int .i64 o.am) := by rw [hO.cell]; rfl
  go_enter Try.func37, Try.ntmps37
  go_wp2
  refine wp_region_plan (by kernel_rfl) [{ fl := [0, 1, 2, 3, 4], ef := 5 }] [6] (by kernel_rfl) (fun _ _ => True) ?_
  simp only [wpPlan, longOK, keepOK, opsAt_cons, opsAt_nil, consO_some, List.getElem?_toArray, List.getElem?_cons_succ, List.getElem?_cons_zero, true_and]
  go_wp2_with fail
  refine ⟨by kernel_rfl, ?_⟩
  go_wp2_with fail
  have hcd : Chg (fun _ => False) w w.drew := (Chg.refl _ w).drew
  refine (do_any w.drew lb mb lv p o T (hP.chg hcd id id (fun _ _ => id)) hG hT hlen).mono ?_
  rintro e w3 ⟨rfl, lv', hP', hc3, hl⟩
  have hcF : Chg (fun i => i = lb ∨ i = mb ∨ lv.ownBlock = some i) w w3 := (hcd.mono (fun _ _ h => h.elim)).trans hc3 (fun _ _ h => h)
  go_wp2_with fail
  refine ⟨by kernel_rfl, ?_⟩
  go_wp2_with fail
  go_ret
  exact ⟨rfl, ⟨lv', hP', hl⟩, hcF⟩

theorem tAsk_old {p : Pur} {f : Tab} {o : POp} (hm : mayOp o = true) (h4 : 4 ≤ o.kd) (hf : f (o.bk, o.kd) ≠ 0) : tAsk p f o = (f (o.bk, o.kd), false, p, f) := by
  unfold tAsk
  rw [if_neg (by rw [hm]; simp; omega), if_pos hf]
theorem tAsk_new {p : Pur} {f : Tab} {o : POp} (hm : mayOp o = true) (h4 : 4 ≤ o.kd) (hf : f (o.bk, o.kd) = 0) : tAsk p f o = ((p.act o).1, true, (p.act o).2, upd f (o.bk, o.kd) (p.act o).1) := by
  unfold tAsk
  rw [if_neg (by rw [hm]; simp; omega), if_neg (by simp [hf])]
theorem tAsk_no {p : Pur} {f : Tab} {o : POp} (h : mayOp o = false ∨ o.kd < 4) : tAsk p f o = (2, false, p, f) := by
  unfold tAsk
  rw [if_pos h]

theorem Pur.act_res2 (p : Pur) (o : POp) : (p.act o).1 = 1 ∨ (p.act o).1 = 2 := by
  unfold Pur.act
  simp only
  repeat' split
  all_goals simp

set_option maxRecDepth 100000 in
set_option maxHeartbeats 1000000 in
theorem ask_yes (S : Nat → Prop) (w : World) (b : Nat) (p : Pur) (f : Tab) (o : POp) (T : Int) (hW : TillW S w b p f) (hG : p.Good T) (hT : T ≤ 1125899906842624) (hlen : p.ln.length ≤ 1000000) (hm : mayOp o = true) (h4 : 4 ≤ o.kd) (r : Int) (n : Bool) (p' : Pur) (f' : Tab) (ha : tAsk p f o = (r, n, p', f')) :
    Calls Try.prog 15 #[.pointer (some ⟨b, 0, none⟩), o.val] w fun e w' => e = .returned (.tuple #[.int .i64 r, .bool n]) ∧ TillW (fun i => S i ∨ w.heap.size ≤ i) w' b p' f' ∧ Chg S w w' := by
  have hah := Lib.hid ha
  have hmh := Lib.hid hm
  clear ha hm
  obtain ⟨lb, mb, lv, t, mt, hBk, hP, hTb, hne, hB1, hB2, hB3, hB4, hB5, hB6⟩ := hW
  go_enter Try.func15, Try.ntmps15
  unfold POp.val
  go_wp2_with fail
  refine (mayOp_any o _).mono ?_
  rintro e w2 ⟨rfl, hc2⟩
  rw [hmh.out]
  have hcF : Chg (fun _ => False) w w2 := (((Chg.refl _ w).alloc _).alloc _).trans hc2 (fun _ _ h => h)
  have hO : Blk w2 (w.heap.size + 1) 33 o.row := by
    have h := (Blk.new (w.alloc (.cells #[.pointer (some ⟨b, 0, none⟩)] 38)) 33 o.row).chg hc2 id
    simpa using h
  have hX : Blk w2 w.heap.size 38 #[.pointer (some ⟨b, 0, none⟩)] := ((Blk.new w _ _).alloc _).chg hc2 id
  have hBk2 := hBk.chg hcF id
  have hP2 := hP.chg hcF id id (fun _ _ => id)
  have hTb2 := hTb.chg hcF id id
  have x0 : w2.cell? ⟨w.heap.size, 0, none⟩ = some (.pointer (some ⟨b, 0, none⟩)) := by rw [hX.cell]; rfl
  have b1 : w2.cell? ⟨b, 1, none⟩ = some (.pointer (some ⟨t, 0, none⟩)) := by rw [hBk2.cell]; rfl
  have o0 : w2.cell? ⟨w.heap.size + 1, 0, none⟩ = some (.int .i64 o.kd) := by rw [hO.cell]; rfl
  have o1 : w2.cell? ⟨w.heap.size + 1, 1, none⟩ = some (.int .i64 o.bk) := by rw [hO.cell]; rfl
  have o2 : w2.cell? ⟨w.heap.size + 1, 2, none⟩ = some (.int .i64 o.un) := by rw [hO.cell]; rfl
  have o3 : w2.cell? ⟨w.heap.size + 1, 3, none⟩ = some (.int .i64 o.cu) := by rw [hO.cell]; rfl
  have o4 : w2.cell? ⟨w.heap.size + 1, 4, none⟩ = some (.int .i64 o.am) := by rw [hO.cell]; rfl
  go_wp2_with fail
  refine wp_region_plan (by kernel_rfl) [{ fl := [0, 1, 2, 3, 4, 5], ef := 6 }] [7, 8, 9, 10] (by kernel_rfl) (fun _ _ => True) ?_
  simp only [wpPlan, longOK, keepOK, opsAt_cons, opsAt_nil, consO_some, List.getElem?_toArray, List.getElem?_cons_succ, List.getElem?_cons_zero, true_and]
  go_wp2_with fail
  refine ⟨by kernel_rfl, ?_⟩
  go_wp2_with fail
  have hcd : Chg (fun _ => False) w2 w2.drew := (Chg.refl _ w2).drew
  have hcFd : Chg (fun _ => False) w w2.drew := hcF.drew
  by_cases hf : f (o.bk, o.kd) = 0
  · have ha := hah.out
    rw [tAsk_new hmh.out h4 hf] at ha
    simp only [Prod.mk.injEq] at ha
    obtain ⟨rfl, rfl, rfl, rfl⟩ := ha
    have hP3 := hP2.chg hcd id id (fun _ _ => id)
    have hT3 := hTb2.chg hcd id id
    have ht1 : t ≠ lb := hT3.blk.ne hP3.blk (by decide)
    have ht2 : ¬ t = mb := fun e => (hP3.map.ne hT3.blk) e.symm
    have ht3 : lv.ownBlock ≠ some t := own_ne hP3.own hT3.blk (by decide)
    have ht4 : ¬ mt = lb := hT3.map.ne hP3.blk
    have ht5 : lv.ownBlock ≠ some mt := own_ne_map hT3.map hP3.own
    have hmt := hT3.map.lt
    refine (answer_new w2.drew t mt f o _ _ hT3 hmh.out hf (p.act o).1 (p.act_res2 o) (fun i => i = lb ∨ i = mb ∨ lv.ownBlock = some i) (fun w' => ∃ lv', PurAt w' lb mb lv' (p.act o).2 ∧ (lv'.ownBlock = lv.ownBlock ∨ ∃ k, lv'.ownBlock = some k ∧ w2.heap.size ≤ k)) ⟨?_, ?_⟩ ?_ ?_).mono ?_
    · rintro (h | h | h)
      · exact ht1 h
      · exact ht2 h
      · exact ht3 h
    · rintro (h | h | h)
      · exact ht4 h
      · exact hne h.symm
      · exact ht5 h
    · intro w1 hc1
      refine (ask1_any w1 _ _ b lb mb _ lv p o T ((show Blk w2.drew _ _ _ from hX).chg hc1 id) ((show Blk w2.drew _ _ _ from hO).chg hc1 id) ((show Blk w2.drew _ _ _ from hBk2).chg hc1 id) (hP3.chg hc1 id id (fun _ _ => id)) hG hT hlen).mono ?_
      rintro e w4 ⟨rfl, ⟨lv', h1, h2⟩, h3⟩
      refine ⟨rfl, ⟨lv', h1, h2.imp id fun ⟨k, h4, h5⟩ => ⟨k, h4, ?_⟩⟩, h3⟩
      have := hc1.size
      exact Nat.le_trans (show w2.heap.size ≤ w1.heap.size from this) h5
    · rintro i (h | h | h)
      · rw [h]; exact hP3.blk.lt
      · rw [h]; exact hP3.map.lt
      · rcases hP3.own.2 with ⟨h0, _⟩ | ⟨g', c', cur, h0, _, hh, _⟩
        · rw [h0] at h; cases h
        · rw [h0] at h
          simp [Value.ownBlock] at h
          subst h
          exact (Array.getElem?_eq_some_iff.1 hh).1
    · rintro e w5 ⟨rfl, hT5, hc5, w4, ⟨lv', hP4, hl4⟩, hc45⟩
      have hl5 : ∀ k, lv'.ownBlock = some k → k ≠ mt := by
        intro k hk e
        rw [e] at hk
        rcases hl4 with h | ⟨k', h, h'⟩
        · exact ht5 (by rw [← h]; exact hk)
        · rw [h] at hk
          injection hk with hk
          have : mt < w2.heap.size := hmt
          omega
      have hP5 := hP4.chg hc45 (fun h => ht4 h.symm) hne (fun k hk h => hl5 k hk h)
      have hnb : ¬ (b = lb ∨ b = mb ∨ lv.ownBlock = some b) := by
        rintro (h | h | h)
        · exact (hBk2.ne hP2.blk (by decide)) h
        · exact (hP2.map.ne hBk2) h.symm
        · exact (own_ne hP2.own hBk2 (by decide)) h
      have hbm : ¬ b = mt := fun h => (hTb2.map.ne hBk2) h.symm
      have hBk5 := (show Blk w2.drew _ _ _ from hBk2).chg hc5 (fun h => h.elim hnb hbm)
      have hcG : Chg S w w5 := (hcFd.mono (fun _ _ h => h.elim)).trans hc5 (fun i hi h => by
        rcases h with (h | h | h) | h
        · rw [h]; exact hB2
        · rw [h]; exact hB3
        · exact hB4 _ h
        · rw [h]; exact hB6)
      have hsz : w.heap.size ≤ w2.heap.size := hcF.size
      have hltw := hP.blk.lt
      go_wp2_with fail
      refine ⟨by kernel_rfl, ?_⟩
      go_wp2_with fail
      go_ret2
      refine ⟨rfl, ⟨lb, mb, lv', t, mt, hBk5, hP5, hT5, hne, .inl hB1, .inl hB2, .inl hB3, fun k hk => ?_, .inl hB5, .inl hB6⟩, hcG⟩
      rcases hl4 with h | ⟨k', h, h'⟩
      · exact .inl (hB4 k (by rw [← h]; exact hk))
      · rw [h] at hk
        injection hk with hk
        exact .inr (by omega)
  · have ha := hah.out
    rw [tAsk_old hmh.out h4 hf] at ha
    simp only [Prod.mk.injEq] at ha
    obtain ⟨rfl, rfl, rfl, rfl⟩ := ha
    refine (answer_old w2.drew t mt f o _ _ (hTb2.chg hcd id id) hmh.out hf).mono ?_
    rintro e w5 ⟨rfl, hc5⟩
    have hcG := hcFd.trans hc5 (fun _ _ h => h)
    go_wp2_with fail
    refine ⟨by kernel_rfl, ?_⟩
    go_wp2_with fail
    go_ret2
    exact ⟨rfl, ⟨lb, mb, lv, t, mt, hBk.chg hcG id, hP.chg hcG id id (fun _ _ => id), hTb.chg hcG id id, hne, .inl hB1, .inl hB2, .inl hB3, fun k hk => .inl (hB4 k hk), .inl hB5, .inl hB6⟩, hcG.mono (fun _ _ h => h.elim)⟩
end Go.Proofs.Ytddnpjlcmokbiaa

namespace Go.Proofs.Ytddnpjlcmokbiaa
open Go.RowKit Go.Maps

def rlCell (ac : Int → Int) (en : Int → Ent) (lv : Value) (f : Tab) (c : Int) (i : Nat) : Value := if i < 1012 then qCell ac en lv i else rtCell f c (i - 1012)
structure RTillAt (w : World) (x : Nat) (lv : Value) (p : Pur) (f : Tab) (c : Int) : Prop where
  blk : Blk w x 54 (arrF 2420 (rlCell p.ac p.en lv f c))
  own : w.ownsRow 0 78 4 lv p.ln.length (p.ln.flatMap Mv.cells)
def RQ (f : Tab) (c : Int) : QEnv := ⟨54, 2420, fun i => rtCell f c (i - 1012), by omega, by decide, by decide, by decide⟩
def RV (p : Pur) (lv : Value) : TEnv := ⟨54, 2420, 1012, qCell p.ac p.en lv, by omega⟩
variable {w : World} {x : Nat} {lv : Value} {p : Pur} {f : Tab} {c : Int}
theorem RTillAt.ne (h : RTillAt w x lv p f c) : lv.ownBlock ≠ some x := own_ne h.own h.blk (by decide)
theorem RTillAt.chg {w' : World} {S : Nat → Prop} (h : RTillAt w x lv p f c) (hc : Chg S w w') (hn : ¬ S x) (hl : ∀ k, lv.ownBlock = some k → ¬ S k) : RTillAt w' x lv p f c := ⟨h.blk.chg hc hn, own_chg h.own hc hl⟩
set_option maxRecDepth 100000 in
theorem rl_eqS (ac : Int → Int) (en : Int → Ent) (lv : Value) (f : Tab) (c : Int) : arrF 2420 (rlCell ac en lv f c) = arrF 2420 (qovl (RQ f c).g ac en lv) := by
  refine arrF_congr 2420 _ _ (fun i _ => ?_)
  unfold rlCell qovl
  have : (RQ f c).g i = rtCell f c (i - 1012) := rfl
  rw [this]
theorem RTillAt.purse (h : RTillAt w x lv p f c) : QAt (RQ f c) w x lv p := by
  refine ⟨?_, h.own⟩
  have hb := h.blk
  rw [rl_eqS] at hb
  exact hb
theorem RTillAt.ofPurse (h : QAt (RQ f c) w x lv p) : RTillAt w x lv p f c := by
  refine ⟨?_, h.own⟩
  rw [rl_eqS]
  exact h.blk
theorem rl_eq (p : Pur) (lv : Value) (f : Tab) (c : Int) : arrF 2420 (rlCell p.ac p.en lv f c) = arrF 2420 (tovl (RV p lv) f c) := by
  refine arrF_congr 2420 _ _ (fun i hi => ?_)
  unfold rlCell tovl
  show _ = if 1012 ≤ i ∧ i < 1012 + 1408 then rtCell f c (i - 1012) else qCell p.ac p.en lv i
  by_cases h : i < 1012
  · rw [if_pos h, if_neg (by omega)]
  · rw [if_neg h, if_pos (by omega)]
theorem RTillAt.table (h : RTillAt w x lv p f c) : RTabAt (RV p lv) w x f c := by
  have hb := h.blk
  rw [rl_eq] at hb
  exact hb
theorem RTillAt.ofTable (h : RTabAt (RV p lv) w x f c) (ho : w.ownsRow 0 78 4 lv p.ln.length (p.ln.flatMap Mv.cells)) : RTillAt w x lv p f c := by
  refine ⟨?_, ho⟩
  rw [rl_eq]
  exact h

set_option maxRecDepth 100000 in
set_option maxHeartbeats 1000000 in
theorem rlask_no (o : POp) (hno : mayOp o = false ∨ o.kd < 4) :
    Calls Try.prog 16 #[.pointer (some ⟨x, 0, none⟩), o.val] w fun e w' => e = .returned (.tuple #[.int .i64 2, .bool false]) ∧ Chg (fun _ => False) w w' := by
  have hcA := (Chg.refl (fun _ => False) w).alloc (.cells o.row 33)
  have hO := Blk.new w 33 o.row
  unfold POp.row at hcA
  have hnh := Lib.hid hno
  obtain ⟨kd, bk, un, cu, am⟩ := o
  clear hno
  go_enter Try.func16, Try.ntmps16
  unfold POp.val
  go_wp2_with fail
  refine (mayRef_any ⟨kd, bk, un, cu, am⟩ _).mono ?_
  rintro e w1 ⟨rfl, hc1⟩
  have hO1 := hO.chg hc1 id
  have c0 : w1.cell? ⟨w.heap.size, 0, none⟩ = some (.int .i64 kd) := by rw [hO1.cell]; rfl
  have hck := hcA.trans hc1 (fun _ _ h => h)
  cases hm : mayOp ⟨kd, bk, un, cu, am⟩ with
  | false =>
    go_wp2_with fail
    go_ret2
    exact ⟨rfl, hck⟩
  | true =>
    have h4 : kd < 4 := by
      rcases hnh.out with h | h
      · rw [hm] at h; cases h
      · exact h
    clear hm hnh
    go_wp2_with fail
    go_ret2
    exact ⟨rfl, hck⟩

set_option maxRecDepth 100000 in
set_option maxHeartbeats 1000000 in
theorem rlask_yes {T : Int} (h : RTillAt w x lv p f c) (hG : p.Good T) (hT : T ≤ 1125899906842624) (hlen : p.ln.length ≤ 1000000) (o : POp) (hm : mayOp o = true) (h4 : 4 ≤ o.kd) (hc0 : 0 ≤ c) (hc1 : c ≤ 1000000)
    (r : Int) (n : Bool) (p' : Pur) (f' : Tab) (ha : tAsk p f o = (r, n, p', f')) :
    Calls Try.prog 16 #[.pointer (some ⟨x, 0, none⟩), o.val] w fun e w' => e = .returned (.tuple #[.int .i64 r, .bool n]) ∧ ∃ lv', RTillAt w' x lv' p' f' (if n = true then c + 1 else c) ∧ Chg (fun i => i = x ∨ lv.ownBlock = some i) w w' ∧ (lv'.ownBlock = lv.ownBlock ∨ ∃ k, lv'.ownBlock = some k ∧ w.heap.size ≤ k) := by
  have hcA := (Chg.refl (fun _ => False) w).alloc (.cells o.row 33)
  have hO := Blk.new w 33 o.row
  unfold POp.row at hcA
  have hbk := mayOp_bk hm
  have hkd := mayOp_kd hm
  have hmh := Lib.hid hm
  have hah := Lib.hid ha
  clear hm ha
  have hxz : x < w.heap.size := Blk.lt h.blk
  have hlw := Lib.hid (own_lt0 h.own)
  go_enter Try.func16, Try.ntmps16
  unfold POp.val
  go_wp2_with fail
  refine (mayRef_any o _).mono ?_
  rintro e w1 ⟨rfl, hc1'⟩
  rw [hmh.out]
  have hO1 := hO.chg hc1' id
  have hck := hcA.trans hc1' (fun _ _ h => h)
  have hX1 := h.chg hck id (fun _ _ => id)
  have o0 : w1.cell? ⟨w.heap.size, 0, none⟩ = some (.int .i64 o.kd) := by rw [hO1.cell]; rfl
  have o1 : w1.cell? ⟨w.heap.size, 1, none⟩ = some (.int .i64 o.bk) := by rw [hO1.cell]; rfl
  have o2 : w1.cell? ⟨w.heap.size, 2, none⟩ = some (.int .i64 o.un) := by rw [hO1.cell]; rfl
  have o3 : w1.cell? ⟨w.heap.size, 3, none⟩ = some (.int .i64 o.cu) := by rw [hO1.cell]; rfl
  have o4 : w1.cell? ⟨w.heap.size, 4, none⟩ = some (.int .i64 o.am) := by rw [hO1.cell]; rfl
  clear hcA hO hc1'
  go_wp2_with fail
  refine wp_region_plan (by kernel_rfl) [{ fl := [0, 1, 2, 3], ef := 4 }] [5, 6, 7, 8, 9] (by kernel_rfl) (fun _ _ => True) ?_
  simp only [wpPlan, longOK, keepOK, opsAt_cons, opsAt_nil, consO_some, List.getElem?_toArray, List.getElem?_cons_succ, List.getElem?_cons_zero, true_and]
  go_wp2_with fail
  refine ⟨by kernel_rfl, ?_⟩
  go_wp2_with fail
  refine (rt_find (R := RV p lv) (w := w1.drew) hX1.table.drew o hbk hkd).mono ?_
  rintro e w3 ⟨rfl, hc3⟩
  have hc3 := ((Chg.refl (fun _ => False) w1).drew).trans hc3 (fun _ _ h => h)
  have hck3 := hck.trans hc3 (fun _ _ h => h)
  have hX3 := hX1.chg hc3 id (fun _ _ => id)
  have hO3 := hO1.chg hc3 id
  clear o0 o1 o2 o3 o4 hO1 hX1 hc3 hck
  obtain ⟨a, hfa⟩ : ∃ a, f (o.bk, o.kd) = a := ⟨_, rfl⟩
  rw [hfa]
  by_cases hf : a = 0
  · have hf0 : f (o.bk, o.kd) = 0 := by rw [hfa]; exact hf
    have ha := hah.out
    rw [tAsk_new hmh.out h4 hf0] at ha
    simp only [Prod.mk.injEq] at ha
    obtain ⟨rfl, rfl, rfl, rfl⟩ := ha
    have hf0h := Lib.hid hf0
    have bz : (!(a == 0)) = false := by simp [hf]
    have hres := p.act_res2 o
    clear hfa hf hf0
    have o0 : w3.cell? ⟨w.heap.size, 0, none⟩ = some (.int .i64 o.kd) := by rw [hO3.cell]; rfl
    have o1 : w3.cell? ⟨w.heap.size, 1, none⟩ = some (.int .i64 o.bk) := by rw [hO3.cell]; rfl
    have o2 : w3.cell? ⟨w.heap.size, 2, none⟩ = some (.int .i64 o.un) := by rw [hO3.cell]; rfl
    have o3 : w3.cell? ⟨w.heap.size, 3, none⟩ = some (.int .i64 o.cu) := by rw [hO3.cell]; rfl
    have o4 : w3.cell? ⟨w.heap.size, 4, none⟩ = some (.int .i64 o.am) := by rw [hO3.cell]; rfl
    rw [bz]
    go_wp2_with fail
    refine ⟨by kernel_rfl, ?_⟩
    go_wp2_with fail
    refine wp_region_plan (by kernel_rfl) [{ fl := [0, 1, 2, 3], ef := 4 }] [5] (by kernel_rfl) (fun _ _ => True) ?_
    simp only [wpPlan, longOK, keepOK, opsAt_cons, opsAt_nil, consO_some, List.getElem?_toArray, List.getElem?_cons_succ, List.getElem?_cons_zero, true_and]
    go_wp2_with fail
    refine ⟨by kernel_rfl, ?_⟩
    go_wp2_with fail
    refine (rq_do (R := RQ f c) (w := w3.drew) hX3.purse.drew hG hT hlen o).mono ?_
    rintro e w4 ⟨rfl, lv', hX4, hc4, hl4⟩
    have hc4 := ((Chg.refl (fun i => i = x ∨ lv.ownBlock = some i) w3).drew).trans hc4 (fun _ _ h => h)
    have hO4 := hO3.chg hc4 (by rintro (e | e); omega; exact absurd (hlw.out _ e) (Nat.lt_irrefl _))
    have hl4 : lv'.ownBlock = lv.ownBlock ∨ ∃ k, lv'.ownBlock = some k ∧ w.heap.size ≤ k := hl4.imp id fun ⟨k, h, h'⟩ => ⟨k, h, Nat.le_trans hck3.size h'⟩
    have hck4 := (hck3.mono (T := fun i => i = x ∨ lv.ownBlock = some i) (fun _ _ h => h.elim)).trans hc4 (fun _ _ h => h)
    have hX4 := RTillAt.ofPurse hX4
    obtain ⟨q, hq⟩ : ∃ q, p.act o = q := ⟨_, rfl⟩
    rw [hq] at hX4 hres ⊢
    have hqh := Lib.hid hq
    clear hq o0 o1 o2 o3 o4 hO3 hX3 hc4
    have o0 : w4.cell? ⟨w.heap.size, 0, none⟩ = some (.int .i64 o.kd) := by rw [hO4.cell]; rfl
    have o1 : w4.cell? ⟨w.heap.size, 1, none⟩ = some (.int .i64 o.bk) := by rw [hO4.cell]; rfl
    have o2 : w4.cell? ⟨w.heap.size, 2, none⟩ = some (.int .i64 o.un) := by rw [hO4.cell]; rfl
    have o3 : w4.cell? ⟨w.heap.size, 3, none⟩ = some (.int .i64 o.cu) := by rw [hO4.cell]; rfl
    have o4 : w4.cell? ⟨w.heap.size, 4, none⟩ = some (.int .i64 o.am) := by rw [hO4.cell]; rfl
    have hput := rt_put_new (R := RV q.2 lv') (w := w4.drew) hX4.table.drew o q.1 hmh.out hres hf0h.out hc0 hc1
    have hputh := Lib.hid hput
    clear hput hres
    go_wp2_with fail
    refine ⟨by kernel_rfl, ?_⟩
    go_wp2_with fail
    refine wp_region_plan (by kernel_rfl) [{ fl := [0, 1, 2, 3, 4], ef := 5 }] [] (by kernel_rfl) (fun _ _ => True) ?_
    simp only [wpPlan, longOK, keepOK, opsAt_cons, opsAt_nil, consO_some, List.getElem?_toArray, List.getElem?_cons_succ, List.getElem?_cons_zero, true_and]
    go_wp2_with fail
    refine ⟨by kernel_rfl, ?_⟩
    go_wp2_with fail
    refine hputh.out.mono ?_
    rintro e w5 ⟨rfl, hX5, hc5⟩
    have hc5 := ((Chg.refl (fun i => i = x) w4).drew).trans hc5 (fun _ _ h => h)
    have hX5 := RTillAt.ofTable hX5 (own_chg hX4.own hc5 (fun k hk e => hX4.ne (by rw [hk, e])))
    have hck5 := hck4.trans hc5 (fun _ _ h => .inl h)
    go_wp2_with fail
    refine ⟨by kernel_rfl, ?_⟩
    go_wp2_with fail
    go_ret2
    rw [hqh.out]
    exact ⟨rfl, lv', hX5, hck5, hl4⟩
  · have hf0 : f (o.bk, o.kd) ≠ 0 := by rw [hfa]; exact hf
    have ha := hah.out
    rw [tAsk_old hmh.out h4 hf0, hfa] at ha
    simp only [Prod.mk.injEq] at ha
    obtain ⟨rfl, rfl, rfl, rfl⟩ := ha
    have bz : (!(a == 0)) = true := by simp [hf]
    clear hfa hf hf0
    rw [bz]
    go_wp2_with fail
    refine ⟨by kernel_rfl, ?_⟩
    go_wp2_with fail
    go_ret2
    exact ⟨rfl, lv, hX3, hck3.mono (fun _ _ h => h.elim), .inl rfl⟩

theorem rlask_any {T : Int} (h : RTillAt w x lv p f c) (hG : p.Good T) (hT : T ≤ 1125899906842624) (hlen : p.ln.length ≤ 1000000) (o : POp) (hc0 : 0 ≤ c) (hc1 : c ≤ 1000000)
    (r : Int) (n : Bool) (p' : Pur) (f' : Tab) (ha : tAsk p f o = (r, n, p', f')) :
    Calls Try.prog 16 #[.pointer (some ⟨x, 0, none⟩), o.val] w fun e w' => e = .returned (.tuple #[.int .i64 r, .bool n]) ∧ ∃ lv', RTillAt w' x lv' p' f' (if n = true then c + 1 else c) ∧ Chg (fun i => i = x ∨ lv.ownBlock = some i) w w' ∧ (lv'.ownBlock = lv.ownBlock ∨ ∃ k, lv'.ownBlock = some k ∧ w.heap.size ≤ k) := by
  by_cases hno : mayOp o = false ∨ o.kd < 4
  · rw [tAsk_no hno] at ha
    simp only [Prod.mk.injEq] at ha
    obtain ⟨rfl, rfl, rfl, rfl⟩ := ha
    refine (rlask_no o hno).mono ?_
    rintro e w' ⟨rfl, hc⟩
    exact ⟨rfl, lv, by rw [if_neg (by decide)]; exact h.chg hc id (fun _ _ => id), hc.mono (fun _ _ h => h.elim), .inl rfl⟩
  · have hm : mayOp o = true := by
      cases hm : mayOp o with
      | true => rfl
      | false => exact absurd (.inl hm) hno
    exact rlask_yes h hG hT hlen o hm (by omega) hc0 hc1 r n p' f' ha
end Go.Proofs.Ytddnpjlcmokbiaa
