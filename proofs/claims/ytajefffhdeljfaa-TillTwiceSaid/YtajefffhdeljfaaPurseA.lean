/-
  purse: how a ledger lies in memory, and the two closures of Do.
-/
import Derived.Test.YtajefffhdeljfaaEntM
import Derived.Maps.AppendAt
namespace Go.Proofs.Ytajefffhdeljfaa
open Go.RowKit Go.Maps

def Mv.cells (m : Mv) : List Value := [.int .i64 m.bk, .int .i64 m.fr, .int .i64 m.to, .int .i64 m.am]
def purRow (ac : Int → Int) (mb : Nat) (lv : Value) : Array Value :=
  #[.int .i64 (ac 0), .int .i64 (ac 1), .int .i64 (ac 2), .int .i64 (ac 3), .int .i64 (ac 4), .int .i64 (ac 5), .map (some mb), lv]

/-- Block b is a ledger that reads as p; mb: its bookings' block; lv: its moves. -/
structure PurAt (w : World) (b mb : Nat) (lv : Value) (p : Pur) : Prop where
  blk : Blk w b 90 (purRow p.ac mb lv)
  map : MapOf encI w mb (entMap p.en)
  own : w.ownsRow 0 58 4 lv p.ln.length (p.ln.flatMap Mv.cells)
  keys : ∀ k, (p.en k).st ≠ 0 → 1 ≤ k ∧ k ≤ 200

theorem infoLine : (Try.prog.info? 58).map (fun i => (i.zero, i.size, i.bytes)) = some (some (.agg #[.int .i64 0, .int .i64 0, .int .i64 0, .int .i64 0]), 4, 32) := by kernel_rfl

set_option maxRecDepth 100000 in
set_option maxHeartbeats 1000000 in
theorem stay_any (w : World) (b mb X O L : Nat) (lv : Value) (p : Pur) (o : POp) (x : Ent) (d : Bool) (hP : PurAt w b mb lv p) (hX : Blk w X 31 x.row) (hO : Blk w O 45 o.row)
    (hL : Blk w L 48 #[.pointer (some ⟨b, 0, none⟩)]) (hx : x = p.en o.bk) (hbk : 1 ≤ o.bk ∧ o.bk ≤ 200) :
    Calls Try.prog 58 #[.bool d, .pointer (some ⟨X, 0, none⟩), .pointer (some ⟨L, 0, none⟩), .pointer (some ⟨O, 0, none⟩)] w fun e w' => e = .returned (.int .i64 (if d then 1 else 2)) ∧
      PurAt w' b mb lv (p.stay o.bk) ∧ Chg (· = mb) w w' := by
  have cX : w.cell? ⟨X, 0, none⟩ = some (.int .i64 x.st) := by rw [hX.cell]; rfl
  have cL : w.cell? ⟨L, 0, none⟩ = some (.pointer (some ⟨b, 0, none⟩)) := by rw [hL.cell]; rfl
  have cO : w.cell? ⟨O, 1, none⟩ = some (.int .i64 o.bk) := by rw [hO.cell]; rfl
  have cB : w.cell? ⟨b, 6, none⟩ = some (.map (some mb)) := by rw [hP.blk.cell]; rfl
  have hx' := Lib.hid hx
  clear hx
  by_cases h0 : x.st = 0
  · have h0' : (x.st == 0) = true := by simp [h0]
    have hs : Hid (p.stay o.bk = { p with en := fun i => if i = o.bk then Ent.gone else p.en i }) := by unfold Hid Pur.stay Pur.set; rw [← hx'.out, if_pos h0]
    clear h0
    go_enter Try.func58, Try.ntmps58
    go_wp2
    refine wp_region_plan (by kernel_rfl) [{ fl := [0, 1, 2, 3, 4, 5, 6], ef := 7 }] [] (by kernel_rfl) (fun _ _ => True) ?_
    simp only [wpPlan, longOK, keepOK, opsAt, List.filterMap_cons, List.getElem?_toArray, List.getElem?_cons_succ, List.getElem?_cons_zero, List.filterMap_nil, true_and]
    go_wp2
    refine ⟨by kernel_rfl, ?_⟩
    refine wpList_mapStore (enc := encI) (e := 31) rfl _ _ _ 88 rfl law3 Try.underlying88 encI_inj (w := w.drew) (b := mb) (f := entMap p.en) (hP.map.keep rfl) (entMap_keys hP.keys) rfl o.bk rfl (keyI hbk) Ent.gone.val rfl ?_
    intro w' hm hc hsz hdr
    have hfin : PurAt w' b mb lv (p.stay o.bk) := by
      rw [hs.out]
      have hbm : ¬ b = mb := fun e => (hP.map.ne hP.blk) e.symm
      exact ⟨(show Blk w.drew b _ _ from hP.blk).chg hc hbm, by rw [entMap_upd _ _ _ (by decide)] at hm; exact hm, own_chg (w := w.drew) hP.own hc (fun k hk e => own_ne_map hP.map hP.own (by rw [hk, e])), fun k hk => by
        by_cases e : k = o.bk
        · rw [e]; exact hbk
        · simp only [if_neg e] at hk; exact hP.keys k hk⟩
    have hch : Chg (· = mb) w w' := ((Chg.refl _ w).drew).trans hc (fun _ _ h => h)
    clear hm hc hsz hdr
    go_wp2
    refine ⟨by kernel_rfl, ?_⟩
    cases d
    all_goals
      go_wp2
      go_ret
      exact ⟨rfl, hfin, hch⟩
  · have h0' : (x.st == 0) = false := by simp [h0]
    have hs : Hid (p.stay o.bk = p) := by unfold Hid Pur.stay; rw [← hx'.out, if_neg h0]
    clear h0
    cases d
    all_goals
      go_enter Try.func58, Try.ntmps58
      go_wp2
      go_ret
      exact ⟨rfl, by rw [hs.out]; exact hP, Chg.refl _ _⟩

theorem purRow_get (ac : Int → Int) (mb : Nat) (lv : Value) (i : Nat) (h : i < 6) : (purRow ac mb lv)[i]? = some (.int .i64 (ac i)) := by
  match i, h with
  | 0, _ => rfl
  | 1, _ => rfl
  | 2, _ => rfl
  | 3, _ => rfl
  | 4, _ => rfl
  | 5, _ => rfl
theorem purRow_set (ac : Int → Int) (mb : Nat) (lv : Value) (i : Nat) (h : i < 6) (v : Int) : (purRow ac mb lv).setIfInBounds i (.int .i64 v) = purRow (upd ac (i : Int) v) mb lv := by
  match i, h with
  | 0, _ => simp [purRow, upd]
  | 1, _ => simp [purRow, upd]
  | 2, _ => simp [purRow, upd]
  | 3, _ => simp [purRow, upd]
  | 4, _ => simp [purRow, upd]
  | 5, _ => simp [purRow, upd]
theorem purRow_slice (ac : Int → Int) (mb : Nat) (lv lv' : Value) : (purRow ac mb lv).setIfInBounds 7 lv' = purRow ac mb lv' := by simp [purRow]
theorem mvd_upd (ac : Int → Int) (fr to am : Int) : upd (upd ac fr (ac fr - am)) to (ac to + am) = mvd ac fr to am := by
  funext i
  unfold upd mvd
  by_cases h : i = to <;> simp [h]

/-- What becomes of the booking. -/
def moved (x : Ent) (o : POp) (st : Int) : Ent := if st = 3 then Ent.gone else if st = 4 then ⟨4, x.un, x.til, o.cu, o.am⟩ else ⟨st, x.un, x.til, x.cu, x.am⟩

end Go.Proofs.Ytajefffhdeljfaa
