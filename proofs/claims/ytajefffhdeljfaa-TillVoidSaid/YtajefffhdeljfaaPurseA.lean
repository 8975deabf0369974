/-
  purse: how a ledger lies in memory, and the two closures of Do.
-/
import Derived.Test.YtajefffhdeljfaaWant
import Derived.Test.YtajefffhdeljfaaLibMap
import Derived.Maps.AppendAt
namespace Go.Proofs.Ytajefffhdeljfaa
open Go.RowKit Go.Maps

def encI (k : Int) : Value := .int .i64 k
theorem encI_inj : ∀ x y, encI x = encI y → x = y := fun x y h => by injection h
def Ent.row (e : Ent) : Array Value := #[.int .i64 e.st, .int .i64 e.un, .int .i64 e.til, .int .i64 e.cu, .int .i64 e.am]
def Ent.val (e : Ent) : Value := .agg e.row
def POp.row (o : POp) : Array Value := #[.int .i64 o.kd, .int .i64 o.bk, .int .i64 o.un, .int .i64 o.cu, .int .i64 o.am]
def Mv.cells (m : Mv) : List Value := [.int .i64 m.bk, .int .i64 m.fr, .int .i64 m.to, .int .i64 m.am]
/-- The bookings that are there. -/
def entMap (en : Int → Ent) : Int → Option Value := fun k => if (en k).st = 0 then none else some (en k).val
def purRow (ac : Int → Int) (mb : Nat) (lv : Value) : Array Value :=
  #[.int .i64 (ac 0), .int .i64 (ac 1), .int .i64 (ac 2), .int .i64 (ac 3), .int .i64 (ac 4), .int .i64 (ac 5), .map (some mb), lv]

/-- Block b is a ledger that reads as p; mb: its bookings' block; lv: its moves. -/
structure PurAt (w : World) (b mb : Nat) (lv : Value) (p : Pur) : Prop where
  blk : Blk w b 90 (purRow p.ac mb lv)
  map : MapOf encI w mb (entMap p.en)
  own : w.ownsRow 0 58 4 lv p.ln.length (p.ln.flatMap Mv.cells)
  keys : ∀ k, (p.en k).st ≠ 0 → 1 ≤ k ∧ k ≤ 200

theorem MapOf.ne {α : Type} {enc : α → Value} {w : World} {b : Nat} {f : α → Option Value} (h : MapOf enc w b f) {g : Nat} {t : TypeId} {cs : Array Value} (hg : Blk w g t cs) : b ≠ g := by
  rintro rfl
  obtain ⟨es, clock, h1, _⟩ := h
  unfold Blk at hg
  rw [h1] at hg; cases hg
theorem own_ne_map {α : Type} {enc : α → Value} {w : World} {b : Nat} {f : α → Option Value} (h : MapOf enc w b f) {base : Nat} {e : TypeId} {size n : Nat} {v : Value} {xs : List Value} (ho : w.ownsRow base e size v n xs) : v.ownBlock ≠ some b := by
  rcases ho.2 with ⟨rfl, _⟩ | ⟨g', cap, cur, rfl, _, hh, _⟩
  · simp [Value.ownBlock]
  · intro he
    have : g' = b := by simpa [Value.ownBlock] using he
    subst this
    obtain ⟨es, clock, h1, _⟩ := h
    rw [h1] at hh; cases hh
theorem MapOf.chg {α : Type} {enc : α → Value} {S : Nat → Prop} {w w' : World} {b : Nat} {f : α → Option Value} (h : MapOf enc w b f) (hc : Chg S w w') (hn : ¬ S b) : MapOf enc w' b f := h.keep (hc.block b h.lt hn)

theorem law3 : Keyed Try.prog 3 := int_keyed Try.underlying3
theorem keyI {k : Int} (h : 1 ≤ k ∧ k ≤ 200) : keyOf Try.prog 3 (encI k) = some (.int .i64 k) := keyOf_int_mk Try.underlying3 (WalkArith.wf_i64 (by omega))
theorem zeroEnt (w : World) : (zeroValue 31).run Try.prog w = .ok Ent.none.val w := by kernel_rfl

theorem entMap_keys {en : Int → Ent} (hk : ∀ k, (en k).st ≠ 0 → 1 ≤ k ∧ k ≤ 200) : ∀ a v, entMap en a = some v → ∃ l, keyOf Try.prog 3 (encI a) = some l := by
  intro a v h
  unfold entMap at h
  split at h
  · cases h
  · exact ⟨_, keyI (hk a (by assumption))⟩

theorem entMap_getD (en : Int → Ent) (k : Int) (h0 : ∀ k, (en k).st = 0 → en k = Ent.none) : (entMap en k).getD Ent.none.val = (en k).val := by
  unfold entMap
  split
  · rename_i h; rw [h0 k h]; rfl
  · rfl

theorem entMap_upd (en : Int → Ent) (b : Int) (e : Ent) (he : e.st ≠ 0) : upd (entMap en) b (some e.val) = entMap (fun i => if i = b then e else en i) := by
  funext i
  unfold upd entMap
  by_cases h : i = b
  · simp [h, he]
  · simp [h]

/-- 'm[k] = v' at the operation. -/
theorem wpList_mapStore {α : Type} [DecidableEq α] {enc : α → Value} {P : Program} {w : World} {ops : Array Oper} {rest : List Oper} {o : Oper} {a : Act} {Q : Exit → Act → World → Prop}
    (hg : o.guard = none) (m x v : Operand) (t : TypeId) (hop : o.op = Op.mapUpdate t m x v) {k e : TypeId} (K : Keyed P k) (ht : P.underlying t = some (.map k e)) (hinj : ∀ x y, enc x = enc y → x = y)
    {b : Nat} {f : α → Option Value} (hmap : MapOf enc w b f) (hk : ∀ a v, f a = some v → ∃ l, keyOf P k (enc a) = some l) (hm : a.eval m = .map (some b)) (key : α) (hx : a.eval x = enc key) {l : Lit} (ha : keyOf P k (enc key) = some l)
    (val : Value) (hv : a.eval v = val) (hK : ∀ w', MapOf enc w' b (upd f key (some val)) → Chg (· = b) w w' → w'.heap.size = w.heap.size → w'.drawn = w.drawn → wpList P ops Q rest (a.put o.dst undef) w') : wpList P ops Q (o :: rest) a w := by
  refine wpList_plain hg fun K' hK' => ?_
  obtain ⟨es', clock', hrun, h2⟩ := hmap.store K hinj hk ht ha val
  unfold Oper.wp
  simp [execOp, hop, hm, hx, hv, hrun, Result.andThen]
  exact hK' _ _ (hK _ h2 ((Chg.refl (· = b) w).setBlock (.inl rfl) _) (by simp [ChangeMaps.setBlock]) rfl)

theorem infoLine : (Try.prog.info? 58).map (fun i => (i.zero, i.size, i.bytes)) = some (some (.agg #[.int .i64 0, .int .i64 0, .int .i64 0, .int .i64 0]), 4, 32) := by kernel_rfl

set_option maxRecDepth 100000 in
set_option maxHeartbeats 1000000 in
theorem stay_any (w : World) (b mb X O L : Nat) (lv : Value) (p : Pur) (o : POp) (x : Ent) (d : Bool) (hP : PurAt w b mb lv p) (hX : Blk w X 31 x.row) (hO : Blk w O 45 o.row)
    (hL : Blk w L 48 #[.pointer (some ⟨b, 0, none⟩)]) (hx : x = p.en o.bk) (hbk : 1 ≤ o.bk ∧ o.bk ≤ 200) :
    Calls Try.prog 58 #[.bool d, .pointer (some ⟨X, 0, none⟩), .pointer (some ⟨L, 0, none⟩), .pointer (some ⟨O, 0, none⟩)] w fun e w' => e = .returned (.int .i64 (if d then 1 else 2)) ∧
      PurAt w' b mb lv (p.stay o.bk) ∧ Chg (· = mb) w w' := by
  have cX : w.cell? ⟨X, 0, none⟩ = some (.int .i64 x.st) := by rw [hX.cell]; rfl
  have cL : w.cell? ⟨L, 0, none⟩ = some (.pointer (some ⟨b, 0, none⟩)) := by rw [hL.cell]; rfl
  have cO : w.cell? ⟨O, 1, none⟩ = some (.int .i64 o.bk) := by rw [hO.cell]; rfl
  have cB : w.cell? ⟨b, 6, none⟩ = some (.map (some mb)) := by rw [hP.blk.cell]; rfl
  have hx' := Lib.hid hx
  clear hx
  by_cases h0 : x.st = 0
  · have h0' : (x.st == 0) = true := by simp [h0]
    have hs : Hid (p.stay o.bk = { p with en := fun i => if i = o.bk then Ent.gone else p.en i }) := by unfold Hid Pur.stay Pur.set; rw [← hx'.out, if_pos h0]
    clear h0
    go_enter Try.func58, Try.ntmps58
    go_wp2
    refine wp_region_plan (by kernel_rfl) [{ fl := [0, 1, 2, 3, 4, 5, 6], ef := 7 }] [] (by kernel_rfl) (fun _ _ => True) ?_
    simp only [wpPlan, longOK, keepOK, opsAt, List.filterMap_cons, List.getElem?_toArray, List.getElem?_cons_succ, List.getElem?_cons_zero, List.filterMap_nil, true_and]
    go_wp2
    refine ⟨by kernel_rfl, ?_⟩
    refine wpList_mapStore (enc := encI) (e := 31) rfl _ _ _ 88 rfl law3 Try.underlying88 encI_inj (w := w.drew) (b := mb) (f := entMap p.en) (hP.map.keep rfl) (entMap_keys hP.keys) rfl o.bk rfl (keyI hbk) Ent.gone.val rfl ?_
    intro w' hm hc hsz hdr
    have hfin : PurAt w' b mb lv (p.stay o.bk) := by
      rw [hs.out]
      have hbm : ¬ b = mb := fun e => (hP.map.ne hP.blk) e.symm
      exact ⟨(show Blk w.drew b _ _ from hP.blk).chg hc hbm, by rw [entMap_upd _ _ _ (by decide)] at hm; exact hm, own_chg (w := w.drew) hP.own hc (fun k hk e => own_ne_map hP.map hP.own (by rw [hk, e])), fun k hk => by
        by_cases e : k = o.bk
        · rw [e]; exact hbk
        · simp only [if_neg e] at hk; exact hP.keys k hk⟩
    have hch : Chg (· = mb) w w' := ((Chg.refl _ w).drew).trans hc (fun _ _ h => h)
    clear hm hc hsz hdr
    go_wp2
    refine ⟨by kernel_rfl, ?_⟩
    cases d
    all_goals
      go_wp2
      go_ret
      exact ⟨rfl, hfin, hch⟩
  · have h0' : (x.st == 0) = false := by simp [h0]
    have hs : Hid (p.stay o.bk = p) := by unfold Hid Pur.stay; rw [← hx'.out, if_neg h0]
    clear h0
    cases d
    all_goals
      go_enter Try.func58, Try.ntmps58
      go_wp2
      go_ret
      exact ⟨rfl, by rw [hs.out]; exact hP, Chg.refl _ _⟩

theorem purRow_get (ac : Int → Int) (mb : Nat) (lv : Value) (i : Nat) (h : i < 6) : (purRow ac mb lv)[i]? = some (.int .i64 (ac i)) := by
  match i, h with
  | 0, _ => rfl
  | 1, _ => rfl
  | 2, _ => rfl
  | 3, _ => rfl
  | 4, _ => rfl
  | 5, _ => rfl
theorem purRow_set (ac : Int → Int) (mb : Nat) (lv : Value) (i : Nat) (h : i < 6) (v : Int) : (purRow ac mb lv).setIfInBounds i (.int .i64 v) = purRow (upd ac (i : Int) v) mb lv := by
  match i, h with
  | 0, _ => simp [purRow, upd]
  | 1, _ => simp [purRow, upd]
  | 2, _ => simp [purRow, upd]
  | 3, _ => simp [purRow, upd]
  | 4, _ => simp [purRow, upd]
  | 5, _ => simp [purRow, upd]
theorem purRow_slice (ac : Int → Int) (mb : Nat) (lv lv' : Value) : (purRow ac mb lv).setIfInBounds 7 lv' = purRow ac mb lv' := by simp [purRow]
theorem mvd_upd (ac : Int → Int) (fr to am : Int) : upd (upd ac fr (ac fr - am)) to (ac to + am) = mvd ac fr to am := by
  funext i
  unfold upd mvd
  by_cases h : i = to <;> simp [h]

/-- What becomes of the booking. -/
def moved (x : Ent) (o : POp) (st : Int) : Ent := if st = 3 then Ent.gone else if st = 4 then ⟨4, x.un, x.til, o.cu, o.am⟩ else ⟨st, x.un, x.til, x.cu, x.am⟩

end Go.Proofs.Ytajefffhdeljfaa
