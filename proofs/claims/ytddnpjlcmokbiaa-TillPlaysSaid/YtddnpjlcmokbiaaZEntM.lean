/-
  A map of entries by their bookings' numbers; a store at the operation.
-/
import Derived.Test.YtddnpjlcmokbiaaWant
import Derived.Test.YtddnpjlcmokbiaaLibMap
import Derived.Maps.AppendAt
namespace Go.Proofs.Ytddnpjlcmokbiaa
open Go.RowKit Go.Maps

def encI (k : Int) : Value := .int .i64 k
theorem encI_inj : ∀ x y, encI x = encI y → x = y := fun x y h => by injection h
def Ent.row (e : Ent) : Array Value := #[.int .i64 e.st, .int .i64 e.un, .int .i64 e.til, .int .i64 e.cu, .int .i64 e.am]
def Ent.val (e : Ent) : Value := .agg e.row
def POp.row (o : POp) : Array Value := #[.int .i64 o.kd, .int .i64 o.bk, .int .i64 o.un, .int .i64 o.cu, .int .i64 o.am]
/-- The bookings that are there. -/
def entMap (en : Int → Ent) : Int → Option Value := fun k => if (en k).st = 0 then none else some (en k).val
theorem MapOf.ne {α : Type} {enc : α → Value} {w : World} {b : Nat} {f : α → Option Value} (h : MapOf enc w b f) {g : Nat} {t : TypeId} {cs : Array Value} (hg : Blk w g t cs) : b ≠ g := by
  rintro rfl
  obtain ⟨es, clock, h1, _⟩ := h
  unfold Blk at hg
  rw [h1] at hg; cases hg
theorem own_ne_map {α : Type} {enc : α → Value} {w : World} {b : Nat} {f : α → Option Value} (h : MapOf enc w b f) {base : Nat} {e : TypeId} {size n : Nat} {v : Value} {xs : List Value} (ho : w.ownsRow base e size v n xs) : v.ownBlock ≠ some b := by
  rcases ho.2 with ⟨rfl, _⟩ | ⟨g', cap, cur, rfl, _, hh, _⟩
  · simp [Value.ownBlock]
  · intro he
    have : g' = b := by simpa [Value.ownBlock] using he
    subst this
    obtain ⟨es, clock, h1, _⟩ := h
    rw [h1] at hh; cases hh
theorem MapOf.chg {α : Type} {enc : α → Value} {S : Nat → Prop} {w w' : World} {b : Nat} {f : α → Option Value} (h : MapOf enc w b f) (hc : Chg S w w') (hn : ¬ S b) : MapOf enc w' b f := h.keep (hc.block b h.lt hn)

theorem law3 : Keyed Try.prog 3 := int_keyed Try.underlying3
theorem keyI {k : Int} (h : 1 ≤ k ∧ k ≤ 200) : keyOf Try.prog 3 (encI k) = some (.int .i64 k) := keyOf_int_mk Try.underlying3 (WalkArith.wf_i64 (by omega))
theorem zeroEnt (w : World) : (zeroValue 44).run Try.prog w = .ok Ent.none.val w := by kernel_rfl

theorem entMap_keys {en : Int → Ent} (hk : ∀ k, (en k).st ≠ 0 → 1 ≤ k ∧ k ≤ 200) : ∀ a v, entMap en a = some v → ∃ l, keyOf Try.prog 3 (encI a) = some l := by
  intro a v h
  unfold entMap at h
  split at h
  · cases h
  · exact ⟨_, keyI (hk a (by assumption))⟩

theorem entMap_getD (en : Int → Ent) (k : Int) (h0 : ∀ k, (en k).st = 0 → en k = Ent.none) : (entMap en k).getD Ent.none.val = (en k).val := by
  unfold entMap
  split
  · rename_i h; rw [h0 k h]; rfl
  · rfl

theorem entMap_upd (en : Int → Ent) (b : Int) (e : Ent) (he : e.st ≠ 0) : upd (entMap en) b (some e.val) = entMap (fun i => if i = b then e else en i) := by
  funext i
  unfold upd entMap
  by_cases h : i = b
  · simp [h, he]
  · simp [h]

/-- 'm[k] = v' at the operation. -/
theorem wpList_mapStore {α : Type} [DecidableEq α] {enc : α → Value} {P : Program} {w : World} {ops : Array Oper} {rest : List Oper} {o : Oper} {a : Act} {Q : Exit → Act → World → Prop}
    (hg : o.guard = none) (m x v : Operand) (t : TypeId) (hop : o.op = Op.mapUpdate t m x v) {k e : TypeId} (K : Keyed P k) (ht : P.underlying t = some (.map k e)) (hinj : ∀ x y, enc x = enc y → x = y)
    {b : Nat} {f : α → Option Value} (hmap : MapOf enc w b f) (hk : ∀ a v, f a = some v → ∃ l, keyOf P k (enc a) = some l) (hm : a.eval m = .map (some b)) (key : α) (hx : a.eval x = enc key) {l : Lit} (ha : keyOf P k (enc key) = some l)
    (val : Value) (hv : a.eval v = val) (hK : ∀ w', MapOf enc w' b (upd f key (some val)) → Chg (· = b) w w' → w'.heap.size = w.heap.size → w'.drawn = w.drawn → wpList P ops Q rest (a.put o.dst undef) w') : wpList P ops Q (o :: rest) a w := by
  refine wpList_plain hg fun K' hK' => ?_
  obtain ⟨es', clock', hrun, h2⟩ := hmap.store K hinj hk ht ha val
  unfold Oper.wp
  simp [execOp, hop, hm, hx, hv, hrun, Result.andThen]
  exact hK' _ _ (hK _ h2 ((Chg.refl (· = b) w).setBlock (.inl rfl) _) (by simp [ChangeMaps.setBlock]) rfl)

end Go.Proofs.Ytddnpjlcmokbiaa

namespace Go.Proofs.Ytddnpjlcmokbiaa
open Go.RowKit Go.Maps

def Mv.cells (m : Mv) : List Value := [.int .i64 m.bk, .int .i64 m.fr, .int .i64 m.to, .int .i64 m.am]
def purRow (ac : Int → Int) (mb : Nat) (lv : Value) : Array Value :=
  #[.int .i64 (ac 0), .int .i64 (ac 1), .int .i64 (ac 2), .int .i64 (ac 3), .int .i64 (ac 4), .int .i64 (ac 5), .map (some mb), lv]

/-- Block b is a ledger that reads as p; mb: its bookings' block; lv: its moves. -/
structure PurAt (w : World) (b mb : Nat) (lv : Value) (p : Pur) : Prop where
  blk : Blk w b 66 (purRow p.ac mb lv)
  map : MapOf encI w mb (entMap p.en)
  own : w.ownsRow 0 70 4 lv p.ln.length (p.ln.flatMap Mv.cells)
  keys : ∀ k, (p.en k).st ≠ 0 → 1 ≤ k ∧ k ≤ 200

theorem infoLine : (Try.prog.info? 70).map (fun i => (i.zero, i.size, i.bytes)) = some (some (.agg #[.int .i64 0, .int .i64 0, .int .i64 0, .int .i64 0]), 4, 32) := by kernel_rfl

set_option maxRecDepth 100000 in
set_option maxHeartbeats 1000000 in
theorem stay_any (w : World) (b mb X O L : Nat) (lv : Value) (p : Pur) (o : POp) (x : Ent) (d : Bool) (hP : PurAt w b mb lv p) (hX : Blk w X 44 x.row) (hO : Blk w O 33 o.row)
    (hL : Blk w L 24 #[.pointer (some ⟨b, 0, none⟩)]) (hx : x = p.en o.bk) (hbk : 1 ≤ o.bk ∧ o.bk ≤ 200) :
    Calls Try.prog 30 #[.bool d, .pointer (some ⟨X, 0, none⟩), .pointer (some ⟨L, 0, none⟩), .pointer (some ⟨O, 0, none⟩)] w fun e w' => e = .returned (.int .i64 (if d then 1 else 2)) ∧
      PurAt w' b mb lv (p.stay o.bk) ∧ Chg (· = mb) w w' := by
  have cX : w.cell? ⟨X, 0, none⟩ = some (.int .i64 x.st) := by rw [hX.cell]; rfl
  have cL : w.cell? ⟨L, 0, none⟩ = some (.pointer (some ⟨b, 0, none⟩)) := by rw [hL.cell]; rfl
  have cO : w.cell? ⟨O, 1, none⟩ = some (.int .i64 o.bk) := by rw [hO.cell]; rfl
  have cB : w.cell? ⟨b, 6, none⟩ = some (.map (some mb)) := by rw [hP.blk.cell]; rfl
  have hx' := Lib.hid hx
  clear hx
  by_cases h0 : x.st = 0
  · have h0' : (x.st == 0) = true := by simp [h0]
    have hs : Hid (p.stay o.bk = { p with en := fun i => if i = o.bk then Ent.gone else p.en i }) := by unfold Hid Pur.stay Pur.set; rw [← hx'.out, if_pos h0]
    clear h0
    go_enter Try.func30, Try.ntmps30
    go_wp2
    refine wp_region_plan (by kernel_rfl) [{ fl := [0, 1, 2, 3, 4, 5, 6], ef := 7 }] [] (by kernel_rfl) (fun _ _ => True) ?_
    simp only [wpPlan, longOK, keepOK, opsAt, List.filterMap_cons, List.getElem?_toArray, List.getElem?_cons_succ, List.getElem?_cons_zero, List.filterMap_nil, true_and]
    go_wp2
    refine ⟨by kernel_rfl, ?_⟩
    refine wpList_mapStore (enc := encI) (e := 44) rfl _ _ _ 64 rfl law3 Try.underlying64 encI_inj (w := w.drew) (b := mb) (f := entMap p.en) (hP.map.keep rfl) (entMap_keys hP.keys) rfl o.bk rfl (keyI hbk) Ent.gone.val rfl ?_
    intro w' hm hc hsz hdr
    have hfin : PurAt w' b mb lv (p.stay o.bk) := by
      rw [hs.out]
      have hbm : ¬ b = mb := fun e => (hP.map.ne hP.blk) e.symm
      exact ⟨(show Blk w.drew b _ _ from hP.blk).chg hc hbm, by rw [entMap_upd _ _ _ (by decide)] at hm; exact hm, own_chg (w := w.drew) hP.own hc (fun k hk e => own_ne_map hP.map hP.own (by rw [hk, e])), fun k hk => by
        by_cases e : k = o.bk
        · rw [e]; exact hbk
        · simp only [if_neg e] at hk; exact hP.keys k hk⟩
    have hch : Chg (· = mb) w w' := ((Chg.refl _ w).drew).trans hc (fun _ _ h => h)
    clear hm hc hsz hdr
    go_wp2
    refine ⟨by kernel_rfl, ?_⟩
    cases d
    all_goals
      go_wp2
      go_ret
      exact ⟨rfl, hfin, hch⟩
  · have h0' : (x.st == 0) = false := by simp [h0]
    have hs : Hid (p.stay o.bk = p) := by unfold Hid Pur.stay; rw [← hx'.out, if_neg h0]
    clear h0
    cases d
    all_goals
      go_enter Try.func30, Try.ntmps30
      go_wp2
      go_ret
      exact ⟨rfl, by rw [hs.out]; exact hP, Chg.refl _ _⟩

theorem purRow_get (ac : Int → Int) (mb : Nat) (lv : Value) (i : Nat) (h : i < 6) : (purRow ac mb lv)[i]? = some (.int .i64 (ac i)) := by
  match i, h with
  | 0, _ => rfl
  | 1, _ => rfl
  | 2, _ => rfl
  | 3, _ => rfl
  | 4, _ => rfl
  | 5, _ => rfl
theorem purRow_set (ac : Int → Int) (mb : Nat) (lv : Value) (i : Nat) (h : i < 6) (v : Int) : (purRow ac mb lv).setIfInBounds i (.int .i64 v) = purRow (upd ac (i : Int) v) mb lv := by
  match i, h with
  | 0, _ => simp [purRow, upd]
  | 1, _ => simp [purRow, upd]
  | 2, _ => simp [purRow, upd]
  | 3, _ => simp [purRow, upd]
  | 4, _ => simp [purRow, upd]
  | 5, _ => simp [purRow, upd]
theorem purRow_slice (ac : Int → Int) (mb : Nat) (lv lv' : Value) : (purRow ac mb lv).setIfInBounds 7 lv' = purRow ac mb lv' := by simp [purRow]
theorem mvd_upd (ac : Int → Int) (fr to am : Int) : upd (upd ac fr (ac fr - am)) to (ac to + am) = mvd ac fr to am := by
  funext i
  unfold upd mvd
  by_cases h : i = to <;> simp [h]

/-- What becomes of the booking. -/
def moved (x : Ent) (o : POp) (st : Int) : Ent := if st = 3 then Ent.gone else if st = 4 then ⟨4, x.un, x.til, o.cu, o.am⟩ else ⟨st, x.un, x.til, x.cu, x.am⟩

end Go.Proofs.Ytddnpjlcmokbiaa

namespace Go.Proofs.Ytddnpjlcmokbiaa
open Go.RowKit Go.Maps

set_option maxRecDepth 100000 in
set_option maxHeartbeats 2000000 in
theorem move_auth (w : World) (b mb X O L : Nat) (lv : Value) (p : Pur) (o : POp) (x : Ent) (fr to : Nat) (hP : PurAt w b mb lv p) (hX : Blk w X 44 x.row) (hO : Blk w O 33 o.row)
    (hL : Blk w L 24 #[.pointer (some ⟨b, 0, none⟩)]) (hbk : 1 ≤ o.bk ∧ o.bk ≤ 200) (hfr : fr < 6) (hto : to < 6) (hfr4 : fr < 4)
    (ham0 : 0 ≤ o.am) (ham1 : o.am ≤ 1099511627776) (hf0 : -1125899906842624 ≤ p.ac fr) (hf1 : p.ac fr ≤ 1125899906842624) (ht0 : -1125899906842624 ≤ p.ac to) (ht1 : p.ac to ≤ 1125899906842624) (hlen : p.ln.length ≤ 1000000) :
    Calls Try.prog 29 #[.int .i64 fr, .int .i64 to, .int .i64 4, .pointer (some ⟨X, 0, none⟩), .pointer (some ⟨O, 0, none⟩), .pointer (some ⟨L, 0, none⟩)] w fun e w' => e = .returned (.int .i64 1) ∧
      ∃ lv', PurAt w' b mb lv' (p.move o.bk fr to o.am ⟨4, x.un, x.til, o.cu, o.am⟩) ∧ Chg (fun i => i = b ∨ i = mb ∨ i = X ∨ lv.ownBlock = some i) w w' ∧ (lv'.ownBlock = lv.ownBlock ∨ ∃ k, lv'.ownBlock = some k ∧ w.heap.size ≤ k) := by
  have cX0 : w.cell? ⟨X, 0, none⟩ = some (.int .i64 x.st) := by rw [hX.cell]; rfl
  have cX4 : w.cell? ⟨X, 4, none⟩ = some (.int .i64 x.am) := by rw [hX.cell]; rfl
  have cO4 : w.cell? ⟨O, 4, none⟩ = some (.int .i64 o.am) := by rw [hO.cell]; rfl
  have cL : w.cell? ⟨L, 0, none⟩ = some (.pointer (some ⟨b, 0, none⟩)) := by rw [hL.cell]; rfl
  have cfr : w.cell? ⟨b, fr, none⟩ = some (.int .i64 (p.ac fr)) := by rw [hP.blk.cell]; exact purRow_get _ _ _ _ hfr
  have cto : w.cell? ⟨b, to, none⟩ = some (.int .i64 (p.ac to)) := by rw [hP.blk.cell]; exact purRow_get _ _ _ _ hto
  have ffr : w.frozen? ⟨b, fr, none⟩ = false := hP.blk.frozen _
  have fto : w.frozen? ⟨b, to, none⟩ = false := hP.blk.frozen _
  have bfr : (0 : Int) ≤ fr ∧ (fr : Int) < 6 := by omega
  have bto : (0 : Int) ≤ to ∧ (to : Int) < 6 := by omega
  have hLb : L ≠ b := (hL.ne hP.blk (by decide))
  have hOb : O ≠ b := (hO.ne hP.blk (by decide))
  have hXb : X ≠ b := (hX.ne hP.blk (by decide))
  go_enter Try.func29, Try.ntmps29
  go_wp2
  refine wp_region_plan (by kernel_rfl) [{ fl := [0, 1, 2, 3, 4, 5, 6, 7, 8, 9, 10, 11, 12, 13, 14, 15, 16, 17, 18, 19, 20, 21, 22, 24, 25], long := [2], ef := 23, keep := [2] }, { fl := [26], ef := 27 }] [] (by kernel_rfl) (fun _ w' => w'.cell? ⟨L, 0, none⟩ = some (.pointer (some ⟨b, 0, none⟩))) ?_
  simp only [wpPlan, longOK, keepOK, opsAt, List.filterMap_cons, List.getElem?_toArray, List.getElem?_cons_succ, List.getElem?_cons_zero, List.filterMap_nil, and_true, true_and]
  refine ⟨cL, ?_⟩
  go_wp2
  refine ⟨by kernel_rfl, ?_, ?_⟩
  · intro _ w' h
    go_simp
  go_wp2
  refine ⟨(hL.far (p := ⟨b, fr, none⟩) hLb _).cell 0, ?_⟩
  go_wp2
  refine ⟨by kernel_rfl, ?_⟩
  have cto2 : (w.setCell ⟨b, fr, none⟩ (.int .i64 (p.ac fr - o.am))).cell? ⟨b, to, none⟩ = some (.int .i64 (upd p.ac fr (p.ac fr - o.am) to)) := ((hP.blk.set fr (.int .i64 (p.ac fr - o.am))).cell to).trans (by rw [purRow_set _ _ _ _ hfr]; exact purRow_get _ _ _ _ hto)
  have fto2 := (hP.blk.set fr (.int .i64 (p.ac fr - o.am))).frozen to
  go_wp2
  refine ⟨by kernel_rfl, ?_⟩
  have hB4 : Blk ((w.setCell ⟨b, fr, none⟩ (.int .i64 (p.ac fr - o.am))).setCell ⟨b, to, none⟩ (.int .i64 (p.ac to + o.am))).drew b 66 (purRow (mvd p.ac fr to o.am) mb lv) := by
    have h := (hP.blk.set fr (.int .i64 (p.ac fr - o.am))).set to (.int .i64 (p.ac to + o.am))
    rw [purRow_set _ _ _ _ hfr, purRow_set _ _ _ _ hto, mvd_upd] at h
    exact h
  have hC4 : Chg (fun i => i = b) w ((w.setCell ⟨b, fr, none⟩ (.int .i64 (p.ac fr - o.am))).setCell ⟨b, to, none⟩ (.int .i64 (p.ac to + o.am))).drew := (((Chg.refl (fun i => i = b) w).setCell (.inl rfl) _).setCell (.inl rfl) _).drew
  generalize ((w.setCell ⟨b, fr, none⟩ (.int .i64 (p.ac fr - o.am))).setCell ⟨b, to, none⟩ (.int .i64 (p.ac to + o.am))).drew = w4 at hB4 hC4 ⊢
  have hL4 := hL.chg hC4 hLb
  have hX4 := hX.chg hC4 hXb
  have hO4 := hO.chg hC4 hOb
  have hM4 := hP.map.chg hC4 (hP.map.ne hP.blk)
  have hW4 := own_chg hP.own hC4 (fun k hk e => own_ne hP.own hP.blk (by decide) (by rw [hk, e]))
  clear cX0 cX4 cO4 cL cfr cto ffr fto cto2 fto2
  have cL : w4.cell? ⟨L, 0, none⟩ = some (.pointer (some ⟨b, 0, none⟩)) := by rw [hL4.cell]; rfl
  have cO1 : w4.cell? ⟨O, 1, none⟩ = some (.int .i64 o.bk) := by rw [hO4.cell]; rfl
  have cB7 : w4.cell? ⟨b, 7, none⟩ = some lv := by rw [hB4.cell]; rfl
  go_wp2
  refine wp_region_plan (by kernel_rfl) [{ fl := [0, 1, 2, 3, 4, 5, 6, 7, 8, 9, 10], long := [0, 1, 4], ef := 11, keep := [0, 1, 4] }, { fl := [], ef := 12, keep := [0] }, { fl := [13, 14], ef := 15 }] [] (by kernel_rfl) (fun i w' => if i = 4 then w'.cell? ⟨b, 7, none⟩ = some lv else w'.cell? ⟨L, 0, none⟩ = some (.pointer (some ⟨b, 0, none⟩))) ?_
  simp only [wpPlan, longOK, keepOK, opsAt, List.filterMap_cons, List.getElem?_toArray, List.getElem?_cons_succ, List.getElem?_cons_zero, List.filterMap_nil, and_true, true_and]
  refine ⟨⟨cL, cL, cB7⟩, ?_⟩
  go_wp2
  refine ⟨by kernel_rfl, ⟨?_, ?_, ?_⟩, ?_⟩
  · intro _ w' h
    have h : w'.cell? ⟨L, 0, none⟩ = some (.pointer (some ⟨b, 0, none⟩)) := h
    go_simp
  · intro _ w' h
    have h : w'.cell? ⟨L, 0, none⟩ = some (.pointer (some ⟨b, 0, none⟩)) := h
    go_simp
  · intro _ w' h
    have h : w'.cell? ⟨b, 7, none⟩ = some lv := h
    go_simp
  go_wp2
  refine ⟨⟨(hL4.alloc _).cell 0, (hL4.alloc _).cell 0, (hB4.alloc _).cell 7⟩, ?_⟩
  obtain ⟨i0, hi, hz0, hz1, hz2⟩ := info_parts infoLine
  refine ⟨by kernel_rfl, ?_⟩
  refine wpList_append_own_at _ rfl _ _ 61 rfl 0 70 i0 (.agg #[.int .i64 0, .int .i64 0, .int .i64 0, .int .i64 0]) 4 32 Try.underlying61 hi hz0 hz1 hz2 rfl (by decide) lv p.ln.length (p.ln.flatMap Mv.cells) rfl ((hW4.alloc _).drew) ⟨w4.heap.size, 0, none⟩ 1 1 [.int .i64 o.bk, .int .i64 fr, .int .i64 to, .int .i64 o.am] rfl rfl ?_ ?_ ?_ ?_ ?_ ?_
  · exact row_cells w4 70 [.int .i64 o.bk, .int .i64 fr, .int .i64 to, .int .i64 o.am]
  · intro u hu
    simp at hu
    rcases hu with rfl | rfl | rfl | rfl <;> rfl
  · unfold maxLen; omega
  · omega
  · exact Nat.zero_le _
  intro v' w5 hown5 hgr5 _ hloc
  have hC5 : Chg (fun i => lv.ownBlock = some i) w4 w5 := (((Chg.refl (fun i => lv.ownBlock = some i) w4).alloc _).drew).trans (own_grown hgr5) (fun _ _ h => h)
  have hbl : ¬ lv.ownBlock = some b := own_ne hW4 hB4 (by decide)
  have hml : ¬ lv.ownBlock = some mb := own_ne_map hM4 hW4
  have hLl : ¬ lv.ownBlock = some L := own_ne hW4 hL4 (by decide)
  have hXl : ¬ lv.ownBlock = some X := own_ne hW4 hX4 (by decide)
  have hOl : ¬ lv.ownBlock = some O := own_ne hW4 hO4 (by decide)
  have hB5 := hB4.chg hC5 hbl
  have hL5 := hL4.chg hC5 hLl
  have hX5 := hX4.chg hC5 hXl
  have hO5 := hO4.chg hC5 hOl
  have hM5 := hM4.chg hC5 hml
  have hloc' : v'.ownBlock = lv.ownBlock ∨ ∃ k, v'.ownBlock = some k ∧ w.heap.size ≤ k := hloc.imp id fun h => ⟨_, h, by have := hC4.size; simp; omega⟩
  have hC05 : Chg (fun i => i = b ∨ lv.ownBlock = some i) w w5 := (hC4.mono (fun _ _ h => .inl h)).trans hC5 (fun _ _ h => .inr h)
  have hnil : p.ln.length + 1 ≠ 0 := by omega
  obtain ⟨g5, c5, rfl⟩ : ∃ g c, v' = .slice (some ⟨g, 0, none⟩) (p.ln.length + 1) c := by
    rcases hown5.2 with ⟨_, h⟩ | ⟨g, c, _, rfl, _⟩
    · exact absurd h hnil
    · exact ⟨g, c, rfl⟩
  clear hgr5 hloc hC5 hB4 hL4 hX4 hO4 hM4 hW4 cL cO1 cB7
  have cL : w5.cell? ⟨L, 0, none⟩ = some (.pointer (some ⟨b, 0, none⟩)) := by rw [hL5.cell]; rfl
  have cB7 : w5.cell? ⟨b, 7, none⟩ = some lv := by rw [hB5.cell]; rfl
  have fB7 : w5.frozen? ⟨b, 7, none⟩ = false := hB5.frozen _
  refine ⟨cL, ?_⟩
  go_wp2
  refine ⟨by kernel_rfl, ?_⟩
  go_wp2
  refine ⟨by kernel_rfl, ?_⟩
  have hB6 : Blk (w5.setCell ⟨b, 7, none⟩ (.slice (some ⟨g5, 0, none⟩) (p.ln.length + 1) c5)) b 66 (purRow (mvd p.ac fr to o.am) mb (.slice (some ⟨g5, 0, none⟩) (p.ln.length + 1) c5)) := by
    have h := hB5.set 7 (.slice (some ⟨g5, 0, none⟩) (p.ln.length + 1) c5)
    rw [purRow_slice] at h
    exact h
  have hC56 : Chg (fun i => i = b) w5 (w5.setCell ⟨b, 7, none⟩ (.slice (some ⟨g5, 0, none⟩) (p.ln.length + 1) c5)) := (Chg.refl (fun i => i = b) w5).setCell (.inl rfl) _
  generalize w5.setCell ⟨b, 7, none⟩ (.slice (some ⟨g5, 0, none⟩) (p.ln.length + 1) c5) = w6 at hB6 hC56 ⊢
  have hX6 := hX5.chg hC56 hXb
  have hO6 := hO5.chg hC56 hOb
  have hL6 := hL5.chg hC56 hLb
  have hM6 := hM5.chg hC56 (hM5.ne hB5)
  have hW6 := own_chg hown5 hC56 (fun k hk e => own_ne hown5 hB5 (by decide) (by rw [hk, e]))
  have hC06 : Chg (fun i => i = b ∨ lv.ownBlock = some i) w w6 := hC05.trans hC56 (fun _ _ h => .inl h)
  clear hB5 hX5 hO5 hL5 hM5 hown5 hC05 hC56 cL cB7 fB7
  have cX0 : w6.cell? ⟨X, 0, none⟩ = some (.int .i64 x.st) := by rw [hX6.cell]; rfl
  have cX1 : w6.cell? ⟨X, 1, none⟩ = some (.int .i64 x.un) := by rw [hX6.cell]; rfl
  have cX2 : w6.cell? ⟨X, 2, none⟩ = some (.int .i64 x.til) := by rw [hX6.cell]; rfl
  have cX3 : w6.cell? ⟨X, 3, none⟩ = some (.int .i64 x.cu) := by rw [hX6.cell]; rfl
  have cX4 : w6.cell? ⟨X, 4, none⟩ = some (.int .i64 x.am) := by rw [hX6.cell]; rfl
  have fX : ∀ i, w6.frozen? ⟨X, i, none⟩ = false := hX6.frozen
  have cO1 : w6.cell? ⟨O, 1, none⟩ = some (.int .i64 o.bk) := by rw [hO6.cell]; rfl
  have cO3 : w6.cell? ⟨O, 3, none⟩ = some (.int .i64 o.cu) := by rw [hO6.cell]; rfl
  have cO4 : w6.cell? ⟨O, 4, none⟩ = some (.int .i64 o.am) := by rw [hO6.cell]; rfl
  have cL : w6.cell? ⟨L, 0, none⟩ = some (.pointer (some ⟨b, 0, none⟩)) := by rw [hL6.cell]; rfl
  have cB6 : w6.cell? ⟨b, 6, none⟩ = some (.map (some mb)) := by rw [hB6.cell]; rfl
  have hXO : X ≠ O := hX6.ne hO6 (by decide)
  have hXL : X ≠ L := hX6.ne hL6 (by decide)
  have hMX : ¬ mb = X := hM6.ne hX6
  go_wp2
  refine wp_region_plan (by kernel_rfl) [{ fl := [0, 1, 2, 3, 4], long := [3], ef := 5, keep := [3] }, { fl := [6], ef := 7 }] [] (by kernel_rfl) (fun _ w' => w'.cell? ⟨O, 4, none⟩ = some (.int .i64 o.am)) ?_
  simp only [wpPlan, longOK, keepOK, opsAt, List.filterMap_cons, List.getElem?_toArray, List.getElem?_cons_succ, List.getElem?_cons_zero, List.filterMap_nil, and_true, true_and]
  refine ⟨cO4, ?_⟩
  go_wp2
  refine ⟨by kernel_rfl, ?_, ?_⟩
  · intro _ w' h
    go_simp
  go_wp2
  refine ⟨(hO6.far (p := ⟨X, 3, none⟩) hXO.symm _).cell 4, ?_⟩
  go_wp2
  refine ⟨by kernel_rfl, ?_⟩
  go_wp2
  refine ⟨by kernel_rfl, ?_⟩
  go_wp2
  refine wp_region_plan (by kernel_rfl) [{ fl := [0, 1, 2, 3, 4, 5, 6], ef := 7 }] [] (by kernel_rfl) (fun _ _ => True) ?_
  simp only [wpPlan, longOK, keepOK, opsAt, List.filterMap_cons, List.getElem?_toArray, List.getElem?_cons_succ, List.getElem?_cons_zero, List.filterMap_nil, true_and]
  go_wp2
  refine ⟨by kernel_rfl, ?_⟩
  have hC6X := ((((Chg.refl (fun i => i = X) w6).setCell (p := ⟨X, 3, none⟩) (.inl rfl) (.int .i64 o.cu)).setCell (p := ⟨X, 4, none⟩) (.inl rfl) (.int .i64 o.am)).setCell (p := ⟨X, 0, none⟩) (.inl rfl) (.int .i64 4)).drew.drew
  refine wpList_mapStore (enc := encI) (e := 44) rfl _ _ _ 64 rfl law3 Try.underlying64 encI_inj (b := mb) (f := entMap p.en) (hM6.chg hC6X hMX) (entMap_keys hP.keys) rfl o.bk rfl (keyI hbk) (Ent.val ⟨4, x.un, x.til, o.cu, o.am⟩) rfl ?_
  intro w' hm hc hsz hdr
  have hCX : Chg (fun i => i = X ∨ i = mb) w6 w' := (hC6X.mono (fun _ _ h => .inl h)).trans hc (fun _ _ h => .inr h)
  have hBX : ¬ (b = X ∨ b = mb) := by
    rintro (h | h)
    · exact hXb h.symm
    · exact hM6.ne hB6 h.symm
  have hfin : PurAt w' b mb (.slice (some ⟨g5, 0, none⟩) (p.ln.length + 1) c5) (p.move o.bk fr to o.am ⟨4, x.un, x.til, o.cu, o.am⟩) := ⟨hB6.chg hCX hBX, by rw [entMap_upd _ _ _ (by simp)] at hm; exact hm, by
      have h := own_chg hW6 hCX (fun k hk => by
        rintro (h | h)
        · exact own_ne hW6 hX6 (by decide) (by rw [hk, h])
        · exact own_ne_map hM6 hW6 (by rw [hk, h]))
      simpa [Pur.move, List.flatMap_append, Mv.cells] using h, fun k hk => by
      by_cases e : k = o.bk
      · rw [e]; exact hbk
      · simp only [Pur.move, if_neg e] at hk; exact hP.keys k hk⟩
  have hch : Chg (fun i => i = b ∨ i = mb ∨ i = X ∨ lv.ownBlock = some i) w w' := (hC06.mono (fun i _ h => by rcases h with h | h <;> simp [h])).trans hCX (fun i _ h => by rcases h with h | h <;> simp [h])
  clear hm hc hsz hdr hCX hC6X
  go_wp2
  refine ⟨by kernel_rfl, ?_⟩
  go_wp2
  go_ret
  exact ⟨rfl, _, hfin, hch, hloc'⟩

set_option maxRecDepth 100000 in
set_option maxHeartbeats 2000000 in
theorem move_capt (w : World) (b mb X O L : Nat) (lv : Value) (p : Pur) (o : POp) (x : Ent) (fr to : Nat) (hP : PurAt w b mb lv p) (hX : Blk w X 44 x.row) (hO : Blk w O 33 o.row)
    (hL : Blk w L 24 #[.pointer (some ⟨b, 0, none⟩)]) (hbk : 1 ≤ o.bk ∧ o.bk ≤ 200) (hfr : fr < 6) (hto : to < 6) (hfr4 : 4 ≤ fr)
    (ham0 : 0 ≤ x.am) (ham1 : x.am ≤ 1099511627776) (hf0 : -1125899906842624 ≤ p.ac fr) (hf1 : p.ac fr ≤ 1125899906842624) (ht0 : -1125899906842624 ≤ p.ac to) (ht1 : p.ac to ≤ 1125899906842624) (hlen : p.ln.length ≤ 1000000) :
    Calls Try.prog 29 #[.int .i64 fr, .int .i64 to, .int .i64 5, .pointer (some ⟨X, 0, none⟩), .pointer (some ⟨O, 0, none⟩), .pointer (some ⟨L, 0, none⟩)] w fun e w' => e = .returned (.int .i64 1) ∧
      ∃ lv', PurAt w' b mb lv' (p.move o.bk fr to x.am ⟨5, x.un, x.til, x.cu, x.am⟩) ∧ Chg (fun i => i = b ∨ i = mb ∨ i = X ∨ lv.ownBlock = some i) w w' ∧ (lv'.ownBlock = lv.ownBlock ∨ ∃ k, lv'.ownBlock = some k ∧ w.heap.size ≤ k) := by
  have cX0 : w.cell? ⟨X, 0, none⟩ = some (.int .i64 x.st) := by rw [hX.cell]; rfl
  have cX4 : w.cell? ⟨X, 4, none⟩ = some (.int .i64 x.am) := by rw [hX.cell]; rfl
  have cO4 : w.cell? ⟨O, 4, none⟩ = some (.int .i64 o.am) := by rw [hO.cell]; rfl
  have cL : w.cell? ⟨L, 0, none⟩ = some (.pointer (some ⟨b, 0, none⟩)) := by rw [hL.cell]; rfl
  have cfr : w.cell? ⟨b, fr, none⟩ = some (.int .i64 (p.ac fr)) := by rw [hP.blk.cell]; exact purRow_get _ _ _ _ hfr
  have cto : w.cell? ⟨b, to, none⟩ = some (.int .i64 (p.ac to)) := by rw [hP.blk.cell]; exact purRow_get _ _ _ _ hto
  have ffr : w.frozen? ⟨b, fr, none⟩ = false := hP.blk.frozen _
  have fto : w.frozen? ⟨b, to, none⟩ = false := hP.blk.frozen _
  have bfr : (0 : Int) ≤ fr ∧ (fr : Int) < 6 := by omega
  have bto : (0 : Int) ≤ to ∧ (to : Int) < 6 := by omega
  have hLb : L ≠ b := (hL.ne hP.blk (by decide))
  have hOb : O ≠ b := (hO.ne hP.blk (by decide))
  have hXb : X ≠ b := (hX.ne hP.blk (by decide))
  go_enter Try.func29, Try.ntmps29
  go_wp2
  refine wp_region_plan (by kernel_rfl) [{ fl := [0, 1, 2, 3, 4, 5, 6, 7, 8, 9, 10, 11, 12, 13, 14, 15, 16, 17, 18, 19, 20, 21, 22, 24, 25], long := [2], ef := 23, keep := [2] }, { fl := [26], ef := 27 }] [] (by kernel_rfl) (fun _ w' => w'.cell? ⟨L, 0, none⟩ = some (.pointer (some ⟨b, 0, none⟩))) ?_
  simp only [wpPlan, longOK, keepOK, opsAt, List.filterMap_cons, List.getElem?_toArray, List.getElem?_cons_succ, List.getElem?_cons_zero, List.filterMap_nil, and_true, true_and]
  refine ⟨cL, ?_⟩
  go_wp2
  refine ⟨by kernel_rfl, ?_, ?_⟩
  · intro _ w' h
    go_simp
  go_wp2
  refine ⟨(hL.far (p := ⟨b, fr, none⟩) hLb _).cell 0, ?_⟩
  go_wp2
  refine ⟨by kernel_rfl, ?_⟩
  have cto2 : (w.setCell ⟨b, fr, none⟩ (.int .i64 (p.ac fr - x.am))).cell? ⟨b, to, none⟩ = some (.int .i64 (upd p.ac fr (p.ac fr - x.am) to)) := ((hP.blk.set fr (.int .i64 (p.ac fr - x.am))).cell to).trans (by rw [purRow_set _ _ _ _ hfr]; exact purRow_get _ _ _ _ hto)
  have fto2 := (hP.blk.set fr (.int .i64 (p.ac fr - x.am))).frozen to
  go_wp2
  refine ⟨by kernel_rfl, ?_⟩
  have hB4 : Blk ((w.setCell ⟨b, fr, none⟩ (.int .i64 (p.ac fr - x.am))).setCell ⟨b, to, none⟩ (.int .i64 (p.ac to + x.am))).drew b 66 (purRow (mvd p.ac fr to x.am) mb lv) := by
    have h := (hP.blk.set fr (.int .i64 (p.ac fr - x.am))).set to (.int .i64 (p.ac to + x.am))
    rw [purRow_set _ _ _ _ hfr, purRow_set _ _ _ _ hto, mvd_upd] at h
    exact h
  have hC4 : Chg (fun i => i = b) w ((w.setCell ⟨b, fr, none⟩ (.int .i64 (p.ac fr - x.am))).setCell ⟨b, to, none⟩ (.int .i64 (p.ac to + x.am))).drew := (((Chg.refl (fun i => i = b) w).setCell (.inl rfl) _).setCell (.inl rfl) _).drew
  generalize ((w.setCell ⟨b, fr, none⟩ (.int .i64 (p.ac fr - x.am))).setCell ⟨b, to, none⟩ (.int .i64 (p.ac to + x.am))).drew = w4 at hB4 hC4 ⊢
  have hL4 := hL.chg hC4 hLb
  have hX4 := hX.chg hC4 hXb
  have hO4 := hO.chg hC4 hOb
  have hM4 := hP.map.chg hC4 (hP.map.ne hP.blk)
  have hW4 := own_chg hP.own hC4 (fun k hk e => own_ne hP.own hP.blk (by decide) (by rw [hk, e]))
  clear cX0 cX4 cO4 cL cfr cto ffr fto cto2 fto2
  have cL : w4.cell? ⟨L, 0, none⟩ = some (.pointer (some ⟨b, 0, none⟩)) := by rw [hL4.cell]; rfl
  have cO1 : w4.cell? ⟨O, 1, none⟩ = some (.int .i64 o.bk) := by rw [hO4.cell]; rfl
  have cB7 : w4.cell? ⟨b, 7, none⟩ = some lv := by rw [hB4.cell]; rfl
  go_wp2
  refine wp_region_plan (by kernel_rfl) [{ fl := [0, 1, 2, 3, 4, 5, 6, 7, 8, 9, 10], long := [0, 1, 4], ef := 11, keep := [0, 1, 4] }, { fl := [], ef := 12, keep := [0] }, { fl := [13, 14], ef := 15 }] [] (by kernel_rfl) (fun i w' => if i = 4 then w'.cell? ⟨b, 7, none⟩ = some lv else w'.cell? ⟨L, 0, none⟩ = some (.pointer (some ⟨b, 0, none⟩))) ?_
  simp only [wpPlan, longOK, keepOK, opsAt, List.filterMap_cons, List.getElem?_toArray, List.getElem?_cons_succ, List.getElem?_cons_zero, List.filterMap_nil, and_true, true_and]
  refine ⟨⟨cL, cL, cB7⟩, ?_⟩
  go_wp2
  refine ⟨by kernel_rfl, ⟨?_, ?_, ?_⟩, ?_⟩
  · intro _ w' h
    have h : w'.cell? ⟨L, 0, none⟩ = some (.pointer (some ⟨b, 0, none⟩)) := h
    go_simp
  · intro _ w' h
    have h : w'.cell? ⟨L, 0, none⟩ = some (.pointer (some ⟨b, 0, none⟩)) := h
    go_simp
  · intro _ w' h
    have h : w'.cell? ⟨b, 7, none⟩ = some lv := h
    go_simp
  go_wp2
  refine ⟨⟨(hL4.alloc _).cell 0, (hL4.alloc _).cell 0, (hB4.alloc _).cell 7⟩, ?_⟩
  obtain ⟨i0, hi, hz0, hz1, hz2⟩ := info_parts infoLine
  refine ⟨by kernel_rfl, ?_⟩
  refine wpList_append_own_at _ rfl _ _ 61 rfl 0 70 i0 (.agg #[.int .i64 0, .int .i64 0, .int .i64 0, .int .i64 0]) 4 32 Try.underlying61 hi hz0 hz1 hz2 rfl (by decide) lv p.ln.length (p.ln.flatMap Mv.cells) rfl ((hW4.alloc _).drew) ⟨w4.heap.size, 0, none⟩ 1 1 [.int .i64 o.bk, .int .i64 fr, .int .i64 to, .int .i64 x.am] rfl rfl ?_ ?_ ?_ ?_ ?_ ?_
  · exact row_cells w4 70 [.int .i64 o.bk, .int .i64 fr, .int .i64 to, .int .i64 x.am]
  · intro u hu
    simp at hu
    rcases hu with rfl | rfl | rfl | rfl <;> rfl
  · unfold maxLen; omega
  · omega
  · exact Nat.zero_le _
  intro v' w5 hown5 hgr5 _ hloc
  have hC5 : Chg (fun i => lv.ownBlock = some i) w4 w5 := (((Chg.refl (fun i => lv.ownBlock = some i) w4).alloc _).drew).trans (own_grown hgr5) (fun _ _ h => h)
  have hbl : ¬ lv.ownBlock = some b := own_ne hW4 hB4 (by decide)
  have hml : ¬ lv.ownBlock = some mb := own_ne_map hM4 hW4
  have hLl : ¬ lv.ownBlock = some L := own_ne hW4 hL4 (by decide)
  have hXl : ¬ lv.ownBlock = some X := own_ne hW4 hX4 (by decide)
  have hOl : ¬ lv.ownBlock = some O := own_ne hW4 hO4 (by decide)
  have hB5 := hB4.chg hC5 hbl
  have hL5 := hL4.chg hC5 hLl
  have hX5 := hX4.chg hC5 hXl
  have hO5 := hO4.chg hC5 hOl
  have hM5 := hM4.chg hC5 hml
  have hloc' : v'.ownBlock = lv.ownBlock ∨ ∃ k, v'.ownBlock = some k ∧ w.heap.size ≤ k := hloc.imp id fun h => ⟨_, h, by have := hC4.size; simp; omega⟩
  have hC05 : Chg (fun i => i = b ∨ lv.ownBlock = some i) w w5 := (hC4.mono (fun _ _ h => .inl h)).trans hC5 (fun _ _ h => .inr h)
  have hnil : p.ln.length + 1 ≠ 0 := by omega
  obtain ⟨g5, c5, rfl⟩ : ∃ g c, v' = .slice (some ⟨g, 0, none⟩) (p.ln.length + 1) c := by
    rcases hown5.2 with ⟨_, h⟩ | ⟨g, c, _, rfl, _⟩
    · exact absurd h hnil
    · exact ⟨g, c, rfl⟩
  clear hgr5 hloc hC5 hB4 hL4 hX4 hO4 hM4 hW4 cL cO1 cB7
  have cL : w5.cell? ⟨L, 0, none⟩ = some (.pointer (some ⟨b, 0, none⟩)) := by rw [hL5.cell]; rfl
  have cB7 : w5.cell? ⟨b, 7, none⟩ = some lv := by rw [hB5.cell]; rfl
  have fB7 : w5.frozen? ⟨b, 7, none⟩ = false := hB5.frozen _
  refine ⟨cL, ?_⟩
  go_wp2
  refine ⟨by kernel_rfl, ?_⟩
  go_wp2
  refine ⟨by kernel_rfl, ?_⟩
  have hB6 : Blk (w5.setCell ⟨b, 7, none⟩ (.slice (some ⟨g5, 0, none⟩) (p.ln.length + 1) c5)) b 66 (purRow (mvd p.ac fr to x.am) mb (.slice (some ⟨g5, 0, none⟩) (p.ln.length + 1) c5)) := by
    have h := hB5.set 7 (.slice (some ⟨g5, 0, none⟩) (p.ln.length + 1) c5)
    rw [purRow_slice] at h
    exact h
  have hC56 : Chg (fun i => i = b) w5 (w5.setCell ⟨b, 7, none⟩ (.slice (some ⟨g5, 0, none⟩) (p.ln.length + 1) c5)) := (Chg.refl (fun i => i = b) w5).setCell (.inl rfl) _
  generalize w5.setCell ⟨b, 7, none⟩ (.slice (some ⟨g5, 0, none⟩) (p.ln.length + 1) c5) = w6 at hB6 hC56 ⊢
  have hX6 := hX5.chg hC56 hXb
  have hO6 := hO5.chg hC56 hOb
  have hL6 := hL5.chg hC56 hLb
  have hM6 := hM5.chg hC56 (hM5.ne hB5)
  have hW6 := own_chg hown5 hC56 (fun k hk e => own_ne hown5 hB5 (by decide) (by rw [hk, e]))
  have hC06 : Chg (fun i => i = b ∨ lv.ownBlock = some i) w w6 := hC05.trans hC56 (fun _ _ h => .inl h)
  clear hB5 hX5 hO5 hL5 hM5 hown5 hC05 hC56 cL cB7 fB7
  have cX0 : w6.cell? ⟨X, 0, none⟩ = some (.int .i64 x.st) := by rw [hX6.cell]; rfl
  have cX1 : w6.cell? ⟨X, 1, none⟩ = some (.int .i64 x.un) := by rw [hX6.cell]; rfl
  have cX2 : w6.cell? ⟨X, 2, none⟩ = some (.int .i64 x.til) := by rw [hX6.cell]; rfl
  have cX3 : w6.cell? ⟨X, 3, none⟩ = some (.int .i64 x.cu) := by rw [hX6.cell]; rfl
  have cX4 : w6.cell? ⟨X, 4, none⟩ = some (.int .i64 x.am) := by rw [hX6.cell]; rfl
  have fX : ∀ i, w6.frozen? ⟨X, i, none⟩ = false := hX6.frozen
  have cO1 : w6.cell? ⟨O, 1, none⟩ = some (.int .i64 o.bk) := by rw [hO6.cell]; rfl
  have cO3 : w6.cell? ⟨O, 3, none⟩ = some (.int .i64 o.cu) := by rw [hO6.cell]; rfl
  have cO4 : w6.cell? ⟨O, 4, none⟩ = some (.int .i64 o.am) := by rw [hO6.cell]; rfl
  have cL : w6.cell? ⟨L, 0, none⟩ = some (.pointer (some ⟨b, 0, none⟩)) := by rw [hL6.cell]; rfl
  have cB6 : w6.cell? ⟨b, 6, none⟩ = some (.map (some mb)) := by rw [hB6.cell]; rfl
  have hXO : X ≠ O := hX6.ne hO6 (by decide)
  have hXL : X ≠ L := hX6.ne hL6 (by decide)
  have hMX : ¬ mb = X := hM6.ne hX6
  go_wp2
  refine wp_region_plan (by kernel_rfl) [{ fl := [0, 1, 2, 3, 4, 5, 6], ef := 7 }] [] (by kernel_rfl) (fun _ _ => True) ?_
  simp only [wpPlan, longOK, keepOK, opsAt, List.filterMap_cons, List.getElem?_toArray, List.getElem?_cons_succ, List.getElem?_cons_zero, List.filterMap_nil, true_and]
  go_wp2
  refine ⟨by kernel_rfl, ?_⟩
  have hC6X := ((Chg.refl (fun i => i = X) w6).setCell (p := ⟨X, 0, none⟩) (.inl rfl) (.int .i64 5)).drew
  refine wpList_mapStore (enc := encI) (e := 44) rfl _ _ _ 64 rfl law3 Try.underlying64 encI_inj (b := mb) (f := entMap p.en) (hM6.chg hC6X hMX) (entMap_keys hP.keys) rfl o.bk rfl (keyI hbk) (Ent.val ⟨5, x.un, x.til, x.cu, x.am⟩) rfl ?_
  intro w' hm hc hsz hdr
  have hCX : Chg (fun i => i = X ∨ i = mb) w6 w' := (hC6X.mono (fun _ _ h => .inl h)).trans hc (fun _ _ h => .inr h)
  have hBX : ¬ (b = X ∨ b = mb) := by
    rintro (h | h)
    · exact hXb h.symm
    · exact hM6.ne hB6 h.symm
  have hfin : PurAt w' b mb (.slice (some ⟨g5, 0, none⟩) (p.ln.length + 1) c5) (p.move o.bk fr to x.am ⟨5, x.un, x.til, x.cu, x.am⟩) := ⟨hB6.chg hCX hBX, by rw [entMap_upd _ _ _ (by simp)] at hm; exact hm, by
      have h := own_chg hW6 hCX (fun k hk => by
        rintro (h | h)
        · exact own_ne hW6 hX6 (by decide) (by rw [hk, h])
        · exact own_ne_map hM6 hW6 (by rw [hk, h]))
      simpa [Pur.move, List.flatMap_append, Mv.cells] using h, fun k hk => by
      by_cases e : k = o.bk
      · rw [e]; exact hbk
      · simp only [Pur.move, if_neg e] at hk; exact hP.keys k hk⟩
  have hch : Chg (fun i => i = b ∨ i = mb ∨ i = X ∨ lv.ownBlock = some i) w w' := (hC06.mono (fun i _ h => by rcases h with h | h <;> simp [h])).trans hCX (fun i _ h => by rcases h with h | h <;> simp [h])
  clear hm hc hsz hdr hCX hC6X
  go_wp2
  refine ⟨by kernel_rfl, ?_⟩
  go_wp2
  go_ret
  exact ⟨rfl, _, hfin, hch, hloc'⟩

set_option maxRecDepth 100000 in
set_option maxHeartbeats 2000000 in
theorem move_void (w : World) (b mb X O L : Nat) (lv : Value) (p : Pur) (o : POp) (x : Ent) (fr to : Nat) (hP : PurAt w b mb lv p) (hX : Blk w X 44 x.row) (hO : Blk w O 33 o.row)
    (hL : Blk w L 24 #[.pointer (some ⟨b, 0, none⟩)]) (hbk : 1 ≤ o.bk ∧ o.bk ≤ 200) (hfr : fr < 6) (hto : to < 6) (hfr4 : 4 ≤ fr)
    (ham0 : 0 ≤ x.am) (ham1 : x.am ≤ 1099511627776) (hf0 : -1125899906842624 ≤ p.ac fr) (hf1 : p.ac fr ≤ 1125899906842624) (ht0 : -1125899906842624 ≤ p.ac to) (ht1 : p.ac to ≤ 1125899906842624) (hlen : p.ln.length ≤ 1000000) :
    Calls Try.prog 29 #[.int .i64 fr, .int .i64 to, .int .i64 3, .pointer (some ⟨X, 0, none⟩), .pointer (some ⟨O, 0, none⟩), .pointer (some ⟨L, 0, none⟩)] w fun e w' => e = .returned (.int .i64 1) ∧
      ∃ lv', PurAt w' b mb lv' (p.move o.bk fr to x.am Ent.gone) ∧ Chg (fun i => i = b ∨ i = mb ∨ i = X ∨ lv.ownBlock = some i) w w' ∧ (lv'.ownBlock = lv.ownBlock ∨ ∃ k, lv'.ownBlock = some k ∧ w.heap.size ≤ k) := by
  have cX0 : w.cell? ⟨X, 0, none⟩ = some (.int .i64 x.st) := by rw [hX.cell]; rfl
  have cX4 : w.cell? ⟨X, 4, none⟩ = some (.int .i64 x.am) := by rw [hX.cell]; rfl
  have cO4 : w.cell? ⟨O, 4, none⟩ = some (.int .i64 o.am) := by rw [hO.cell]; rfl
  have cL : w.cell? ⟨L, 0, none⟩ = some (.pointer (some ⟨b, 0, none⟩)) := by rw [hL.cell]; rfl
  have cfr : w.cell? ⟨b, fr, none⟩ = some (.int .i64 (p.ac fr)) := by rw [hP.blk.cell]; exact purRow_get _ _ _ _ hfr
  have cto : w.cell? ⟨b, to, none⟩ = some (.int .i64 (p.ac to)) := by rw [hP.blk.cell]; exact purRow_get _ _ _ _ hto
  have ffr : w.frozen? ⟨b, fr, none⟩ = false := hP.blk.frozen _
  have fto : w.frozen? ⟨b, to, none⟩ = false := hP.blk.frozen _
  have bfr : (0 : Int) ≤ fr ∧ (fr : Int) < 6 := by omega
  have bto : (0 : Int) ≤ to ∧ (to : Int) < 6 := by omega
  have hLb : L ≠ b := (hL.ne hP.blk (by decide))
  have hOb : O ≠ b := (hO.ne hP.blk (by decide))
  have hXb : X ≠ b := (hX.ne hP.blk (by decide))
  go_enter Try.func29, Try.ntmps29
  go_wp2
  refine wp_region_plan (by kernel_rfl) [{ fl := [0, 1, 2, 3, 4, 5, 6, 7, 8, 9, 10, 11, 12, 13, 14, 15, 16, 17, 18, 19, 20, 21, 22, 24, 25], long := [2], ef := 23, keep := [2] }, { fl := [26], ef := 27 }] [] (by kernel_rfl) (fun _ w' => w'.cell? ⟨L, 0, none⟩ = some (.pointer (some ⟨b, 0, none⟩))) ?_
  simp only [wpPlan, longOK, keepOK, opsAt, List.filterMap_cons, List.getElem?_toArray, List.getElem?_cons_succ, List.getElem?_cons_zero, List.filterMap_nil, and_true, true_and]
  refine ⟨cL, ?_⟩
  go_wp2
  refine ⟨by kernel_rfl, ?_, ?_⟩
  · intro _ w' h
    go_simp
  go_wp2
  refine ⟨(hL.far (p := ⟨b, fr, none⟩) hLb _).cell 0, ?_⟩
  go_wp2
  refine ⟨by kernel_rfl, ?_⟩
  have cto2 : (w.setCell ⟨b, fr, none⟩ (.int .i64 (p.ac fr - x.am))).cell? ⟨b, to, none⟩ = some (.int .i64 (upd p.ac fr (p.ac fr - x.am) to)) := ((hP.blk.set fr (.int .i64 (p.ac fr - x.am))).cell to).trans (by rw [purRow_set _ _ _ _ hfr]; exact purRow_get _ _ _ _ hto)
  have fto2 := (hP.blk.set fr (.int .i64 (p.ac fr - x.am))).frozen to
  go_wp2
  refine ⟨by kernel_rfl, ?_⟩
  have hB4 : Blk ((w.setCell ⟨b, fr, none⟩ (.int .i64 (p.ac fr - x.am))).setCell ⟨b, to, none⟩ (.int .i64 (p.ac to + x.am))).drew b 66 (purRow (mvd p.ac fr to x.am) mb lv) := by
    have h := (hP.blk.set fr (.int .i64 (p.ac fr - x.am))).set to (.int .i64 (p.ac to + x.am))
    rw [purRow_set _ _ _ _ hfr, purRow_set _ _ _ _ hto, mvd_upd] at h
    exact h
  have hC4 : Chg (fun i => i = b) w ((w.setCell ⟨b, fr, none⟩ (.int .i64 (p.ac fr - x.am))).setCell ⟨b, to, none⟩ (.int .i64 (p.ac to + x.am))).drew := (((Chg.refl (fun i => i = b) w).setCell (.inl rfl) _).setCell (.inl rfl) _).drew
  generalize ((w.setCell ⟨b, fr, none⟩ (.int .i64 (p.ac fr - x.am))).setCell ⟨b, to, none⟩ (.int .i64 (p.ac to + x.am))).drew = w4 at hB4 hC4 ⊢
  have hL4 := hL.chg hC4 hLb
  have hX4 := hX.chg hC4 hXb
  have hO4 := hO.chg hC4 hOb
  have hM4 := hP.map.chg hC4 (hP.map.ne hP.blk)
  have hW4 := own_chg hP.own hC4 (fun k hk e => own_ne hP.own hP.blk (by decide) (by rw [hk, e]))
  clear cX0 cX4 cO4 cL cfr cto ffr fto cto2 fto2
  have cL : w4.cell? ⟨L, 0, none⟩ = some (.pointer (some ⟨b, 0, none⟩)) := by rw [hL4.cell]; rfl
  have cO1 : w4.cell? ⟨O, 1, none⟩ = some (.int .i64 o.bk) := by rw [hO4.cell]; rfl
  have cB7 : w4.cell? ⟨b, 7, none⟩ = some lv := by rw [hB4.cell]; rfl
  go_wp2
  refine wp_region_plan (by kernel_rfl) [{ fl := [0, 1, 2, 3, 4, 5, 6, 7, 8, 9, 10], long := [0, 1, 4], ef := 11, keep := [0, 1, 4] }, { fl := [], ef := 12, keep := [0] }, { fl := [13, 14], ef := 15 }] [] (by kernel_rfl) (fun i w' => if i = 4 then w'.cell? ⟨b, 7, none⟩ = some lv else w'.cell? ⟨L, 0, none⟩ = some (.pointer (some ⟨b, 0, none⟩))) ?_
  simp only [wpPlan, longOK, keepOK, opsAt, List.filterMap_cons, List.getElem?_toArray, List.getElem?_cons_succ, List.getElem?_cons_zero, List.filterMap_nil, and_true, true_and]
  refine ⟨⟨cL, cL, cB7⟩, ?_⟩
  go_wp2
  refine ⟨by kernel_rfl, ⟨?_, ?_, ?_⟩, ?_⟩
  · intro _ w' h
    have h : w'.cell? ⟨L, 0, none⟩ = some (.pointer (some ⟨b, 0, none⟩)) := h
    go_simp
  · intro _ w' h
    have h : w'.cell? ⟨L, 0, none⟩ = some (.pointer (some ⟨b, 0, none⟩)) := h
    go_simp
  · intro _ w' h
    have h : w'.cell? ⟨b, 7, none⟩ = some lv := h
    go_simp
  go_wp2
  refine ⟨⟨(hL4.alloc _).cell 0, (hL4.alloc _).cell 0, (hB4.alloc _).cell 7⟩, ?_⟩
  obtain ⟨i0, hi, hz0, hz1, hz2⟩ := info_parts infoLine
  refine ⟨by kernel_rfl, ?_⟩
  refine wpList_append_own_at _ rfl _ _ 61 rfl 0 70 i0 (.agg #[.int .i64 0, .int .i64 0, .int .i64 0, .int .i64 0]) 4 32 Try.underlying61 hi hz0 hz1 hz2 rfl (by decide) lv p.ln.length (p.ln.flatMap Mv.cells) rfl ((hW4.alloc _).drew) ⟨w4.heap.size, 0, none⟩ 1 1 [.int .i64 o.bk, .int .i64 fr, .int .i64 to, .int .i64 x.am] rfl rfl ?_ ?_ ?_ ?_ ?_ ?_
  · exact row_cells w4 70 [.int .i64 o.bk, .int .i64 fr, .int .i64 to, .int .i64 x.am]
  · intro u hu
    simp at hu
    rcases hu with rfl | rfl | rfl | rfl <;> rfl
  · unfold maxLen; omega
  · omega
  · exact Nat.zero_le _
  intro v' w5 hown5 hgr5 _ hloc
  have hC5 : Chg (fun i => lv.ownBlock = some i) w4 w5 := (((Chg.refl (fun i => lv.ownBlock = some i) w4).alloc _).drew).trans (own_grown hgr5) (fun _ _ h => h)
  have hbl : ¬ lv.ownBlock = some b := own_ne hW4 hB4 (by decide)
  have hml : ¬ lv.ownBlock = some mb := own_ne_map hM4 hW4
  have hLl : ¬ lv.ownBlock = some L := own_ne hW4 hL4 (by decide)
  have hXl : ¬ lv.ownBlock = some X := own_ne hW4 hX4 (by decide)
  have hOl : ¬ lv.ownBlock = some O := own_ne hW4 hO4 (by decide)
  have hB5 := hB4.chg hC5 hbl
  have hL5 := hL4.chg hC5 hLl
  have hX5 := hX4.chg hC5 hXl
  have hO5 := hO4.chg hC5 hOl
  have hM5 := hM4.chg hC5 hml
  have hloc' : v'.ownBlock = lv.ownBlock ∨ ∃ k, v'.ownBlock = some k ∧ w.heap.size ≤ k := hloc.imp id fun h => ⟨_, h, by have := hC4.size; simp; omega⟩
  have hC05 : Chg (fun i => i = b ∨ lv.ownBlock = some i) w w5 := (hC4.mono (fun _ _ h => .inl h)).trans hC5 (fun _ _ h => .inr h)
  have hnil : p.ln.length + 1 ≠ 0 := by omega
  obtain ⟨g5, c5, rfl⟩ : ∃ g c, v' = .slice (some ⟨g, 0, none⟩) (p.ln.length + 1) c := by
    rcases hown5.2 with ⟨_, h⟩ | ⟨g, c, _, rfl, _⟩
    · exact absurd h hnil
    · exact ⟨g, c, rfl⟩
  clear hgr5 hloc hC5 hB4 hL4 hX4 hO4 hM4 hW4 cL cO1 cB7
  have cL : w5.cell? ⟨L, 0, none⟩ = some (.pointer (some ⟨b, 0, none⟩)) := by rw [hL5.cell]; rfl
  have cB7 : w5.cell? ⟨b, 7, none⟩ = some lv := by rw [hB5.cell]; rfl
  have fB7 : w5.frozen? ⟨b, 7, none⟩ = false := hB5.frozen _
  refine ⟨cL, ?_⟩
  go_wp2
  refine ⟨by kernel_rfl, ?_⟩
  go_wp2
  refine ⟨by kernel_rfl, ?_⟩
  have hB6 : Blk (w5.setCell ⟨b, 7, none⟩ (.slice (some ⟨g5, 0, none⟩) (p.ln.length + 1) c5)) b 66 (purRow (mvd p.ac fr to x.am) mb (.slice (some ⟨g5, 0, none⟩) (p.ln.length + 1) c5)) := by
    have h := hB5.set 7 (.slice (some ⟨g5, 0, none⟩) (p.ln.length + 1) c5)
    rw [purRow_slice] at h
    exact h
  have hC56 : Chg (fun i => i = b) w5 (w5.setCell ⟨b, 7, none⟩ (.slice (some ⟨g5, 0, none⟩) (p.ln.length + 1) c5)) := (Chg.refl (fun i => i = b) w5).setCell (.inl rfl) _
  generalize w5.setCell ⟨b, 7, none⟩ (.slice (some ⟨g5, 0, none⟩) (p.ln.length + 1) c5) = w6 at hB6 hC56 ⊢
  have hX6 := hX5.chg hC56 hXb
  have hO6 := hO5.chg hC56 hOb
  have hL6 := hL5.chg hC56 hLb
  have hM6 := hM5.chg hC56 (hM5.ne hB5)
  have hW6 := own_chg hown5 hC56 (fun k hk e => own_ne hown5 hB5 (by decide) (by rw [hk, e]))
  have hC06 : Chg (fun i => i = b ∨ lv.ownBlock = some i) w w6 := hC05.trans hC56 (fun _ _ h => .inl h)
  clear hB5 hX5 hO5 hL5 hM5 hown5 hC05 hC56 cL cB7 fB7
  have cX0 : w6.cell? ⟨X, 0, none⟩ = some (.int .i64 x.st) := by rw [hX6.cell]; rfl
  have cX1 : w6.cell? ⟨X, 1, none⟩ = some (.int .i64 x.un) := by rw [hX6.cell]; rfl
  have cX2 : w6.cell? ⟨X, 2, none⟩ = some (.int .i64 x.til) := by rw [hX6.cell]; rfl
  have cX3 : w6.cell? ⟨X, 3, none⟩ = some (.int .i64 x.cu) := by rw [hX6.cell]; rfl
  have cX4 : w6.cell? ⟨X, 4, none⟩ = some (.int .i64 x.am) := by rw [hX6.cell]; rfl
  have fX : ∀ i, w6.frozen? ⟨X, i, none⟩ = false := hX6.frozen
  have cO1 : w6.cell? ⟨O, 1, none⟩ = some (.int .i64 o.bk) := by rw [hO6.cell]; rfl
  have cO3 : w6.cell? ⟨O, 3, none⟩ = some (.int .i64 o.cu) := by rw [hO6.cell]; rfl
  have cO4 : w6.cell? ⟨O, 4, none⟩ = some (.int .i64 o.am) := by rw [hO6.cell]; rfl
  have cL : w6.cell? ⟨L, 0, none⟩ = some (.pointer (some ⟨b, 0, none⟩)) := by rw [hL6.cell]; rfl
  have cB6 : w6.cell? ⟨b, 6, none⟩ = some (.map (some mb)) := by rw [hB6.cell]; rfl
  have hXO : X ≠ O := hX6.ne hO6 (by decide)
  have hXL : X ≠ L := hX6.ne hL6 (by decide)
  have hMX : ¬ mb = X := hM6.ne hX6
  go_wp2
  refine wp_region_plan (by kernel_rfl) [{ fl := [0, 1, 2, 3, 4, 5, 6], ef := 7 }] [] (by kernel_rfl) (fun _ _ => True) ?_
  simp only [wpPlan, longOK, keepOK, opsAt, List.filterMap_cons, List.getElem?_toArray, List.getElem?_cons_succ, List.getElem?_cons_zero, List.filterMap_nil, true_and]
  go_wp2
  refine ⟨by kernel_rfl, ?_⟩
  have hC6X := (((((((Chg.refl (fun i => i = X) w6).setCell (p := ⟨X, 0, none⟩) (.inl rfl) (.int .i64 3)).setCell (p := ⟨X, 0, none⟩) (.inl rfl) (.int .i64 3)).setCell (p := ⟨X, 1, none⟩) (.inl rfl) (.int .i64 0)).setCell (p := ⟨X, 2, none⟩) (.inl rfl) (.int .i64 0)).setCell (p := ⟨X, 3, none⟩) (.inl rfl) (.int .i64 0)).setCell (p := ⟨X, 4, none⟩) (.inl rfl) (.int .i64 0)).drew
  refine wpList_mapStore (enc := encI) (e := 44) rfl _ _ _ 64 rfl law3 Try.underlying64 encI_inj (b := mb) (f := entMap p.en) (hM6.chg hC6X hMX) (entMap_keys hP.keys) rfl o.bk rfl (keyI hbk) (Ent.val Ent.gone) rfl ?_
  intro w' hm hc hsz hdr
  have hCX : Chg (fun i => i = X ∨ i = mb) w6 w' := (hC6X.mono (fun _ _ h => .inl h)).trans hc (fun _ _ h => .inr h)
  have hBX : ¬ (b = X ∨ b = mb) := by
    rintro (h | h)
    · exact hXb h.symm
    · exact hM6.ne hB6 h.symm
  have hfin : PurAt w' b mb (.slice (some ⟨g5, 0, none⟩) (p.ln.length + 1) c5) (p.move o.bk fr to x.am Ent.gone) := ⟨hB6.chg hCX hBX, by rw [entMap_upd _ _ _ (by simp [Ent.gone])] at hm; exact hm, by
      have h := own_chg hW6 hCX (fun k hk => by
        rintro (h | h)
        · exact own_ne hW6 hX6 (by decide) (by rw [hk, h])
        · exact own_ne_map hM6 hW6 (by rw [hk, h]))
      simpa [Pur.move, List.flatMap_append, Mv.cells] using h, fun k hk => by
      by_cases e : k = o.bk
      · rw [e]; exact hbk
      · simp only [Pur.move, if_neg e] at hk; exact hP.keys k hk⟩
  have hch : Chg (fun i => i = b ∨ i = mb ∨ i = X ∨ lv.ownBlock = some i) w w' := (hC06.mono (fun i _ h => by rcases h with h | h <;> simp [h])).trans hCX (fun i _ h => by rcases h with h | h <;> simp [h])
  clear hm hc hsz hdr hCX hC6X
  go_wp2
  refine ⟨by kernel_rfl, ?_⟩
  go_wp2
  go_ret
  exact ⟨rfl, _, hfin, hch, hloc'⟩
end Go.Proofs.Ytddnpjlcmokbiaa
