/-
  A map of entries by their bookings' numbers; a store at the operation.
-/
import Derived.Test.YtkbnojjmpmlgjaaGreatWant
import Derived.Test.YtkbnojjmpmlgjaaGreatLibMap
import Derived.Maps.AppendAt
namespace Go.Proofs.YtkbnojjmpmlgjaaGreat
open Go.RowKit Go.Maps

def encI (k : Int) : Value := .int .i64 k
theorem encI_inj : ∀ x y, encI x = encI y → x = y := fun x y h => by injection h
def Ent.row (e : Ent) : Array Value := #[.int .i64 e.st, .int .i64 e.un, .int .i64 e.til, .int .i64 e.cu, .int .i64 e.am]
def Ent.val (e : Ent) : Value := .agg e.row
def POp.row (o : POp) : Array Value := #[.int .i64 o.kd, .int .i64 o.bk, .int .i64 o.un, .int .i64 o.cu, .int .i64 o.am]
/-- The bookings that are there. -/
def entMap (en : Int → Ent) : Int → Option Value := fun k => if (en k).st = 0 then none else some (en k).val
theorem MapOf.ne {α : Type} {enc : α → Value} {w : World} {b : Nat} {f : α → Option Value} (h : MapOf enc w b f) {g : Nat} {t : TypeId} {cs : Array Value} (hg : Blk w g t cs) : b ≠ g := by
  rintro rfl
  obtain ⟨es, clock, h1, _⟩ := h
  unfold Blk at hg
  rw [h1] at hg; cases hg
theorem own_ne_map {α : Type} {enc : α → Value} {w : World} {b : Nat} {f : α → Option Value} (h : MapOf enc w b f) {base : Nat} {e : TypeId} {size n : Nat} {v : Value} {xs : List Value} (ho : w.ownsRow base e size v n xs) : v.ownBlock ≠ some b := by
  rcases ho.2 with ⟨rfl, _⟩ | ⟨g', cap, cur, rfl, _, hh, _⟩
  · simp [Value.ownBlock]
  · intro he
    have : g' = b := by simpa [Value.ownBlock] using he
    subst this
    obtain ⟨es, clock, h1, _⟩ := h
    rw [h1] at hh; cases hh
theorem MapOf.chg {α : Type} {enc : α → Value} {S : Nat → Prop} {w w' : World} {b : Nat} {f : α → Option Value} (h : MapOf enc w b f) (hc : Chg S w w') (hn : ¬ S b) : MapOf enc w' b f := h.keep (hc.block b h.lt hn)

theorem law3 : Keyed Tryz.prog 3 := int_keyed Tryz.underlying3
theorem keyI {k : Int} (h : 1 ≤ k ∧ k ≤ 200) : keyOf Tryz.prog 3 (encI k) = some (.int .i64 k) := keyOf_int_mk Tryz.underlying3 (WalkArith.wf_i64 (by omega))
theorem zeroEnt (w : World) : (zeroValue 32).run Tryz.prog w = .ok Ent.none.val w := by kernel_rfl

theorem entMap_keys {en : Int → Ent} (hk : ∀ k, (en k).st ≠ 0 → 1 ≤ k ∧ k ≤ 200) : ∀ a v, entMap en a = some v → ∃ l, keyOf Tryz.prog 3 (encI a) = some l := by
  intro a v h
  unfold entMap at h
  split at h
  · cases h
  · exact ⟨_, keyI (hk a (by assumption))⟩

theorem entMap_getD (en : Int → Ent) (k : Int) (h0 : ∀ k, (en k).st = 0 → en k = Ent.none) : (entMap en k).getD Ent.none.val = (en k).val := by
  unfold entMap
  split
  · rename_i h; rw [h0 k h]; rfl
  · rfl

theorem entMap_upd (en : Int → Ent) (b : Int) (e : Ent) (he : e.st ≠ 0) : upd (entMap en) b (some e.val) = entMap (fun i => if i = b then e else en i) := by
  funext i
  unfold upd entMap
  by_cases h : i = b
  · simp [h, he]
  · simp [h]

/-- 'm[k] = v' at the operation. -/
theorem wpList_mapStore {α : Type} [DecidableEq α] {enc : α → Value} {P : Program} {w : World} {ops : Array Oper} {rest : List Oper} {o : Oper} {a : Act} {Q : Exit → Act → World → Prop}
    (hg : o.guard = none) (m x v : Operand) (t : TypeId) (hop : o.op = Op.mapUpdate t m x v) {k e : TypeId} (K : Keyed P k) (ht : P.underlying t = some (.map k e)) (hinj : ∀ x y, enc x = enc y → x = y)
    {b : Nat} {f : α → Option Value} (hmap : MapOf enc w b f) (hk : ∀ a v, f a = some v → ∃ l, keyOf P k (enc a) = some l) (hm : a.eval m = .map (some b)) (key : α) (hx : a.eval x = enc key) {l : Lit} (ha : keyOf P k (enc key) = some l)
    (val : Value) (hv : a.eval v = val) (hK : ∀ w', MapOf enc w' b (upd f key (some val)) → Chg (· = b) w w' → w'.heap.size = w.heap.size → w'.drawn = w.drawn → wpList P ops Q rest (a.put o.dst undef) w') : wpList P ops Q (o :: rest) a w := by
  refine wpList_plain hg fun K' hK' => ?_
  obtain ⟨es', clock', hrun, h2⟩ := hmap.store K hinj hk ht ha val
  unfold Oper.wp
  simp [execOp, hop, hm, hx, hv, hrun, Result.andThen]
  exact hK' _ _ (hK _ h2 ((Chg.refl (· = b) w).setBlock (.inl rfl) _) (by simp [ChangeMaps.setBlock]) rfl)

end Go.Proofs.YtkbnojjmpmlgjaaGreat
