/-
  table: how a table of answers lies in memory; New, key, Find, put, Put by their contracts.
-/
import Derived.Test.YtkbnojjmpmlgjaaGreatEntM
import Derived.Test.YtkbnojjmpmlgjaaGreatArrG
import Derived.Test.YtkbnojjmpmlgjaaGreatWant
import Derived.Test.YtkbnojjmpmlgjaaGreatRegionC
import Derived.WideKeyPair
namespace Go.Proofs.YtkbnojjmpmlgjaaGreat
open Go.RowKit Go.Maps

/-- Answers by booking and kind; 0: none. -/
def encP (p : Int × Int) : Value := .agg #[.int .i64 p.1, .int .i64 p.2]
theorem encP_inj : ∀ x y, encP x = encP y → x = y := fun x y h => by
  obtain ⟨a, b⟩ := x
  obtain ⟨c, d⟩ := y
  simp [encP] at h
  simp [h]
theorem arr2 : WideMaps.ArrKey Tryz.prog 100 3 2 := ⟨Tryz.underlying100, by kernel_rfl, by kernel_rfl, by kernel_rfl⟩
theorem law2 : Keyed Tryz.prog 100 := Keyed.of_law arr2.law
def isI (n : Int) : Prop := -9223372036854775808 ≤ n ∧ n ≤ 9223372036854775807
theorem keyP {p : Int × Int} (h1 : isI p.1) (h2 : isI p.2) : keyOf Tryz.prog 100 (encP p) = some (.string (keyBytes [.int .i64 p.1, .int .i64 p.2])) :=
  WideMaps.keyOf_pair arr2 Tryz.underlying3 ⟨Tryz.prog.types.size - 1, by kernel_rfl⟩ (WalkArith.wf_i64 h1) (WalkArith.wf_i64 h2)

abbrev Tab := Int × Int → Int
def tabMap (f : Tab) : Int × Int → Option Value := fun p => if f p = 0 then none else some (.int .i64 (f p))
theorem tabMap_upd (f : Tab) (p : Int × Int) (a : Int) (ha : a ≠ 0) : upd (tabMap f) p (some (.int .i64 a)) = tabMap (upd f p a) := by
  funext i
  unfold upd tabMap
  by_cases h : i = p
  · simp [h, ha]
  · simp [h]

/-- Block t is a table with these answers; mt: its map. -/
structure TabAt (w : World) (t mt : Nat) (f : Tab) : Prop where
  blk : Blk w t 90 #[.map (some mt)]
  map : MapOf encP w mt (tabMap f)
  keys : ∀ p, f p ≠ 0 → (1 ≤ p.1 ∧ p.1 ≤ 200) ∧ (1 ≤ p.2 ∧ p.2 ≤ 6)

theorem TabAt.chg {w w' : World} {t mt : Nat} {f : Tab} {S : Nat → Prop} (h : TabAt w t mt f) (hc : Chg S w w') (h1 : ¬ S t) (h2 : ¬ S mt) : TabAt w' t mt f :=
  ⟨h.blk.chg hc h1, h.map.chg hc h2, h.keys⟩

theorem tabMap_keys {f : Tab} (hk : ∀ p, f p ≠ 0 → (1 ≤ p.1 ∧ p.1 ≤ 200) ∧ (1 ≤ p.2 ∧ p.2 ≤ 6)) : ∀ a v, tabMap f a = some v → ∃ l, keyOf Tryz.prog 100 (encP a) = some l := by
  intro a v h
  unfold tabMap at h
  split at h
  · cases h
  · have := hk a (by assumption)
    exact ⟨_, keyP ⟨by omega, by omega⟩ ⟨by omega, by omega⟩⟩

theorem TabAt.look {w w1 : World} {t mt : Nat} {f : Tab} (h : TabAt w t mt f) (hw : w1.heap[mt]? = w.heap[mt]?) (b k : Int) (hb : isI b) (hk : isI k) :
    (Instr.lookup 86 (.map (some mt)) (.agg #[.int .i64 b, .int .i64 k]) true).run Tryz.prog w1 = .ok (.tuple #[.int .i64 (f (b, k)), .bool (!(f (b, k) == 0))]) w1 := by
  have h := (h.map.keep hw).look law2 encP_inj (tabMap_keys h.keys) (e := 3) (t := 86) Tryz.underlying86 (z := .int .i64 0) (by kernel_rfl) (a := (b, k)) (keyP hb hk) true
  rw [show encP (b, k) = .agg #[.int .i64 b, .int .i64 k] from rfl] at h
  rw [h]
  unfold tabMap
  by_cases e : f (b, k) = 0
  · simp [e]
  · simp [e]

set_option maxRecDepth 100000 in
theorem tabNew (w : World) : Calls Tryz.prog 18 #[] w fun e w' => ∃ t mt, e = .returned (.pointer (some ⟨t, 0, none⟩)) ∧ TabAt w' t mt (fun _ => 0) ∧ Chg (fun _ => False) w w' ∧ w.heap.size ≤ t ∧ w.heap.size ≤ mt := by
  have hmm := @run_makeMap Tryz.prog
  go_enter Tryz.func18, Tryz.ntmps18
  go_wp2
  go_ret
  have h := (MapOf.made (enc := encP) w).chg ((Chg.refl (fun _ => False) _).alloc (.cells #[.map (some w.heap.size)] 90)) id
  have hb := Blk.new (w.alloc (.map #[] 0)) 90 #[.map (some w.heap.size)]
  refine ⟨_, w.heap.size, rfl, ⟨by simpa using hb, h, fun p hp => absurd rfl hp⟩, ((Chg.refl _ w).alloc _).alloc _, by simp, Nat.le_refl _⟩

set_option maxRecDepth 100000 in
theorem key_any (w : World) (o : POp) : Calls Tryz.prog 57 #[o.val] w fun e w' => e = .returned (.agg #[.int .i64 o.bk, .int .i64 o.kd]) ∧ Chg (fun _ => False) w w' := by
  go_enter Tryz.func57, Tryz.ntmps57
  unfold POp.val
  go_wp2
  refine bodyPost_ret (v := .agg #[.int .i64 o.bk, .int .i64 o.kd]) (by simp [results, Tryz.results57, go_sem]) rfl ⟨rfl, ?_⟩
  exact ((Chg.refl _ _).alloc _).alloc _
end Go.Proofs.YtkbnojjmpmlgjaaGreat
