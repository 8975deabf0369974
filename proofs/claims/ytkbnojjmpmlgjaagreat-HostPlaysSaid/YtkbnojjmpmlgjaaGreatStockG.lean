/-
  stock: Held and Confirmed: the units of the bookings in a state, whatever order the map is gone through.
-/
import Derived.Test.YtkbnojjmpmlgjaaGreatStockA
import Derived.Maps.RangeWalk
namespace Go.Proofs.YtkbnojjmpmlgjaaGreat
open Go.RowKit Go.Maps Go.WideShapes

open Classical in
noncomputable def entR : Value → Option (DataW Ent × List MemPlace) := fun v => if h : ∃ e : Ent, v = e.val then some (.held (Classical.choose h), []) else none
theorem Ent.val_inj {a b : Ent} (h : a.val = b.val) : a = b := by
  cases a; cases b
  simp only [Ent.val, Ent.row, Value.agg.injEq, Array.mk.injEq, List.cons.injEq, Value.int.injEq, true_and, and_true] at h
  obtain ⟨h1, h2, h3, h4, h5⟩ := h
  subst h1; subst h2; subst h3; subst h4; subst h5; rfl
theorem entR_val (e : Ent) : entR e.val = some (.held e, []) := by
  unfold entR
  have h : ∃ x : Ent, e.val = x.val := ⟨e, rfl⟩
  rw [dif_pos h, ← Ent.val_inj (Classical.choose_spec h)]
theorem entR_inv (v : Value) (y : DataW Ent × List MemPlace) (h : entR v = some y) : ∃ e : Ent, v = e.val := by
  unfold entR at h
  split at h
  · assumption
  · cases h

theorem map_entries {w : World} {mb : Nat} {en : Int → Ent} (hM : MapOf encI w mb (entMap en)) (hkeys : ∀ k, (en k).st ≠ 0 → 1 ≤ k ∧ k ≤ 200) (hsz : ∃ es clock, w.heap[mb]? = some (.map es clock) ∧ es.size ≤ 200) :
    ∃ (n : Nat) (D0 : DataW Ent), w.ownsMap Tryz.prog 3 entR mb n D0 ∧ (∀ b : Int, (en b).st ≠ 0 → Maps.has D0 (.int .i64 b) = true ∧ ∀ zd, D0.atKey (.int .i64 b) zd = .held (en b)) ∧ ∀ b : Int, Maps.has D0 (.int .i64 b) = true → (en b).st ≠ 0 := by
  obtain ⟨es, clock, hb, hst, h1, h2⟩ := hM
  obtain ⟨es2, clock2, hb2, hsz⟩ := hsz
  rw [hb] at hb2
  injection hb2 with hb2
  injection hb2 with e1 e2
  subst e1; subst e2
  have hrd : ∀ e ∈ es.toList, ∃ a : Int, e.key = encI a ∧ (en a).st ≠ 0 ∧ WideElems.rd Tryz.prog 3 entR e = some (.int .i64 a, .held (en a)) := by
    intro e hee
    obtain ⟨a, h3, h4⟩ := h1 e hee
    have h0 : (en a).st ≠ 0 := by
      intro h0
      unfold entMap at h4
      rw [if_pos h0] at h4
      cases h4
    refine ⟨a, h3, h0, ?_⟩
    unfold entMap at h4
    rw [if_neg h0] at h4
    have h4 := Option.some.inj h4
    unfold WideElems.rd
    rw [h3, keyI (hkeys a h0), ← h4, entR_val]
    simp only [Option.bind_some, Option.map_some]
  have F : WideElems.Fit Tryz.prog 3 entR es clock := ⟨by unfold maxLen; omega, hst, fun x hx => by
    obtain ⟨a, _, _, h⟩ := hrd x hx
    exact ⟨_, h⟩⟩
  have hrg : ∀ e ∈ es.toList, ∃ a : Int, e.key = encI a ∧ (en a).st ≠ 0 ∧ WideElems.rg Tryz.prog 3 entR e = (.int .i64 a, .held (en a)) := by
    intro e hee
    obtain ⟨a, h3, h0, h⟩ := hrd e hee
    refine ⟨a, h3, h0, ?_⟩
    unfold WideElems.rg
    rw [h]; rfl
  refine ⟨es.size, _, World.ownsMap_of_fit hb F (fun _ _ _ h => h), fun b hb0 => ?_, fun b hb0 => ?_⟩
  · obtain ⟨e, he, hek, hev⟩ := h2 b (en b).val (by unfold entMap; rw [if_neg hb0])
    obtain ⟨a, ha, h0, hr⟩ := hrg e he
    have hab : a = b := encI_inj _ _ (ha.symm.trans hek)
    subst hab
    refine ⟨List.any_eq_true.2 ⟨WideElems.rg Tryz.prog 3 entR e, mem_sorted.2 (List.mem_map.2 ⟨e, he, rfl⟩), by rw [hr]; exact WideAt.sameKey_self (law3.key (keyI (hkeys a hb0)))⟩, fun zd => ?_⟩
    rw [(atKey_sorted (es.toList.map (WideElems.rg Tryz.prog 3 entR)) (Maps.fit_rising law3 F) (.int .i64 a) (law3.key (keyI (hkeys a hb0)))).2 (WideElems.rg Tryz.prog 3 entR e) (List.mem_map.2 ⟨e, he, rfl⟩) (by rw [hr]), hr]
  · obtain ⟨p, hp, hpk⟩ := List.any_eq_true.1 hb0
    obtain ⟨e, he, rfl⟩ := List.mem_map.1 (mem_sorted.1 hp)
    obtain ⟨a, ha, h0, hr⟩ := hrg e he
    have := WideAt.sameKey_eq hpk
    rw [hr] at this
    injection this with _ this
    rw [← this]; exact h0

theorem sumU_congr (g h : Int → Int) : ∀ n : Nat, (∀ i : Int, 1 ≤ i → i ≤ n → g i = h i) → sumU g n = sumU h n
  | 0, _ => rfl
  | n + 1, e => by
    unfold sumU
    rw [sumU_congr g h n (fun i h1 h2 => e i h1 (by omega)), e (n + 1 : Nat) (by omega) (by omega)]
theorem sumU_le (g h : Int → Int) : ∀ n : Nat, (∀ i : Int, g i ≤ h i) → sumU g n ≤ sumU h n
  | 0, _ => Int.le_refl _
  | n + 1, e => by
    unfold sumU
    have := sumU_le g h n e
    have := e (n + 1 : Nat)
    omega

/-- The units of the bookings in a state. -/
def Stk.of (s : Stk) (st : Int) : Int := sumU (fun b => if (s.en b).st = st then (s.en b).un else 0) 200
theorem Stk.Good.part {s : Stk} (h : s.Good) (st : Int) (left : Int → Bool) : 0 ≤ sumU (fun b => if left b then 0 else if (s.en b).st = st then (s.en b).un else 0) 200 ∧ sumU (fun b => if left b then 0 else if (s.en b).st = st then (s.en b).un else 0) 200 ≤ 2000000 := by
  refine ⟨sumU_pos _ (fun i => ?_) _, ?_⟩
  · have := h.un i
    split
    · omega
    split <;> omega
  · have h1 := sumU_le (fun b => if left b then 0 else if (s.en b).st = st then (s.en b).un else 0) (fun b => (s.en b).un) 200 (fun i => by
      have := h.un i
      split
      · omega
      split <;> omega)
    have := h.sum
    have := h.cap
    have := h.over
    have := h.free
    omega
end Go.Proofs.YtkbnojjmpmlgjaaGreat
