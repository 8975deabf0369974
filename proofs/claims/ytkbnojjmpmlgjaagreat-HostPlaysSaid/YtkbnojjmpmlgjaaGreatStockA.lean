/-
  stock: how an inventory lies in memory; New, Free, Entry, gone by their contracts.
-/
import Derived.Test.YtkbnojjmpmlgjaaGreatEntM
import Derived.Test.YtkbnojjmpmlgjaaGreatStockM
import Derived.Test.YtkbnojjmpmlgjaaGreatRegionC
import Derived.Test.YtkbnojjmpmlgjaaGreatArrG
namespace Go.Proofs.YtkbnojjmpmlgjaaGreat
open Go.RowKit Go.Maps

def stkRow (s : Stk) (mb : Nat) : Array Value := #[.int .i64 s.cap, .int .i64 s.over, .int .i64 s.free, .map (some mb)]
structure StkAt (w : World) (b mb : Nat) (s : Stk) : Prop where
  blk : Blk w b 85 (stkRow s mb)
  map : MapOf encI w mb (entMap s.en)
  keys : ∀ k, (s.en k).st ≠ 0 → 1 ≤ k ∧ k ≤ 200

theorem StkAt.chg {w w' : World} {b mb : Nat} {s : Stk} {S : Nat → Prop} (h : StkAt w b mb s) (hc : Chg S w w') (h1 : ¬ S b) (h2 : ¬ S mb) : StkAt w' b mb s :=
  ⟨h.blk.chg hc h1, h.map.chg hc h2, h.keys⟩

theorem StkAt.look {w w1 : World} {b mb : Nat} {s : Stk} (h : StkAt w b mb s) (hG : s.Good) (hw : w1.heap[mb]? = w.heap[mb]?) (k : Int) (hk : 1 ≤ k ∧ k ≤ 200) (x : Ent) (hx : s.en k = x) :
    (Instr.lookup 81 (.map (some mb)) (.int .i64 k) false).run Tryz.prog w1 = .ok (.agg #[.int .i64 x.st, .int .i64 x.un, .int .i64 x.til, .int .i64 x.cu, .int .i64 x.am]) w1 := by
  have h := (h.map.keep hw).look law3 encI_inj (entMap_keys h.keys) (e := 32) (t := 81) Tryz.underlying81 (zeroEnt w1) (a := k) (keyI hk) false
  rw [entMap_getD _ _ hG.non, hx] at h
  exact h

/-- 'm[k] = e': the run, and what is behind it. -/
theorem ent_store {w : World} {mb : Nat} {en : Int → Ent} (hM : MapOf encI w mb (entMap en)) (hkeys : ∀ k, (en k).st ≠ 0 → 1 ≤ k ∧ k ≤ 200) (k : Int) (hk : 1 ≤ k ∧ k ≤ 200) (e : Ent) (he : e.st ≠ 0) :
    ∃ w3, (Instr.mapUpdate 81 (.map (some mb)) (.int .i64 k) (.agg #[.int .i64 e.st, .int .i64 e.un, .int .i64 e.til, .int .i64 e.cu, .int .i64 e.am])).run Tryz.prog w = .ok () w3 ∧
      MapOf encI w3 mb (entMap (fun i => if i = k then e else en i)) ∧ Chg (fun i => i = mb) w w3 := by
  obtain ⟨es', clock', hrun, hM3⟩ := hM.store (e := 32) law3 encI_inj (entMap_keys hkeys) Tryz.underlying81 (keyI hk) e.val
  rw [entMap_upd _ _ _ he] at hM3
  exact ⟨_, hrun, hM3, (Chg.refl (fun i => i = mb) w).setBlock (.inl rfl) _⟩
theorem upd_keys {en : Int → Ent} (hkeys : ∀ k, (en k).st ≠ 0 → 1 ≤ k ∧ k ≤ 200) (k : Int) (hk : 1 ≤ k ∧ k ≤ 200) (e : Ent) : ∀ i, ((fun i => if i = k then e else en i) i).st ≠ 0 → 1 ≤ i ∧ i ≤ 200 := by
  intro i hi
  by_cases h : i = k
  · rw [h]; exact hk
  · simp only [if_neg h] at hi; exact hkeys i hi

set_option maxRecDepth 100000 in
theorem stkNew (w : World) (c o : Int) (hc : 0 ≤ c ∧ c ≤ 1000000) (ho : 0 ≤ o ∧ o ≤ 1000000) :
    Calls Tryz.prog 17 #[.agg #[.int .i64 c, .int .i64 o]] w fun e w' => ∃ b mb, e = .returned (.tuple #[.pointer (some ⟨b, 0, none⟩), .int .i64 0]) ∧ StkAt w' b mb (Stk.new c o) ∧ Chg (fun _ => False) w w' ∧ w.heap.size ≤ b ∧ w.heap.size ≤ mb := by
  have hmm := @run_makeMap Tryz.prog
  obtain ⟨hc0, hc1⟩ := hc
  obtain ⟨ho0, ho1⟩ := ho
  go_enter Tryz.func17, Tryz.ntmps17
  go_wp2
  go_ret2
  have hm := (MapOf.made (enc := encI) (w.alloc (.cells #[.int .i64 c, .int .i64 o] 23))).chg ((Chg.refl (fun _ => False) _).alloc (.cells (stkRow (Stk.new c o) (w.heap.size + 1)) 85)) id
  have hb := Blk.new ((w.alloc (.cells #[.int .i64 c, .int .i64 o] 23)).alloc (.map #[] 0)) 85 (stkRow (Stk.new c o) (w.heap.size + 1))
  simp only [alloc_size] at hb hm
  refine ⟨_, w.heap.size + 1, rfl, ⟨?_, ?_, fun k hk => absurd rfl hk⟩, (((Chg.refl _ w).alloc _).alloc _).alloc _, by omega, by omega⟩
  · exact hb
  · exact hm

set_option maxRecDepth 100000 in
theorem stk_free {w : World} {b mb : Nat} {s : Stk} (h : StkAt w b mb s) : Calls Tryz.prog 19 #[.pointer (some ⟨b, 0, none⟩)] w fun e w' => e = .returned (.int .i64 s.free) ∧ w' = w := by
  have c2 : w.cell? ⟨b, 2, none⟩ = some (.int .i64 s.free) := by rw [h.blk.cell]; rfl
  go_enter Tryz.func19, Tryz.ntmps19
  go_wp2
  go_ret
  exact ⟨rfl, rfl⟩

set_option maxRecDepth 100000 in
theorem stk_entry {w : World} {b mb : Nat} {s : Stk} (h : StkAt w b mb s) (hG : s.Good) (k : Int) (hk : 1 ≤ k ∧ k ≤ 200) (x : Ent) (hx : s.en k = x) :
    Calls Tryz.prog 41 #[.pointer (some ⟨b, 0, none⟩), .int .i64 k] w fun e w' => e = .returned x.val ∧ Chg (fun _ => False) w w' := by
  have h0 := h.look (w1 := w.alloc (.cells #[.int .i64 0, .int .i64 0, .int .i64 0, .int .i64 0, .int .i64 0] 32)) hG (Below.heap_alloc w _ mb h.map.lt) k hk x hx
  have cB : (w.alloc (.cells #[.int .i64 0, .int .i64 0, .int .i64 0, .int .i64 0, .int .i64 0] 32)).cell? ⟨b, 3, none⟩ = some (.map (some mb)) := by rw [(h.blk.alloc _).cell]; rfl
  have hxh := Lib.hid hx
  clear hx
  go_enter Tryz.func41, Tryz.ntmps41
  go_wp2
  refine bodyPost_ret (v := .agg #[.int .i64 x.st, .int .i64 x.un, .int .i64 x.til, .int .i64 x.cu, .int .i64 x.am]) (by simp [results, Tryz.results41, go_sem]) rfl ⟨rfl, (Chg.refl _ _).alloc _⟩

set_option maxRecDepth 100000 in
set_option maxHeartbeats 1000000 in
theorem stk_gone {w : World} {b mb : Nat} {s : Stk} (h : StkAt w b mb s) (hG : s.Good) (k : Int) (hk : 1 ≤ k ∧ k ≤ 200) :
    Calls Tryz.prog 44 #[.pointer (some ⟨b, 0, none⟩), .int .i64 k] w fun e w' => e = .returned (.tuple #[]) ∧ StkAt w' b mb (s.gone k) ∧ Chg (fun i => i = b ∨ i = mb) w w' := by
  obtain ⟨x, hx⟩ : ∃ x, s.en k = x := ⟨_, rfl⟩
  have hfx := hG.un k
  rw [hx] at hfx
  have hfr := hG.free
  have hbd := hG.bound
  have c2 : w.cell? ⟨b, 2, none⟩ = some (.int .i64 s.free) := by rw [h.blk.cell]; rfl
  have c3 : w.cell? ⟨b, 3, none⟩ = some (.map (some mb)) := by rw [h.blk.cell]; rfl
  have f2 : w.frozen? ⟨b, 2, none⟩ = false := h.blk.frozen 2
  have k0 := h.look (w1 := w) hG rfl k hk x hx
  have k1 := h.look (w1 := w.drew) hG rfl k hk x hx
  have hfd : ∀ w1, (Instr.field 32 (.agg #[.int .i64 x.st, .int .i64 x.un, .int .i64 x.til, .int .i64 x.cu, .int .i64 x.am]) 1).run Tryz.prog w1 = .ok (.int .i64 x.un) w1 := fun w1 => by kernel_rfl
  have hxh := Lib.hid hx
  clear hx
  go_enter Tryz.func44, Tryz.ntmps44
  go_wp2
  refine wp_region_plan (by kernel_rfl) [{ fl := [0, 1, 2, 3, 4, 5, 6, 7, 8, 9, 10, 11, 12, 13, 14, 15], long := [11], ef := 16 }] [] (by kernel_rfl) (fun _ w1 => (Instr.lookup 81 (.map (some mb)) (.int .i64 k) false).run Tryz.prog w1 = .ok (.agg #[.int .i64 x.st, .int .i64 x.un, .int .i64 x.til, .int .i64 x.cu, .int .i64 x.am]) w1) ?_
  simp only [wpPlan, longOK, keepOK, opsAt_cons, opsAt_nil, consO_some, List.getElem?_toArray, List.getElem?_cons_succ, List.getElem?_cons_zero, and_true, true_and]
  refine ⟨k1, ?_⟩
  go_wp2_with fail
  refine ⟨by kernel_rfl, ?_, ?_⟩
  · intro _ w1 h1
    have h1 : (Instr.lookup 81 (.map (some mb)) (.int .i64 k) false).run Tryz.prog w1 = .ok (.agg #[.int .i64 x.st, .int .i64 x.un, .int .i64 x.til, .int .i64 x.cu, .int .i64 x.am]) w1 := h1
    go_simp
  go_wp2_with fail
  refine ⟨by kernel_rfl, ?_⟩
  have hB2 : Blk (w.setCell ⟨b, 2, none⟩ (.int .i64 (s.free + x.un))) b 85 (stkRow (s.gone k) mb) := by
    have h1 := h.blk.set 2 (.int .i64 (s.free + x.un))
    have e : (stkRow s mb).setIfInBounds 2 (.int .i64 (s.free + x.un)) = stkRow (s.gone k) mb := by
      unfold stkRow Stk.gone Stk.set
      rw [hxh.out]
      rfl
    rw [e] at h1
    exact h1
  have hne : ¬ mb = b := h.map.ne h.blk
  have hcS : Chg (fun i => i = b ∨ i = mb) w (w.setCell ⟨b, 2, none⟩ (.int .i64 (s.free + x.un))) := (Chg.refl _ w).setCell (.inl (.inl rfl)) _
  have hM2 : MapOf encI (w.setCell ⟨b, 2, none⟩ (.int .i64 (s.free + x.un))) mb (entMap s.en) := h.map.keep (Below.heap_setCell w _ _ mb hne)
  generalize w.setCell ⟨b, 2, none⟩ (.int .i64 (s.free + x.un)) = w2 at *
  have d3 : w2.cell? ⟨b, 3, none⟩ = some (.map (some mb)) := by rw [hB2.cell]; rfl
  clear c2 c3 f2 k0 k1
  obtain ⟨w3, hrun, hM3, hc3⟩ := ent_store (show MapOf encI w2.drew mb (entMap s.en) from hM2) h.keys k hk Ent.gone (by decide)
  unfold Ent.gone at hrun
  have hB3 := (show Blk w2.drew _ _ _ from hB2).chg hc3 (fun h => hne h.symm)
  have hcF : Chg (fun i => i = b ∨ i = mb) w w3 := hcS.drew.trans hc3 (fun _ _ h => .inr h)
  have hfin : StkAt w3 b mb (s.gone k) := ⟨hB3, hM3, upd_keys h.keys k hk _⟩
  clear hM3 hB3 hc3 hcS hM2
  go_wp2_with fail
  refine bodyPost_end (v := .tuple #[]) ?_ rfl ⟨rfl, hfin, hcF⟩
  simp [results, Tryz.results44, go_sem]
end Go.Proofs.YtkbnojjmpmlgjaaGreat
