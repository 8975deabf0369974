/-
  disk: slices.Clone of bytes; Read, Synced, Sync, Remove by their contracts.
-/
import Derived.Test.YtgcmagoecapgoaaDskC
import Derived.Lib.SliceRun
namespace Go.Proofs.Ytgcmagoecapgoaa
open Go.RowKit Go.Maps

theorem rowB_nil (w : World) (ao : Option Addr) (off rb : Nat) : RowB w ao off 0 rb [] :=
  ⟨⟨Nat.le_refl _, fun h => by omega, fun h => by omega, rfl, fun j u hj => (by cases hj), fun j hj => (by simp at hj)⟩, Nat.zero_le _⟩

set_option maxRecDepth 100000 in
theorem clone_any {w : World} {ao : Option Addr} {off cap rb : Nat} {bs : List UInt8} (h : RowB w ao off cap rb bs) (hl : bs.length ≤ 1000000) :
    Calls Try.prog 32 #[.slice ao bs.length cap] w fun e w' => ∃ ao' off' cap' rb', e = .returned (.slice ao' bs.length cap') ∧ RowB w' ao' off' cap' rb' bs ∧
      Chg (fun _ => False) w w' ∧ (cap' = 0 ∨ (w.heap.size ≤ rb' ∧ rb' < w'.heap.size)) := by
  have q22 : ∀ (w : World) (a : Option Addr) (n c : Nat), (binOp .eql 22 (.slice a n c) (.slice none 0 0)).run Try.prog w = .ok (.bool a.isNone) w := fun w a n c => Lib.run_eql_slice_nil w _ _ _ _ _ _ _ Try.underlying22
  cases ao with
  | none =>
    have h0 : cap = 0 := by
      rcases Nat.eq_zero_or_pos cap with h0 | h0
      · exact h0
      · have := h.came.addr h0; cases this
    have hb := h.bare h0
    subst hb
    subst h0
    go_enter Try.func32, Try.ntmps32
    go_wp2
    go_ret
    exact ⟨none, 0, 0, 0, rfl, rowB_nil w _ _ _, Chg.refl _ w, .inl rfl⟩
  | some a =>
    have hc0 : Chg (fun _ => False) w (w.alloc (.cells #[] 5)) := (Chg.refl _ w).alloc _
    have hR := h.keep (w' := w.alloc (.cells #[] 5)) (by simp) (fun h0 => Below.heap_alloc w _ rb (h.came.lt h0))
    have hS := src_row hR
    go_enter Try.func32, Try.ntmps32
    go_wp2_with (at_builtin; refine wpList_append_row rfl _ _ rfl (rowB_nil _ _ 0 w.heap.size) rfl _ bs rfl hS (by simp; omega) ?_)
    intro ao' off' cap' rb' w' hR' hc' hrb
    go_wp2_with fail
    go_ret
    refine ⟨ao', off', cap', rb', rfl, hR', hc0.trans hc' (fun i hi h => by omega), ?_⟩
    rcases hrb with ⟨_, h1⟩ | h1
    · exact .inl h1
    · exact .inr ⟨by have := h1.1; have := hc0.size; simp at *; omega, h1.2⟩

set_option maxRecDepth 100000 in
theorem dsk_read_none {S : Nat → Prop} {w : World} {d md : Nat} {pl : Nam → Nat × Nat} {D : Dsk} (h : DiskAt S w d md pl D) (n : Nam) (hn : n.length ≤ maxLen) (hf : D.fl n = none) :
    Calls Try.prog 14 #[.pointer (some ⟨d, 0, none⟩), encStr n] w fun e w' => e = .returned (.tuple #[.slice none 0 0, .int .i64 5]) ∧ w' = w := by
  go_enter Try.func14, Try.ntmps14
  go_wp2_with fail
  refine (dsk_of h n hn).mono ?_
  rintro e w' ⟨rfl, rfl⟩
  rw [hf]
  unfold adrF
  go_wp2_with fail
  go_ret2
  exact ⟨rfl, rfl⟩
set_option maxRecDepth 100000 in
theorem dsk_read_nil (w : World) (n : Nam) :
    Calls Try.prog 14 #[.pointer none, encStr n] w fun e w' => e = .returned (.tuple #[.slice none 0 0, .int .i64 5]) ∧ w' = w := by
  go_enter Try.func14, Try.ntmps14
  go_wp2_with fail
  refine (dsk_of_nil w n).mono ?_
  rintro e w' ⟨rfl, rfl⟩
  go_wp2_with fail
  go_ret2
  exact ⟨rfl, rfl⟩

set_option maxRecDepth 100000 in
theorem dsk_read {S : Nat → Prop} {w : World} {d md : Nat} {pl : Nam → Nat × Nat} {D : Dsk} (h : DiskAt S w d md pl D) (n : Nam) {f : Fil} (hf : D.fl n = some f) :
    Calls Try.prog 14 #[.pointer (some ⟨d, 0, none⟩), encStr n] w fun e w' => ∃ ao off cap rb, e = .returned (.tuple #[.slice ao f.bs.length cap, .int .i64 0]) ∧ RowB w' ao off cap rb f.bs ∧
      Chg (fun _ => False) w w' ∧ (cap = 0 ∨ (w.heap.size ≤ rb ∧ rb < w'.heap.size)) := by
  have hG := h.good
  have hn := (hG.nam n (some_isSome hf)).2
  have hle := Dsk.len_le hG n
  have hfit := hG.fit
  have hrm := hG.rm
  rw [hf] at hle
  have hle : f.bs.length ≤ D.used := hle
  obtain ⟨ao, off, cp, hB, hR, _⟩ := h.fil n f hf
  have c1 : w.cell? ⟨(pl n).1, 0, none⟩ = some (.slice ao f.bs.length cp) := by rw [hB.cell]; rfl
  go_enter Try.func14, Try.ntmps14
  go_wp2_with fail
  refine (dsk_of h n (by unfold maxLen; omega)).mono ?_
  rintro e w' ⟨rfl, rfl⟩
  rw [hf]
  unfold adrF
  go_wp2_with fail
  refine (clone_any hR (by omega)).mono ?_
  rintro e w2 ⟨ao', off', cap', rb', rfl, hR', hc', hrb⟩
  go_wp2_with fail
  go_ret2
  exact ⟨ao', off', cap', rb', rfl, hR', hc', hrb⟩

set_option maxRecDepth 100000 in
theorem dsk_synced {S : Nat → Prop} {w : World} {d md : Nat} {pl : Nam → Nat × Nat} {D : Dsk} (h : DiskAt S w d md pl D) (n : Nam) (hn : n.length ≤ maxLen) :
    Calls Try.prog 15 #[.pointer (some ⟨d, 0, none⟩), encStr n] w fun e w' => e = .returned (.int .i64 (syF (D.fl n))) ∧ w' = w := by
  cases hf : D.fl n with
  | none =>
    go_enter Try.func15, Try.ntmps15
    go_wp2_with fail
    refine (dsk_of h n hn).mono ?_
    rintro e w' ⟨rfl, rfl⟩
    rw [hf]
    unfold adrF
    go_wp2_with fail
    go_ret
    exact ⟨rfl, rfl⟩
  | some f =>
    obtain ⟨ao, off, cp, hB, hR, _⟩ := h.fil n f hf
    have c1 : w.cell? ⟨(pl n).1, 1, none⟩ = some (.int .i64 f.sy) := by rw [hB.cell]; rfl
    go_enter Try.func15, Try.ntmps15
    go_wp2_with fail
    refine (dsk_of h n hn).mono ?_
    rintro e w' ⟨rfl, rfl⟩
    rw [hf]
    unfold adrF
    go_wp2_with fail
    go_ret
    exact ⟨rfl, rfl⟩
set_option maxRecDepth 100000 in
theorem dsk_synced_nil (w : World) (n : Nam) :
    Calls Try.prog 15 #[.pointer none, encStr n] w fun e w' => e = .returned (.int .i64 0) ∧ w' = w := by
  go_enter Try.func15, Try.ntmps15
  go_wp2_with fail
  refine (dsk_of_nil w n).mono ?_
  rintro e w' ⟨rfl, rfl⟩
  go_wp2_with fail
  go_ret
  exact ⟨rfl, rfl⟩

/-- The blocks of one file. -/
def Two (pl : Nam → Nat × Nat) (n : Nam) : Nat → Prop := fun i => i = (pl n).1 ∨ i = (pl n).2

set_option maxRecDepth 100000 in
theorem dsk_sync {S : Nat → Prop} {w : World} {d md : Nat} {pl : Nam → Nat × Nat} {D : Dsk} (h : DiskAt S w d md pl D) (n : Nam) (hn : n.length ≤ maxLen) :
    Calls Try.prog 12 #[.pointer (some ⟨d, 0, none⟩), encStr n] w fun e w' => e = .returned (.int .i64 (D.sync n).1) ∧ DiskW S w' d (D.sync n).2 ∧ Chg S w w' := by
  cases hf : D.fl n with
  | none =>
    have e1 : D.sync n = (5, D) := by unfold Dsk.sync; rw [hf]
    rw [e1]
    go_enter Try.func12, Try.ntmps12
    go_wp2_with fail
    refine (dsk_of h n hn).mono ?_
    rintro e w' ⟨rfl, rfl⟩
    rw [hf]
    unfold adrF
    go_wp2_with fail
    go_ret
    exact ⟨rfl, ⟨md, pl, h⟩, Chg.refl _ _⟩
  | some f =>
    have e1 : D.sync n = (0, D.put n ⟨f.bs, f.bs.length⟩) := by unfold Dsk.sync; rw [hf]
    rw [e1]
    have hG := h.good
    have hs := some_isSome hf
    obtain ⟨ao, off, cp, hB, hR, hne⟩ := h.fil n f hf
    have c1 : w.cell? ⟨(pl n).1, 0, none⟩ = some (.slice ao f.bs.length cp) := by rw [hB.cell]; rfl
    have c2 : w.cell? ⟨(pl n).1, 1, none⟩ = some (.int .i64 f.sy) := by rw [hB.cell]; rfl
    have f1 : w.frozen? ⟨(pl n).1, 1, none⟩ = false := hB.frozen 1
    have hfne := h.fne hs
    have hc : Chg (fun i => i = (pl n).1) w (w.setCell ⟨(pl n).1, 1, none⟩ (.int .i64 f.bs.length)) := (Chg.refl (fun i => i = (pl n).1) w).setCell (.inl rfl) _
    have hF : FilAt (w.setCell ⟨(pl n).1, 1, none⟩ (.int .i64 f.bs.length)) (pl n).1 (pl n).2 ⟨f.bs, f.bs.length⟩ :=
      ⟨ao, off, cp, hB.set 1 _, hR.keep hc.size (fun h0 => hc.block _ (hR.came.lt h0) (hne h0)), hne⟩
    have hu := Dsk.used_put hG n ⟨f.bs, f.bs.length⟩
    rw [hf] at hu
    have hu : (D.put n ⟨f.bs, f.bs.length⟩).used + f.bs.length = D.used + f.bs.length := hu
    have hfit := hG.fit
    have hG' : (D.put n ⟨f.bs, f.bs.length⟩).Good := hG.put (hG.nam n hs) (Nat.le_refl _) (by omega)
    have hD := h.turn hf hc (fun i hi => .inl hi) (fun e => hfne.1 e.symm) (fun e => hfne.2.1 e.symm) hF (.inl rfl) hG'
    have hcS : Chg S w (w.setCell ⟨(pl n).1, 1, none⟩ (.int .i64 f.bs.length)) := hc.mono (fun i _ e => e ▸ (h.sf n hs).1)
    clear hF hu hG' hc
    go_enter Try.func12, Try.ntmps12
    go_wp2_with fail
    refine (dsk_of h n hn).mono ?_
    rintro e w' ⟨rfl, rfl⟩
    rw [hf]
    unfold adrF
    go_wp2_with fail
    go_ret
    exact ⟨rfl, ⟨md, _, hD⟩, hcS⟩
set_option maxRecDepth 100000 in
theorem dsk_sync_nil (w : World) (n : Nam) :
    Calls Try.prog 12 #[.pointer none, encStr n] w fun e w' => e = .returned (.int .i64 5) ∧ w' = w := by
  go_enter Try.func12, Try.ntmps12
  go_wp2_with fail
  refine (dsk_of_nil w n).mono ?_
  rintro e w' ⟨rfl, rfl⟩
  go_wp2_with fail
  go_ret
  exact ⟨rfl, rfl⟩
end Go.Proofs.Ytgcmagoecapgoaa
