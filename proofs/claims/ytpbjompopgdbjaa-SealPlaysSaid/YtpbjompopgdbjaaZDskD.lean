/-
  disk: slices.Clone of bytes; Read, Synced, Sync, Remove by their contracts.
-/
import Derived.Test.YtpbjompopgdbjaaZDskB
import Derived.Lib.SliceRun
namespace Go.Proofs.Ytpbjompopgdbjaa
open Go.RowKit Go.Maps

theorem rowB_nil (w : World) (ao : Option Addr) (off rb : Nat) : RowB w ao off 0 rb [] :=
  ⟨⟨Nat.le_refl _, fun h => by omega, fun h => by omega, rfl, fun j u hj => (by cases hj), fun j hj => (by simp at hj)⟩, Nat.zero_le _⟩

set_option maxRecDepth 100000 in
theorem clone_any {w : World} {ao : Option Addr} {off cap rb : Nat} {bs : List UInt8} (h : RowB w ao off cap rb bs) (hl : bs.length ≤ 1000000) :
    Calls Try.prog 39 #[.slice ao bs.length cap] w fun e w' => ∃ ao' off' cap' rb', e = .returned (.slice ao' bs.length cap') ∧ RowB w' ao' off' cap' rb' bs ∧
      Chg (fun _ => False) w w' ∧ (cap' = 0 ∨ (w.heap.size ≤ rb' ∧ rb' < w'.heap.size)) := by
  have q22 : ∀ (w : World) (a : Option Addr) (n c : Nat), (binOp .eql 31 (.slice a n c) (.slice none 0 0)).run Try.prog w = .ok (.bool a.isNone) w := fun w a n c => Lib.run_eql_slice_nil w _ _ _ _ _ _ _ Try.underlying31
  cases ao with
  | none =>
    have h0 : cap = 0 := by
      rcases Nat.eq_zero_or_pos cap with h0 | h0
      · exact h0
      · have := h.came.addr h0; cases this
    have hb := h.bare h0
    subst hb
    subst h0
    go_enter Try.func39, Try.ntmps39
    go_wp2
    go_ret
    exact ⟨none, 0, 0, 0, rfl, rowB_nil w _ _ _, Chg.refl _ w, .inl rfl⟩
  | some a =>
    have hc0 : Chg (fun _ => False) w (w.alloc (.cells #[] 5)) := (Chg.refl _ w).alloc _
    have hR := h.keep (w' := w.alloc (.cells #[] 5)) (by simp) (fun h0 => Below.heap_alloc w _ rb (h.came.lt h0))
    have hS := src_row hR
    go_enter Try.func39, Try.ntmps39
    go_wp2_with (at_builtin; refine wpList_append_row rfl _ _ rfl (rowB_nil _ _ 0 w.heap.size) rfl _ bs rfl hS (by simp; omega) ?_)
    intro ao' off' cap' rb' w' hR' hc' hrb
    go_wp2_with fail
    go_ret
    refine ⟨ao', off', cap', rb', rfl, hR', hc0.trans hc' (fun i hi h => by omega), ?_⟩
    rcases hrb with ⟨_, h1⟩ | h1
    · exact .inl h1
    · exact .inr ⟨by have := h1.1; have := hc0.size; simp at *; omega, h1.2⟩

set_option maxRecDepth 100000 in
theorem dsk_read_none {S : Nat → Prop} {w : World} {d md : Nat} {pl : Nam → Nat × Nat} {D : Dsk} (h : DiskAt S w d md pl D) (n : Nam) (hn : n.length ≤ maxLen) (hf : D.fl n = none) :
    Calls Try.prog 18 #[.pointer (some ⟨d, 0, none⟩), encStr n] w fun e w' => e = .returned (.tuple #[.slice none 0 0, .int .i64 5]) ∧ w' = w := by
  go_enter Try.func18, Try.ntmps18
  go_wp2_with fail
  refine (dsk_of h n hn).mono ?_
  rintro e w' ⟨rfl, rfl⟩
  rw [hf]
  unfold adrF
  go_wp2_with fail
  go_ret2
  exact ⟨rfl, rfl⟩
set_option maxRecDepth 100000 in
theorem dsk_read_nil (w : World) (n : Nam) :
    Calls Try.prog 18 #[.pointer none, encStr n] w fun e w' => e = .returned (.tuple #[.slice none 0 0, .int .i64 5]) ∧ w' = w := by
  go_enter Try.func18, Try.ntmps18
  go_wp2_with fail
  refine (dsk_of_nil w n).mono ?_
  rintro e w' ⟨rfl, rfl⟩
  go_wp2_with fail
  go_ret2
  exact ⟨rfl, rfl⟩

set_option maxRecDepth 100000 in
theorem dsk_read {S : Nat → Prop} {w : World} {d md : Nat} {pl : Nam → Nat × Nat} {D : Dsk} (h : DiskAt S w d md pl D) (n : Nam) {f : Fil} (hf : D.fl n = some f) :
    Calls Try.prog 18 #[.pointer (some ⟨d, 0, none⟩), encStr n] w fun e w' => ∃ ao off cap rb, e = .returned (.tuple #[.slice ao f.bs.length cap, .int .i64 0]) ∧ RowB w' ao off cap rb f.bs ∧
      Chg (fun _ => False) w w' ∧ (cap = 0 ∨ (w.heap.size ≤ rb ∧ rb < w'.heap.size)) := by
  have hG := h.good
  have hn := (hG.nam n (some_isSome hf)).2
  have hle := Dsk.len_le hG n
  have hfit := hG.fit
  have hrm := hG.rm
  rw [hf] at hle
  have hle : f.bs.length ≤ D.used := hle
  obtain ⟨ao, off, cp, hB, hR, _⟩ := h.fil n f hf
  have c1 : w.cell? ⟨(pl n).1, 0, none⟩ = some (.slice ao f.bs.length cp) := by rw [hB.cell]; rfl
  go_enter Try.func18, Try.ntmps18
  go_wp2_with fail
  refine (dsk_of h n (by unfold maxLen; omega)).mono ?_
  rintro e w' ⟨rfl, rfl⟩
  rw [hf]
  unfold adrF
  go_wp2_with fail
  refine (clone_any hR (by omega)).mono ?_
  rintro e w2 ⟨ao', off', cap', rb', rfl, hR', hc', hrb⟩
  go_wp2_with fail
  go_ret2
  exact ⟨ao', off', cap', rb', rfl, hR', hc', hrb⟩

set_option maxRecDepth 100000 in
theorem dsk_synced {S : Nat → Prop} {w : World} {d md : Nat} {pl : Nam → Nat × Nat} {D : Dsk} (h : DiskAt S w d md pl D) (n : Nam) (hn : n.length ≤ maxLen) :
    Calls Try.prog 29 #[.pointer (some ⟨d, 0, none⟩), encStr n] w fun e w' => e = .returned (.int .i64 (syF (D.fl n))) ∧ w' = w := by
  cases hf : D.fl n with
  | none =>
    go_enter Try.func29, Try.ntmps29
    go_wp2_with fail
    refine (dsk_of h n hn).mono ?_
    rintro e w' ⟨rfl, rfl⟩
    rw [hf]
    unfold adrF
    go_wp2_with fail
    go_ret
    exact ⟨rfl, rfl⟩
  | some f =>
    obtain ⟨ao, off, cp, hB, hR, _⟩ := h.fil n f hf
    have c1 : w.cell? ⟨(pl n).1, 1, none⟩ = some (.int .i64 f.sy) := by rw [hB.cell]; rfl
    go_enter Try.func29, Try.ntmps29
    go_wp2_with fail
    refine (dsk_of h n hn).mono ?_
    rintro e w' ⟨rfl, rfl⟩
    rw [hf]
    unfold adrF
    go_wp2_with fail
    go_ret
    exact ⟨rfl, rfl⟩
set_option maxRecDepth 100000 in
theorem dsk_synced_nil (w : World) (n : Nam) :
    Calls Try.prog 29 #[.pointer none, encStr n] w fun e w' => e = .returned (.int .i64 0) ∧ w' = w := by
  go_enter Try.func29, Try.ntmps29
  go_wp2_with fail
  refine (dsk_of_nil w n).mono ?_
  rintro e w' ⟨rfl, rfl⟩
  go_wp2_with fail
  go_ret
  exact ⟨rfl, rfl⟩

/-- The blocks of one file. -/
def Two (pl : Nam → Nat × Nat) (n : Nam) : Nat → Prop := fun i => i = (pl n).1 ∨ i = (pl n).2

set_option maxRecDepth 100000 in
theorem dsk_sync {S : Nat → Prop} {w : World} {d md : Nat} {pl : Nam → Nat × Nat} {D : Dsk} (h : DiskAt S w d md pl D) (n : Nam) (hn : n.length ≤ maxLen) :
    Calls Try.prog 20 #[.pointer (some ⟨d, 0, none⟩), encStr n] w fun e w' => e = .returned (.int .i64 (D.sync n).1) ∧ DiskW S w' d (D.sync n).2 ∧ Chg S w w' := by
  cases hf : D.fl n with
  | none =>
    have e1 : D.sync n = (5, D) := by unfold Dsk.sync; rw [hf]
    rw [e1]
    go_enter Try.func20, Try.ntmps20
    go_wp2_with fail
    refine (dsk_of h n hn).mono ?_
    rintro e w' ⟨rfl, rfl⟩
    rw [hf]
    unfold adrF
    go_wp2_with fail
    go_ret
    exact ⟨rfl, ⟨md, pl, h⟩, Chg.refl _ _⟩
  | some f =>
    have e1 : D.sync n = (0, D.put n ⟨f.bs, f.bs.length⟩) := by unfold Dsk.sync; rw [hf]
    rw [e1]
    have hG := h.good
    have hs := some_isSome hf
    obtain ⟨ao, off, cp, hB, hR, hne⟩ := h.fil n f hf
    have c1 : w.cell? ⟨(pl n).1, 0, none⟩ = some (.slice ao f.bs.length cp) := by rw [hB.cell]; rfl
    have c2 : w.cell? ⟨(pl n).1, 1, none⟩ = some (.int .i64 f.sy) := by rw [hB.cell]; rfl
    have f1 : w.frozen? ⟨(pl n).1, 1, none⟩ = false := hB.frozen 1
    have hfne := h.fne hs
    have hc : Chg (fun i => i = (pl n).1) w (w.setCell ⟨(pl n).1, 1, none⟩ (.int .i64 f.bs.length)) := (Chg.refl (fun i => i = (pl n).1) w).setCell (.inl rfl) _
    have hF : FilAt (w.setCell ⟨(pl n).1, 1, none⟩ (.int .i64 f.bs.length)) (pl n).1 (pl n).2 ⟨f.bs, f.bs.length⟩ :=
      ⟨ao, off, cp, hB.set 1 _, hR.keep hc.size (fun h0 => hc.block _ (hR.came.lt h0) (hne h0)), hne⟩
    have hu := Dsk.used_put hG n ⟨f.bs, f.bs.length⟩
    rw [hf] at hu
    have hu : (D.put n ⟨f.bs, f.bs.length⟩).used + f.bs.length = D.used + f.bs.length := hu
    have hfit := hG.fit
    have hG' : (D.put n ⟨f.bs, f.bs.length⟩).Good := hG.put (hG.nam n hs) (Nat.le_refl _) (by omega)
    have hD := h.turn hf hc (fun i hi => .inl hi) (fun e => hfne.1 e.symm) (fun e => hfne.2.1 e.symm) hF (.inl rfl) hG'
    have hcS : Chg S w (w.setCell ⟨(pl n).1, 1, none⟩ (.int .i64 f.bs.length)) := hc.mono (fun i _ e => e ▸ (h.sf n hs).1)
    clear hF hu hG' hc
    go_enter Try.func20, Try.ntmps20
    go_wp2_with fail
    refine (dsk_of h n hn).mono ?_
    rintro e w' ⟨rfl, rfl⟩
    rw [hf]
    unfold adrF
    go_wp2_with fail
    go_ret
    exact ⟨rfl, ⟨md, _, hD⟩, hcS⟩
set_option maxRecDepth 100000 in
theorem dsk_sync_nil (w : World) (n : Nam) :
    Calls Try.prog 20 #[.pointer none, encStr n] w fun e w' => e = .returned (.int .i64 5) ∧ w' = w := by
  go_enter Try.func20, Try.ntmps20
  go_wp2_with fail
  refine (dsk_of_nil w n).mono ?_
  rintro e w' ⟨rfl, rfl⟩
  go_wp2_with fail
  go_ret
  exact ⟨rfl, rfl⟩
end Go.Proofs.Ytpbjompopgdbjaa

namespace Go.Proofs.Ytpbjompopgdbjaa
open Go.RowKit Go.Maps

section
variable {S : Nat → Prop} {w w' : World} {d md : Nat} {pl : Nam → Nat × Nat} {D : Dsk}
/-- A name has gone. -/
theorem DiskAt.gone (h : DiskAt S w d md pl D) {n : Nam} (hc : Chg (fun i => i = md) w w') (hM : MapOf encStr w' md (upd (fun m => ptrF (D.fl m) (pl m).1) n none)) : DiskAt S w' d md pl (D.del n) := by
  have hmd : md ≠ d := mapS_ne h.map h.blk
  have hps : ∀ m, ((D.del n).fl m).isSome = true → (D.fl m).isSome = true ∧ m ≠ n := fun m hm => by
    by_cases e : m = n
    · unfold Dsk.del at hm
      subst e
      simp only [upd_same] at hm
      cases hm
    · unfold Dsk.del at hm
      simp only [upd_other _ _ _ _ e] at hm
      exact ⟨hm, e⟩
  refine ⟨h.blk.chg hc (fun e => hmd e.symm), ?_, ?_, h.good.del n, h.sd, h.sm, fun m hm => h.sf m (hps m hm).1, fun a b ha hb => h.ap a b (hps a ha).1 (hps b hb).1, ?_⟩
  · have e : (fun m => ptrF ((D.del n).fl m) (pl m).1) = upd (fun m => ptrF (D.fl m) (pl m).1) n none := by
      funext m
      unfold Dsk.del
      simp only
      by_cases e : m = n
      · subst e; rw [upd_same, upd_same]; rfl
      · rw [upd_other _ _ _ _ e, upd_other _ _ _ _ e]
    rw [e]
    exact hM
  · intro m g hm
    have hp := hps m (some_isSome hm)
    unfold Dsk.del at hm
    simp only [upd_other _ _ _ _ hp.2] at hm
    exact (h.fil m g hm).chg hc (h.fne hp.1).2.1 (h.lo m hp.1).2.1
  · intro m hm
    have := h.lo m (hps m hm).1
    have hz := hc.size
    exact ⟨this.1, this.2.1, by omega⟩

/-- A name has come, or has another file. -/
theorem DiskAt.add (h : DiskAt S w d md pl D) {n : Nam} {f : Fil} {fb rb : Nat} (hc : Chg (fun i => i = md) w w') (hM : MapOf encStr w' md (upd (fun m => ptrF (D.fl m) (pl m).1) n (some (.pointer (some ⟨fb, 0, none⟩)))))
    (hF : FilAt w' fb rb f) (hS : S fb ∧ S rb) (hap : ∀ m, (D.fl m).isSome = true → m ≠ n → fb ≠ (pl m).1 ∧ rb ≠ (pl m).2 ∧ fb ≠ (pl m).2 ∧ rb ≠ (pl m).1) (hlo : rb ≠ d ∧ rb ≠ md ∧ rb < w'.heap.size) (hg : (D.put n f).Good) :
    DiskAt S w' d md (upd pl n (fb, rb)) (D.put n f) := by
  have hmd : md ≠ d := mapS_ne h.map h.blk
  have hps : ∀ m, m ≠ n → ((D.put n f).fl m).isSome = true → (D.fl m).isSome = true := fun m e hm => by
    unfold Dsk.put at hm
    simp only [upd_other _ _ _ _ e] at hm
    exact hm
  refine ⟨h.blk.chg hc (fun e => hmd e.symm), ?_, ?_, hg, h.sd, h.sm, ?_, ?_, ?_⟩
  · have e : (fun m => ptrF ((D.put n f).fl m) (upd pl n (fb, rb) m).1) = upd (fun m => ptrF (D.fl m) (pl m).1) n (some (.pointer (some ⟨fb, 0, none⟩))) := by
      funext m
      unfold Dsk.put
      simp only
      by_cases e : m = n
      · subst e; rw [upd_same, upd_same, upd_same]; rfl
      · rw [upd_other _ _ _ _ e, upd_other _ _ _ _ e, upd_other _ _ _ _ e]
    rw [e]
    exact hM
  · intro m g hm
    by_cases e : m = n
    · subst e
      unfold Dsk.put at hm
      simp only [upd_same] at hm
      cases hm
      rw [upd_same]
      exact hF
    · have hp := hps m e (some_isSome hm)
      unfold Dsk.put at hm
      simp only [upd_other _ _ _ _ e] at hm
      rw [upd_other _ _ _ _ e]
      exact (h.fil m g hm).chg hc (h.fne hp).2.1 (h.lo m hp).2.1
  · intro m hm
    by_cases e : m = n
    · subst e; rw [upd_same]; exact hS
    · rw [upd_other _ _ _ _ e]; exact h.sf m (hps m e hm)
  · intro a b ha hb hab
    by_cases ea : a = n
    · subst ea
      have := hap b (hps b (fun h => hab h.symm) hb) (fun h => hab h.symm)
      rw [upd_same, upd_other _ _ _ _ (fun h => hab h.symm)]
      exact ⟨this.1, this.2.1, this.2.2.1⟩
    · by_cases eb : b = n
      · subst eb
        have := hap a (hps a hab ha) hab
        rw [upd_same, upd_other _ _ _ _ hab]
        exact ⟨fun h => this.1 h.symm, fun h => this.2.1 h.symm, fun h => this.2.2.2 h.symm⟩
      · rw [upd_other _ _ _ _ ea, upd_other _ _ _ _ eb]
        exact h.ap a b (hps a ea ha) (hps b eb hb) hab
  · intro m hm
    have hz := hc.size
    by_cases e : m = n
    · subst e; rw [upd_same]; exact hlo
    · rw [upd_other _ _ _ _ e]
      have := h.lo m (hps m e hm)
      exact ⟨this.1, this.2.1, by omega⟩
end

theorem map_drop {S : Nat → Prop} {w : World} {d md : Nat} {pl : Nam → Nat × Nat} {D : Dsk} (h : DiskAt S w d md pl D) (n : Nam) (hn : n.length ≤ maxLen) :
    ∃ w3, (Builtin.delete_ #[68, 9] 0 #[.map (some md), encStr n]).run Try.prog w = .ok (.tuple #[]) w3 ∧ DiskAt S w3 d md pl (D.del n) ∧ Chg (fun i => i = md) w w3 := by
  obtain ⟨es', clock', hrun, hM3⟩ := h.map.drop (e := 82) (ty := 0) (t := 68) lawS encS_inj h.keys Try.underlying68 (keyS hn)
  have hc : Chg (fun i => i = md) w (ChangeMaps.setBlock w md (.map es' clock')) := (Chg.refl (fun i => i = md) w).setBlock (.inl rfl) _
  exact ⟨_, hrun, h.gone hc hM3, hc⟩

set_option maxRecDepth 100000 in
theorem dsk_remove {S : Nat → Prop} {w : World} {d md : Nat} {pl : Nam → Nat × Nat} {D : Dsk} (h : DiskAt S w d md pl D) (n : Nam) (hn : n.length ≤ maxLen) :
    Calls Try.prog 31 #[.pointer (some ⟨d, 0, none⟩), encStr n] w fun e w' => e = .returned (.int .i64 (D.remove n).1) ∧ DiskW S w' d (D.remove n).2 ∧ Chg S w w' := by
  cases hf : D.fl n with
  | none =>
    have e1 : D.remove n = (5, D) := by unfold Dsk.remove; rw [hf]
    rw [e1]
    go_enter Try.func31, Try.ntmps31
    go_wp2_with fail
    refine (dsk_of h n hn).mono ?_
    rintro e w' ⟨rfl, rfl⟩
    rw [hf]
    unfold adrF
    go_wp2_with fail
    go_ret
    exact ⟨rfl, ⟨md, pl, h⟩, Chg.refl _ _⟩
  | some f =>
    have e1 : D.remove n = (0, D.del n) := by unfold Dsk.remove; rw [hf]
    rw [e1]
    have c0 : w.cell? ⟨d, 0, none⟩ = some (.map (some md)) := by rw [h.blk.cell]; rfl
    obtain ⟨w3, hrun, hD, hc⟩ := map_drop h n hn
    have hcS : Chg S w w3 := hc.mono (fun i _ e => e ▸ h.sm)
    clear hc
    go_enter Try.func31, Try.ntmps31
    go_wp2_with fail
    refine (dsk_of h n hn).mono ?_
    rintro e w' ⟨rfl, rfl⟩
    rw [hf]
    unfold adrF
    go_wp2_with fail
    go_ret
    exact ⟨rfl, ⟨md, _, hD⟩, hcS⟩
set_option maxRecDepth 100000 in
theorem dsk_remove_nil (w : World) (n : Nam) :
    Calls Try.prog 31 #[.pointer none, encStr n] w fun e w' => e = .returned (.int .i64 5) ∧ w' = w := by
  go_enter Try.func31, Try.ntmps31
  go_wp2_with fail
  refine (dsk_of_nil w n).mono ?_
  rintro e w' ⟨rfl, rfl⟩
  go_wp2_with fail
  go_ret
  exact ⟨rfl, rfl⟩
end Go.Proofs.Ytpbjompopgdbjaa

namespace Go.Proofs.Ytpbjompopgdbjaa
open Go.RowKit Go.Maps

theorem map_put {S : Nat → Prop} {w : World} {d md : Nat} {pl : Nam → Nat × Nat} {D : Dsk} (h : DiskAt S w d md pl D) (n : Nam) (hn : n.length ≤ maxLen) (fb : Nat) :
    ∃ w3, (Instr.mapUpdate 68 (.map (some md)) (encStr n) (.pointer (some ⟨fb, 0, none⟩))).run Try.prog w = .ok () w3 ∧
      MapOf encStr w3 md (upd (fun m => ptrF (D.fl m) (pl m).1) n (some (.pointer (some ⟨fb, 0, none⟩)))) ∧ Chg (fun i => i = md) w w3 := by
  obtain ⟨es', clock', hrun, hM3⟩ := h.map.store (e := 82) (t := 68) lawS encS_inj h.keys Try.underlying68 (keyS hn) (.pointer (some ⟨fb, 0, none⟩))
  exact ⟨_, hrun, hM3, (Chg.refl (fun i => i = md) w).setBlock (.inl rfl) _⟩

theorem ren_good {D : Dsk} (hG : D.Good) {a b : Nam} {f : Fil} (hf : D.fl a = some f) (hb : 1 ≤ b.length ∧ b.length ≤ 20) : ((D.del a).put b f).Good := by
  have h1 := Dsk.used_del hG a
  rw [hf] at h1
  have h1 : (D.del a).used + f.bs.length = D.used := h1
  have h2 := Dsk.used_put (hG.del a) b f
  have h3 := hG.fit
  exact (hG.del a).put hb (hG.syn a f hf) (by show _ ≤ D.room; omega)

set_option maxRecDepth 100000 in
theorem dsk_rename {S : Nat → Prop} {w : World} {d md : Nat} {pl : Nam → Nat × Nat} {D : Dsk} (h : DiskAt S w d md pl D) (a b : Nam) (hn : a.length ≤ maxLen) (hn2 : b.length ≤ maxLen) :
    Calls Try.prog 36 #[.pointer (some ⟨d, 0, none⟩), encStr a, encStr b] w fun e w' => e = .returned (.int .i64 (D.rename a b).1) ∧ DiskW S w' d (D.rename a b).2 ∧ Chg S w w' := by
  cases hf : D.fl a with
  | none =>
    have e1 : D.rename a b = (5, D) := by unfold Dsk.rename; rw [hf]
    rw [e1]
    go_enter Try.func36, Try.ntmps36
    go_wp2_with fail
    refine (dsk_of h a hn).mono ?_
    rintro e w' ⟨rfl, rfl⟩
    rw [hf]
    unfold adrF
    go_wp2_with fail
    go_ret
    exact ⟨rfl, ⟨md, pl, h⟩, Chg.refl _ _⟩
  | some f =>
    cases hm : may b with
    | false =>
      have e1 : D.rename a b = (1, D) := by unfold Dsk.rename; rw [hf]; simp [hm]
      rw [e1]
      go_enter Try.func36, Try.ntmps36
      go_wp2_with fail
      refine (dsk_of h a hn).mono ?_
      rintro e w' ⟨rfl, rfl⟩
      rw [hf]
      unfold adrF
      go_wp2_with fail
      refine (dsk_may _ b).mono ?_
      rintro e w' ⟨rfl, rfl⟩
      rw [hm]
      go_wp2_with fail
      go_ret
      exact ⟨rfl, ⟨md, pl, h⟩, Chg.refl _ _⟩
    | true =>
      have e1 : D.rename a b = (0, (D.del a).put b f) := by unfold Dsk.rename; rw [hf]; simp [hm]
      rw [e1]
      have hb : 1 ≤ b.length ∧ b.length ≤ 20 := by simpa [may] using hm
      have hG' := ren_good h.good hf hb
      have hs := some_isSome hf
      have hfne := h.fne hs
      have hlo := h.lo a hs
      have c0 : w.cell? ⟨d, 0, none⟩ = some (.map (some md)) := by rw [h.blk.cell]; rfl
      obtain ⟨w3, hrun, hD, hc⟩ := map_drop h a hn
      have c3 : w3.cell? ⟨d, 0, none⟩ = some (.map (some md)) := by rw [hD.blk.cell]; rfl
      obtain ⟨w4, hrun4, hM4, hc4⟩ := map_put hD b hn2 (pl a).1
      have hcS : Chg S w w4 := (hc.trans hc4 (fun _ _ e => e)).mono (fun i _ e => e ▸ h.sm)
      have hz := (hc.trans hc4 (fun _ _ e => e)).size
      have hF : FilAt w4 (pl a).1 (pl a).2 f := (h.fil a f hf).chg (hc.trans hc4 (fun _ _ e => e)) hfne.2.1 hlo.2.1
      have hD4 := hD.add hc4 hM4 hF (h.sf a hs) (fun m hm hmb => by
        have hma : m ≠ a := fun e => by
          subst e
          unfold Dsk.del at hm
          simp only [upd_same] at hm
          cases hm
        have hmD : (D.fl m).isSome = true := by
          unfold Dsk.del at hm
          simp only [upd_other _ _ _ _ hma] at hm
          exact hm
        have h1 := h.ap a m hs hmD (fun e => hma e.symm)
        have h2 := h.ap m a hmD hs hma
        exact ⟨h1.1, h1.2.1, h1.2.2, fun e => h2.2.2 e.symm⟩) ⟨hlo.1, hlo.2.1, by omega⟩ hG'
      clear hc hc4 hF hM4 hD hG'
      go_enter Try.func36, Try.ntmps36
      go_wp2_with fail
      refine (dsk_of h a hn).mono ?_
      rintro e w' ⟨rfl, rfl⟩
      rw [hf]
      unfold adrF
      go_wp2_with fail
      refine (dsk_may _ b).mono ?_
      rintro e w' ⟨rfl, rfl⟩
      rw [hm]
      go_wp2_with fail
      go_ret
      exact ⟨rfl, ⟨md, _, hD4⟩, hcS⟩
set_option maxRecDepth 100000 in
theorem dsk_rename_nil (w : World) (a b : Nam) :
    Calls Try.prog 36 #[.pointer none, encStr a, encStr b] w fun e w' => e = .returned (.int .i64 5) ∧ w' = w := by
  go_enter Try.func36, Try.ntmps36
  go_wp2_with fail
  refine (dsk_of_nil w a).mono ?_
  rintro e w' ⟨rfl, rfl⟩
  go_wp2_with fail
  go_ret
  exact ⟨rfl, rfl⟩

theorem rowB_take {w : World} {ao : Option Addr} {off cap rb : Nat} {bs : List UInt8} (h : RowB w ao off cap rb bs) (k : Nat) (hk : k ≤ bs.length) : RowB w ao off k rb (bs.take k) := by
  have hle := h.came.le
  have hl : (bs.take k).length = k := by rw [List.length_take]; omega
  refine ⟨⟨by omega, fun h0 => h.came.addr (by omega), fun h0 => h.came.lt (by omega), by rw [bcells_len]; simp, fun j u hj => ?_, fun j hj => by rw [hl] at hj; omega⟩, by have := h.mx; omega⟩
  have hjl := (List.getElem?_eq_some_iff.1 hj).1
  rw [bcells_len, hl] at hjl
  unfold bcells at hj
  rw [List.map_take, List.getElem?_take_of_lt hjl] at hj
  exact h.came.olds j u hj

set_option maxRecDepth 100000 in
theorem dsk_cut {S : Nat → Prop} {w : World} {d md : Nat} {pl : Nam → Nat × Nat} {D : Dsk} (h : DiskAt S w d md pl D) (n : Nam) (hn : n.length ≤ maxLen) (k : Int) :
    Calls Try.prog 33 #[.pointer (some ⟨d, 0, none⟩), encStr n, .int .i64 k] w fun e w' => e = .returned (.int .i64 (D.cut n k).1) ∧ DiskW S w' d (D.cut n k).2 ∧ Chg S w w' := by
  cases hf : D.fl n with
  | none =>
    have e1 : D.cut n k = (5, D) := by unfold Dsk.cut; rw [hf]
    rw [e1]
    go_enter Try.func33, Try.ntmps33
    go_wp2_with fail
    refine (dsk_of h n hn).mono ?_
    rintro e w' ⟨rfl, rfl⟩
    rw [hf]
    unfold adrF
    go_wp2_with fail
    go_ret
    exact ⟨rfl, ⟨md, pl, h⟩, Chg.refl _ _⟩
  | some f =>
    have hG := h.good
    have hs := some_isSome hf
    obtain ⟨ao, off, cp, hB, hR, hne⟩ := h.fil n f hf
    have c1 : w.cell? ⟨(pl n).1, 0, none⟩ = some (.slice ao f.bs.length cp) := by rw [hB.cell]; rfl
    have c2 : w.cell? ⟨(pl n).1, 1, none⟩ = some (.int .i64 f.sy) := by rw [hB.cell]; rfl
    by_cases hk0 : k < 0
    · have e1 : D.cut n k = (3, D) := by unfold Dsk.cut; rw [hf]; simp [hk0]
      rw [e1]
      go_enter Try.func33, Try.ntmps33
      go_wp2_with fail
      refine (dsk_of h n hn).mono ?_
      rintro e w' ⟨rfl, rfl⟩
      rw [hf]
      unfold adrF
      go_wp2_with fail
      go_ret
      exact ⟨rfl, ⟨md, pl, h⟩, Chg.refl _ _⟩
    · by_cases hk1 : (f.bs.length : Int) < k
      · have e1 : D.cut n k = (3, D) := by unfold Dsk.cut; rw [hf]; simp [hk1]
        rw [e1]
        go_enter Try.func33, Try.ntmps33
        go_wp2_with fail
        refine (dsk_of h n hn).mono ?_
        rintro e w' ⟨rfl, rfl⟩
        rw [hf]
        unfold adrF
        go_wp2_with fail
        go_ret
        exact ⟨rfl, ⟨md, pl, h⟩, Chg.refl _ _⟩
      · obtain ⟨k, rfl⟩ : ∃ j : Nat, k = j := ⟨k.toNat, by omega⟩
        have hk : k ≤ f.bs.length := by omega
        have hle := hR.came.le
        have hl : (f.bs.take k).length = k := by rw [List.length_take]; omega
        have e1 : D.cut n k = (0, D.put n ⟨f.bs.take k, k⟩) := by
          unfold Dsk.cut
          rw [hf]
          simp only
          rw [if_neg (by omega)]
          simp
        rw [e1]
        have f0 : w.frozen? ⟨(pl n).1, 0, none⟩ = false := hB.frozen 0
        have f1 : w.frozen? ⟨(pl n).1, 1, none⟩ = false := hB.frozen 1
        have hfne := h.fne hs
        have hc : Chg (fun i => i = (pl n).1) w ((w.setCell ⟨(pl n).1, 0, none⟩ (.slice ao k k)).setCell ⟨(pl n).1, 1, none⟩ (.int .i64 k)) := ((Chg.refl (fun i => i = (pl n).1) w).setCell (.inl rfl) _).setCell (.inl rfl) _
        have hF : FilAt ((w.setCell ⟨(pl n).1, 0, none⟩ (.slice ao k k)).setCell ⟨(pl n).1, 1, none⟩ (.int .i64 k)) (pl n).1 (pl n).2 ⟨f.bs.take k, k⟩ := by
          refine ⟨ao, off, k, ?_, (rowB_take hR k hk).keep hc.size (fun h0 => hc.block _ (hR.came.lt (by omega)) (hne (by omega))), fun h0 => hne (by omega)⟩
          show Blk _ _ _ #[.slice ao (f.bs.take k).length k, .int .i64 k]
          rw [hl]
          exact (hB.set 0 _).set 1 _
        have hu := Dsk.used_put hG n ⟨f.bs.take k, k⟩
        rw [hf] at hu
        have hu : (D.put n ⟨f.bs.take k, k⟩).used + f.bs.length = D.used + (f.bs.take k).length := hu
        have hfit := hG.fit
        have hG' : (D.put n ⟨f.bs.take k, k⟩).Good := hG.put (hG.nam n hs) (by show k ≤ (f.bs.take k).length; omega) (by omega)
        have hD := h.turn hf hc (fun i hi => .inl hi) (fun e => hfne.1 e.symm) (fun e => hfne.2.1 e.symm) hF (.inl rfl) hG'
        have hcS : Chg S w ((w.setCell ⟨(pl n).1, 0, none⟩ (.slice ao k k)).setCell ⟨(pl n).1, 1, none⟩ (.int .i64 k)) := hc.mono (fun i _ e => e ▸ (h.sf n hs).1)
        clear hF hu hG' hc
        go_enter Try.func33, Try.ntmps33
        go_wp2_with fail
        refine (dsk_of h n hn).mono ?_
        rintro e w' ⟨rfl, rfl⟩
        rw [hf]
        unfold adrF
        go_wp2_with fail
        go_ret
        exact ⟨rfl, ⟨md, _, hD⟩, hcS⟩
set_option maxRecDepth 100000 in
theorem dsk_cut_nil (w : World) (n : Nam) (k : Int) :
    Calls Try.prog 33 #[.pointer none, encStr n, .int .i64 k] w fun e w' => e = .returned (.int .i64 5) ∧ w' = w := by
  go_enter Try.func33, Try.ntmps33
  go_wp2_with fail
  refine (dsk_of_nil w n).mono ?_
  rintro e w' ⟨rfl, rfl⟩
  go_wp2_with fail
  go_ret
  exact ⟨rfl, rfl⟩
end Go.Proofs.Ytpbjompopgdbjaa
