/-
  disk: Remove, Rename, Cut by their contracts.
-/
import Derived.Test.YtgcmagoecapgoaaDskD
namespace Go.Proofs.Ytgcmagoecapgoaa
open Go.RowKit Go.Maps

section
variable {S : Nat → Prop} {w w' : World} {d md : Nat} {pl : Nam → Nat × Nat} {D : Dsk}
/-- A name has gone. -/
theorem DiskAt.gone (h : DiskAt S w d md pl D) {n : Nam} (hc : Chg (fun i => i = md) w w') (hM : MapOf encStr w' md (upd (fun m => ptrF (D.fl m) (pl m).1) n none)) : DiskAt S w' d md pl (D.del n) := by
  have hmd : md ≠ d := mapS_ne h.map h.blk
  have hps : ∀ m, ((D.del n).fl m).isSome = true → (D.fl m).isSome = true ∧ m ≠ n := fun m hm => by
    by_cases e : m = n
    · unfold Dsk.del at hm
      subst e
      simp only [upd_same] at hm
      cases hm
    · unfold Dsk.del at hm
      simp only [upd_other _ _ _ _ e] at hm
      exact ⟨hm, e⟩
  refine ⟨h.blk.chg hc (fun e => hmd e.symm), ?_, ?_, h.good.del n, h.sd, h.sm, fun m hm => h.sf m (hps m hm).1, fun a b ha hb => h.ap a b (hps a ha).1 (hps b hb).1, ?_⟩
  · have e : (fun m => ptrF ((D.del n).fl m) (pl m).1) = upd (fun m => ptrF (D.fl m) (pl m).1) n none := by
      funext m
      unfold Dsk.del
      simp only
      by_cases e : m = n
      · subst e; rw [upd_same, upd_same]; rfl
      · rw [upd_other _ _ _ _ e, upd_other _ _ _ _ e]
    rw [e]
    exact hM
  · intro m g hm
    have hp := hps m (some_isSome hm)
    unfold Dsk.del at hm
    simp only [upd_other _ _ _ _ hp.2] at hm
    exact (h.fil m g hm).chg hc (h.fne hp.1).2.1 (h.lo m hp.1).2.1
  · intro m hm
    have := h.lo m (hps m hm).1
    have hz := hc.size
    exact ⟨this.1, this.2.1, by omega⟩

/-- A name has come, or has another file. -/
theorem DiskAt.add (h : DiskAt S w d md pl D) {n : Nam} {f : Fil} {fb rb : Nat} (hc : Chg (fun i => i = md) w w') (hM : MapOf encStr w' md (upd (fun m => ptrF (D.fl m) (pl m).1) n (some (.pointer (some ⟨fb, 0, none⟩)))))
    (hF : FilAt w' fb rb f) (hS : S fb ∧ S rb) (hap : ∀ m, (D.fl m).isSome = true → m ≠ n → fb ≠ (pl m).1 ∧ rb ≠ (pl m).2 ∧ fb ≠ (pl m).2 ∧ rb ≠ (pl m).1) (hlo : rb ≠ d ∧ rb ≠ md ∧ rb < w'.heap.size) (hg : (D.put n f).Good) :
    DiskAt S w' d md (upd pl n (fb, rb)) (D.put n f) := by
  have hmd : md ≠ d := mapS_ne h.map h.blk
  have hps : ∀ m, m ≠ n → ((D.put n f).fl m).isSome = true → (D.fl m).isSome = true := fun m e hm => by
    unfold Dsk.put at hm
    simp only [upd_other _ _ _ _ e] at hm
    exact hm
  refine ⟨h.blk.chg hc (fun e => hmd e.symm), ?_, ?_, hg, h.sd, h.sm, ?_, ?_, ?_⟩
  · have e : (fun m => ptrF ((D.put n f).fl m) (upd pl n (fb, rb) m).1) = upd (fun m => ptrF (D.fl m) (pl m).1) n (some (.pointer (some ⟨fb, 0, none⟩))) := by
      funext m
      unfold Dsk.put
      simp only
      by_cases e : m = n
      · subst e; rw [upd_same, upd_same, upd_same]; rfl
      · rw [upd_other _ _ _ _ e, upd_other _ _ _ _ e, upd_other _ _ _ _ e]
    rw [e]
    exact hM
  · intro m g hm
    by_cases e : m = n
    · subst e
      unfold Dsk.put at hm
      simp only [upd_same] at hm
      cases hm
      rw [upd_same]
      exact hF
    · have hp := hps m e (some_isSome hm)
      unfold Dsk.put at hm
      simp only [upd_other _ _ _ _ e] at hm
      rw [upd_other _ _ _ _ e]
      exact (h.fil m g hm).chg hc (h.fne hp).2.1 (h.lo m hp).2.1
  · intro m hm
    by_cases e : m = n
    · subst e; rw [upd_same]; exact hS
    · rw [upd_other _ _ _ _ e]; exact h.sf m (hps m e hm)
  · intro a b ha hb hab
    by_cases ea : a = n
    · subst ea
      have := hap b (hps b (fun h => hab h.symm) hb) (fun h => hab h.symm)
      rw [upd_same, upd_other _ _ _ _ (fun h => hab h.symm)]
      exact ⟨this.1, this.2.1, this.2.2.1⟩
    · by_cases eb : b = n
      · subst eb
        have := hap a (hps a hab ha) hab
        rw [upd_same, upd_other _ _ _ _ hab]
        exact ⟨fun h => this.1 h.symm, fun h => this.2.1 h.symm, fun h => this.2.2.2 h.symm⟩
      · rw [upd_other _ _ _ _ ea, upd_other _ _ _ _ eb]
        exact h.ap a b (hps a ea ha) (hps b eb hb) hab
  · intro m hm
    have hz := hc.size
    by_cases e : m = n
    · subst e; rw [upd_same]; exact hlo
    · rw [upd_other _ _ _ _ e]
      have := h.lo m (hps m e hm)
      exact ⟨this.1, this.2.1, by omega⟩
end

theorem map_drop {S : Nat → Prop} {w : World} {d md : Nat} {pl : Nam → Nat × Nat} {D : Dsk} (h : DiskAt S w d md pl D) (n : Nam) (hn : n.length ≤ maxLen) :
    ∃ w3, (Builtin.delete_ #[55, 9] 0 #[.map (some md), encStr n]).run Try.prog w = .ok (.tuple #[]) w3 ∧ DiskAt S w3 d md pl (D.del n) ∧ Chg (fun i => i = md) w w3 := by
  obtain ⟨es', clock', hrun, hM3⟩ := h.map.drop (e := 59) (ty := 0) (t := 55) lawS encS_inj h.keys Try.underlying55 (keyS hn)
  have hc : Chg (fun i => i = md) w (ChangeMaps.setBlock w md (.map es' clock')) := (Chg.refl (fun i => i = md) w).setBlock (.inl rfl) _
  exact ⟨_, hrun, h.gone hc hM3, hc⟩

set_option maxRecDepth 100000 in
theorem dsk_remove {S : Nat → Prop} {w : World} {d md : Nat} {pl : Nam → Nat × Nat} {D : Dsk} (h : DiskAt S w d md pl D) (n : Nam) (hn : n.length ≤ maxLen) :
    Calls Try.prog 24 #[.pointer (some ⟨d, 0, none⟩), encStr n] w fun e w' => e = .returned (.int .i64 (D.remove n).1) ∧ DiskW S w' d (D.remove n).2 ∧ Chg S w w' := by
  cases hf : D.fl n with
  | none =>
    have e1 : D.remove n = (5, D) := by unfold Dsk.remove; rw [hf]
    rw [e1]
    go_enter Try.func24, Try.ntmps24
    go_wp2_with fail
    refine (dsk_of h n hn).mono ?_
    rintro e w' ⟨rfl, rfl⟩
    rw [hf]
    unfold adrF
    go_wp2_with fail
    go_ret
    exact ⟨rfl, ⟨md, pl, h⟩, Chg.refl _ _⟩
  | some f =>
    have e1 : D.remove n = (0, D.del n) := by unfold Dsk.remove; rw [hf]
    rw [e1]
    have c0 : w.cell? ⟨d, 0, none⟩ = some (.map (some md)) := by rw [h.blk.cell]; rfl
    obtain ⟨w3, hrun, hD, hc⟩ := map_drop h n hn
    have hcS : Chg S w w3 := hc.mono (fun i _ e => e ▸ h.sm)
    clear hc
    go_enter Try.func24, Try.ntmps24
    go_wp2_with fail
    refine (dsk_of h n hn).mono ?_
    rintro e w' ⟨rfl, rfl⟩
    rw [hf]
    unfold adrF
    go_wp2_with fail
    go_ret
    exact ⟨rfl, ⟨md, _, hD⟩, hcS⟩
set_option maxRecDepth 100000 in
theorem dsk_remove_nil (w : World) (n : Nam) :
    Calls Try.prog 24 #[.pointer none, encStr n] w fun e w' => e = .returned (.int .i64 5) ∧ w' = w := by
  go_enter Try.func24, Try.ntmps24
  go_wp2_with fail
  refine (dsk_of_nil w n).mono ?_
  rintro e w' ⟨rfl, rfl⟩
  go_wp2_with fail
  go_ret
  exact ⟨rfl, rfl⟩
end Go.Proofs.Ytgcmagoecapgoaa
