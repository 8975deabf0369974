/-
  logs in plain words: what a log's disk has, and what Put, Sync, Save make of it.
-/
import Derived.Test.YtpbjompopgdbjaaZSealD
import Derived.Test.YtpbjompopgdbjaaDNamP
namespace Go.Proofs.Ytpbjompopgdbjaa

theorem names_ne : nSnap ≠ nLog ∧ nSnap ≠ nNext ∧ nLog ≠ nNext := ⟨by decide, by decide, by decide⟩
theorem used_two {D : Dsk} (hG : D.Good) {a b : Nam} (hab : a ≠ b) (hk : ∀ n, n ∈ D.ks → n = a ∨ n = b) : D.used = lenF (D.fl a) + lenF (D.fl b) := by
  have h1 := Dsk.used_del hG a
  have hG1 := hG.del a
  have h2 := Dsk.used_del hG1 b
  have e : ((D.del a).del b).ks = [] := by
    refine List.eq_nil_iff_forall_not_mem.2 fun n hn => ?_
    have hn1 := (List.Nodup.mem_erase_iff hG1.nod).1 hn
    have hn2 := (List.Nodup.mem_erase_iff hG.nod).1 hn1.2
    rcases hk n hn2.2 with h | h
    · exact hn2.1 h
    · exact hn1.1 h
  have h3 : ((D.del a).del b).used = 0 := by
    unfold Dsk.used
    rw [e]
    rfl
  rw [del_ne D a (Ne.symm hab)] at h2
  omega

structure Rep (D : Dsk) (age : Int) (st recs : List Rec) (sy : Nat) : Prop where
  good : D.Good
  ag : 0 ≤ age
  agm : age ≤ 1000000
  oks : ∀ b ∈ st, okR b
  okr : ∀ b ∈ recs, okR b
  snap : (age = 0 ∧ st = [] ∧ D.fl nSnap = none) ∨ D.fl nSnap = some ⟨flat (nb age :: st), (flat (nb age :: st)).length⟩
  log : (bsF (D.fl nLog) = [] ∧ recs = []) ∨ bsF (D.fl nLog) = flat (nb age :: recs)
  syl : sy ≤ recs.length ∧ (sy = 0 ∨ (flat (nb age :: recs.take sy)).length ≤ syF (D.fl nLog))
  nxt : D.fl nNext = none
  ks : ∀ n, n ∈ D.ks → n = nSnap ∨ n = nLog

theorem ok_gen {age : Int} (h0 : 0 ≤ age) (h1 : age ≤ 1000001) : okR (nb age) := nb_small h0 (by omega)
theorem flat_pos (b : Rec) (l : List Rec) : 6 ≤ (flat (b :: l)).length := by rw [flat_cons, List.length_append, frm_len]; omega
theorem flat_ne (b : Rec) (l : List Rec) : flat (b :: l) ≠ [] := fun h => by have := flat_pos b l; rw [h] at this; simp at this
theorem flat_gen_le {age : Int} (h0 : 0 ≤ age) (h1 : age ≤ 1000001) (l : List Rec) : (flat (nb age :: l)).length ≤ 16 + (flat l).length := by
  have := nb_len (v := age) (by omega)
  rw [flat_cons, List.length_append, frm_len]
  omega
theorem mem_put (D : Dsk) (n : Nam) (f : Fil) {m : Nam} (h : m ∈ (D.put n f).ks) : m ∈ D.ks ∨ m = n := by
  have h : m ∈ (if (D.fl n).isSome then D.ks else n :: D.ks) := h
  split at h
  · exact .inl h
  · rcases List.mem_cons.1 h with h | h
    · exact .inr h
    · exact .inl h

section
variable {D : Dsk} {age : Int} {st recs : List Rec} {sy : Nat} (h : Rep D age st recs sy)
include h
theorem Rep.used : D.used = lenF (D.fl nSnap) + lenF (D.fl nLog) := used_two h.good names_ne.1 h.ks
theorem Rep.logLen : lenF (D.fl nLog) ≤ 16 + (flat recs).length := by
  rw [← lenF_bs]
  rcases h.log with ⟨h1, _⟩ | h1
  · rw [h1]; exact Nat.zero_le _
  · rw [h1]; exact flat_gen_le h.ag (by have := h.agm; omega) _
theorem Rep.snapLen : lenF (D.fl nSnap) ≤ 16 + (flat st).length := by
  rcases h.snap with ⟨_, _, h1⟩ | h1
  · rw [h1]; exact Nat.zero_le _
  · rw [h1]; exact flat_gen_le h.ag (by have := h.agm; omega) _
/-- A record is put. -/
theorem Rep.put {b : Rec} (hb : okR b) (hr : (D.used : Int) + 22 + b.length ≤ D.room) : ∃ D', D.putRec age b = (0, D') ∧ Rep D' age st (recs ++ [b]) sy ∧ D'.room = D.room := by
  have hag := h.ag
  have hagm := h.agm
  have hgl := nb_len (v := age) (by omega)
  obtain ⟨X, hX, hXl⟩ : ∃ X, (if bsF (D.fl nLog) = [] then frm (nb age) ++ frm b else frm b) = X ∧ X.length ≤ 22 + b.length := by
    refine ⟨_, rfl, ?_⟩
    split
    · rw [List.length_append, frm_len, frm_len]; omega
    · rw [frm_len]; omega
  have hbs : bsF (D.fl nLog) ++ X = flat (nb age :: (recs ++ [b])) := by
    rw [← hX]
    rcases h.log with ⟨h1, h2⟩ | h1
    · rw [if_pos h1, h1, h2, List.nil_append, List.nil_append, flat_cons, flat_one]
    · rw [if_neg (by rw [h1]; exact flat_ne _ _), h1, ← List.cons_append, flat_app, flat_one]
  have hfull : ¬ D.room - D.used < X.length := by omega
  have hm : may nLog = true := by decide
  refine ⟨D.put nLog ⟨bsF (D.fl nLog) ++ X, syF (D.fl nLog)⟩, ?_, ?_, rfl⟩
  · unfold Dsk.putRec
    rw [hX]
    exact app_ok hm hfull
  · refine ⟨good_app h.good (by decide) hfull, hag, hagm, h.oks, fun c hc => ?_, ?_, .inr ?_, ?_, ?_, fun n hn => ?_⟩
    · rcases List.mem_append.1 hc with hc | hc
      · exact h.okr c hc
      · simp at hc; subst hc; exact hb
    · rw [dput_ne _ _ _ names_ne.1]
      exact h.snap
    · rw [dput_fl]
      exact hbs
    · refine ⟨by rw [List.length_append]; have := h.syl.1; omega, ?_⟩
      rw [dput_fl, List.take_append_of_le_length h.syl.1]
      exact h.syl.2
    · rw [dput_ne _ _ _ (Ne.symm names_ne.2.2)]
      exact h.nxt
    · rcases mem_put _ _ _ hn with hn | hn
      · exact h.ks n hn
      · exact .inr hn
/-- All records are synced. -/
theorem Rep.sync : ∃ D', (D.sync nLog).2 = D' ∧ Rep D' age st recs recs.length ∧ D'.room = D.room ∧ D'.used = D.used := by
  unfold Dsk.sync
  cases hf : D.fl nLog with
  | none =>
    have hr : recs = [] := by
      rcases h.log with ⟨_, h1⟩ | h1
      · exact h1
      · rw [hf] at h1
        exact absurd h1.symm (flat_ne _ _)
    subst hr
    exact ⟨D, rfl, ⟨h.good, h.ag, h.agm, h.oks, h.okr, h.snap, h.log, ⟨Nat.le_refl _, .inl rfl⟩, h.nxt, h.ks⟩, rfl, rfl⟩
  | some f =>
    have hu := Dsk.used_put h.good nLog ⟨f.bs, f.bs.length⟩
    rw [hf] at hu
    have hu2 : (D.put nLog ⟨f.bs, f.bs.length⟩).used = D.used := by
      have : (D.put nLog ⟨f.bs, f.bs.length⟩).used + f.bs.length = D.used + f.bs.length := hu
      omega
    have hfit := h.good.fit
    refine ⟨_, rfl, ⟨h.good.put (by decide) (Nat.le_refl _) (by omega), h.ag, h.agm, h.oks, h.okr, ?_, ?_, ⟨Nat.le_refl _, ?_⟩, ?_, fun n hn => ?_⟩, rfl, hu2⟩
    · rw [dput_ne _ _ _ names_ne.1]
      exact h.snap
    · rw [dput_fl]
      have := h.log
      rw [hf] at this
      exact this
    · rw [dput_fl, List.take_length]
      have := h.log
      rw [hf] at this
      rcases this with ⟨_, h2⟩ | h2
      · rw [h2]; exact .inl rfl
      · right
        show _ ≤ f.bs.length
        have h2 : f.bs = _ := h2
        rw [h2]
        exact Nat.le_refl _
    · rw [dput_ne _ _ _ (Ne.symm names_ne.2.2)]
      exact h.nxt
    · rcases mem_put _ _ _ hn with hn | hn
      · exact h.ks n hn
      · exact .inr hn
end
end Go.Proofs.Ytpbjompopgdbjaa

namespace Go.Proofs.Ytpbjompopgdbjaa

theorem remove_none {D : Dsk} {n : Nam} (h : D.fl n = none) : (D.remove n).2 = D := by
  unfold Dsk.remove
  rw [h]

section
variable {D : Dsk} {age : Int} {st recs : List Rec} {sy : Nat} (h : Rep D age st recs sy)
include h
/-- A state is saved. -/
theorem Rep.save {st' : List Rec} (hok : ∀ b ∈ st', okR b) (hage : age + 1 ≤ 1000000) (hr : (D.used : Int) + 16 + (flat st').length ≤ D.room) : ∃ D', D.saved age st' = (0, D') ∧ Rep D' (age + 1) st' [] 0 ∧ D'.room = D.room ∧ bsF (D'.fl nLog) = [] := by
  have hag := h.ag
  obtain ⟨A, hA⟩ : ∃ A, flat (nb (age + 1) :: st') = A := ⟨_, rfl⟩
  have hAl : A.length ≤ 16 + (flat st').length := by rw [← hA]; exact flat_gen_le (by omega) (by omega) _
  have hfull : ¬ D.room - D.used < A.length := by omega
  have hm : may nNext = true := by decide
  have e1 : D.append nNext A = (0, D.put nNext ⟨A, 0⟩) := by
    rw [app_ok hm hfull, h.nxt]
    rfl
  have g2 : (D.put nNext ⟨A, 0⟩).Good := by
    have := good_app h.good (n := nNext) (b := A) (by decide) hfull
    rw [h.nxt] at this
    exact this
  have u2 : (D.put nNext ⟨A, 0⟩).used = D.used + A.length := by
    have := Dsk.used_put h.good nNext ⟨A, 0⟩
    rw [h.nxt] at this
    exact this
  obtain ⟨D2, hD2⟩ : ∃ D2, D.put nNext ⟨A, 0⟩ = D2 := ⟨_, rfl⟩
  have f2 : D2.fl nNext = some ⟨A, 0⟩ := by rw [← hD2]; exact dput_fl _ _ _
  have o2 : ∀ m, m ≠ nNext → D2.fl m = D.fl m := fun m hm => by rw [← hD2]; exact dput_ne _ _ _ hm
  have k2 : ∀ m, m ∈ D2.ks → m ∈ D.ks ∨ m = nNext := fun m hm => by rw [← hD2] at hm; exact mem_put _ _ _ hm
  have r2 : D2.room = D.room := by rw [← hD2]; rfl
  rw [hD2] at e1 g2 u2
  have e3 : (D2.sync nNext).2 = D2.put nNext ⟨A, A.length⟩ := by
    unfold Dsk.sync
    rw [f2]
  have u3 : (D2.put nNext ⟨A, A.length⟩).used = D2.used := by
    have := Dsk.used_put g2 nNext ⟨A, A.length⟩
    rw [f2] at this
    have this : (D2.put nNext ⟨A, A.length⟩).used + A.length = D2.used + A.length := this
    omega
  have g3 : (D2.put nNext ⟨A, A.length⟩).Good := g2.put (by decide) (Nat.le_refl _) (by have := g2.fit; omega)
  obtain ⟨D3, hD3⟩ : ∃ D3, D2.put nNext ⟨A, A.length⟩ = D3 := ⟨_, rfl⟩
  have f3 : D3.fl nNext = some ⟨A, A.length⟩ := by rw [← hD3]; exact dput_fl _ _ _
  have o3 : ∀ m, m ≠ nNext → D3.fl m = D.fl m := fun m hm => by rw [← hD3, dput_ne _ _ _ hm]; exact o2 m hm
  have k3 : ∀ m, m ∈ D3.ks → m ∈ D.ks ∨ m = nNext := fun m hm => by
    rw [← hD3] at hm
    rcases mem_put _ _ _ hm with hm | hm
    · exact k2 m hm
    · exact .inr hm
  have r3 : D3.room = D.room := by rw [← hD3]; exact r2
  rw [hD3] at e3 u3 g3
  have e4 : (D3.rename nNext nSnap).2 = (D3.del nNext).put nSnap ⟨A, A.length⟩ := by
    unfold Dsk.rename
    rw [f3]
    rfl
  have gd := g3.del nNext
  have ud := Dsk.used_del g3 nNext
  rw [f3] at ud
  have ud : (D3.del nNext).used + A.length = D3.used := ud
  have us := Dsk.used_put gd nSnap ⟨A, A.length⟩
  have us : ((D3.del nNext).put nSnap ⟨A, A.length⟩).used + lenF ((D3.del nNext).fl nSnap) = (D3.del nNext).used + A.length := us
  have g4 : ((D3.del nNext).put nSnap ⟨A, A.length⟩).Good := gd.put (by decide) (Nat.le_refl _) (by have := g3.fit; show _ ≤ D3.room; omega)
  obtain ⟨D4, hD4⟩ : ∃ D4, (D3.del nNext).put nSnap ⟨A, A.length⟩ = D4 := ⟨_, rfl⟩
  have f4 : D4.fl nSnap = some ⟨A, A.length⟩ := by rw [← hD4]; exact dput_fl _ _ _
  have n4 : D4.fl nNext = none := by rw [← hD4, dput_ne _ _ _ (Ne.symm names_ne.2.1)]; exact del_self _ _
  have k4 : ∀ m, m ∈ D4.ks → m = nSnap ∨ m = nLog := fun m hm => by
    rw [← hD4] at hm
    rcases mem_put _ _ _ hm with hm | hm
    · have hm2 := (List.Nodup.mem_erase_iff g3.nod).1 hm
      rcases k3 m hm2.2 with h1 | h1
      · exact h.ks m h1
      · exact absurd h1 hm2.1
    · exact .inl hm
  have r4 : D4.room = D.room := by rw [← hD4]; exact r3
  rw [hD4] at e4 g4 us
  have hsv : D.saved age st' = (0, (D4.cut nLog 0).2) := by
    unfold Dsk.saved
    rw [remove_none h.nxt, hA, e1]
    show (if (0 : Int) = 0 then _ else _) = _
    rw [if_pos rfl, e3, e4]
  have hst : (0 ≤ age + 1) := by omega
  cases hl : D4.fl nLog with
  | none =>
    have e5 : (D4.cut nLog 0).2 = D4 := by unfold Dsk.cut; rw [hl]
    rw [e5] at hsv
    exact ⟨D4, hsv, ⟨g4, hst, hage, hok, fun b hb => (by cases hb), .inr (by rw [f4, hA]), .inl ⟨by rw [hl]; rfl, rfl⟩, ⟨Nat.le_refl _, .inl rfl⟩, n4, k4⟩, r4, by rw [hl]; rfl⟩
  | some f =>
    have e5 : (D4.cut nLog 0).2 = D4.put nLog ⟨[], 0⟩ := by
      unfold Dsk.cut
      rw [hl]
      show (if (0 : Int) < 0 ∨ (f.bs.length : Int) < 0 then _ else _ : Int × Dsk).2 = _
      rw [if_neg (by omega)]
      rfl
    have uc := Dsk.used_put g4 nLog ⟨[], 0⟩
    rw [hl] at uc
    have uc : (D4.put nLog ⟨[], 0⟩).used + f.bs.length = D4.used + 0 := uc
    have g5 : (D4.put nLog ⟨[], 0⟩).Good := g4.put (by decide) (Nat.le_refl _) (by have := g4.fit; omega)
    rw [e5] at hsv
    refine ⟨_, hsv, ⟨g5, hst, hage, hok, fun b hb => (by cases hb), .inr ?_, .inl ⟨by rw [dput_fl]; rfl, rfl⟩, ⟨Nat.le_refl _, .inl rfl⟩, ?_, fun n hn => ?_⟩, r4, by rw [dput_fl]; rfl⟩
    · rw [dput_ne _ _ _ names_ne.1, f4, hA]
    · rw [dput_ne _ _ _ (Ne.symm names_ne.2.2)]
      exact n4
    · rcases mem_put _ _ _ hn with hn | hn
      · exact k4 n hn
      · exact .inr hn
end

theorem flat_take_mono (l : List Rec) {i j : Nat} (h : i ≤ j) : (flat (l.take i)).length ≤ (flat (l.take j)).length := by
  have e : l.take j = l.take i ++ (l.take j).drop i := by
    have := (List.take_append_drop i (l.take j)).symm
    rw [List.take_take, Nat.min_eq_left h] at this
    exact this
  rw [e, flat_app, List.length_append]
  omega

/-- A disk on which a log may be opened: the state whole, the log's bytes a beginning. -/
structure Pre (D : Dsk) (age : Int) (st recs : List Rec) (sy : Nat) : Prop where
  good : D.Good
  ag : 0 ≤ age
  agm : age ≤ 1000000
  oks : ∀ b ∈ st, okR b
  okr : ∀ b ∈ recs, okR b
  snap : (age = 0 ∧ st = [] ∧ D.fl nSnap = none) ∨ D.fl nSnap = some ⟨flat (nb age :: st), (flat (nb age :: st)).length⟩
  log : ∃ n, bsF (D.fl nLog) = (flat (nb age :: recs)).take n ∧ (sy = 0 ∨ (flat (nb age :: recs.take sy)).length ≤ n)
  syl : sy ≤ recs.length
  ks : ∀ n, n ∈ D.ks → n = nSnap ∨ n = nLog ∨ n = nNext

theorem Rep.pre {D : Dsk} {age : Int} {st recs : List Rec} {sy : Nat} (h : Rep D age st recs sy) : Pre D age st recs recs.length := by
  refine ⟨h.good, h.ag, h.agm, h.oks, h.okr, h.snap, ?_, Nat.le_refl _, fun n hn => (h.ks n hn).imp id .inl⟩
  rcases h.log with ⟨h1, h2⟩ | h1
  · exact ⟨0, by rw [h1]; rfl, .inl (by rw [h2]; rfl)⟩
  · exact ⟨(flat (nb age :: recs)).length, by rw [h1, List.take_length], .inr (by rw [List.take_length]; exact Nat.le_refl _)⟩
theorem Rep.crash {D : Dsk} {age : Int} {st recs : List Rec} {sy : Nat} (h : Rep D age st recs sy) (keep : Int) : Pre (D.crash keep) age st recs sy := by
  refine ⟨h.good.crash keep, h.ag, h.agm, h.oks, h.okr, ?_, ?_, h.syl.1, fun n hn => (h.ks n hn).imp id .inl⟩
  · rcases h.snap with ⟨h1, h2, h3⟩ | h1
    · refine .inl ⟨h1, h2, ?_⟩
      show (D.fl nSnap).map _ = none
      rw [h3]
      rfl
    · right
      show (D.fl nSnap).map (crashF keep) = _
      rw [h1]
      have hs : stay keep ⟨flat (nb age :: st), (flat (nb age :: st)).length⟩ = (flat (nb age :: st)).length := by
        unfold stay
        simp
      show some (crashF keep _) = _
      unfold crashF
      rw [hs]
      simp
  · cases hf : D.fl nLog with
    | none =>
      have e : (D.crash keep).fl nLog = none := by
        show (D.fl nLog).map _ = none
        rw [hf]
        rfl
      have h2 : sy = 0 := by
        rcases h.syl.2 with h1 | h1
        · exact h1
        · rw [hf] at h1
          have := flat_pos (nb age) (recs.take sy)
          have h1 : _ ≤ 0 := h1
          omega
      exact ⟨0, by rw [e]; rfl, .inl h2⟩
    | some f =>
      have e : (D.crash keep).fl nLog = some (crashF keep f) := by
        show (D.fl nLog).map _ = _
        rw [hf]
        rfl
      have hsl := stay_le h.good keep hf
      have h2 := h.syl.2
      have h3 := h.log
      rw [hf] at h2 h3
      rcases h3 with ⟨h3, h4⟩ | h3
      · refine ⟨0, ?_, .inl (by have := h.syl.1; rw [h4] at this; exact Nat.le_zero.1 this)⟩
        rw [e]
        show f.bs.take _ = []
        have h3 : f.bs = [] := h3
        rw [h3]
        simp
      · refine ⟨stay keep f, ?_, h2.imp id (fun h2 => Nat.le_trans h2 hsl.1)⟩
        rw [e]
        show f.bs.take _ = _
        have h3 : f.bs = _ := h3
        rw [h3]

theorem cut_log {D1 : Dsk} (g : D1.Good) (E : Nat) (hE : E ≤ (bsF (D1.fl nLog)).length) : ∃ D', (D1.cut nLog (E : Int)).2 = D' ∧ D'.Good ∧ bsF (D'.fl nLog) = (bsF (D1.fl nLog)).take E ∧ syF (D'.fl nLog) = E ∧ (∀ m, m ≠ nLog → D'.fl m = D1.fl m) ∧ (∀ m, m ∈ D'.ks → m ∈ D1.ks ∨ m = nLog) ∧ D'.room = D1.room := by
  cases hl : D1.fl nLog with
  | none =>
    rw [hl] at hE
    have hE : E ≤ 0 := hE
    have hE0 : E = 0 := by omega
    subst hE0
    refine ⟨D1, ?_, g, by rw [hl]; rfl, by rw [hl]; rfl, fun _ _ => rfl, fun m hm => .inl hm, rfl⟩
    unfold Dsk.cut
    rw [hl]
  | some f =>
    rw [hl] at hE
    have hE : E ≤ f.bs.length := hE
    have e5 : (D1.cut nLog (E : Int)).2 = D1.put nLog ⟨f.bs.take E, E⟩ := by
      unfold Dsk.cut
      rw [hl]
      show (if (E : Int) < 0 ∨ (f.bs.length : Int) < E then _ else _ : Int × Dsk).2 = _
      rw [if_neg (by omega)]
      rfl
    have uc := Dsk.used_put g nLog ⟨f.bs.take E, E⟩
    rw [hl] at uc
    have uc : (D1.put nLog ⟨f.bs.take E, E⟩).used + f.bs.length = D1.used + (f.bs.take E).length := uc
    have hl2 : (f.bs.take E).length = E := by rw [List.length_take]; omega
    have hfit := g.fit
    exact ⟨_, e5, g.put (by decide) (by show E ≤ (f.bs.take E).length; omega) (by omega), by rw [dput_fl]; rfl, by rw [dput_fl]; rfl, fun m hm => dput_ne _ _ _ hm, fun m hm => mem_put _ _ _ hm, rfl⟩
theorem remove_next {D : Dsk} (g : D.Good) (hk : ∀ n, n ∈ D.ks → n = nSnap ∨ n = nLog ∨ n = nNext) : ∃ D1, (D.remove nNext).2 = D1 ∧ D1.Good ∧ D1.fl nNext = none ∧ (∀ m, m ≠ nNext → D1.fl m = D.fl m) ∧ (∀ m, m ∈ D1.ks → m = nSnap ∨ m = nLog) ∧ D1.room = D.room := by
  cases hn : D.fl nNext with
  | none =>
    refine ⟨D, remove_none hn, g, hn, fun _ _ => rfl, fun m hm => ?_, rfl⟩
    rcases hk m hm with h | h | h
    · exact .inl h
    · exact .inr h
    · subst h
      have := (g.mem nNext).1 hm
      rw [hn] at this
      cases this
  | some f =>
    refine ⟨D.del nNext, ?_, g.del _, del_self _ _, fun m hm => del_ne _ _ hm, fun m hm => ?_, rfl⟩
    · unfold Dsk.remove
      rw [hn]
    · have h2 := (List.Nodup.mem_erase_iff g.nod).1 hm
      rcases hk m h2.2 with h | h | h
      · exact .inl h
      · exact .inr h
      · exact absurd h h2.1

/-- Open. -/
theorem Pre.reopen {D : Dsk} {age : Int} {st recs : List Rec} {sy : Nat} (h : Pre D age st recs sy) : ∃ (so lo : Kept) (tl : List UInt8) (j : Nat) (D' : Dsk), so.ok ∧ lo.ok ∧ so.age = age ∧ so.st = st ∧ File (bsF (D.fl nSnap)) so.rows [] ∧ File (bsF (D.fl nLog)) lo.rows tl ∧
    logRecs so lo = recs.take j ∧ sy ≤ j ∧ j ≤ recs.length ∧ D.opened so lo = D' ∧ Rep D' age st (recs.take j) (recs.take j).length ∧ D'.room = D.room := by
  have hag := h.ag
  have hagm := h.agm
  have hgen := ok_gen hag (by omega)
  have hso : ∃ so : Kept, so.ok ∧ so.age = age ∧ so.st = st ∧ File (bsF (D.fl nSnap)) so.rows [] := by
    rcases h.snap with ⟨h1, h2, h3⟩ | h1
    · subst h1 h2
      exact ⟨none, fun _ _ e => (by cases e), rfl, rfl, ⟨by rw [h3]; rfl, fun b hb => (by cases hb), .inl rfl⟩⟩
    · refine ⟨some (age, st), fun a l e => (by cases e; exact ⟨hag, by omega⟩), rfl, rfl, ⟨by rw [h1]; show _ = flat (nb age :: st) ++ []; rw [List.append_nil]; rfl, fun b hb => ?_, .inl rfl⟩⟩
      rcases List.mem_cons.1 hb with rfl | hb
      · exact hgen
      · exact h.oks b hb
  obtain ⟨so, so1, so2, so3, so4⟩ := hso
  obtain ⟨n, hn, hsy⟩ := h.log
  obtain ⟨k, t, hk, hF, hle, hlt⟩ := flat_cut (nb age :: recs) (fun b hb => by
    rcases List.mem_cons.1 hb with rfl | hb
    · exact hgen
    · exact h.okr b hb) n
  rw [← hn] at hF
  obtain ⟨D1, e1, g1, n1, o1, k1, r1⟩ := remove_next h.good h.ks
  have ol := o1 nLog names_ne.2.2
  have os := o1 nSnap names_ne.2.1
  have fin : ∀ (E : Nat) (recs' : List Rec), E ≤ (bsF (D1.fl nLog)).length → (∀ b ∈ recs', okR b) → (((bsF (D1.fl nLog)).take E = [] ∧ recs' = []) ∨ ((bsF (D1.fl nLog)).take E = flat (nb age :: recs') ∧ E = (flat (nb age :: recs')).length)) →
      ∃ D', (D1.cut nLog (E : Int)).2 = D' ∧ Rep D' age st recs' recs'.length ∧ D'.room = D.room := by
    intro E recs' hE hok hcase
    obtain ⟨D', e2, g2, b2, y2, o2, k2, r2⟩ := cut_log g1 E hE
    refine ⟨D', e2, ⟨g2, hag, hagm, h.oks, hok, ?_, ?_, ⟨Nat.le_refl _, ?_⟩, ?_, fun m hm => ?_⟩, r2.trans r1⟩
    · rw [o2 _ names_ne.1, os]
      exact h.snap
    · rw [b2]
      exact hcase.imp id And.left
    · rw [y2, List.take_length]
      rcases hcase with ⟨_, hc⟩ | ⟨_, hc⟩
      · left; rw [hc]; rfl
      · right; rw [hc]; exact Nat.le_refl _
    · rw [o2 _ (Ne.symm names_ne.2.2)]
      exact n1
    · rcases k2 m hm with hm | hm
      · exact k1 m hm
      · exact .inr hm
  match k, hk, hF, hle, hlt with
  | 0, _, hF, _, hlt =>
    have hs0 : sy = 0 := by
      rcases hsy with h1 | h1
      · exact h1
      · have h2 := hlt (by simp)
        have h3 := flat_take_mono (nb age :: recs.take sy) (i := 1) (j := (nb age :: recs.take sy).length) (by simp)
        rw [List.take_length] at h3
        have e : (nb age :: recs.take sy).take 1 = (nb age :: recs).take (0 + 1) := rfl
        rw [e] at h3
        omega
    obtain ⟨D', q1, q2, q3⟩ := fin 0 [] (Nat.zero_le _) (fun b hb => (by cases hb)) (.inl ⟨rfl, rfl⟩)
    refine ⟨so, none, t, 0, D', so1, fun _ _ e => (by cases e), so2, so3, so4, hF, rfl, by omega, Nat.zero_le _, ?_, q2, q3⟩
    unfold Dsk.opened
    rw [e1]
    exact q1
  | j + 1, hk, hF, _, hlt =>
    have hj : j ≤ recs.length := by rw [List.length_cons] at hk; omega
    have hFe := hF.eq
    have hrows : (nb age :: recs).take (j + 1) = nb age :: recs.take j := rfl
    rw [hrows] at hF hFe
    have hsj : sy ≤ j := by
      rcases Nat.lt_or_ge j sy with h1 | h1
      · exfalso
        have hsl := h.syl
        have h2 := hlt (by rw [List.length_cons]; omega)
        rcases hsy with h3 | h3
        · omega
        · have h4 := flat_take_mono (nb age :: recs) (i := j + 1 + 1) (j := sy + 1) (by omega)
          have e4 : (nb age :: recs).take (sy + 1) = nb age :: recs.take sy := rfl
          rw [e4] at h4
          omega
      · exact h1
    have hEl : (flat (nb age :: recs.take j)).length ≤ (bsF (D1.fl nLog)).length := by rw [ol, hFe, List.length_append]; omega
    obtain ⟨D', q1, q2, q3⟩ := fin (flat (nb age :: recs.take j)).length (recs.take j) hEl (fun b hb => h.okr b (List.mem_of_mem_take hb)) (.inr ⟨by rw [ol, hFe, List.take_left], rfl⟩)
    refine ⟨so, some (age, recs.take j), t, j, D', so1, fun a l e => (by cases e; exact ⟨hag, by omega⟩), so2, so3, so4, hF, ?_, hsj, hj, ?_, q2, q3⟩
    · show (if age = so.age then _ else _) = _
      rw [if_pos so2.symm]
    · unfold Dsk.opened
      rw [e1, show logEnd so (some (age, recs.take j)) = (flat (nb age :: recs.take j)).length by
        show (if age = so.age then _ else _) = _
        rw [if_pos so2.symm]]
      exact q1
end Go.Proofs.Ytpbjompopgdbjaa
