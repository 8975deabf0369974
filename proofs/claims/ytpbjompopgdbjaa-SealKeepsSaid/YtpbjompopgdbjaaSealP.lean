/-
  logs in plain words: what a log's disk has, and what Put, Sync, Save make of it.
-/
import Derived.Test.YtpbjompopgdbjaaSealE
import Derived.Test.YtpbjompopgdbjaaDNamP
namespace Go.Proofs.Ytpbjompopgdbjaa

theorem names_ne : nSnap ≠ nLog ∧ nSnap ≠ nNext ∧ nLog ≠ nNext := ⟨by decide, by decide, by decide⟩
theorem used_two {D : Dsk} (hG : D.Good) {a b : Nam} (hab : a ≠ b) (hk : ∀ n, n ∈ D.ks → n = a ∨ n = b) : D.used = lenF (D.fl a) + lenF (D.fl b) := by
  have h1 := Dsk.used_del hG a
  have hG1 := hG.del a
  have h2 := Dsk.used_del hG1 b
  have e : ((D.del a).del b).ks = [] := by
    refine List.eq_nil_iff_forall_not_mem.2 fun n hn => ?_
    have hn1 := (List.Nodup.mem_erase_iff hG1.nod).1 hn
    have hn2 := (List.Nodup.mem_erase_iff hG.nod).1 hn1.2
    rcases hk n hn2.2 with h | h
    · exact hn2.1 h
    · exact hn1.1 h
  have h3 : ((D.del a).del b).used = 0 := by
    unfold Dsk.used
    rw [e]
    rfl
  rw [del_ne D a (Ne.symm hab)] at h2
  omega

structure Rep (D : Dsk) (age : Int) (st recs : List Rec) (sy : Nat) : Prop where
  good : D.Good
  ag : 0 ≤ age
  agm : age ≤ 1000000
  oks : ∀ b ∈ st, okR b
  okr : ∀ b ∈ recs, okR b
  snap : (age = 0 ∧ st = [] ∧ D.fl nSnap = none) ∨ D.fl nSnap = some ⟨flat (nb age :: st), (flat (nb age :: st)).length⟩
  log : (bsF (D.fl nLog) = [] ∧ recs = []) ∨ bsF (D.fl nLog) = flat (nb age :: recs)
  syl : sy ≤ recs.length ∧ (sy = 0 ∨ (flat (nb age :: recs.take sy)).length ≤ syF (D.fl nLog))
  nxt : D.fl nNext = none
  ks : ∀ n, n ∈ D.ks → n = nSnap ∨ n = nLog

theorem ok_gen {age : Int} (h0 : 0 ≤ age) (h1 : age ≤ 1000001) : okR (nb age) := nb_small h0 (by omega)
theorem flat_pos (b : Rec) (l : List Rec) : 6 ≤ (flat (b :: l)).length := by rw [flat_cons, List.length_append, frm_len]; omega
theorem flat_ne (b : Rec) (l : List Rec) : flat (b :: l) ≠ [] := fun h => by have := flat_pos b l; rw [h] at this; simp at this
theorem flat_gen_le {age : Int} (h0 : 0 ≤ age) (h1 : age ≤ 1000001) (l : List Rec) : (flat (nb age :: l)).length ≤ 16 + (flat l).length := by
  have := nb_len (v := age) (by omega)
  rw [flat_cons, List.length_append, frm_len]
  omega
theorem mem_put (D : Dsk) (n : Nam) (f : Fil) {m : Nam} (h : m ∈ (D.put n f).ks) : m ∈ D.ks ∨ m = n := by
  have h : m ∈ (if (D.fl n).isSome then D.ks else n :: D.ks) := h
  split at h
  · exact .inl h
  · rcases List.mem_cons.1 h with h | h
    · exact .inr h
    · exact .inl h

section
variable {D : Dsk} {age : Int} {st recs : List Rec} {sy : Nat} (h : Rep D age st recs sy)
include h
theorem Rep.used : D.used = lenF (D.fl nSnap) + lenF (D.fl nLog) := used_two h.good names_ne.1 h.ks
theorem Rep.logLen : lenF (D.fl nLog) ≤ 16 + (flat recs).length := by
  rw [← lenF_bs]
  rcases h.log with ⟨h1, _⟩ | h1
  · rw [h1]; exact Nat.zero_le _
  · rw [h1]; exact flat_gen_le h.ag (by have := h.agm; omega) _
theorem Rep.snapLen : lenF (D.fl nSnap) ≤ 16 + (flat st).length := by
  rcases h.snap with ⟨_, _, h1⟩ | h1
  · rw [h1]; exact Nat.zero_le _
  · rw [h1]; exact flat_gen_le h.ag (by have := h.agm; omega) _
/-- A record is put. -/
theorem Rep.put {b : Rec} (hb : okR b) (hr : (D.used : Int) + 22 + b.length ≤ D.room) : ∃ D', D.putRec age b = (0, D') ∧ Rep D' age st (recs ++ [b]) sy ∧ D'.room = D.room := by
  have hag := h.ag
  have hagm := h.agm
  have hgl := nb_len (v := age) (by omega)
  obtain ⟨X, hX, hXl⟩ : ∃ X, (if bsF (D.fl nLog) = [] then frm (nb age) ++ frm b else frm b) = X ∧ X.length ≤ 22 + b.length := by
    refine ⟨_, rfl, ?_⟩
    split
    · rw [List.length_append, frm_len, frm_len]; omega
    · rw [frm_len]; omega
  have hbs : bsF (D.fl nLog) ++ X = flat (nb age :: (recs ++ [b])) := by
    rw [← hX]
    rcases h.log with ⟨h1, h2⟩ | h1
    · rw [if_pos h1, h1, h2, List.nil_append, List.nil_append, flat_cons, flat_one]
    · rw [if_neg (by rw [h1]; exact flat_ne _ _), h1, ← List.cons_append, flat_app, flat_one]
  have hfull : ¬ D.room - D.used < X.length := by omega
  have hm : may nLog = true := by decide
  refine ⟨D.put nLog ⟨bsF (D.fl nLog) ++ X, syF (D.fl nLog)⟩, ?_, ?_, rfl⟩
  · unfold Dsk.putRec
    rw [hX]
    exact app_ok hm hfull
  · refine ⟨good_app h.good (by decide) hfull, hag, hagm, h.oks, fun c hc => ?_, ?_, .inr ?_, ?_, ?_, fun n hn => ?_⟩
    · rcases List.mem_append.1 hc with hc | hc
      · exact h.okr c hc
      · simp at hc; subst hc; exact hb
    · rw [dput_ne _ _ _ names_ne.1]
      exact h.snap
    · rw [dput_fl]
      exact hbs
    · refine ⟨by rw [List.length_append]; have := h.syl.1; omega, ?_⟩
      rw [dput_fl, List.take_append_of_le_length h.syl.1]
      exact h.syl.2
    · rw [dput_ne _ _ _ (Ne.symm names_ne.2.2)]
      exact h.nxt
    · rcases mem_put _ _ _ hn with hn | hn
      · exact h.ks n hn
      · exact .inr hn
/-- All records are synced. -/
theorem Rep.sync : ∃ D', (D.sync nLog).2 = D' ∧ Rep D' age st recs recs.length ∧ D'.room = D.room ∧ D'.used = D.used := by
  unfold Dsk.sync
  cases hf : D.fl nLog with
  | none =>
    have hr : recs = [] := by
      rcases h.log with ⟨_, h1⟩ | h1
      · exact h1
      · rw [hf] at h1
        exact absurd h1.symm (flat_ne _ _)
    subst hr
    exact ⟨D, rfl, ⟨h.good, h.ag, h.agm, h.oks, h.okr, h.snap, h.log, ⟨Nat.le_refl _, .inl rfl⟩, h.nxt, h.ks⟩, rfl, rfl⟩
  | some f =>
    have hu := Dsk.used_put h.good nLog ⟨f.bs, f.bs.length⟩
    rw [hf] at hu
    have hu2 : (D.put nLog ⟨f.bs, f.bs.length⟩).used = D.used := by
      have : (D.put nLog ⟨f.bs, f.bs.length⟩).used + f.bs.length = D.used + f.bs.length := hu
      omega
    have hfit := h.good.fit
    refine ⟨_, rfl, ⟨h.good.put (by decide) (Nat.le_refl _) (by omega), h.ag, h.agm, h.oks, h.okr, ?_, ?_, ⟨Nat.le_refl _, ?_⟩, ?_, fun n hn => ?_⟩, rfl, hu2⟩
    · rw [dput_ne _ _ _ names_ne.1]
      exact h.snap
    · rw [dput_fl]
      have := h.log
      rw [hf] at this
      exact this
    · rw [dput_fl, List.take_length]
      have := h.log
      rw [hf] at this
      rcases this with ⟨_, h2⟩ | h2
      · rw [h2]; exact .inl rfl
      · right
        show _ ≤ f.bs.length
        have h2 : f.bs = _ := h2
        rw [h2]
        exact Nat.le_refl _
    · rw [dput_ne _ _ _ (Ne.symm names_ne.2.2)]
      exact h.nxt
    · rcases mem_put _ _ _ hn with hn | hn
      · exact h.ks n hn
      · exact .inr hn
end
end Go.Proofs.Ytpbjompopgdbjaa
