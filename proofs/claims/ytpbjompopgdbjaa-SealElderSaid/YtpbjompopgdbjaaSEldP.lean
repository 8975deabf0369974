/-
  SealElder: its plain part: an elder log behind a newer state counts for nothing.
-/
import Derived.Test.YtpbjompopgdbjaaSealQ
namespace Go.Proofs.Ytpbjompopgdbjaa

/-- A state, and a log of another generation. -/
structure Eld (D : Dsk) (age : Int) (st : List Rec) : Prop where
  good : D.Good
  ag : 0 ≤ age
  agm : age ≤ 1000000
  oks : ∀ b ∈ st, okR b
  snap : D.fl nSnap = some ⟨flat (nb age :: st), (flat (nb age :: st)).length⟩
  log : bsF (D.fl nLog) = [] ∨ ∃ (a : Int) (l : List Rec), 0 ≤ a ∧ a ≤ 1000000 ∧ a ≠ age ∧ (∀ b ∈ l, okR b) ∧ bsF (D.fl nLog) = flat (nb a :: l)
  ks : ∀ n, n ∈ D.ks → n = nSnap ∨ n = nLog ∨ n = nNext

theorem Eld.reopen {D : Dsk} {age : Int} {st : List Rec} (h : Eld D age st) : ∃ (so lo : Kept) (tl : List UInt8) (D' : Dsk), so.ok ∧ lo.ok ∧ so.age = age ∧ so.st = st ∧ File (bsF (D.fl nSnap)) so.rows [] ∧ File (bsF (D.fl nLog)) lo.rows tl ∧
    logRecs so lo = [] ∧ D.opened so lo = D' ∧ Rep D' age st [] 0 ∧ D'.room = D.room := by
  have hag := h.ag
  have hagm := h.agm
  have hgen := ok_gen hag (by omega)
  obtain ⟨D1, e1, g1, n1, o1, k1, r1⟩ := remove_next h.good h.ks
  have ol := o1 nLog names_ne.2.2
  have os := o1 nSnap names_ne.2.1
  obtain ⟨D', e2, g2, b2, y2, o2, k2, r2⟩ := cut_log g1 0 (Nat.zero_le _)
  have hrep : Rep D' age st [] 0 := by
    refine ⟨g2, hag, hagm, h.oks, fun b hb => (by cases hb), .inr ?_, .inl ⟨by rw [b2]; rfl, rfl⟩, ⟨Nat.le_refl _, .inl rfl⟩, ?_, fun m hm => ?_⟩
    · rw [o2 _ names_ne.1, os]
      exact h.snap
    · rw [o2 _ (Ne.symm names_ne.2.2)]
      exact n1
    · rcases k2 m hm with hm | hm
      · exact k1 m hm
      · exact .inr hm
  have hso : File (bsF (D.fl nSnap)) (Kept.rows (some (age, st))) [] := ⟨by rw [h.snap]; show _ = flat (nb age :: st) ++ []; rw [List.append_nil]; rfl, fun b hb => by
    rcases List.mem_cons.1 hb with rfl | hb
    · exact hgen
    · exact h.oks b hb, .inl rfl⟩
  have hop : ∀ lo : Kept, logEnd (some (age, st)) lo = 0 → D.opened (some (age, st)) lo = D' := fun lo hl => by
    unfold Dsk.opened
    rw [e1, hl]
    exact e2
  rcases h.log with hl | ⟨a, l, ha0, ha1, hne, hok, hl⟩
  · exact ⟨some (age, st), none, [], D', fun _ _ e => (by cases e; exact ⟨hag, by omega⟩), fun _ _ e => (by cases e), rfl, rfl, hso, ⟨by rw [hl]; rfl, fun b hb => (by cases hb), .inl rfl⟩, rfl, hop _ rfl, hrep, r2.trans r1⟩
  · refine ⟨some (age, st), some (a, l), [], D', fun _ _ e => (by cases e; exact ⟨hag, by omega⟩), fun _ _ e => (by cases e; exact ⟨ha0, by omega⟩), rfl, rfl, hso, ⟨by rw [hl]; show _ = flat (nb a :: l) ++ []; rw [List.append_nil], fun b hb => ?_, .inl rfl⟩, ?_, hop _ ?_, hrep, r2.trans r1⟩
    · rcases List.mem_cons.1 hb with rfl | hb
      · exact ok_gen ha0 (by omega)
      · exact hok b hb
    · show (if a = age then l else []) = []
      rw [if_neg hne]
    · show (if a = age then (flat (nb a :: l)).length else 0) = 0
      rw [if_neg hne]

/-- The elder log's bytes are put back behind a state that was saved. -/
theorem Rep.elder {D : Dsk} {age : Int} {st : List Rec} {sy : Nat} (h : Rep D age st [] sy) (ha : age ≠ 0) {b : List UInt8} (hb : b = [] ∨ ∃ (a : Int) (l : List Rec), 0 ≤ a ∧ a ≤ 1000000 ∧ a ≠ age ∧ (∀ b ∈ l, okR b) ∧ b = flat (nb a :: l))
    (hl : bsF (D.fl nLog) = []) (hr : (D.used : Int) + b.length ≤ D.room) : ∃ D1 D2, D.append nLog b = (0, D1) ∧ (D1.sync nLog).2 = D2 ∧ Eld D2 age st ∧ D2.room = D.room ∧ D1.ks.length ≤ 4 := by
  have hfull : ¬ D.room - D.used < b.length := by omega
  have hm : may nLog = true := by decide
  have e1 : D.append nLog b = (0, D.put nLog ⟨b, syF (D.fl nLog)⟩) := by
    rw [app_ok hm hfull, hl, List.nil_append]
  have g1 : (D.put nLog ⟨b, syF (D.fl nLog)⟩).Good := by
    have := good_app h.good (n := nLog) (b := b) (by decide) hfull
    rw [hl, List.nil_append] at this
    exact this
  obtain ⟨D1, hD1⟩ : ∃ D1, D.put nLog ⟨b, syF (D.fl nLog)⟩ = D1 := ⟨_, rfl⟩
  have f1 : D1.fl nLog = some ⟨b, syF (D.fl nLog)⟩ := by rw [← hD1]; exact dput_fl _ _ _
  have o1 : D1.fl nSnap = D.fl nSnap := by rw [← hD1]; exact dput_ne _ _ _ names_ne.1
  have k1 : ∀ m, m ∈ D1.ks → m = nSnap ∨ m = nLog := fun m hm => by
    rw [← hD1] at hm
    rcases mem_put _ _ _ hm with hm | hm
    · exact h.ks m hm
    · exact .inr hm
  have r1 : D1.room = D.room := by rw [← hD1]; rfl
  have kl : D1.ks.length ≤ D.ks.length + 1 := by rw [← hD1]; exact dput_ks_le _ _ _
  rw [hD1] at e1 g1
  have u2 := Dsk.used_put g1 nLog ⟨b, b.length⟩
  rw [f1] at u2
  have u2 : (D1.put nLog ⟨b, b.length⟩).used + b.length = D1.used + b.length := u2
  have hfit := g1.fit
  have e2 : (D1.sync nLog).2 = D1.put nLog ⟨b, b.length⟩ := by
    unfold Dsk.sync
    rw [f1]
  have hks : D1.ks.length ≤ 4 := by
    have l1 : ∀ (l : List Nam) (x : Nam), l.length ≤ (l.erase x).length + 1 := fun l x => by
      rw [List.length_erase]
      split <;> omega
    have ga := g1.del nSnap
    have e : (D1.ks.erase nSnap).erase nLog = [] := by
      refine List.eq_nil_iff_forall_not_mem.2 fun n hn => ?_
      have h1 := (List.Nodup.mem_erase_iff ga.nod).1 hn
      have h2 := (List.Nodup.mem_erase_iff g1.nod).1 h1.2
      rcases k1 n h2.2 with h3 | h3
      · exact h2.1 h3
      · exact h1.1 h3
    have q1 := l1 D1.ks nSnap
    have q2 := l1 (D1.ks.erase nSnap) nLog
    rw [e] at q2
    have : ([] : List Nam).length = 0 := rfl
    omega
  refine ⟨D1, _, e1, e2, ⟨g1.put (by decide) (Nat.le_refl _) (by omega), h.ag, h.agm, h.oks, ?_, ?_, fun n hn => ?_⟩, r1, hks⟩
  · rw [dput_ne _ _ _ names_ne.1, o1]
    rcases h.snap with ⟨h1, _⟩ | h1
    · exact absurd h1 ha
    · exact h1
  · rw [dput_fl]
    exact hb
  · rcases mem_put _ _ _ hn with hn | hn
    · exact (k1 n hn).imp id .inl
    · exact .inr (.inl hn)
end Go.Proofs.Ytpbjompopgdbjaa
