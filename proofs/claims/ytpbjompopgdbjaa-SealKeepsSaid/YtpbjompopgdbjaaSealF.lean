/-
  the log on a disk that may be full: what Put and Save make of it: done, or refused with all as it was.
-/
import Derived.Test.YtpbjompopgdbjaaSealX
namespace Go.Proofs.Ytpbjompopgdbjaa
open Go.RowKit Go.Maps

theorem app_full {D : Dsk} {n : Nam} {b : List UInt8} (hm : may n = true) (hu : D.room - D.used < b.length) : D.append n b = (4, D) := by
  unfold Dsk.append
  rw [if_neg (by rw [hm]; decide), if_pos hu]

section
variable {D : Dsk} {age : Int} {st recs : List Rec} {sy : Nat} (h : Rep D age st recs sy)
include h
theorem Rep.putF {b : Rec} (hb : okR b) : ∃ r D', D.putRec age b = (r, D') ∧ D'.room = D.room ∧ ((r = 0 ∧ Rep D' age st (recs ++ [b]) sy) ∨ (r = 4 ∧ D' = D)) := by
  have hag := h.ag
  have hagm := h.agm
  obtain ⟨X, hX⟩ : ∃ X, (if bsF (D.fl nLog) = [] then frm (nb age) ++ frm b else frm b) = X := ⟨_, rfl⟩
  have hbs : bsF (D.fl nLog) ++ X = flat (nb age :: (recs ++ [b])) := by
    rw [← hX]
    rcases h.log with ⟨h1, h2⟩ | h1
    · rw [if_pos h1, h1, h2, List.nil_append, List.nil_append, flat_cons, flat_one]
    · rw [if_neg (by rw [h1]; exact flat_ne _ _), h1, ← List.cons_append, flat_app, flat_one]
  have hm : may nLog = true := by decide
  by_cases hfull : D.room - D.used < X.length
  · refine ⟨4, D, ?_, rfl, .inr ⟨rfl, rfl⟩⟩
    unfold Dsk.putRec
    rw [hX]
    exact app_full hm hfull
  refine ⟨0, D.put nLog ⟨bsF (D.fl nLog) ++ X, syF (D.fl nLog)⟩, ?_, rfl, .inl ⟨rfl, ?_⟩⟩
  · unfold Dsk.putRec
    rw [hX]
    exact app_ok hm hfull
  · refine ⟨good_app h.good (by decide) hfull, hag, hagm, h.oks, fun c hc => ?_, ?_, .inr ?_, ?_, ?_, fun n hn => ?_⟩
    · rcases List.mem_append.1 hc with hc | hc
      · exact h.okr c hc
      · simp at hc; subst hc; exact hb
    · rw [dput_ne _ _ _ names_ne.1]
      exact h.snap
    · rw [dput_fl]
      exact hbs
    · refine ⟨by rw [List.length_append]; have := h.syl.1; omega, ?_⟩
      rw [dput_fl, List.take_append_of_le_length h.syl.1]
      exact h.syl.2
    · rw [dput_ne _ _ _ (Ne.symm names_ne.2.2)]
      exact h.nxt
    · rcases mem_put _ _ _ hn with hn | hn
      · exact h.ks n hn
      · exact .inr hn
theorem Rep.saveF {st' : List Rec} (hok : ∀ b ∈ st', okR b) (hage : age + 1 ≤ 1000000) : ∃ r D', D.saved age st' = (r, D') ∧ D'.room = D.room ∧ ((r = 0 ∧ Rep D' (age + 1) st' [] 0 ∧ bsF (D'.fl nLog) = []) ∨ (r = 4 ∧ D' = D)) := by
  have hag := h.ag
  obtain ⟨A, hA⟩ : ∃ A, flat (nb (age + 1) :: st') = A := ⟨_, rfl⟩
  have hm : may nNext = true := by decide
  by_cases hfull : D.room - D.used < A.length
  · refine ⟨4, D, ?_, rfl, .inr ⟨rfl, rfl⟩⟩
    unfold Dsk.saved
    rw [remove_none h.nxt, hA, app_full hm hfull]
    show (if (4 : Int) = 0 then _ else _) = _
    rw [if_neg (by decide), remove_none h.nxt]
  have e1 : D.append nNext A = (0, D.put nNext ⟨A, 0⟩) := by
    rw [app_ok hm hfull, h.nxt]
    rfl
  have g2 : (D.put nNext ⟨A, 0⟩).Good := by
    have := good_app h.good (n := nNext) (b := A) (by decide) hfull
    rw [h.nxt] at this
    exact this
  obtain ⟨D2, hD2⟩ : ∃ D2, D.put nNext ⟨A, 0⟩ = D2 := ⟨_, rfl⟩
  have f2 : D2.fl nNext = some ⟨A, 0⟩ := by rw [← hD2]; exact dput_fl _ _ _
  have o2 : ∀ m, m ≠ nNext → D2.fl m = D.fl m := fun m hm => by rw [← hD2]; exact dput_ne _ _ _ hm
  have k2 : ∀ m, m ∈ D2.ks → m ∈ D.ks ∨ m = nNext := fun m hm => by rw [← hD2] at hm; exact mem_put _ _ _ hm
  have r2 : D2.room = D.room := by rw [← hD2]; rfl
  rw [hD2] at e1 g2
  have e3 : (D2.sync nNext).2 = D2.put nNext ⟨A, A.length⟩ := by
    unfold Dsk.sync
    rw [f2]
  have u3 : (D2.put nNext ⟨A, A.length⟩).used = D2.used := by
    have := Dsk.used_put g2 nNext ⟨A, A.length⟩
    rw [f2] at this
    have this : (D2.put nNext ⟨A, A.length⟩).used + A.length = D2.used + A.length := this
    omega
  have g3 : (D2.put nNext ⟨A, A.length⟩).Good := g2.put (by decide) (Nat.le_refl _) (by have := g2.fit; omega)
  obtain ⟨D3, hD3⟩ : ∃ D3, D2.put nNext ⟨A, A.length⟩ = D3 := ⟨_, rfl⟩
  have f3 : D3.fl nNext = some ⟨A, A.length⟩ := by rw [← hD3]; exact dput_fl _ _ _
  have k3 : ∀ m, m ∈ D3.ks → m ∈ D.ks ∨ m = nNext := fun m hm => by
    rw [← hD3] at hm
    rcases mem_put _ _ _ hm with hm | hm
    · exact k2 m hm
    · exact .inr hm
  have r3 : D3.room = D.room := by rw [← hD3]; exact r2
  rw [hD3] at e3 u3 g3
  have e4 : (D3.rename nNext nSnap).2 = (D3.del nNext).put nSnap ⟨A, A.length⟩ := by
    unfold Dsk.rename
    rw [f3]
    rfl
  have gd := g3.del nNext
  have ud := Dsk.used_del g3 nNext
  rw [f3] at ud
  have ud : (D3.del nNext).used + A.length = D3.used := ud
  have us := Dsk.used_put gd nSnap ⟨A, A.length⟩
  have us : ((D3.del nNext).put nSnap ⟨A, A.length⟩).used + lenF ((D3.del nNext).fl nSnap) = (D3.del nNext).used + A.length := us
  have g4 : ((D3.del nNext).put nSnap ⟨A, A.length⟩).Good := gd.put (by decide) (Nat.le_refl _) (by have := g3.fit; show _ ≤ D3.room; omega)
  obtain ⟨D4, hD4⟩ : ∃ D4, (D3.del nNext).put nSnap ⟨A, A.length⟩ = D4 := ⟨_, rfl⟩
  have f4 : D4.fl nSnap = some ⟨A, A.length⟩ := by rw [← hD4]; exact dput_fl _ _ _
  have n4 : D4.fl nNext = none := by rw [← hD4, dput_ne _ _ _ (Ne.symm names_ne.2.1)]; exact del_self _ _
  have k4 : ∀ m, m ∈ D4.ks → m = nSnap ∨ m = nLog := fun m hm => by
    rw [← hD4] at hm
    rcases mem_put _ _ _ hm with hm | hm
    · have hm2 := (List.Nodup.mem_erase_iff g3.nod).1 hm
      rcases k3 m hm2.2 with h1 | h1
      · exact h.ks m h1
      · exact absurd h1 hm2.1
    · exact .inl hm
  have r4 : D4.room = D.room := by rw [← hD4]; exact r3
  rw [hD4] at e4 g4 us
  have hsv : D.saved age st' = (0, (D4.cut nLog 0).2) := by
    unfold Dsk.saved
    rw [remove_none h.nxt, hA, e1]
    show (if (0 : Int) = 0 then _ else _) = _
    rw [if_pos rfl, e3, e4]
  have hst : (0 ≤ age + 1) := by omega
  cases hl : D4.fl nLog with
  | none =>
    have e5 : (D4.cut nLog 0).2 = D4 := by unfold Dsk.cut; rw [hl]
    rw [e5] at hsv
    exact ⟨0, D4, hsv, r4, .inl ⟨rfl, ⟨g4, hst, hage, hok, fun b hb => (by cases hb), .inr (by rw [f4, hA]), .inl ⟨by rw [hl]; rfl, rfl⟩, ⟨Nat.le_refl _, .inl rfl⟩, n4, k4⟩, by rw [hl]; rfl⟩⟩
  | some f =>
    have e5 : (D4.cut nLog 0).2 = D4.put nLog ⟨[], 0⟩ := by
      unfold Dsk.cut
      rw [hl]
      show (if (0 : Int) < 0 ∨ (f.bs.length : Int) < 0 then _ else _ : Int × Dsk).2 = _
      rw [if_neg (by omega)]
      rfl
    have uc := Dsk.used_put g4 nLog ⟨[], 0⟩
    rw [hl] at uc
    have uc : (D4.put nLog ⟨[], 0⟩).used + f.bs.length = D4.used + 0 := uc
    have g5 : (D4.put nLog ⟨[], 0⟩).Good := g4.put (by decide) (Nat.le_refl _) (by have := g4.fit; omega)
    rw [e5] at hsv
    refine ⟨0, _, hsv, r4, .inl ⟨rfl, ⟨g5, hst, hage, hok, fun b hb => (by cases hb), .inr ?_, .inl ⟨by rw [dput_fl]; rfl, rfl⟩, ⟨Nat.le_refl _, .inl rfl⟩, ?_, fun n hn => ?_⟩, by rw [dput_fl]; rfl⟩⟩
    · rw [dput_ne _ _ _ names_ne.1, f4, hA]
    · rw [dput_ne _ _ _ (Ne.symm names_ne.2.2)]
      exact n4
    · rcases mem_put _ _ _ hn with hn | hn
      · exact k4 n hn
      · exact .inr hn
end

section
variable {P : Nat → Prop} {w : World} {g d sy : Nat} {room age : Int} {st recs : List Rec}
theorem s_putF (h : SealW P w g d room age st recs sy) {ad : Option Addr} {b : Rec} (hby : BytIn w ad b) (c : Nat) (hb : okR b) (hn : recs.length ≤ 1000000) :
    Calls Try.prog 12 #[.pointer (some ⟨g, 0, none⟩), .slice ad b.length c] w fun e w' => ∃ r : Int, e = .returned (.int .i64 r) ∧
      ((r = 0 ∧ SealW P w' g d room age st (recs ++ [b]) sy) ∨ (r = 4 ∧ SealW P w' g d room age st recs sy)) ∧ Chg (fun i => ¬ P i ∨ i = g) w w' := by
  obtain ⟨D, h1, h2, h3, h4, h5⟩ := h
  have hag := h4.ag
  have hagm := h4.agm
  have hmx := ks_len h4.good (fun n hn => (h4.ks n hn).imp id (.inl (b := n = nNext)))
  obtain ⟨r, D', e1, e2, e3⟩ := h4.putF hb
  refine (sput_any h1 (by omega) h3 h2 hag (by omega) (by omega) hby c hb).mono ?_
  rw [e1]
  rintro e w' ⟨rfl, q1, q2, q3⟩
  refine ⟨r, rfl, ?_, q3⟩
  rcases e3 with ⟨rfl, e3⟩ | ⟨rfl, rfl⟩
  · exact .inl ⟨rfl, D', q2, h2, by rw [List.length_append]; exact q1, e3, e2.trans h5⟩
  · exact .inr ⟨rfl, D', q2, h2, q1, h4, h5⟩
theorem s_saveF (h : SealW P w g d room age st recs sy) {ad : Option Addr} {st' : List Rec} (hrows : RowsB w ad st') (c : Nat) (hsl : st'.length ≤ 1000) (hok : ∀ b ∈ st', okR b) (hage : age + 1 ≤ 1000000) :
    Calls Try.prog 14 #[.pointer (some ⟨g, 0, none⟩), .slice ad st'.length c] w fun e w' => ∃ r : Int, e = .returned (.int .i64 r) ∧
      ((r = 0 ∧ SealW P w' g d room (age + 1) st' [] 0) ∨ (r = 4 ∧ SealW P w' g d room age st recs sy)) ∧ Chg (fun i => ¬ P i ∨ i = g) w w' := by
  obtain ⟨D, h1, h2, h3, h4, h5⟩ := h
  have hag := h4.ag
  have hmx := ks_len h4.good (fun n hn => (h4.ks n hn).imp id (.inl (b := n = nNext)))
  obtain ⟨r, D', e1, e2, e3⟩ := h4.saveF hok hage
  refine (ssave_any h1 (by omega) h3 h2 hag (by omega) hrows c hsl hok).mono ?_
  rw [e1]
  rintro e w' ⟨rfl, q1, q2, q3⟩
  refine ⟨r, rfl, ?_, q3⟩
  rcases e3 with ⟨rfl, e3, _⟩ | ⟨rfl, rfl⟩
  · exact .inl ⟨rfl, D', q2, h2, q1, e3, e2.trans h5⟩
  · exact .inr ⟨rfl, D', q2, h2, q1, h4, h5⟩
theorem s_used (h : SealW P w g d room age st recs sy) :
    Calls Try.prog 21 #[.pointer (some ⟨d, 0, none⟩)] w fun e w' => ∃ u : Int, e = .returned (.int .i64 u) ∧ u ≤ room ∧ SealW P w' g d room age st recs sy ∧ Chg (fun _ => False) w w' := by
  obtain ⟨D, h1, h2, h3, h4, h5⟩ := id h
  have hmx := ks_len h4.good (fun n hn => (h4.ks n hn).imp id (.inl (b := n = nNext)))
  refine (x_used h1 (by omega)).mono ?_
  rintro e w' ⟨rfl, _, hc⟩
  exact ⟨D.used, rfl, by have := h4.good.fit; omega, h.keep hc, hc⟩
theorem s_none (h : SealW P w g d room age st recs sy) :
    Calls Try.prog 18 #[.pointer (some ⟨d, 0, none⟩), encStr nNext] w fun e w' => e = .returned (.tuple #[.slice none 0 0, .int .i64 5]) ∧ w' = w := by
  obtain ⟨D, h1, h2, h3, h4, h5⟩ := h
  exact x_read_none h1 nNext (by decide) h4.nxt
end
end Go.Proofs.Ytpbjompopgdbjaa
