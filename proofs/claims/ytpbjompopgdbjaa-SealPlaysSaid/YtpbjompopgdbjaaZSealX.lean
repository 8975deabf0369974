/-
  the log: what the laws use: a log on its disk beside protected blocks P.
-/
import Derived.Test.YtpbjompopgdbjaaSealT
import Derived.Test.YtpbjompopgdbjaaZSealP
namespace Go.Proofs.Ytpbjompopgdbjaa
open Go.RowKit Go.Maps

theorem ks_len {D : Dsk} (hG : D.Good) {a b c : Nam} (hk : ∀ n, n ∈ D.ks → n = a ∨ n = b ∨ n = c) : D.ks.length ≤ 3 := by
  have g1 := hG.del a
  have g2 := g1.del b
  have e : ((D.ks.erase a).erase b).erase c = [] := by
    refine List.eq_nil_iff_forall_not_mem.2 fun n hn => ?_
    have h1 := (List.Nodup.mem_erase_iff g2.nod).1 hn
    have h2 := (List.Nodup.mem_erase_iff g1.nod).1 h1.2
    have h3 := (List.Nodup.mem_erase_iff hG.nod).1 h2.2
    rcases hk n h3.2 with h | h | h
    · exact h3.1 h
    · exact h2.1 h
    · exact h1.1 h
  have l1 : ∀ (l : List Nam) (x : Nam), l.length ≤ (l.erase x).length + 1 := fun l x => by
    rw [List.length_erase]
    split <;> omega
  have q1 := l1 D.ks a
  have q2 := l1 (D.ks.erase a) b
  have q3 := l1 ((D.ks.erase a).erase b) c
  rw [e] at q3
  have : ([] : List Nam).length = 0 := rfl
  omega

/-- A log, its disk of a room, the log's block among P's. -/
def SealW (P : Nat → Prop) (w : World) (g d : Nat) (room : Int) (age : Int) (st recs : List Rec) (sy : Nat) : Prop :=
  ∃ D, DiskX P w d D ∧ P g ∧ LogAt w g d age recs.length ∧ Rep D age st recs sy ∧ D.room = room
/-- A disk on which a log may be opened. -/
def PreW (P : Nat → Prop) (w : World) (d : Nat) (room : Int) (age : Int) (st recs : List Rec) (sy : Nat) : Prop :=
  ∃ D, DiskX P w d D ∧ Pre D age st recs sy ∧ D.room = room

section
variable {P : Nat → Prop} {w : World} {g d sy : Nat} {room age : Int} {st recs : List Rec}
theorem SealW.keep {w' : World} (h : SealW P w g d room age st recs sy) (hc : Chg (fun _ => False) w w') : SealW P w' g d room age st recs sy := by
  obtain ⟨D, h1, h2, h3, h4, h5⟩ := h
  exact ⟨D, h1.keep hc, h2, Blk.chg h3 hc id, h4, h5⟩
theorem SealW.more {w' : World} (h : SealW P w g d room age st recs sy) (hc : Chg (fun _ => False) w w') {Q : Nat → Prop} (hQ : ∀ i, Q i → P i ∨ (w.heap.size ≤ i ∧ i < w'.heap.size)) (hg : Q g) : SealW Q w' g d room age st recs sy := by
  obtain ⟨D, h1, h2, h3, h4, h5⟩ := h
  exact ⟨D, h1.more hc hQ, hg, Blk.chg h3 hc id, h4, h5⟩
theorem SealW.pre (h : SealW P w g d room age st recs sy) : PreW P w d room age st recs recs.length := by
  obtain ⟨D, h1, h2, h3, h4, h5⟩ := h
  exact ⟨D, h1, h4.pre, h5⟩

theorem s_put (h : SealW P w g d room age st recs sy) {ad : Option Addr} {b : Rec} (hby : BytIn w ad b) (c : Nat) (hb : okR b) (hn : recs.length ≤ 1000000) (hr : (((flat st).length + (flat recs).length + b.length : Nat) : Int) + 54 ≤ room) :
    Calls Try.prog 12 #[.pointer (some ⟨g, 0, none⟩), .slice ad b.length c] w fun e w' => e = .returned (.int .i64 0) ∧ SealW P w' g d room age st (recs ++ [b]) sy ∧ Chg (fun i => ¬ P i ∨ i = g) w w' := by
  obtain ⟨D, h1, h2, h3, h4, h5⟩ := h
  have hag := h4.ag
  have hagm := h4.agm
  have hmx := ks_len h4.good (fun n hn => (h4.ks n hn).imp id (.inl (b := n = nNext)))
  have hu := h4.used
  have hu1 := h4.snapLen
  have hu2 := h4.logLen
  obtain ⟨D', e1, e2, e3⟩ := h4.put hb (by rw [h5]; omega)
  refine (sput_any h1 (by omega) h3 h2 hag (by omega) (by omega) hby c hb).mono ?_
  rw [e1]
  rintro e w' ⟨rfl, q1, q2, q3⟩
  refine ⟨rfl, ⟨D', q2, h2, ?_, e2, e3.trans h5⟩, q3⟩
  rw [List.length_append]
  exact q1
theorem s_sync (h : SealW P w g d room age st recs sy) :
    Calls Try.prog 13 #[.pointer (some ⟨g, 0, none⟩)] w fun e w' => e = .returned (.int .i64 0) ∧ SealW P w' g d room age st recs recs.length ∧ Chg (fun i => ¬ P i) w w' := by
  obtain ⟨D, h1, h2, h3, h4, h5⟩ := h
  obtain ⟨D', e1, e2, e3, _⟩ := h4.sync
  refine (ssync_any h1 h3 h2).mono ?_
  rw [e1]
  rintro e w' ⟨rfl, q1, q2, q3⟩
  exact ⟨rfl, ⟨D', q2, h2, q1, e2, e3.trans h5⟩, q3⟩
theorem s_len (h : SealW P w g d room age st recs sy) :
    Calls Try.prog 22 #[.pointer (some ⟨g, 0, none⟩)] w fun e w' => e = .returned (.int .i64 recs.length) ∧ w' = w := by
  obtain ⟨D, h1, h2, h3, h4, h5⟩ := h
  exact slen_any h3
theorem s_save (h : SealW P w g d room age st recs sy) {ad : Option Addr} {st' : List Rec} (hrows : RowsB w ad st') (c : Nat) (hsl : st'.length ≤ 1000) (hok : ∀ b ∈ st', okR b) (hage : age + 1 ≤ 1000000) (hr : (((flat st).length + (flat recs).length + (flat st').length : Nat) : Int) + 48 ≤ room) :
    Calls Try.prog 14 #[.pointer (some ⟨g, 0, none⟩), .slice ad st'.length c] w fun e w' => e = .returned (.int .i64 0) ∧ SealW P w' g d room (age + 1) st' [] 0 ∧ Chg (fun i => ¬ P i ∨ i = g) w w' := by
  obtain ⟨D, h1, h2, h3, h4, h5⟩ := h
  have hag := h4.ag
  have hmx := ks_len h4.good (fun n hn => (h4.ks n hn).imp id (.inl (b := n = nNext)))
  have hu := h4.used
  have hu1 := h4.snapLen
  have hu2 := h4.logLen
  obtain ⟨D', e1, e2, e3, _⟩ := h4.save hok hage (by rw [h5]; omega)
  refine (ssave_any h1 (by omega) h3 h2 hag (by omega) hrows c hsl hok).mono ?_
  rw [e1]
  rintro e w' ⟨rfl, q1, q2, q3⟩
  exact ⟨rfl, ⟨D', q2, h2, q1, e2, e3.trans h5⟩, q3⟩
/-- As s_save, with the disk told. -/
theorem s_save_log (h : SealW P w g d room age st recs sy) {ad : Option Addr} {st' : List Rec} (hrows : RowsB w ad st') (c : Nat) (hsl : st'.length ≤ 1000) (hok : ∀ b ∈ st', okR b) (hage : age + 1 ≤ 1000000) (hr : (((flat st).length + (flat recs).length + (flat st').length : Nat) : Int) + 48 ≤ room) :
    Calls Try.prog 14 #[.pointer (some ⟨g, 0, none⟩), .slice ad st'.length c] w fun e w' => e = .returned (.int .i64 0) ∧ (∃ D, DiskX P w' d D ∧ Rep D (age + 1) st' [] 0 ∧ D.room = room ∧ bsF (D.fl nLog) = []) ∧ Chg (fun i => ¬ P i ∨ i = g) w w' := by
  obtain ⟨D, h1, h2, h3, h4, h5⟩ := h
  have hag := h4.ag
  have hmx := ks_len h4.good (fun n hn => (h4.ks n hn).imp id (.inl (b := n = nNext)))
  have hu := h4.used
  have hu1 := h4.snapLen
  have hu2 := h4.logLen
  obtain ⟨D', e1, e2, e3, e4⟩ := h4.save hok hage (by rw [h5]; omega)
  refine (ssave_any h1 (by omega) h3 h2 hag (by omega) hrows c hsl hok).mono ?_
  rw [e1]
  rintro e w' ⟨rfl, q1, q2, q3⟩
  exact ⟨rfl, ⟨D', q2, e2, e3.trans h5, e4⟩, q3⟩
theorem s_crash (h : SealW P w g d room age st recs sy) (keep : Int) (hkp : -9223372036854775808 ≤ keep ∧ keep ≤ 9223372036854775807) :
    Calls Try.prog 16 #[.pointer (some ⟨d, 0, none⟩), .int .i64 keep] w fun e w' => e = .returned (.tuple #[]) ∧ PreW P w' d room age st recs sy ∧ Chg (fun i => ¬ P i) w w' := by
  obtain ⟨D, h1, h2, h3, h4, h5⟩ := h
  have hmx := ks_len h4.good (fun n hn => (h4.ks n hn).imp id (.inl (b := n = nNext)))
  refine (x_crash h1 (by omega) keep hkp).mono ?_
  rintro e w' ⟨rfl, q1, q2⟩
  exact ⟨rfl, ⟨D.crash keep, q1, h4.crash keep, h5⟩, q2⟩
theorem s_open (h : PreW P w d room age st recs sy) :
    Calls Try.prog 9 #[.pointer (some ⟨d, 0, none⟩)] w fun e w' => ∃ (j g ad1 c1 ad2 c2 : _), sy ≤ j ∧ j ≤ recs.length ∧ e = .returned (.tuple #[.pointer (some ⟨g, 0, none⟩), .slice ad1 st.length c1, .slice ad2 (recs.take j).length c2, .int .i64 0]) ∧
      ∃ B : Nat → Prop, (∀ i, B i → ¬ P i ∧ w.heap.size ≤ i ∧ i < w'.heap.size) ∧ B g ∧ RowsIn w' (fun i => B i ∧ i ≠ g) ad1 st ∧ RowsIn w' (fun i => B i ∧ i ≠ g) ad2 (recs.take j) ∧ SealW (fun i => P i ∨ B i) w' g d room age st (recs.take j) (recs.take j).length ∧ Chg (fun i => ¬ P i) w w' := by
  obtain ⟨D, h1, h4, h5⟩ := h
  obtain ⟨so, lo, tl, j, D', a1, a2, a3, a4, a5, a6, a7, a8, a9, b1, b2, b3⟩ := h4.reopen
  refine (open_any h1 so lo a1 a2 a5 a6).mono ?_
  rw [a7, a4, a3, b1]
  rintro e w' ⟨g, ad1, c1, ad2, c2, rfl, B, q1, q2, q3, q4, q5, q6, q7⟩
  exact ⟨j, g, ad1, c1, ad2, c2, a8, a9, rfl, B, q1, q2, q4, q5, ⟨D', q6, .inr q2, q3, b2, b3.trans h5⟩, q7⟩
end
/-- A disk on which nothing is. -/
theorem pre_new (r : Int) (h0 : 0 ≤ r) (h1 : r ≤ 1000000) : Pre (Dsk.new r) 0 [] [] 0 :=
  ⟨Dsk.Good.new h0 h1, Int.le_refl _, by decide, fun b hb => (by cases hb), fun b hb => (by cases hb), .inl ⟨rfl, rfl, rfl⟩, ⟨0, rfl, .inl rfl⟩, Nat.le_refl _, fun n hn => (by cases hn)⟩
theorem s_new (w : World) (r : Int) (hr : 0 ≤ r ∧ r ≤ 1000000) :
    Calls Try.prog 8 #[.int .i64 r] w fun e w' => ∃ d, e = .returned (.tuple #[.pointer (some ⟨d, 0, none⟩), .int .i64 0]) ∧ PreW (fun i => i < w.heap.size) w' d r 0 [] [] 0 ∧ Chg (fun _ => False) w w' := by
  refine (x_new w r hr).mono ?_
  rintro e w' ⟨d, rfl, h1, h2⟩
  exact ⟨d, rfl, ⟨_, h1, pre_new r hr.1 hr.2, rfl⟩, h2⟩
end Go.Proofs.Ytpbjompopgdbjaa

namespace Go.Proofs.Ytpbjompopgdbjaa
open Go.RowKit Go.Maps

theorem app_full {D : Dsk} {n : Nam} {b : List UInt8} (hm : may n = true) (hu : D.room - D.used < b.length) : D.append n b = (4, D) := by
  unfold Dsk.append
  rw [if_neg (by rw [hm]; decide), if_pos hu]

section
variable {D : Dsk} {age : Int} {st recs : List Rec} {sy : Nat} (h : Rep D age st recs sy)
include h
theorem Rep.putF {b : Rec} (hb : okR b) : ∃ r D', D.putRec age b = (r, D') ∧ D'.room = D.room ∧ ((r = 0 ∧ Rep D' age st (recs ++ [b]) sy) ∨ (r = 4 ∧ D' = D)) := by
  have hag := h.ag
  have hagm := h.agm
  obtain ⟨X, hX⟩ : ∃ X, (if bsF (D.fl nLog) = [] then frm (nb age) ++ frm b else frm b) = X := ⟨_, rfl⟩
  have hbs : bsF (D.fl nLog) ++ X = flat (nb age :: (recs ++ [b])) := by
    rw [← hX]
    rcases h.log with ⟨h1, h2⟩ | h1
    · rw [if_pos h1, h1, h2, List.nil_append, List.nil_append, flat_cons, flat_one]
    · rw [if_neg (by rw [h1]; exact flat_ne _ _), h1, ← List.cons_append, flat_app, flat_one]
  have hm : may nLog = true := by decide
  by_cases hfull : D.room - D.used < X.length
  · refine ⟨4, D, ?_, rfl, .inr ⟨rfl, rfl⟩⟩
    unfold Dsk.putRec
    rw [hX]
    exact app_full hm hfull
  refine ⟨0, D.put nLog ⟨bsF (D.fl nLog) ++ X, syF (D.fl nLog)⟩, ?_, rfl, .inl ⟨rfl, ?_⟩⟩
  · unfold Dsk.putRec
    rw [hX]
    exact app_ok hm hfull
  · refine ⟨good_app h.good (by decide) hfull, hag, hagm, h.oks, fun c hc => ?_, ?_, .inr ?_, ?_, ?_, fun n hn => ?_⟩
    · rcases List.mem_append.1 hc with hc | hc
      · exact h.okr c hc
      · simp at hc; subst hc; exact hb
    · rw [dput_ne _ _ _ names_ne.1]
      exact h.snap
    · rw [dput_fl]
      exact hbs
    · refine ⟨by rw [List.length_append]; have := h.syl.1; omega, ?_⟩
      rw [dput_fl, List.take_append_of_le_length h.syl.1]
      exact h.syl.2
    · rw [dput_ne _ _ _ (Ne.symm names_ne.2.2)]
      exact h.nxt
    · rcases mem_put _ _ _ hn with hn | hn
      · exact h.ks n hn
      · exact .inr hn
theorem Rep.saveF {st' : List Rec} (hok : ∀ b ∈ st', okR b) (hage : age + 1 ≤ 1000000) : ∃ r D', D.saved age st' = (r, D') ∧ D'.room = D.room ∧ ((r = 0 ∧ Rep D' (age + 1) st' [] 0 ∧ bsF (D'.fl nLog) = []) ∨ (r = 4 ∧ D' = D)) := by
  have hag := h.ag
  obtain ⟨A, hA⟩ : ∃ A, flat (nb (age + 1) :: st') = A := ⟨_, rfl⟩
  have hm : may nNext = true := by decide
  by_cases hfull : D.room - D.used < A.length
  · refine ⟨4, D, ?_, rfl, .inr ⟨rfl, rfl⟩⟩
    unfold Dsk.saved
    rw [remove_none h.nxt, hA, app_full hm hfull]
    show (if (4 : Int) = 0 then _ else _) = _
    rw [if_neg (by decide), remove_none h.nxt]
  have e1 : D.append nNext A = (0, D.put nNext ⟨A, 0⟩) := by
    rw [app_ok hm hfull, h.nxt]
    rfl
  have g2 : (D.put nNext ⟨A, 0⟩).Good := by
    have := good_app h.good (n := nNext) (b := A) (by decide) hfull
    rw [h.nxt] at this
    exact this
  obtain ⟨D2, hD2⟩ : ∃ D2, D.put nNext ⟨A, 0⟩ = D2 := ⟨_, rfl⟩
  have f2 : D2.fl nNext = some ⟨A, 0⟩ := by rw [← hD2]; exact dput_fl _ _ _
  have o2 : ∀ m, m ≠ nNext → D2.fl m = D.fl m := fun m hm => by rw [← hD2]; exact dput_ne _ _ _ hm
  have k2 : ∀ m, m ∈ D2.ks → m ∈ D.ks ∨ m = nNext := fun m hm => by rw [← hD2] at hm; exact mem_put _ _ _ hm
  have r2 : D2.room = D.room := by rw [← hD2]; rfl
  rw [hD2] at e1 g2
  have e3 : (D2.sync nNext).2 = D2.put nNext ⟨A, A.length⟩ := by
    unfold Dsk.sync
    rw [f2]
  have u3 : (D2.put nNext ⟨A, A.length⟩).used = D2.used := by
    have := Dsk.used_put g2 nNext ⟨A, A.length⟩
    rw [f2] at this
    have this : (D2.put nNext ⟨A, A.length⟩).used + A.length = D2.used + A.length := this
    omega
  have g3 : (D2.put nNext ⟨A, A.length⟩).Good := g2.put (by decide) (Nat.le_refl _) (by have := g2.fit; omega)
  obtain ⟨D3, hD3⟩ : ∃ D3, D2.put nNext ⟨A, A.length⟩ = D3 := ⟨_, rfl⟩
  have f3 : D3.fl nNext = some ⟨A, A.length⟩ := by rw [← hD3]; exact dput_fl _ _ _
  have k3 : ∀ m, m ∈ D3.ks → m ∈ D.ks ∨ m = nNext := fun m hm => by
    rw [← hD3] at hm
    rcases mem_put _ _ _ hm with hm | hm
    · exact k2 m hm
    · exact .inr hm
  have r3 : D3.room = D.room := by rw [← hD3]; exact r2
  rw [hD3] at e3 u3 g3
  have e4 : (D3.rename nNext nSnap).2 = (D3.del nNext).put nSnap ⟨A, A.length⟩ := by
    unfold Dsk.rename
    rw [f3]
    rfl
  have gd := g3.del nNext
  have ud := Dsk.used_del g3 nNext
  rw [f3] at ud
  have ud : (D3.del nNext).used + A.length = D3.used := ud
  have us := Dsk.used_put gd nSnap ⟨A, A.length⟩
  have us : ((D3.del nNext).put nSnap ⟨A, A.length⟩).used + lenF ((D3.del nNext).fl nSnap) = (D3.del nNext).used + A.length := us
  have g4 : ((D3.del nNext).put nSnap ⟨A, A.length⟩).Good := gd.put (by decide) (Nat.le_refl _) (by have := g3.fit; show _ ≤ D3.room; omega)
  obtain ⟨D4, hD4⟩ : ∃ D4, (D3.del nNext).put nSnap ⟨A, A.length⟩ = D4 := ⟨_, rfl⟩
  have f4 : D4.fl nSnap = some ⟨A, A.length⟩ := by rw [← hD4]; exact dput_fl _ _ _
  have n4 : D4.fl nNext = none := by rw [← hD4, dput_ne _ _ _ (Ne.symm names_ne.2.1)]; exact del_self _ _
  have k4 : ∀ m, m ∈ D4.ks → m = nSnap ∨ m = nLog := fun m hm => by
    rw [← hD4] at hm
    rcases mem_put _ _ _ hm with hm | hm
    · have hm2 := (List.Nodup.mem_erase_iff g3.nod).1 hm
      rcases k3 m hm2.2 with h1 | h1
      · exact h.ks m h1
      · exact absurd h1 hm2.1
    · exact .inl hm
  have r4 : D4.room = D.room := by rw [← hD4]; exact r3
  rw [hD4] at e4 g4 us
  have hsv : D.saved age st' = (0, (D4.cut nLog 0).2) := by
    unfold Dsk.saved
    rw [remove_none h.nxt, hA, e1]
    show (if (0 : Int) = 0 then _ else _) = _
    rw [if_pos rfl, e3, e4]
  have hst : (0 ≤ age + 1) := by omega
  cases hl : D4.fl nLog with
  | none =>
    have e5 : (D4.cut nLog 0).2 = D4 := by unfold Dsk.cut; rw [hl]
    rw [e5] at hsv
    exact ⟨0, D4, hsv, r4, .inl ⟨rfl, ⟨g4, hst, hage, hok, fun b hb => (by cases hb), .inr (by rw [f4, hA]), .inl ⟨by rw [hl]; rfl, rfl⟩, ⟨Nat.le_refl _, .inl rfl⟩, n4, k4⟩, by rw [hl]; rfl⟩⟩
  | some f =>
    have e5 : (D4.cut nLog 0).2 = D4.put nLog ⟨[], 0⟩ := by
      unfold Dsk.cut
      rw [hl]
      show (if (0 : Int) < 0 ∨ (f.bs.length : Int) < 0 then _ else _ : Int × Dsk).2 = _
      rw [if_neg (by omega)]
      rfl
    have uc := Dsk.used_put g4 nLog ⟨[], 0⟩
    rw [hl] at uc
    have uc : (D4.put nLog ⟨[], 0⟩).used + f.bs.length = D4.used + 0 := uc
    have g5 : (D4.put nLog ⟨[], 0⟩).Good := g4.put (by decide) (Nat.le_refl _) (by have := g4.fit; omega)
    rw [e5] at hsv
    refine ⟨0, _, hsv, r4, .inl ⟨rfl, ⟨g5, hst, hage, hok, fun b hb => (by cases hb), .inr ?_, .inl ⟨by rw [dput_fl]; rfl, rfl⟩, ⟨Nat.le_refl _, .inl rfl⟩, ?_, fun n hn => ?_⟩, by rw [dput_fl]; rfl⟩⟩
    · rw [dput_ne _ _ _ names_ne.1, f4, hA]
    · rw [dput_ne _ _ _ (Ne.symm names_ne.2.2)]
      exact n4
    · rcases mem_put _ _ _ hn with hn | hn
      · exact k4 n hn
      · exact .inr hn
end

section
variable {P : Nat → Prop} {w : World} {g d sy : Nat} {room age : Int} {st recs : List Rec}
theorem s_putF (h : SealW P w g d room age st recs sy) {ad : Option Addr} {b : Rec} (hby : BytIn w ad b) (c : Nat) (hb : okR b) (hn : recs.length ≤ 1000000) :
    Calls Try.prog 12 #[.pointer (some ⟨g, 0, none⟩), .slice ad b.length c] w fun e w' => ∃ r : Int, e = .returned (.int .i64 r) ∧
      ((r = 0 ∧ SealW P w' g d room age st (recs ++ [b]) sy) ∨ (r = 4 ∧ SealW P w' g d room age st recs sy)) ∧ Chg (fun i => ¬ P i ∨ i = g) w w' := by
  obtain ⟨D, h1, h2, h3, h4, h5⟩ := h
  have hag := h4.ag
  have hagm := h4.agm
  have hmx := ks_len h4.good (fun n hn => (h4.ks n hn).imp id (.inl (b := n = nNext)))
  obtain ⟨r, D', e1, e2, e3⟩ := h4.putF hb
  refine (sput_any h1 (by omega) h3 h2 hag (by omega) (by omega) hby c hb).mono ?_
  rw [e1]
  rintro e w' ⟨rfl, q1, q2, q3⟩
  refine ⟨r, rfl, ?_, q3⟩
  rcases e3 with ⟨rfl, e3⟩ | ⟨rfl, rfl⟩
  · exact .inl ⟨rfl, D', q2, h2, by rw [List.length_append]; exact q1, e3, e2.trans h5⟩
  · exact .inr ⟨rfl, D', q2, h2, q1, h4, h5⟩
theorem s_saveF (h : SealW P w g d room age st recs sy) {ad : Option Addr} {st' : List Rec} (hrows : RowsB w ad st') (c : Nat) (hsl : st'.length ≤ 1000) (hok : ∀ b ∈ st', okR b) (hage : age + 1 ≤ 1000000) :
    Calls Try.prog 14 #[.pointer (some ⟨g, 0, none⟩), .slice ad st'.length c] w fun e w' => ∃ r : Int, e = .returned (.int .i64 r) ∧
      ((r = 0 ∧ SealW P w' g d room (age + 1) st' [] 0) ∨ (r = 4 ∧ SealW P w' g d room age st recs sy)) ∧ Chg (fun i => ¬ P i ∨ i = g) w w' := by
  obtain ⟨D, h1, h2, h3, h4, h5⟩ := h
  have hag := h4.ag
  have hmx := ks_len h4.good (fun n hn => (h4.ks n hn).imp id (.inl (b := n = nNext)))
  obtain ⟨r, D', e1, e2, e3⟩ := h4.saveF hok hage
  refine (ssave_any h1 (by omega) h3 h2 hag (by omega) hrows c hsl hok).mono ?_
  rw [e1]
  rintro e w' ⟨rfl, q1, q2, q3⟩
  refine ⟨r, rfl, ?_, q3⟩
  rcases e3 with ⟨rfl, e3, _⟩ | ⟨rfl, rfl⟩
  · exact .inl ⟨rfl, D', q2, h2, q1, e3, e2.trans h5⟩
  · exact .inr ⟨rfl, D', q2, h2, q1, h4, h5⟩
theorem s_used (h : SealW P w g d room age st recs sy) :
    Calls Try.prog 21 #[.pointer (some ⟨d, 0, none⟩)] w fun e w' => ∃ u : Int, e = .returned (.int .i64 u) ∧ u ≤ room ∧ SealW P w' g d room age st recs sy ∧ Chg (fun _ => False) w w' := by
  obtain ⟨D, h1, h2, h3, h4, h5⟩ := id h
  have hmx := ks_len h4.good (fun n hn => (h4.ks n hn).imp id (.inl (b := n = nNext)))
  refine (x_used h1 (by omega)).mono ?_
  rintro e w' ⟨rfl, _, hc⟩
  exact ⟨D.used, rfl, by have := h4.good.fit; omega, h.keep hc, hc⟩
theorem s_none (h : SealW P w g d room age st recs sy) :
    Calls Try.prog 18 #[.pointer (some ⟨d, 0, none⟩), encStr nNext] w fun e w' => e = .returned (.tuple #[.slice none 0 0, .int .i64 5]) ∧ w' = w := by
  obtain ⟨D, h1, h2, h3, h4, h5⟩ := h
  exact x_read_none h1 nNext (by decide) h4.nxt
end
end Go.Proofs.Ytpbjompopgdbjaa
