/-
  the log: what the laws use: a log on its disk beside protected blocks P.
-/
import Derived.Test.YtpbjompopgdbjaaSealT
import Derived.Test.YtpbjompopgdbjaaSealQ
namespace Go.Proofs.Ytpbjompopgdbjaa
open Go.RowKit Go.Maps

theorem ks_len {D : Dsk} (hG : D.Good) {a b c : Nam} (hk : ∀ n, n ∈ D.ks → n = a ∨ n = b ∨ n = c) : D.ks.length ≤ 3 := by
  have g1 := hG.del a
  have g2 := g1.del b
  have e : ((D.ks.erase a).erase b).erase c = [] := by
    refine List.eq_nil_iff_forall_not_mem.2 fun n hn => ?_
    have h1 := (List.Nodup.mem_erase_iff g2.nod).1 hn
    have h2 := (List.Nodup.mem_erase_iff g1.nod).1 h1.2
    have h3 := (List.Nodup.mem_erase_iff hG.nod).1 h2.2
    rcases hk n h3.2 with h | h | h
    · exact h3.1 h
    · exact h2.1 h
    · exact h1.1 h
  have l1 : ∀ (l : List Nam) (x : Nam), l.length ≤ (l.erase x).length + 1 := fun l x => by
    rw [List.length_erase]
    split <;> omega
  have q1 := l1 D.ks a
  have q2 := l1 (D.ks.erase a) b
  have q3 := l1 ((D.ks.erase a).erase b) c
  rw [e] at q3
  have : ([] : List Nam).length = 0 := rfl
  omega

/-- A log, its disk of a room, the log's block among P's. -/
def SealW (P : Nat → Prop) (w : World) (g d : Nat) (room : Int) (age : Int) (st recs : List Rec) (sy : Nat) : Prop :=
  ∃ D, DiskX P w d D ∧ P g ∧ LogAt w g d age recs.length ∧ Rep D age st recs sy ∧ D.room = room
/-- A disk on which a log may be opened. -/
def PreW (P : Nat → Prop) (w : World) (d : Nat) (room : Int) (age : Int) (st recs : List Rec) (sy : Nat) : Prop :=
  ∃ D, DiskX P w d D ∧ Pre D age st recs sy ∧ D.room = room

section
variable {P : Nat → Prop} {w : World} {g d sy : Nat} {room age : Int} {st recs : List Rec}
theorem SealW.keep {w' : World} (h : SealW P w g d room age st recs sy) (hc : Chg (fun _ => False) w w') : SealW P w' g d room age st recs sy := by
  obtain ⟨D, h1, h2, h3, h4, h5⟩ := h
  exact ⟨D, h1.keep hc, h2, Blk.chg h3 hc id, h4, h5⟩
theorem SealW.more {w' : World} (h : SealW P w g d room age st recs sy) (hc : Chg (fun _ => False) w w') {Q : Nat → Prop} (hQ : ∀ i, Q i → P i ∨ (w.heap.size ≤ i ∧ i < w'.heap.size)) (hg : Q g) : SealW Q w' g d room age st recs sy := by
  obtain ⟨D, h1, h2, h3, h4, h5⟩ := h
  exact ⟨D, h1.more hc hQ, hg, Blk.chg h3 hc id, h4, h5⟩
theorem SealW.pre (h : SealW P w g d room age st recs sy) : PreW P w d room age st recs recs.length := by
  obtain ⟨D, h1, h2, h3, h4, h5⟩ := h
  exact ⟨D, h1, h4.pre, h5⟩

theorem s_put (h : SealW P w g d room age st recs sy) {ad : Option Addr} {b : Rec} (hby : BytIn w ad b) (c : Nat) (hb : okR b) (hn : recs.length ≤ 1000000) (hr : (((flat st).length + (flat recs).length + b.length : Nat) : Int) + 54 ≤ room) :
    Calls Try.prog 12 #[.pointer (some ⟨g, 0, none⟩), .slice ad b.length c] w fun e w' => e = .returned (.int .i64 0) ∧ SealW P w' g d room age st (recs ++ [b]) sy ∧ Chg (fun i => ¬ P i ∨ i = g) w w' := by
  obtain ⟨D, h1, h2, h3, h4, h5⟩ := h
  have hag := h4.ag
  have hagm := h4.agm
  have hmx := ks_len h4.good (fun n hn => (h4.ks n hn).imp id (.inl (b := n = nNext)))
  have hu := h4.used
  have hu1 := h4.snapLen
  have hu2 := h4.logLen
  obtain ⟨D', e1, e2, e3⟩ := h4.put hb (by rw [h5]; omega)
  refine (sput_any h1 (by omega) h3 h2 hag (by omega) (by omega) hby c hb).mono ?_
  rw [e1]
  rintro e w' ⟨rfl, q1, q2, q3⟩
  refine ⟨rfl, ⟨D', q2, h2, ?_, e2, e3.trans h5⟩, q3⟩
  rw [List.length_append]
  exact q1
theorem s_sync (h : SealW P w g d room age st recs sy) :
    Calls Try.prog 13 #[.pointer (some ⟨g, 0, none⟩)] w fun e w' => e = .returned (.int .i64 0) ∧ SealW P w' g d room age st recs recs.length ∧ Chg (fun i => ¬ P i) w w' := by
  obtain ⟨D, h1, h2, h3, h4, h5⟩ := h
  obtain ⟨D', e1, e2, e3, _⟩ := h4.sync
  refine (ssync_any h1 h3 h2).mono ?_
  rw [e1]
  rintro e w' ⟨rfl, q1, q2, q3⟩
  exact ⟨rfl, ⟨D', q2, h2, q1, e2, e3.trans h5⟩, q3⟩
theorem s_len (h : SealW P w g d room age st recs sy) :
    Calls Try.prog 22 #[.pointer (some ⟨g, 0, none⟩)] w fun e w' => e = .returned (.int .i64 recs.length) ∧ w' = w := by
  obtain ⟨D, h1, h2, h3, h4, h5⟩ := h
  exact slen_any h3
theorem s_save (h : SealW P w g d room age st recs sy) {ad : Option Addr} {st' : List Rec} (hrows : RowsB w ad st') (c : Nat) (hsl : st'.length ≤ 1000) (hok : ∀ b ∈ st', okR b) (hage : age + 1 ≤ 1000000) (hr : (((flat st).length + (flat recs).length + (flat st').length : Nat) : Int) + 48 ≤ room) :
    Calls Try.prog 14 #[.pointer (some ⟨g, 0, none⟩), .slice ad st'.length c] w fun e w' => e = .returned (.int .i64 0) ∧ SealW P w' g d room (age + 1) st' [] 0 ∧ Chg (fun i => ¬ P i ∨ i = g) w w' := by
  obtain ⟨D, h1, h2, h3, h4, h5⟩ := h
  have hag := h4.ag
  have hmx := ks_len h4.good (fun n hn => (h4.ks n hn).imp id (.inl (b := n = nNext)))
  have hu := h4.used
  have hu1 := h4.snapLen
  have hu2 := h4.logLen
  obtain ⟨D', e1, e2, e3, _⟩ := h4.save hok hage (by rw [h5]; omega)
  refine (ssave_any h1 (by omega) h3 h2 hag (by omega) hrows c hsl hok).mono ?_
  rw [e1]
  rintro e w' ⟨rfl, q1, q2, q3⟩
  exact ⟨rfl, ⟨D', q2, h2, q1, e2, e3.trans h5⟩, q3⟩
/-- As s_save, with the disk told. -/
theorem s_save_log (h : SealW P w g d room age st recs sy) {ad : Option Addr} {st' : List Rec} (hrows : RowsB w ad st') (c : Nat) (hsl : st'.length ≤ 1000) (hok : ∀ b ∈ st', okR b) (hage : age + 1 ≤ 1000000) (hr : (((flat st).length + (flat recs).length + (flat st').length : Nat) : Int) + 48 ≤ room) :
    Calls Try.prog 14 #[.pointer (some ⟨g, 0, none⟩), .slice ad st'.length c] w fun e w' => e = .returned (.int .i64 0) ∧ (∃ D, DiskX P w' d D ∧ Rep D (age + 1) st' [] 0 ∧ D.room = room ∧ bsF (D.fl nLog) = []) ∧ Chg (fun i => ¬ P i ∨ i = g) w w' := by
  obtain ⟨D, h1, h2, h3, h4, h5⟩ := h
  have hag := h4.ag
  have hmx := ks_len h4.good (fun n hn => (h4.ks n hn).imp id (.inl (b := n = nNext)))
  have hu := h4.used
  have hu1 := h4.snapLen
  have hu2 := h4.logLen
  obtain ⟨D', e1, e2, e3, e4⟩ := h4.save hok hage (by rw [h5]; omega)
  refine (ssave_any h1 (by omega) h3 h2 hag (by omega) hrows c hsl hok).mono ?_
  rw [e1]
  rintro e w' ⟨rfl, q1, q2, q3⟩
  exact ⟨rfl, ⟨D', q2, e2, e3.trans h5, e4⟩, q3⟩
theorem s_crash (h : SealW P w g d room age st recs sy) (keep : Int) (hkp : -9223372036854775808 ≤ keep ∧ keep ≤ 9223372036854775807) :
    Calls Try.prog 16 #[.pointer (some ⟨d, 0, none⟩), .int .i64 keep] w fun e w' => e = .returned (.tuple #[]) ∧ PreW P w' d room age st recs sy ∧ Chg (fun i => ¬ P i) w w' := by
  obtain ⟨D, h1, h2, h3, h4, h5⟩ := h
  have hmx := ks_len h4.good (fun n hn => (h4.ks n hn).imp id (.inl (b := n = nNext)))
  refine (x_crash h1 (by omega) keep hkp).mono ?_
  rintro e w' ⟨rfl, q1, q2⟩
  exact ⟨rfl, ⟨D.crash keep, q1, h4.crash keep, h5⟩, q2⟩
theorem s_open (h : PreW P w d room age st recs sy) :
    Calls Try.prog 9 #[.pointer (some ⟨d, 0, none⟩)] w fun e w' => ∃ (j g ad1 c1 ad2 c2 : _), sy ≤ j ∧ j ≤ recs.length ∧ e = .returned (.tuple #[.pointer (some ⟨g, 0, none⟩), .slice ad1 st.length c1, .slice ad2 (recs.take j).length c2, .int .i64 0]) ∧
      ∃ B : Nat → Prop, (∀ i, B i → ¬ P i ∧ w.heap.size ≤ i ∧ i < w'.heap.size) ∧ B g ∧ RowsIn w' (fun i => B i ∧ i ≠ g) ad1 st ∧ RowsIn w' (fun i => B i ∧ i ≠ g) ad2 (recs.take j) ∧ SealW (fun i => P i ∨ B i) w' g d room age st (recs.take j) (recs.take j).length ∧ Chg (fun i => ¬ P i) w w' := by
  obtain ⟨D, h1, h4, h5⟩ := h
  obtain ⟨so, lo, tl, j, D', a1, a2, a3, a4, a5, a6, a7, a8, a9, b1, b2, b3⟩ := h4.reopen
  refine (open_any h1 so lo a1 a2 a5 a6).mono ?_
  rw [a7, a4, a3, b1]
  rintro e w' ⟨g, ad1, c1, ad2, c2, rfl, B, q1, q2, q3, q4, q5, q6, q7⟩
  exact ⟨j, g, ad1, c1, ad2, c2, a8, a9, rfl, B, q1, q2, q4, q5, ⟨D', q6, .inr q2, q3, b2, b3.trans h5⟩, q7⟩
end
/-- A disk on which nothing is. -/
theorem pre_new (r : Int) (h0 : 0 ≤ r) (h1 : r ≤ 1000000) : Pre (Dsk.new r) 0 [] [] 0 :=
  ⟨Dsk.Good.new h0 h1, Int.le_refl _, by decide, fun b hb => (by cases hb), fun b hb => (by cases hb), .inl ⟨rfl, rfl, rfl⟩, ⟨0, rfl, .inl rfl⟩, Nat.le_refl _, fun n hn => (by cases hn)⟩
theorem s_new (w : World) (r : Int) (hr : 0 ≤ r ∧ r ≤ 1000000) :
    Calls Try.prog 8 #[.int .i64 r] w fun e w' => ∃ d, e = .returned (.tuple #[.pointer (some ⟨d, 0, none⟩), .int .i64 0]) ∧ PreW (fun i => i < w.heap.size) w' d r 0 [] [] 0 ∧ Chg (fun _ => False) w w' := by
  refine (x_new w r hr).mono ?_
  rintro e w' ⟨d, rfl, h1, h2⟩
  exact ⟨d, rfl, ⟨_, h1, pre_new r hr.1 hr.2, rfl⟩, h2⟩
end Go.Proofs.Ytpbjompopgdbjaa
