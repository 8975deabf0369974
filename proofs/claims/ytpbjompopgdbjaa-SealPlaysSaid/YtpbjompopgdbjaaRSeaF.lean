/-
  the reference's log: Put, Sync.
-/
import Derived.Test.YtpbjompopgdbjaaZRSeaD
import Derived.Test.YtpbjompopgdbjaaRDskF
namespace Go.Proofs.Ytpbjompopgdbjaa
open Go.RowKit Go.Maps Go.Sort

/-- Is the log's file without bytes? -/
def emL (D : Dsk) : Bool := (bsF (D.fl nLog)).isEmpty
/-- The reference's log at a block, its disk at another. -/
structure RLAt (w : World) (base X y : Nat) (v : Value) (age : Int) (n : Nat) (D : Dsk) : Prop where
  blk : Blk w y 61 #[.pointer (some ⟨X, 0, none⟩), .int .i64 age, .int .i64 n, .bool (emL D)]
  rd : RD w base X v D
/-- What a step of the reference's log leaves. -/
def RLPost (w w' : World) (base X y : Nat) (v : Value) (age : Int) (n : Nat) (D' : Dsk) : Prop := ∃ v', RLAt w' base X y v' age n D' ∧ Chg (fun i => (i = X ∨ v.ownBlock = some i) ∨ i = y) w w' ∧ ∀ k, v'.ownBlock = some k → v.ownBlock = some k ∨ w.heap.size ≤ k
theorem RD.keep2 {w w' : World} {base X : Nat} {v : Value} {D : Dsk} (h : RD w base X v D) (hc : Chg (fun _ => False) w w') : RD w' base X v D := by
  obtain ⟨l, h1, h2⟩ := h
  exact ⟨l, h1.keep hc, h2⟩
theorem RD.chg2 {w w' : World} {base X : Nat} {v : Value} {D : Dsk} (h : RD w base X v D) {S : Nat → Prop} (hc : Chg S w w') (hX : ¬ S X) (hv : ∀ k, v.ownBlock = some k → ¬ S k) : RD w' base X v D := by
  obtain ⟨l, h1, h2⟩ := h
  exact ⟨l, h1.chg hc hX hv, h2⟩
theorem RLAt.ne {w : World} {base X y : Nat} {v : Value} {age : Int} {n : Nat} {D : Dsk} (h : RLAt w base X y v age n D) : y ≠ X ∧ ∀ k, v.ownBlock = some k → k ≠ y := by
  obtain ⟨l, h1, _⟩ := h.rd
  refine ⟨h.blk.ne h1.blk (by decide), fun k hk e => ?_⟩
  subst e
  rcases h1.own.2 with ⟨rfl, _⟩ | ⟨g, cap, cur, rfl, hb, hh, _⟩
  · simp [Value.ownBlock] at hk
  · simp [Value.ownBlock] at hk
    have hB : Blk w g 65 cur := hh
    exact hB.ne h.blk (by decide) hk

theorem str_app (a b : List UInt8) : Value.string ((⟨a.toArray⟩ : ByteArray) ++ ⟨b.toArray⟩) = encStr (a ++ b) := by
  have e : (⟨a.toArray⟩ : ByteArray) ++ ⟨b.toArray⟩ = ⟨(a ++ b).toArray⟩ := by
    apply ByteArray.ext
    simp
  rw [e]
theorem putRec_or (D : Dsk) (age : Int) (b : Rec) : D.putRec age b = (4, D) ∨ ((D.putRec age b).1 = 0 ∧ emL (D.putRec age b).2 = false) := by
  obtain ⟨Y, hY⟩ : ∃ Y, (if bsF (D.fl nLog) = [] then frm (nb age) ++ frm b else frm b) = Y := ⟨_, rfl⟩
  have hYl : 1 ≤ Y.length := by
    rw [← hY]
    split
    · rw [List.length_append, frm_len]; omega
    · rw [frm_len]; omega
  unfold Dsk.putRec
  rw [hY]
  by_cases hfull : D.room - D.used < Y.length
  · exact .inl (app_full (by decide) hfull)
  · rw [app_ok (by decide) hfull]
    refine .inr ⟨rfl, ?_⟩
    unfold emL
    rw [dput_fl]
    show ((bsF (D.fl nLog)) ++ Y).isEmpty = false
    cases hb : (bsF (D.fl nLog)) ++ Y with
    | nil =>
      have := congrArg List.length hb
      rw [List.length_append] at this
      simp at this
      rw [this.2] at hYl
      simp at hYl
    | cons _ _ => rfl

set_option maxRecDepth 100000 in
set_option maxHeartbeats 2000000 in
theorem rl_put {w : World} {base X y : Nat} {v : Value} {age : Int} {n : Nat} {D : Dsk} (h : RLAt w base X y v age n D) (hG : D.Good) (hmx : D.ks.length ≤ 999999) (hbase : base ≤ w.heap.size) (h0 : 0 ≤ age) (h1 : age < 64) (hn : n ≤ 1000000) (b : Rec) (hb : okR b) :
    Calls Try.prog 24 #[.pointer (some ⟨y, 0, none⟩), encStr b] w fun e w' => e = .returned (.int .i64 (D.putRec age b).1) ∧ RLPost w w' base X y v age (bump (D.putRec age b).1 n) (D.putRec age b).2 := by
  have hb1 := hb.1
  have hb2 := hb.2
  have hne := h.ne
  have hblk : ∀ w', Chg (fun _ => False) w w' → Blk w' y 61 #[.pointer (some ⟨X, 0, none⟩), .int .i64 age, .int .i64 n, .bool (emL D)] := fun w' hc => h.blk.chg hc id
  have HB := Lib.hid hblk
  have hrd : ∀ w', Chg (fun _ => False) w w' → RD w' base X v D := fun w' hc => h.rd.keep2 hc
  have HR := Lib.hid hrd
  have hor := putRec_or D age b
  have Hor := Lib.hid hor
  have hfin : ∀ w2 w3, Chg (fun _ => False) w w2 → RDPost w2 w3 base X v (D.putRec age b).2 → Blk w3 y 61 #[.pointer (some ⟨X, 0, none⟩), .int .i64 age, .int .i64 n, .bool (emL D)] ∧
      (D.putRec age b = (4, D) → RLPost w w3 base X y v age n D) ∧ (emL (D.putRec age b).2 = false → RLPost w ((w3.setCell ⟨y, 3, none⟩ (.bool false)).setCell ⟨y, 2, none⟩ (.int .i64 ((n + 1 : Nat) : Int))) base X y v age (n + 1) (D.putRec age b).2) := fun w2 w3 hc hP => by
    obtain ⟨v', hR', hc', ho'⟩ := hP
    have hB3 := (hblk w2 hc).chg hc' (fun h => by
      rcases h with h | h
      · exact hne.1 h
      · exact hne.2 y h rfl)
    have hcw : Chg (fun i => (i = X ∨ v.ownBlock = some i) ∨ i = y) w w3 := (hc.mono (fun _ _ h => h.elim)).trans hc' (fun _ _ h => .inl h)
    have how : ∀ k, v'.ownBlock = some k → v.ownBlock = some k ∨ w.heap.size ≤ k := fun k hk => (ho' k hk).imp id (fun h => Nat.le_trans hc.size h)
    refine ⟨hB3, fun e => ?_, fun e => ?_⟩
    · rw [e] at hR'
      exact ⟨v', ⟨hB3, hR'⟩, hcw, how⟩
    · have hne' : y ≠ X ∧ ∀ k, v'.ownBlock = some k → k ≠ y := by
        refine ⟨hne.1, fun k hk => ?_⟩
        rcases ho' k hk with h | h
        · exact hne.2 k h
        · have := h
          have hy : y < w2.heap.size := (hblk w2 hc).lt
          omega
      refine ⟨v', ⟨?_, ?_⟩, Chg.setCell (Chg.setCell hcw (.inl (.inr rfl)) _) (.inl (.inr rfl)) _, how⟩
      · rw [e]
        exact (hB3.set 3 (.bool false)).set 2 (.int .i64 ((n + 1 : Nat) : Int))
      · refine hR'.chg2 (S := fun i => i = y) (Chg.setCell (Chg.setCell (Chg.refl (fun i => i = y) w3) (.inl rfl) _) (.inl rfl) _) (fun e => hne.1 e.symm) (fun k hk e => hne'.2 k hk e)
  have Hfin := Lib.hid hfin
  obtain ⟨R, hR⟩ : ∃ R, D.putRec age b = R := ⟨_, rfl⟩
  have hputR : D.append nLog (if bsF (D.fl nLog) = [] then frm (nb age) ++ frm b else frm b) = R := hR
  rw [hR] at Hfin Hor ⊢
  have hfr := frm_len b
  have hag := nb_small (v := age) h0 (by omega)
  have hgl := frm_len (nb age)
  clear hblk hrd hor hfin h hR
  go_enter Try.func24, Try.ntmps24
  go_wp2_with fail
  refine (rframe_any w b hb2).mono ?_
  rintro e w1 ⟨rfl, hc1⟩
  have hB1 := HB.out w1 hc1
  have k3 : w1.cell? ⟨y, 3, none⟩ = some (.bool (emL D)) := hB1.cell 3
  have k1 : w1.cell? ⟨y, 1, none⟩ = some (.int .i64 age) := hB1.cell 1
  have k0 : w1.cell? ⟨y, 0, none⟩ = some (.pointer (some ⟨X, 0, none⟩)) := hB1.cell 0
  cases hem : emL D with
  | true =>
    have hbe : bsF (D.fl nLog) = [] := List.isEmpty_iff.1 hem
    rw [if_pos hbe] at hputR
    rw [hem] at k3
    have Hem := Lib.hid hem
    clear hbe hem
    go_wp2_with fail
    refine (refInt_any w1 age h0 (by omega)).mono ?_
    rintro e w2 ⟨rfl, hc2⟩
    rw [show Value.string (bstr (nb age)) = encStr (nb age) from rfl]
    go_wp2_with fail
    refine (rframe_any w2 (nb age) hag.2).mono ?_
    rintro e w3 ⟨rfl, hc3⟩
    have hcw3 := (hc1.trans hc2 (fun _ _ h => h)).trans hc3 (fun _ _ h => h)
    have hB3 := HB.out w3 hcw3
    have j0 : w3.cell? ⟨y, 0, none⟩ = some (.pointer (some ⟨X, 0, none⟩)) := hB3.cell 0
    obtain ⟨A, hA⟩ : ∃ A, frm (nb age) = A := ⟨_, rfl⟩
    obtain ⟨C, hC⟩ : ∃ C, frm b = C := ⟨_, rfl⟩
    rw [hA, hC] at hputR ⊢
    rw [hA] at hgl
    rw [hC] at hfr
    have hsum : A.length + C.length ≤ 1000000 := by have := hag.2; omega
    clear k0 k1 k3 hB1 hB3 hc1 hc2 hc3 hA hC
    go_wp2_with fail
    rw [str_app]
    refine (rd_append (HR.out w3 hcw3) hG hmx (Nat.le_trans hbase hcw3.size) nLog (by decide) (A ++ C) (by rw [List.length_append]; omega)).mono ?_
    rw [hputR]
    rintro e w4 ⟨rfl, hP4⟩
    obtain ⟨hB4, hf1, hf2⟩ := Hfin.out _ w4 hcw3 hP4
    have m3 : w4.cell? ⟨y, 3, none⟩ = some (.bool (emL D)) := hB4.cell 3
    have m2 : w4.cell? ⟨y, 2, none⟩ = some (.int .i64 n) := hB4.cell 2
    have z3 : w4.frozen? ⟨y, 3, none⟩ = false := hB4.frozen 3
    have z2 : w4.frozen? ⟨y, 2, none⟩ = false := hB4.frozen 2
    obtain ⟨r, D2⟩ := R
    rcases Hor.out with e9 | ⟨e9, e10⟩
    · have fin := hf1 e9
      cases e9
      clear hP4 hf1 hf2 hB4 hputR
      go_wp2_with fail
      go_ret
      exact ⟨rfl, fin⟩
    · have fin := hf2 e10
      have e9 : r = 0 := e9
      subst e9
      clear hP4 hf1 hf2 hB4 hputR e10
      go_wp2_with fail
      go_ret
      exact ⟨rfl, by push_cast at fin; exact fin⟩
  | false =>
    have hbe : ¬ bsF (D.fl nLog) = [] := fun e => by
      have : emL D = true := by unfold emL; rw [e]; rfl
      rw [this] at hem
      cases hem
    rw [if_neg hbe] at hputR
    rw [hem] at k3
    have Hem := Lib.hid hem
    clear hbe hem
    obtain ⟨C, hC⟩ : ∃ C, frm b = C := ⟨_, rfl⟩
    rw [hC] at hputR ⊢
    rw [hC] at hfr
    clear k1 hB1 hC
    go_wp2_with fail
    refine (rd_append (HR.out w1 hc1) hG hmx (Nat.le_trans hbase hc1.size) nLog (by decide) C (by omega)).mono ?_
    rw [hputR]
    rintro e w4 ⟨rfl, hP4⟩
    obtain ⟨hB4, hf1, hf2⟩ := Hfin.out _ w4 hc1 hP4
    have m3 : w4.cell? ⟨y, 3, none⟩ = some (.bool (emL D)) := hB4.cell 3
    have m2 : w4.cell? ⟨y, 2, none⟩ = some (.int .i64 n) := hB4.cell 2
    have z3 : w4.frozen? ⟨y, 3, none⟩ = false := hB4.frozen 3
    have z2 : w4.frozen? ⟨y, 2, none⟩ = false := hB4.frozen 2
    obtain ⟨r, D2⟩ := R
    rcases Hor.out with e9 | ⟨e9, e10⟩
    · have fin := hf1 e9
      cases e9
      clear hP4 hf1 hf2 hB4 hputR
      go_wp2_with fail
      go_ret
      exact ⟨rfl, fin⟩
    · have fin := hf2 e10
      have e9 : r = 0 := e9
      subst e9
      clear hP4 hf1 hf2 hB4 hputR e10
      go_wp2_with fail
      go_ret
      exact ⟨rfl, by push_cast at fin; exact fin⟩
end Go.Proofs.Ytpbjompopgdbjaa
