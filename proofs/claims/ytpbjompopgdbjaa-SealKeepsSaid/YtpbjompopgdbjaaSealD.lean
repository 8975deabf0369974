/-
  the log: Put, Sync, Len by their contracts.
-/
import Derived.Test.YtpbjompopgdbjaaSealC
namespace Go.Proofs.Ytpbjompopgdbjaa
open Go.RowKit Go.Maps

def Dsk.putRec (D : Dsk) (age : Int) (b : Rec) : Int × Dsk := D.append nLog (if bsF (D.fl nLog) = [] then frm (nb age) ++ frm b else frm b)
/-- One record more, if it was put. -/
def bump (r : Int) (n : Nat) : Nat := if r = 0 then n + 1 else n
theorem RowB.src2 {w : World} {ao : Option Addr} {off cap rb : Nat} {bs : List UInt8} (h : RowB w ao off cap rb bs) {P : Nat → Prop} (hP : 0 < cap → P rb) : ∀ w', Chg (fun i => ¬ P i) w w' → Src Try.prog 1 31 (.slice ao bs.length cap) bs.length (bcells bs) w' := rowB_src h hP

section
variable {P : Nat → Prop} {w : World} {d g : Nat} {D : Dsk} {age : Int} {n : Nat}
set_option maxRecDepth 100000 in
set_option maxHeartbeats 1000000 in
theorem sput_bad (hg : LogAt w g d age n) (ad : Option Addr) (k c : Nat) (hb : k < 1 ∨ 1000 < k) (hk : k ≤ maxLen) :
    Calls Try.prog 12 #[.pointer (some ⟨g, 0, none⟩), .slice ad k c] w fun e w' => e = .returned (.int .i64 1) ∧ w' = w := by
  go_enter Try.func12, Try.ntmps12
  go_wp2_with fail
  refine (put_bad ad k c hb hk).mono ?_
  rintro e w1 ⟨rfl, rfl⟩
  go_wp2_with fail
  go_ret
  exact ⟨rfl, rfl⟩

set_option maxRecDepth 100000 in
set_option maxHeartbeats 1000000 in
theorem ssync_any (h : DiskX P w d D) (hg : LogAt w g d age n) (hPg : P g) :
    Calls Try.prog 13 #[.pointer (some ⟨g, 0, none⟩)] w fun e w' => e = .returned (.int .i64 0) ∧ LogAt w' g d age n ∧ DiskX P w' d (D.sync nLog).2 ∧ Chg (fun i => ¬ P i) w w' := by
  have c0 : w.cell? ⟨g, 0, none⟩ = some (.pointer (some ⟨d, 0, none⟩)) := hg.cell 0
  go_enter Try.func13, Try.ntmps13
  go_wp2_with fail
  refine (x_sync h nLog (by decide)).mono ?_
  rintro e w1 ⟨rfl, hD, hc⟩
  go_wp2_with fail
  go_ret
  exact ⟨rfl, Blk.chg hg hc (fun hs => hs hPg), hD, hc⟩

set_option maxRecDepth 100000 in
theorem slen_any (hg : LogAt w g d age n) : Calls Try.prog 22 #[.pointer (some ⟨g, 0, none⟩)] w fun e w' => e = .returned (.int .i64 n) ∧ w' = w := by
  have c2 : w.cell? ⟨g, 2, none⟩ = some (.int .i64 n) := hg.cell 2
  go_enter Try.func22, Try.ntmps22
  go_wp2_with fail
  go_ret
  exact ⟨rfl, rfl⟩

set_option maxRecDepth 100000 in
set_option maxHeartbeats 1000000 in
theorem sput_any (h : DiskX P w d D) (hmx : D.ks.length ≤ 1000000) (hg : LogAt w g d age n) (hPg : P g) (h0 : 0 ≤ age) (h1 : age < 4611686018427387904) (hn : n ≤ 1000000000) {ad : Option Addr} {b : Rec} (hby : BytIn w ad b) (c : Nat) (hb : okR b) :
    Calls Try.prog 12 #[.pointer (some ⟨g, 0, none⟩), .slice ad b.length c] w fun e w' => e = .returned (.int .i64 (D.putRec age b).1) ∧
      LogAt w' g d age (bump (D.putRec age b).1 n) ∧ DiskX P w' d (D.putRec age b).2 ∧ Chg (fun i => ¬ P i ∨ i = g) w w' := by
  have hfl := frm_len b
  have hb2 := hb.2
  have hgl := (nb_small h0 h1).2
  have hgf := frm_len (nb age)
  go_enter Try.func12, Try.ntmps12
  go_wp2_with fail
  refine (put_any hby c hb).mono ?_
  obtain ⟨fb, hfb⟩ : ∃ fb, frm b = fb := ⟨_, rfl⟩
  have Hfb := Lib.hid hfb
  rw [hfb] at hfl ⊢
  clear hfb
  rintro e w1 ⟨ao, off, cap, rb, rfl, hR, hc1, hr1, hr2⟩
  have hg1 : LogAt w1 g d age n := Blk.chg hg hc1 id
  have hD1 := h.keep hc1
  have hz1 := hc1.size
  have c0 : w1.cell? ⟨g, 0, none⟩ = some (.pointer (some ⟨d, 0, none⟩)) := hg1.cell 0
  obtain ⟨F, hF⟩ : ∃ F, fb.length = F := ⟨_, rfl⟩
  have HF := Lib.hid hF
  have hFl : F ≤ 1006 := by omega
  rw [hF]
  clear hF hfl
  go_wp2_with fail
  refine (x_read_any hD1 nLog (by decide)).mono ?_
  rintro e w2 ⟨ao2, cap2, ec, rfl, _, _, _, hD2, hc2⟩
  have hg2 : LogAt w2 g d age n := Blk.chg hg1 hc2 id
  have hR2 := hR.keep hc2.size (fun h0 => hc2.block rb (hR.came.lt h0) id)
  have hcw2 := hc1.trans hc2 (fun _ _ h => h)
  have hz2 := hc2.size
  clear hc1 hg1 c0 hc2 hD1 hR
  have c1 : w2.cell? ⟨g, 1, none⟩ = some (.int .i64 age) := hg2.cell 1
  have c0 : w2.cell? ⟨g, 0, none⟩ = some (.pointer (some ⟨d, 0, none⟩)) := hg2.cell 0
  by_cases hold : bsF (D.fl nLog) = []
  · have hl0 : (bsF (D.fl nLog)).length = 0 := by rw [hold]; rfl
    rw [hl0]
    go_wp2_with fail
    refine (gen_any w2 age h0 h1).mono ?_
    obtain ⟨ga, hga⟩ : ∃ ga, frm (nb age) = ga := ⟨_, rfl⟩
    have Hga := Lib.hid hga
    rw [hga] at hgf ⊢
    clear hga
    rintro e w3 ⟨ao3, off3, cap3, rb3, rfl, hR3, hc3, hr31, hr32⟩
    have hR23 := hR2.keep hc3.size (fun h0 => hc3.block rb (hR2.came.lt h0) id)
    have hS : Src Try.prog 1 31 (.slice ao F cap) fb.length (bcells fb) w3 := by
      have := src_row hR23
      rw [HF.out] at this ⊢
      exact this
    have hz3 := hc3.size
    have hcw3 := hcw2.trans hc3 (fun _ _ h => h)
    have hg3 : LogAt w3 g d age n := Blk.chg hg2 hc3 id
    have HS := Lib.hid hS
    have HR3 := Lib.hid hR3
    have hgm : ga.length ≤ 1006 := by omega
    clear hgf
    clear hS hR3 hR2 hR23 c0 c1
    go_wp2_with (at_builtin; go_loud (refine wpList_append_row rfl _ _ rfl (by exact HR3.out) rfl _ fb rfl (by exact HS.out) (by rw [HF.out]; omega) ?_))
    intro ao4 off4 cap4 rb4 w4 hR4 hc4 hrb4
    have hg4 : LogAt w4 g d age n := Blk.chg hg3 hc4 (fun hs => by have := Blk.lt hg2; omega)
    have hz4 := hc4.size
    have hcw4 : Chg (fun _ => False) w w4 := ((hcw3.mono (fun _ _ h => h.elim) : Chg (fun i => i = rb3 ∧ 0 < cap3) w w3).trans hc4 (fun _ _ h => h)).mono (T := fun _ => False) (fun i hi hs => by omega)
    have hDq : DiskX (fun i => P i ∨ (w.heap.size ≤ i ∧ i < w4.heap.size)) w4 d D := h.more hcw4 (fun i hi => hi)
    have hzx := (hcw4).size
    have c0 : w4.cell? ⟨g, 0, none⟩ = some (.pointer (some ⟨d, 0, none⟩)) := hg4.cell 0
    go_wp2_with fail
    rw [show ga.length + fb.length = (ga ++ fb).length by rw [List.length_append]]
    refine (x_append hDq hmx nLog _ (ga ++ fb) _ (hR4.src2 (fun _ => .inr (by omega)))).mono ?_
    obtain ⟨r, D', hrd⟩ : ∃ r D', D.append nLog (ga ++ fb) = (r, D') := ⟨_, _, rfl⟩
    have Hrd := Lib.hid hrd
    rw [hrd]
    clear hrd
    rintro e w5 ⟨rfl, hDo, hc5⟩
    have hD5 : DiskX P w5 d D' := DiskX.more (D := D') hDo (Chg.refl _ _) (fun i hi => .inl (.inl hi))
    have hg5 : LogAt w5 g d age n := Blk.chg hg4 hc5 (fun hs => hs (.inl hPg))
    have hcw5 : Chg (fun i => ¬ P i ∨ i = g) w w5 := ((hcw4).mono (fun _ _ h => h.elim) : Chg (fun i => ¬ P i ∨ i = g) w w4).trans hc5 (fun i _ hs => .inl (fun hp => hs (.inl hp)))
    have hput : D.putRec age b = (r, D') := by
      unfold Dsk.putRec
      rw [if_pos hold, Hga.out, Hfb.out]
      exact Hrd.out
    have Hput := Lib.hid hput
    clear hput c0 hDq hc5 hDo
    by_cases hr : r = 0
    · subst hr
      have c2 : w5.cell? ⟨g, 2, none⟩ = some (.int .i64 n) := hg5.cell 2
      have f2 := Blk.frozen hg5 2
      go_wp2_with fail
      go_ret
      rw [Hput.out]
      refine ⟨rfl, ?_, hD5.put ((Chg.refl (fun i => i = g) w5).setCell (p := ⟨g, 2, none⟩) (.inl rfl) _) (fun i hi => by rw [hi]; exact hPg), hcw5.setCell (p := ⟨g, 2, none⟩) (.inl (.inr rfl)) _⟩
      have := Blk.set hg5 2 (.int .i64 ((n : Int) + 1))
      exact this
    · have hrB : (r == 0) = false := beq_eq_false_iff_ne.2 hr
      go_wp2_with fail
      go_ret
      rw [Hput.out]
      refine ⟨rfl, ?_, hD5, hcw5⟩
      unfold bump
      rw [if_neg hr]
      exact hg5
  · have hol : ((((bsF (D.fl nLog)).length : Nat) : Int) == 0) = false := by
      rw [beq_eq_false_iff_ne]
      have := List.length_pos_iff.2 hold
      omega
    obtain ⟨ol, hole⟩ : ∃ ol, (bsF (D.fl nLog)).length = ol := ⟨_, rfl⟩
    rw [hole] at hol ⊢
    clear hole
    have hDq : DiskX (fun i => P i ∨ (w.heap.size ≤ i ∧ i < w2.heap.size)) w2 d D := h.more hcw2 (fun i hi => hi)
    have hzx := (hcw2).size
    have c0 : w2.cell? ⟨g, 0, none⟩ = some (.pointer (some ⟨d, 0, none⟩)) := hg2.cell 0
    go_wp2_with fail
    rw [← HF.out]
    refine (x_append hDq hmx nLog _ fb _ (hR2.src2 (fun _ => .inr (by omega)))).mono ?_
    obtain ⟨r, D', hrd⟩ : ∃ r D', D.append nLog fb = (r, D') := ⟨_, _, rfl⟩
    have Hrd := Lib.hid hrd
    rw [hrd]
    clear hrd
    rintro e w5 ⟨rfl, hDo, hc5⟩
    have hD5 : DiskX P w5 d D' := DiskX.more (D := D') hDo (Chg.refl _ _) (fun i hi => .inl (.inl hi))
    have hg5 : LogAt w5 g d age n := Blk.chg hg2 hc5 (fun hs => hs (.inl hPg))
    have hcw5 : Chg (fun i => ¬ P i ∨ i = g) w w5 := ((hcw2).mono (fun _ _ h => h.elim) : Chg (fun i => ¬ P i ∨ i = g) w w2).trans hc5 (fun i _ hs => .inl (fun hp => hs (.inl hp)))
    have hput : D.putRec age b = (r, D') := by
      unfold Dsk.putRec
      rw [if_neg hold, Hfb.out]
      exact Hrd.out
    have Hput := Lib.hid hput
    clear hput c0 hDq hc5 hDo
    by_cases hr : r = 0
    · subst hr
      have c2 : w5.cell? ⟨g, 2, none⟩ = some (.int .i64 n) := hg5.cell 2
      have f2 := Blk.frozen hg5 2
      go_wp2_with fail
      go_ret
      rw [Hput.out]
      refine ⟨rfl, ?_, hD5.put ((Chg.refl (fun i => i = g) w5).setCell (p := ⟨g, 2, none⟩) (.inl rfl) _) (fun i hi => by rw [hi]; exact hPg), hcw5.setCell (p := ⟨g, 2, none⟩) (.inl (.inr rfl)) _⟩
      have := Blk.set hg5 2 (.int .i64 ((n : Int) + 1))
      exact this
    · have hrB : (r == 0) = false := beq_eq_false_iff_ne.2 hr
      go_wp2_with fail
      go_ret
      rw [Hput.out]
      refine ⟨rfl, ?_, hD5, hcw5⟩
      unfold bump
      rw [if_neg hr]
      exact hg5
end
end Go.Proofs.Ytpbjompopgdbjaa
