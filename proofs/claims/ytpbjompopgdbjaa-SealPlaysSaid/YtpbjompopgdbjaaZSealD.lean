/-
  the log: Put, Sync, Len by their contracts.
-/
import Derived.Test.YtpbjompopgdbjaaSealC
namespace Go.Proofs.Ytpbjompopgdbjaa
open Go.RowKit Go.Maps

def Dsk.putRec (D : Dsk) (age : Int) (b : Rec) : Int × Dsk := D.append nLog (if bsF (D.fl nLog) = [] then frm (nb age) ++ frm b else frm b)
/-- One record more, if it was put. -/
def bump (r : Int) (n : Nat) : Nat := if r = 0 then n + 1 else n
theorem RowB.src2 {w : World} {ao : Option Addr} {off cap rb : Nat} {bs : List UInt8} (h : RowB w ao off cap rb bs) {P : Nat → Prop} (hP : 0 < cap → P rb) : ∀ w', Chg (fun i => ¬ P i) w w' → Src Try.prog 1 31 (.slice ao bs.length cap) bs.length (bcells bs) w' := rowB_src h hP

section
variable {P : Nat → Prop} {w : World} {d g : Nat} {D : Dsk} {age : Int} {n : Nat}
set_option maxRecDepth 100000 in
set_option maxHeartbeats 1000000 in
theorem sput_bad (hg : LogAt w g d age n) (ad : Option Addr) (k c : Nat) (hb : k < 1 ∨ 1000 < k) (hk : k ≤ maxLen) :
    Calls Try.prog 12 #[.pointer (some ⟨g, 0, none⟩), .slice ad k c] w fun e w' => e = .returned (.int .i64 1) ∧ w' = w := by
  go_enter Try.func12, Try.ntmps12
  go_wp2_with fail
  refine (put_bad ad k c hb hk).mono ?_
  rintro e w1 ⟨rfl, rfl⟩
  go_wp2_with fail
  go_ret
  exact ⟨rfl, rfl⟩

set_option maxRecDepth 100000 in
set_option maxHeartbeats 1000000 in
theorem ssync_any (h : DiskX P w d D) (hg : LogAt w g d age n) (hPg : P g) :
    Calls Try.prog 13 #[.pointer (some ⟨g, 0, none⟩)] w fun e w' => e = .returned (.int .i64 0) ∧ LogAt w' g d age n ∧ DiskX P w' d (D.sync nLog).2 ∧ Chg (fun i => ¬ P i) w w' := by
  have c0 : w.cell? ⟨g, 0, none⟩ = some (.pointer (some ⟨d, 0, none⟩)) := hg.cell 0
  go_enter Try.func13, Try.ntmps13
  go_wp2_with fail
  refine (x_sync h nLog (by decide)).mono ?_
  rintro e w1 ⟨rfl, hD, hc⟩
  go_wp2_with fail
  go_ret
  exact ⟨rfl, Blk.chg hg hc (fun hs => hs hPg), hD, hc⟩

set_option maxRecDepth 100000 in
theorem slen_any (hg : LogAt w g d age n) : Calls Try.prog 22 #[.pointer (some ⟨g, 0, none⟩)] w fun e w' => e = .returned (.int .i64 n) ∧ w' = w := by
  have c2 : w.cell? ⟨g, 2, none⟩ = some (.int .i64 n) := hg.cell 2
  go_enter Try.func22, Try.ntmps22
  go_wp2_with fail
  go_ret
  exact ⟨rfl, rfl⟩

set_option maxRecDepth 100000 in
set_option maxHeartbeats 1000000 in
theorem sput_any (h : DiskX P w d D) (hmx : D.ks.length ≤ 1000000) (hg : LogAt w g d age n) (hPg : P g) (h0 : 0 ≤ age) (h1 : age < 4611686018427387904) (hn : n ≤ 1000000000) {ad : Option Addr} {b : Rec} (hby : BytIn w ad b) (c : Nat) (hb : okR b) :
    Calls Try.prog 12 #[.pointer (some ⟨g, 0, none⟩), .slice ad b.length c] w fun e w' => e = .returned (.int .i64 (D.putRec age b).1) ∧
      LogAt w' g d age (bump (D.putRec age b).1 n) ∧ DiskX P w' d (D.putRec age b).2 ∧ Chg (fun i => ¬ P i ∨ i = g) w w' := by
  have hfl := frm_len b
  have hb2 := hb.2
  have hgl := (nb_small h0 h1).2
  have hgf := frm_len (nb age)
  go_enter Try.func12, Try.ntmps12
  go_wp2_with fail
  refine (put_any hby c hb).mono ?_
  obtain ⟨fb, hfb⟩ : ∃ fb, frm b = fb := ⟨_, rfl⟩
  have Hfb := Lib.hid hfb
  rw [hfb] at hfl ⊢
  clear hfb
  rintro e w1 ⟨ao, off, cap, rb, rfl, hR, hc1, hr1, hr2⟩
  have hg1 : LogAt w1 g d age n := Blk.chg hg hc1 id
  have hD1 := h.keep hc1
  have hz1 := hc1.size
  have c0 : w1.cell? ⟨g, 0, none⟩ = some (.pointer (some ⟨d, 0, none⟩)) := hg1.cell 0
  obtain ⟨F, hF⟩ : ∃ F, fb.length = F := ⟨_, rfl⟩
  have HF := Lib.hid hF
  have hFl : F ≤ 1006 := by omega
  rw [hF]
  clear hF hfl
  go_wp2_with fail
  refine (x_read_any hD1 nLog (by decide)).mono ?_
  rintro e w2 ⟨ao2, cap2, ec, rfl, _, _, _, hD2, hc2⟩
  have hg2 : LogAt w2 g d age n := Blk.chg hg1 hc2 id
  have hR2 := hR.keep hc2.size (fun h0 => hc2.block rb (hR.came.lt h0) id)
  have hcw2 := hc1.trans hc2 (fun _ _ h => h)
  have hz2 := hc2.size
  clear hc1 hg1 c0 hc2 hD1 hR
  have c1 : w2.cell? ⟨g, 1, none⟩ = some (.int .i64 age) := hg2.cell 1
  have c0 : w2.cell? ⟨g, 0, none⟩ = some (.pointer (some ⟨d, 0, none⟩)) := hg2.cell 0
  by_cases hold : bsF (D.fl nLog) = []
  · have hl0 : (bsF (D.fl nLog)).length = 0 := by rw [hold]; rfl
    rw [hl0]
    go_wp2_with fail
    refine (gen_any w2 age h0 h1).mono ?_
    obtain ⟨ga, hga⟩ : ∃ ga, frm (nb age) = ga := ⟨_, rfl⟩
    have Hga := Lib.hid hga
    rw [hga] at hgf ⊢
    clear hga
    rintro e w3 ⟨ao3, off3, cap3, rb3, rfl, hR3, hc3, hr31, hr32⟩
    have hR23 := hR2.keep hc3.size (fun h0 => hc3.block rb (hR2.came.lt h0) id)
    have hS : Src Try.prog 1 31 (.slice ao F cap) fb.length (bcells fb) w3 := by
      have := src_row hR23
      rw [HF.out] at this ⊢
      exact this
    have hz3 := hc3.size
    have hcw3 := hcw2.trans hc3 (fun _ _ h => h)
    have hg3 : LogAt w3 g d age n := Blk.chg hg2 hc3 id
    have HS := Lib.hid hS
    have HR3 := Lib.hid hR3
    have hgm : ga.length ≤ 1006 := by omega
    clear hgf
    clear hS hR3 hR2 hR23 c0 c1
    go_wp2_with (at_builtin; go_loud (refine wpList_append_row rfl _ _ rfl (by exact HR3.out) rfl _ fb rfl (by exact HS.out) (by rw [HF.out]; omega) ?_))
    intro ao4 off4 cap4 rb4 w4 hR4 hc4 hrb4
    have hg4 : LogAt w4 g d age n := Blk.chg hg3 hc4 (fun hs => by have := Blk.lt hg2; omega)
    have hz4 := hc4.size
    have hcw4 : Chg (fun _ => False) w w4 := ((hcw3.mono (fun _ _ h => h.elim) : Chg (fun i => i = rb3 ∧ 0 < cap3) w w3).trans hc4 (fun _ _ h => h)).mono (T := fun _ => False) (fun i hi hs => by omega)
    have hDq : DiskX (fun i => P i ∨ (w.heap.size ≤ i ∧ i < w4.heap.size)) w4 d D := h.more hcw4 (fun i hi => hi)
    have hzx := (hcw4).size
    have c0 : w4.cell? ⟨g, 0, none⟩ = some (.pointer (some ⟨d, 0, none⟩)) := hg4.cell 0
    go_wp2_with fail
    rw [show ga.length + fb.length = (ga ++ fb).length by rw [List.length_append]]
    refine (x_append hDq hmx nLog _ (ga ++ fb) _ (hR4.src2 (fun _ => .inr (by omega)))).mono ?_
    obtain ⟨r, D', hrd⟩ : ∃ r D', D.append nLog (ga ++ fb) = (r, D') := ⟨_, _, rfl⟩
    have Hrd := Lib.hid hrd
    rw [hrd]
    clear hrd
    rintro e w5 ⟨rfl, hDo, hc5⟩
    have hD5 : DiskX P w5 d D' := DiskX.more (D := D') hDo (Chg.refl _ _) (fun i hi => .inl (.inl hi))
    have hg5 : LogAt w5 g d age n := Blk.chg hg4 hc5 (fun hs => hs (.inl hPg))
    have hcw5 : Chg (fun i => ¬ P i ∨ i = g) w w5 := ((hcw4).mono (fun _ _ h => h.elim) : Chg (fun i => ¬ P i ∨ i = g) w w4).trans hc5 (fun i _ hs => .inl (fun hp => hs (.inl hp)))
    have hput : D.putRec age b = (r, D') := by
      unfold Dsk.putRec
      rw [if_pos hold, Hga.out, Hfb.out]
      exact Hrd.out
    have Hput := Lib.hid hput
    clear hput c0 hDq hc5 hDo
    by_cases hr : r = 0
    · subst hr
      have c2 : w5.cell? ⟨g, 2, none⟩ = some (.int .i64 n) := hg5.cell 2
      have f2 := Blk.frozen hg5 2
      go_wp2_with fail
      go_ret
      rw [Hput.out]
      refine ⟨rfl, ?_, hD5.put ((Chg.refl (fun i => i = g) w5).setCell (p := ⟨g, 2, none⟩) (.inl rfl) _) (fun i hi => by rw [hi]; exact hPg), hcw5.setCell (p := ⟨g, 2, none⟩) (.inl (.inr rfl)) _⟩
      have := Blk.set hg5 2 (.int .i64 ((n : Int) + 1))
      exact this
    · have hrB : (r == 0) = false := beq_eq_false_iff_ne.2 hr
      go_wp2_with fail
      go_ret
      rw [Hput.out]
      refine ⟨rfl, ?_, hD5, hcw5⟩
      unfold bump
      rw [if_neg hr]
      exact hg5
  · have hol : ((((bsF (D.fl nLog)).length : Nat) : Int) == 0) = false := by
      rw [beq_eq_false_iff_ne]
      have := List.length_pos_iff.2 hold
      omega
    obtain ⟨ol, hole⟩ : ∃ ol, (bsF (D.fl nLog)).length = ol := ⟨_, rfl⟩
    rw [hole] at hol ⊢
    clear hole
    have hDq : DiskX (fun i => P i ∨ (w.heap.size ≤ i ∧ i < w2.heap.size)) w2 d D := h.more hcw2 (fun i hi => hi)
    have hzx := (hcw2).size
    have c0 : w2.cell? ⟨g, 0, none⟩ = some (.pointer (some ⟨d, 0, none⟩)) := hg2.cell 0
    go_wp2_with fail
    rw [← HF.out]
    refine (x_append hDq hmx nLog _ fb _ (hR2.src2 (fun _ => .inr (by omega)))).mono ?_
    obtain ⟨r, D', hrd⟩ : ∃ r D', D.append nLog fb = (r, D') := ⟨_, _, rfl⟩
    have Hrd := Lib.hid hrd
    rw [hrd]
    clear hrd
    rintro e w5 ⟨rfl, hDo, hc5⟩
    have hD5 : DiskX P w5 d D' := DiskX.more (D := D') hDo (Chg.refl _ _) (fun i hi => .inl (.inl hi))
    have hg5 : LogAt w5 g d age n := Blk.chg hg2 hc5 (fun hs => hs (.inl hPg))
    have hcw5 : Chg (fun i => ¬ P i ∨ i = g) w w5 := ((hcw2).mono (fun _ _ h => h.elim) : Chg (fun i => ¬ P i ∨ i = g) w w2).trans hc5 (fun i _ hs => .inl (fun hp => hs (.inl hp)))
    have hput : D.putRec age b = (r, D') := by
      unfold Dsk.putRec
      rw [if_neg hold, Hfb.out]
      exact Hrd.out
    have Hput := Lib.hid hput
    clear hput c0 hDq hc5 hDo
    by_cases hr : r = 0
    · subst hr
      have c2 : w5.cell? ⟨g, 2, none⟩ = some (.int .i64 n) := hg5.cell 2
      have f2 := Blk.frozen hg5 2
      go_wp2_with fail
      go_ret
      rw [Hput.out]
      refine ⟨rfl, ?_, hD5.put ((Chg.refl (fun i => i = g) w5).setCell (p := ⟨g, 2, none⟩) (.inl rfl) _) (fun i hi => by rw [hi]; exact hPg), hcw5.setCell (p := ⟨g, 2, none⟩) (.inl (.inr rfl)) _⟩
      have := Blk.set hg5 2 (.int .i64 ((n : Int) + 1))
      exact this
    · have hrB : (r == 0) = false := beq_eq_false_iff_ne.2 hr
      go_wp2_with fail
      go_ret
      rw [Hput.out]
      refine ⟨rfl, ?_, hD5, hcw5⟩
      unfold bump
      rw [if_neg hr]
      exact hg5
end
end Go.Proofs.Ytpbjompopgdbjaa

namespace Go.Proofs.Ytpbjompopgdbjaa
open Go.RowKit Go.Maps

/-- Rows of bytes that can be read. -/
def RowsB (w : World) (ad : Option Addr) (l : List Rec) : Prop := ∀ (i : Nat) (b : Rec), l[i]? = some b → b.length ≤ maxLen ∧ ∃ a ao c, ad = some a ∧ a.block < w.heap.size ∧ w.cell? (a.add i) = some (.slice ao b.length c) ∧ BytIn w ao b
theorem RowsB.chg {w w' : World} {ad : Option Addr} {l : List Rec} (h : RowsB w ad l) {S : Nat → Prop} (hc : Chg S w w') (hS : ∀ i, i < w.heap.size → ¬ S i) : RowsB w' ad l := by
  intro i b hi
  obtain ⟨h0, a, ao, c, e, h1, h2, h3⟩ := h i b hi
  exact ⟨h0, a, ao, c, e, Nat.lt_of_lt_of_le h1 hc.size, (World.cell?_of_block (by rw [add_blk]; exact hc.block _ h1 (hS _ h1))).trans h2, h3.chg hc hS⟩
theorem RowsIn.rowsB {w : World} {B : Nat → Prop} {ad : Option Addr} {l : List Rec} (h : RowsIn w B ad l) : RowsB w ad l := by
  intro i b hi
  obtain ⟨a, ao, off, cap, rb, e, _, h2, h3, h4, _⟩ := h i b hi
  exact ⟨Nat.le_trans h4.came.le h4.mx, a, ao, cap, e, h2, h3, h4.byt⟩

def Dsk.saved (D : Dsk) (age : Int) (st : List Rec) : Int × Dsk :=
  match (D.remove nNext).2.append nNext (flat (nb (age + 1) :: st)) with
  | (e, D2) => if e = 0 then (0, ((((D2.sync nNext).2.rename nNext nSnap).2).cut nLog 0).2) else (e, (D2.remove nNext).2)
def newAge (r age : Int) : Int := if r = 0 then age + 1 else age
def newLen (r : Int) (n : Nat) : Nat := if r = 0 then 0 else n
theorem flat_take_le : ∀ (l : List Rec), (∀ b ∈ l, okR b) → (flat l).length ≤ 1006 * l.length
  | [], _ => Nat.le_refl _
  | b :: l, h => by
    have h1 := (h b (List.mem_cons_self ..)).2
    have h2 := flat_take_le l (fun x hx => h x (List.mem_cons_of_mem _ hx))
    rw [flat_cons, List.length_append, frm_len, List.length_cons]
    omega

section
variable {P : Nat → Prop} {w : World} {d g : Nat} {D : Dsk} {age : Int} {n : Nat}
set_option maxRecDepth 100000 in
set_option maxHeartbeats 2000000 in
theorem ssave_any (h : DiskX P w d D) (hmx : D.ks.length ≤ 1000000) (hg : LogAt w g d age n) (hPg : P g) (h0 : 0 ≤ age) (h1 : age < 4611686018427387000) {ad : Option Addr} {st : List Rec} (hrows : RowsB w ad st) (c : Nat) (hsl : st.length ≤ 1000) (hok : ∀ b ∈ st, okR b) :
    Calls Try.prog 14 #[.pointer (some ⟨g, 0, none⟩), .slice ad st.length c] w fun e w' => e = .returned (.int .i64 (D.saved age st).1) ∧
      LogAt w' g d (newAge (D.saved age st).1 age) (newLen (D.saved age st).1 n) ∧ DiskX P w' d (D.saved age st).2 ∧ Chg (fun i => ¬ P i ∨ i = g) w w' := by
  have hgl := nb_small (v := age + 1) (by omega) (by omega)
  have c1 : w.cell? ⟨g, 1, none⟩ = some (.int .i64 age) := Blk.cell hg 1
  go_enter Try.func14, Try.ntmps14
  go_wp2_with fail
  refine (gen_any w (age + 1) (by omega) (by omega)).mono ?_
  obtain ⟨N, hN⟩ : ∃ N, nb (age + 1) = N := ⟨_, rfl⟩
  have HN := Lib.hid hN
  rw [hN] at hgl ⊢
  rw [show frm N = flat (N :: st.take 0) from (flat_one N).symm]
  clear hN
  rintro e w1 ⟨ao, off, cap, rb, rfl, hR, hc1, hr1, hr2⟩
  obtain ⟨X0, hX0⟩ : ∃ X, flat (N :: st.take 0) = X := ⟨_, rfl⟩
  have HX0 := Lib.hid hX0
  rw [hX0] at hR ⊢
  clear hX0
  go_wp2_with fail
  go_loopw [5, 21] (fun v5 v21 wr => ∃ (k : Nat) (X : List UInt8) (ao : Option Addr) (off cap rb : Nat), v21 = .int .i64 k ∧ k ≤ st.length ∧ RowKit.Hid (flat (N :: st.take k) = X) ∧ v5 = .slice ao X.length cap ∧ RowB wr ao off cap rb X ∧ w.heap.size ≤ rb ∧ rb < wr.heap.size ∧ Chg (fun _ => False) w wr) (fun _ v21 _ => 2000000 - (RowKit.intOf v21).toNat)
  case atStart => exact ⟨0, X0, ao, off, cap, rb, rfl, Nat.zero_le _, HX0, rfl, hR, hr1, hr2, hc1⟩
  case round =>
    clear hR hr1 hr2 hc1 HX0
    obtain ⟨k, X, ao, off, cap, rb, rfl, hk, HX, rfl, hR, hr1, hr2, hcr⟩ := hrel
    by_cases hkl : k < st.length
    · obtain ⟨b, hb⟩ : ∃ b, st[k]? = some b := ⟨_, List.getElem?_eq_getElem hkl⟩
      obtain ⟨hbm, a, aob, cb, rfl, _, k0, hbb⟩ := (hrows.chg hcr (fun _ _ => id)) k b hb
      have hbo := hok b (List.mem_of_getElem? hb)
      have hpfx : ∀ x ∈ st.take k, okR x := fun x hx => hok x (List.mem_of_mem_take hx)
      have hXm : X.length ≤ 1100000 := by
        have h1 := flat_take_le (N :: st.take k) (fun x hx => by
          rcases List.mem_cons.1 hx with rfl | hx
          · exact hgl
          · exact hpfx x hx)
        rw [HX.out, List.length_cons, List.length_take] at h1
        omega
      have hX2 : flat (N :: st.take (k + 1)) = X ++ frm b := by
        have := (flat_split (rows := N :: st) (k := k + 1) (x := b) hb).2.2
        rw [show (N :: st).take (k + 1 + 1) = N :: st.take (k + 1) from rfl, show (N :: st).take (k + 1) = N :: st.take k from rfl, HX.out] at this
        exact this
      have HX2 := Lib.hid hX2
      clear hX2 hb
      go_wp2_with fail
      refine (put_any hbb cb hbo).mono ?_
      have hfl := frm_len b
      have hb2 := hbo.2
      obtain ⟨fb, hfb⟩ : ∃ fb, frm b = fb := ⟨_, rfl⟩
      have Hfb := Lib.hid hfb
      rw [hfb] at hfl HX2 ⊢
      clear hfb
      rintro e w2 ⟨ao2, off2, cap2, rb2, rfl, hR2, hc2, hr21, hr22⟩
      have hcw2 := hcr.trans hc2 (fun _ _ h => h)
      have hRX := hR.keep hc2.size (fun h0 => hc2.block rb (hR.came.lt h0) id)
      have hz2 := hc2.size
      have hzr := hcr.size
      have hfm : fb.length ≤ 1006 := by omega
      have HS := Lib.hid (src_row hR2)
      have HRX := Lib.hid hRX
      clear hfl hR2 hRX hR k0
      go_wp2_with (at_builtin; go_loud (refine wpList_append_row rfl _ _ rfl (by exact HRX.out) rfl _ fb rfl (by exact HS.out) (by omega) ?_))
      intro ao3 off3 cap3 rb3 w3 hR3 hc3 hrb3
      have hcw3 : Chg (fun _ => False) w w3 := ((hcw2.mono (fun _ _ h => h.elim) : Chg (fun i => i = rb ∧ 0 < cap) w w2).trans hc3 (fun _ _ h => h)).mono (T := fun _ => False) (fun i hi hs => by omega)
      have hz3 := hc3.size
      go_wp2_with fail
      go_roundw
      case rel => exact ⟨k + 1, X ++ fb, ao3, off3, cap3, rb3, by go_num, by omega, HX2, by rw [List.length_append], hR3, by omega, by omega, hcw3⟩
      case measure => simp [RowKit.intOf]; omega
    · have hke : k = st.length := by omega
      subst hke
      rw [List.take_length] at HX
      have hDq : DiskX (fun i => P i ∨ (w.heap.size ≤ i ∧ i < wr.heap.size)) wr d D := h.more hcr (fun i hi => hi)
      have hg1 : LogAt wr g d age n := Blk.chg hg hcr id
      have c0 : wr.cell? ⟨g, 0, none⟩ = some (.pointer (some ⟨d, 0, none⟩)) := hg1.cell 0
      clear hrows
      go_wp2_with fail
      refine (x_remove hDq nNext (by decide)).mono ?_
      obtain ⟨D1, hD1⟩ : ∃ D1, (D.remove nNext).2 = D1 := ⟨_, rfl⟩
      have HD1 := Lib.hid hD1
      have hk1 : D1.ks.length ≤ D.ks.length := by
        rw [← hD1]
        unfold Dsk.remove
        cases D.fl nNext with
        | none => exact Nat.le_refl _
        | some f => exact List.length_erase_le
      rw [hD1]
      clear hD1
      rintro e w2 ⟨rfl, hD2, hc2⟩
      have hg2 : LogAt w2 g d age n := Blk.chg hg1 hc2 (fun hs => hs (.inl hPg))
      have hR2 := hR.keep hc2.size (fun h0 => hc2.block rb (hR.came.lt h0) (fun hs => hs (.inr ⟨hr1, hr2⟩)))
      have c0 : w2.cell? ⟨g, 0, none⟩ = some (.pointer (some ⟨d, 0, none⟩)) := hg2.cell 0
      have hcw2 := ((hcr.mono (fun _ _ h => h.elim) : Chg (fun i => ¬ P i ∨ i = g) w wr).trans hc2 (fun i _ hs => .inl (fun hp => hs (.inl hp))))
      clear hc2 hR hDq hg1
      go_wp2_with fail
      refine (x_append hD2 (by omega) nNext _ X _ (hR2.src2 (fun _ => .inr ⟨hr1, hr2⟩))).mono ?_
      obtain ⟨r, D2, hrd⟩ : ∃ r D', D1.append nNext X = (r, D') := ⟨_, _, rfl⟩
      have Hrd := Lib.hid hrd
      rw [hrd]
      clear hrd
      rintro e w3 ⟨rfl, hDo, hc3⟩
      have hD3 : DiskX P w3 d D2 := DiskX.more (D := D2) hDo (Chg.refl _ _) (fun i hi => .inl (.inl hi))
      have hg3 : LogAt w3 g d age n := Blk.chg hg2 hc3 (fun hs => hs (.inl hPg))
      have c0 : w3.cell? ⟨g, 0, none⟩ = some (.pointer (some ⟨d, 0, none⟩)) := hg3.cell 0
      have hcw3 := hcw2.trans hc3 (fun i _ hs => .inl (fun hp => hs (.inl hp)))
      have hsv : D.saved age st = if r = 0 then (0, ((((D2.sync nNext).2.rename nNext nSnap).2).cut nLog 0).2) else (r, (D2.remove nNext).2) := by
        unfold Dsk.saved
        rw [HN.out, HX.out, HD1.out, Hrd.out]
      have Hsv := Lib.hid hsv
      clear hsv hc3 hDo hg2 hcw2 hR2 hD2
      by_cases hr : r = 0
      · subst hr
        go_wp2_with fail
        refine (x_sync hD3 nNext (by decide)).mono ?_
        rintro e w4 ⟨rfl, hD4, hc4⟩
        have hg4 : LogAt w4 g d age n := Blk.chg hg3 hc4 (fun hs => hs hPg)
        have c0 : w4.cell? ⟨g, 0, none⟩ = some (.pointer (some ⟨d, 0, none⟩)) := hg4.cell 0
        have hcw4 := hcw3.trans hc4 (fun i _ hs => .inl hs)
        clear hc4 hD3 hg3 hcw3
        go_wp2_with fail
        refine (x_rename hD4 nNext nSnap (by decide) (by decide)).mono ?_
        rintro e w5 ⟨rfl, hD5, hc5⟩
        have hg5 : LogAt w5 g d age n := Blk.chg hg4 hc5 (fun hs => hs hPg)
        have c0 : w5.cell? ⟨g, 0, none⟩ = some (.pointer (some ⟨d, 0, none⟩)) := hg5.cell 0
        have hcw5 := hcw4.trans hc5 (fun i _ hs => .inl hs)
        clear hc5 hD4 hg4 hcw4
        go_wp2_with fail
        refine (x_cut hD5 nLog (by decide) 0).mono ?_
        rintro e w6 ⟨rfl, hD6, hc6⟩
        have hg6 : LogAt w6 g d age n := Blk.chg hg5 hc6 (fun hs => hs hPg)
        have hcw6 := hcw5.trans hc6 (fun i _ hs => .inl hs)
        clear hc6 hD5 hg5 hcw5
        have q1 : w6.cell? ⟨g, 1, none⟩ = some (.int .i64 age) := hg6.cell 1
        have q2 : w6.cell? ⟨g, 2, none⟩ = some (.int .i64 n) := hg6.cell 2
        have q3 := Blk.frozen hg6 1
        have q4 := Blk.frozen hg6 2
        go_wp2_with fail
        go_ret
        rw [Hsv.out]
        have hgs := (Blk.set hg6 1 (.int .i64 (age + 1))).set 2 (.int .i64 0)
        have hcs : Chg (fun i => i = g) w6 _ := ((Chg.refl (fun i => i = g) w6).setCell (p := ⟨g, 1, none⟩) (.inl rfl) (.int .i64 (age + 1))).setCell (p := ⟨g, 2, none⟩) (.inl rfl) (.int .i64 0)
        exact ⟨rfl, hgs, hD6.put hcs (fun i hi => by rw [hi]; exact hPg), hcw6.trans hcs (fun i _ hi => .inr hi)⟩
      · have hrB : (r != 0) = true := bne_iff_ne.2 hr
        go_wp2_with fail
        refine (x_remove hD3 nNext (by decide)).mono ?_
        rintro e w4 ⟨rfl, hD4, hc4⟩
        have hg4 : LogAt w4 g d age n := Blk.chg hg3 hc4 (fun hs => hs hPg)
        have hcw4 := hcw3.trans hc4 (fun i _ hs => .inl hs)
        go_wp2_with fail
        go_ret
        rw [Hsv.out, if_neg hr]
        refine ⟨rfl, ?_, hD4, hcw4⟩
        unfold newAge newLen
        rw [if_neg hr, if_neg hr]
        exact hg4

set_option maxRecDepth 100000 in
set_option maxHeartbeats 2000000 in
theorem ssave_bad (hg : LogAt w g d age n) (h0 : 0 ≤ age) (h1 : age < 4611686018427387000) {ad : Option Addr} {st : List Rec} (hrows : RowsB w ad st) (c : Nat) (hsl : st.length ≤ 1000) (hbad : ∃ b, b ∈ st ∧ ¬ okR b) :
    Calls Try.prog 14 #[.pointer (some ⟨g, 0, none⟩), .slice ad st.length c] w fun e w' => e = .returned (.int .i64 1) ∧ Chg (fun _ => False) w w' := by
  have hgl := nb_small (v := age + 1) (by omega) (by omega)
  have c1 : w.cell? ⟨g, 1, none⟩ = some (.int .i64 age) := Blk.cell hg 1
  go_enter Try.func14, Try.ntmps14
  go_wp2_with fail
  refine (gen_any w (age + 1) (by omega) (by omega)).mono ?_
  obtain ⟨N, hN⟩ : ∃ N, nb (age + 1) = N := ⟨_, rfl⟩
  have HN := Lib.hid hN
  rw [hN] at hgl ⊢
  rw [show frm N = flat (N :: st.take 0) from (flat_one N).symm]
  clear hN
  rintro e w1 ⟨ao, off, cap, rb, rfl, hR, hc1, hr1, hr2⟩
  obtain ⟨X0, hX0⟩ : ∃ X, flat (N :: st.take 0) = X := ⟨_, rfl⟩
  have HX0 := Lib.hid hX0
  rw [hX0] at hR ⊢
  clear hX0
  go_wp2_with fail
  go_loopw [5, 21] (fun v5 v21 wr => ∃ (k : Nat) (X : List UInt8) (ao : Option Addr) (off cap rb : Nat), v21 = .int .i64 k ∧ k ≤ st.length ∧ RowKit.Hid (flat (N :: st.take k) = X) ∧ v5 = .slice ao X.length cap ∧ RowB wr ao off cap rb X ∧ w.heap.size ≤ rb ∧ rb < wr.heap.size ∧ Chg (fun _ => False) w wr ∧ ∀ (i : Nat) (b : Rec), i < k → st[i]? = some b → okR b) (fun _ v21 _ => 2000000 - (RowKit.intOf v21).toNat)
  case atStart => exact ⟨0, X0, ao, off, cap, rb, rfl, Nat.zero_le _, HX0, rfl, hR, hr1, hr2, hc1, fun i b hi => absurd hi (Nat.not_lt_zero i)⟩
  case round =>
    clear hR hr1 hr2 hc1 HX0
    obtain ⟨k, X, ao, off, cap, rb, rfl, hk, HX, rfl, hR, hr1, hr2, hcr, hpre⟩ := hrel
    by_cases hkl : k < st.length
    · obtain ⟨b, hb⟩ : ∃ b, st[k]? = some b := ⟨_, List.getElem?_eq_getElem hkl⟩
      obtain ⟨hbm, a, aob, cb, rfl, _, k0, hbb⟩ := (hrows.chg hcr (fun _ _ => id)) k b hb
      have hpfx : ∀ x ∈ st.take k, okR x := fun x hx => by
        obtain ⟨i, hi, rfl⟩ := List.getElem_of_mem hx
        rw [List.length_take] at hi
        exact hpre i _ (by omega) (by rw [List.getElem_take]; exact List.getElem?_eq_getElem (by omega))
      by_cases hbo : okR b
      case neg =>
        have hbn : List.length b < 1 ∨ 1000 < List.length b := by unfold okR at hbo; omega
        go_wp2_with fail
        refine (put_bad aob _ cb hbn hbm).mono ?_
        rintro e w2 ⟨rfl, rfl⟩
        go_wp2_with fail
        go_ret
        exact ⟨rfl, hcr⟩
      have hpre2 : ∀ (i : Nat) (b : Rec), i < k + 1 → st[i]? = some b → okR b := fun i x hi hx => by
        by_cases hik : i = k
        · subst hik
          rw [hb] at hx
          cases hx
          exact hbo
        · exact hpre i x (by omega) hx
      have hXm : X.length ≤ 1100000 := by
        have h1 := flat_take_le (N :: st.take k) (fun x hx => by
          rcases List.mem_cons.1 hx with rfl | hx
          · exact hgl
          · exact hpfx x hx)
        rw [HX.out, List.length_cons, List.length_take] at h1
        omega
      have hX2 : flat (N :: st.take (k + 1)) = X ++ frm b := by
        have := (flat_split (rows := N :: st) (k := k + 1) (x := b) hb).2.2
        rw [show (N :: st).take (k + 1 + 1) = N :: st.take (k + 1) from rfl, show (N :: st).take (k + 1) = N :: st.take k from rfl, HX.out] at this
        exact this
      have HX2 := Lib.hid hX2
      clear hX2 hb
      go_wp2_with fail
      refine (put_any hbb cb hbo).mono ?_
      have hfl := frm_len b
      have hb2 := hbo.2
      obtain ⟨fb, hfb⟩ : ∃ fb, frm b = fb := ⟨_, rfl⟩
      have Hfb := Lib.hid hfb
      rw [hfb] at hfl HX2 ⊢
      clear hfb
      rintro e w2 ⟨ao2, off2, cap2, rb2, rfl, hR2, hc2, hr21, hr22⟩
      have hcw2 := hcr.trans hc2 (fun _ _ h => h)
      have hRX := hR.keep hc2.size (fun h0 => hc2.block rb (hR.came.lt h0) id)
      have hz2 := hc2.size
      have hzr := hcr.size
      have hfm : fb.length ≤ 1006 := by omega
      have HS := Lib.hid (src_row hR2)
      have HRX := Lib.hid hRX
      clear hfl hR2 hRX hR k0
      go_wp2_with (at_builtin; go_loud (refine wpList_append_row rfl _ _ rfl (by exact HRX.out) rfl _ fb rfl (by exact HS.out) (by omega) ?_))
      intro ao3 off3 cap3 rb3 w3 hR3 hc3 hrb3
      have hcw3 : Chg (fun _ => False) w w3 := ((hcw2.mono (fun _ _ h => h.elim) : Chg (fun i => i = rb ∧ 0 < cap) w w2).trans hc3 (fun _ _ h => h)).mono (T := fun _ => False) (fun i hi hs => by omega)
      have hz3 := hc3.size
      go_wp2_with fail
      go_roundw
      case rel => exact ⟨k + 1, X ++ fb, ao3, off3, cap3, rb3, by go_num, by omega, HX2, by rw [List.length_append], hR3, by omega, by omega, hcw3, hpre2⟩
      case measure => simp [RowKit.intOf]; omega
    · have hke : k = st.length := by omega
      subst hke
      exfalso
      obtain ⟨b, hbm, hbn⟩ := hbad
      obtain ⟨i, hi, rfl⟩ := List.getElem_of_mem hbm
      exact hbn (hpre i _ hi (List.getElem?_eq_getElem hi))
end
end Go.Proofs.Ytpbjompopgdbjaa
