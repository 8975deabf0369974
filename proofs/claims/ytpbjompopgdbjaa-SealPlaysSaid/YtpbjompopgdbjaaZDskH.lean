/-
  disk: Crash by its contract.
-/
import Derived.Test.YtpbjompopgdbjaaDskG
namespace Go.Proofs.Ytpbjompopgdbjaa
open Go.RowKit Go.Maps

/-- Some names' files are as behind a crash. -/
def Dsk.part (D : Dsk) (keep : Int) (l : List Nam) : Dsk := ⟨D.room, D.ks, fun n => if n ∈ l then (D.fl n).map (crashF keep) else D.fl n⟩
theorem part_nil (D : Dsk) (keep : Int) : D.part keep [] = D := by
  unfold Dsk.part
  simp
theorem part_all {D : Dsk} (hG : D.Good) (keep : Int) : D.part keep D.names = D.crash keep := by
  unfold Dsk.part Dsk.crash
  congr 1
  funext n
  by_cases h : n ∈ D.names
  · rw [if_pos h]
  · rw [if_neg h]
    have : D.fl n = none := by
      cases hf : D.fl n with
      | none => rfl
      | some f => exact absurd ((names_perm D).mem_iff.2 ((hG.mem n).2 (some_isSome hf))) h
    rw [this]
    rfl
theorem part_step {D : Dsk} (keep : Int) {k : Nat} {n : Nam} (hx : D.names[k]? = some n) {f : Fil} (hf : D.fl n = some f) : (D.part keep (D.names.take k)).put n (crashF keep f) = D.part keep (D.names.take (k + 1)) := by
  have hi : ((D.part keep (D.names.take k)).fl n).isSome = true := by
    unfold Dsk.part
    simp only [hf]
    split <;> rfl
  unfold Dsk.put
  rw [hi]
  unfold Dsk.part
  simp only [if_true]
  congr 1
  funext m
  rw [List.take_add_one, hx]
  by_cases e : m = n
  · subst e
    rw [upd_same, if_pos (by simp), hf]
    rfl
  · rw [upd_other _ _ _ _ e]
    simp [e]
theorem part_fl {D : Dsk} (hG : D.Good) (keep : Int) {k : Nat} {n : Nam} (hx : D.names[k]? = some n) : (D.part keep (D.names.take k)).fl n = D.fl n := by
  unfold Dsk.part
  simp only
  rw [if_neg]
  intro hm
  have hnd : D.names.Nodup := (names_perm D).nodup_iff.2 hG.nod
  obtain ⟨i, hi, he⟩ := List.mem_take_iff_getElem.1 hm
  have hk := (List.getElem?_eq_some_iff.1 hx).1
  have := (List.getElem?_inj (i := i) (j := k) (by omega) hnd).1 (by rw [hx, List.getElem?_eq_getElem (by omega), he])
  omega

/-- A file behind 'f.b, f.synced = f.b[:n:n], n'. -/
theorem fil_cut {S : Nat → Prop} {w : World} {d md : Nat} {pl : Nam → Nat × Nat} {D : Dsk} (h : DiskAt S w d md pl D) {n : Nam} {f : Fil} (hf : D.fl n = some f) {ao : Option Addr} {off cp : Nat}
    (hB : Blk w (pl n).1 84 #[.slice ao f.bs.length cp, .int .i64 f.sy]) (hR : RowB w ao off cp (pl n).2 f.bs) (hne : 0 < cp → (pl n).2 ≠ (pl n).1) (k : Nat) (hk : k ≤ f.bs.length) :
    DiskAt S ((w.setCell ⟨(pl n).1, 0, none⟩ (.slice ao k k)).setCell ⟨(pl n).1, 1, none⟩ (.int .i64 k)) d md (upd pl n ((pl n).1, (pl n).2)) (D.put n ⟨f.bs.take k, k⟩) ∧
      Chg S w ((w.setCell ⟨(pl n).1, 0, none⟩ (.slice ao k k)).setCell ⟨(pl n).1, 1, none⟩ (.int .i64 k)) := by
  have hG := h.good
  have hs := some_isSome hf
  have hle := hR.came.le
  have hl : (f.bs.take k).length = k := by rw [List.length_take]; omega
  have hfne := h.fne hs
  have hc : Chg (fun i => i = (pl n).1) w ((w.setCell ⟨(pl n).1, 0, none⟩ (.slice ao k k)).setCell ⟨(pl n).1, 1, none⟩ (.int .i64 k)) := ((Chg.refl (fun i => i = (pl n).1) w).setCell (.inl rfl) _).setCell (.inl rfl) _
  have hF : FilAt ((w.setCell ⟨(pl n).1, 0, none⟩ (.slice ao k k)).setCell ⟨(pl n).1, 1, none⟩ (.int .i64 k)) (pl n).1 (pl n).2 ⟨f.bs.take k, k⟩ := by
    refine ⟨ao, off, k, ?_, (rowB_take hR k hk).keep hc.size (fun h0 => hc.block _ (hR.came.lt (by omega)) (hne (by omega))), fun h0 => hne (by omega)⟩
    show Blk _ _ _ #[.slice ao (f.bs.take k).length k, .int .i64 k]
    rw [hl]
    exact (hB.set 0 _).set 1 _
  have hu := Dsk.used_put hG n ⟨f.bs.take k, k⟩
  rw [hf] at hu
  have hu : (D.put n ⟨f.bs.take k, k⟩).used + f.bs.length = D.used + (f.bs.take k).length := hu
  have hfit := hG.fit
  have hG' : (D.put n ⟨f.bs.take k, k⟩).Good := hG.put (hG.nam n hs) (by show k ≤ (f.bs.take k).length; omega) (by omega)
  exact ⟨h.turn hf hc (fun i hi => .inl hi) (fun e => hfne.1 e.symm) (fun e => hfne.2.1 e.symm) hF (.inl rfl) hG', hc.mono (fun i _ e => e ▸ (h.sf n hs).1)⟩

set_option maxRecDepth 100000 in
set_option maxHeartbeats 1000000 in
theorem dsk_crash0 {S : Nat → Prop} {w : World} {d md : Nat} {pl : Nam → Nat × Nat} {D : Dsk} (h : DiskAt S w d md pl D) (hmx : D.ks.length ≤ 1000000) (keep : Int) (hkp : -9223372036854775808 ≤ keep ∧ keep ≤ 9223372036854775807) (hSl : ∀ i, S i → i < w.heap.size) :
    Calls Try.prog 16 #[.pointer (some ⟨d, 0, none⟩), .int .i64 keep] w fun e w' => e = .returned (.tuple #[]) ∧ DiskW S w' d (D.crash keep) ∧ Chg S w w' := by
  have hG := h.good
  have hfit := hG.fit
  have hrm := hG.rm
  have hnl := names_len D
  go_enter Try.func16, Try.ntmps16
  go_wp2_with fail
  refine (dsk_names h hmx).mono ?_
  rintro e w3 ⟨ad, cap, rfl, hN, hfr, hc3⟩
  have hz3 := hc3.size
  have h3 := h.chg hc3 (fun _ _ => id)
  go_wp2_with fail
  go_loopw [11] (fun v9 wr => ∃ k : Nat, v9 = .int .i64 k ∧ k ≤ D.names.length ∧ (∃ md pl, DiskAt S wr d md pl (D.part keep (D.names.take k))) ∧ Chg S w3 wr) (fun v9 _ => 2000000 - (RowKit.intOf v9).toNat)
  case atStart => exact ⟨0, rfl, Nat.zero_le _, ⟨md, pl, by rw [List.take_zero, part_nil]; exact h3⟩, Chg.refl _ _⟩
  case round =>
    clear h h3 md pl
    obtain ⟨k, rfl, hk, ⟨md, pl, hr⟩, hck⟩ := hrel
    by_cases hkl2 : k < D.names.length
    · obtain ⟨n, hx⟩ : ∃ p, D.names[k]? = some p := ⟨_, List.getElem?_eq_getElem hkl2⟩
      have hmem : n ∈ D.ks := (names_perm D).mem_iff.1 (List.mem_of_getElem? hx)
      have hsm := (hG.mem n).1 hmem
      have hnm := (hG.nam n hsm).2
      obtain ⟨f, hf⟩ := Option.isSome_iff_exists.1 hsm
      have hfk : (D.part keep (D.names.take k)).fl n = some f := (part_fl hG keep hx).trans hf
      have hst := part_step keep hx hf
      have hsl := stay_le hG keep hf
      have hlen := Dsk.len_le hG n
      rw [hf] at hlen
      have hlen : f.bs.length ≤ D.used := hlen
      obtain ⟨G, rfl, k0⟩ := hN k _ hx
      have hGz : G < w3.heap.size := World.block_lt_of_cell? _ _ k0
      have hGw := (hfr _ rfl).1
      have k0 : wr.cell? ⟨G, k, none⟩ = some (encStr n) := (World.cell?_of_block (a := ⟨G, k, none⟩) (hck.block G hGz (fun hs => by have := hSl _ hs; simp at hGw; omega))).trans k0
      have hlk := hr.look (w1 := wr) rfl n (by unfold maxLen; omega) (some ⟨(pl n).1, 0, none⟩) (by rw [hfk]; rfl)
      have c0 : wr.cell? ⟨d, 0, none⟩ = some (.map (some md)) := by rw [hr.blk.cell]; rfl
      obtain ⟨ao, off, cp, hB, hR, hne⟩ := hr.fil n f hfk
      have hle := hR.came.le
      have cells : ∀ w9 : World, w9.heap[(pl n).1]? = wr.heap[(pl n).1]? → w9.cell? ⟨(pl n).1, 0, none⟩ = some (.slice ao f.bs.length cp) ∧ w9.cell? ⟨(pl n).1, 1, none⟩ = some (.int .i64 f.sy) := by
        intro w9 h9
        refine ⟨?_, ?_⟩ <;> rw [(hB.keep h9).cell] <;> rfl
      have hch := Lib.hid cells
      obtain ⟨c1, c2⟩ := cells wr rfl
      clear cells
      go_wp2_with fail
      refine wp_region_plan (by kernel_rfl) [{ fl := [0, 1, 2, 3, 4, 6, 7, 8, 9, 10, 11, 12, 13, 14, 15], long := [3, 9, 10, 14], ef := 5, keep := [3, 9, 10, 14] }, { fl := [], ef := 16, keep := [3] }] [17, 18] (by kernel_rfl) (fun _ w9 => w9.heap[(pl n).1]? = wr.heap[(pl n).1]?) ?_
      simp only [wpPlan, longOK, keepOK, opsAt_cons, opsAt_nil, consO_some, List.getElem?_toArray, List.getElem?_cons_succ, List.getElem?_cons_zero, and_true, true_and]
      refine ⟨⟨rfl, rfl, rfl, rfl⟩, ?_⟩
      go_wp2_with fail
      refine ⟨by kernel_rfl, ⟨?_, ?_, ?_, ?_⟩, ?_⟩
      · intro _ w9 h9
        obtain ⟨b0, b1⟩ := hch.out w9 h9
        clear h9
        go_simp
      · intro _ w9 h9
        obtain ⟨b0, b1⟩ := hch.out w9 h9
        clear h9
        go_simp
      · intro _ w9 h9
        clear h9
        go_simp
      · intro _ w9 h9
        obtain ⟨b0, b1⟩ := hch.out w9 h9
        clear h9
        go_simp
      go_wp2_with fail
      refine ⟨⟨rfl, rfl, rfl, rfl⟩, ?_⟩
      go_wp2_with fail
      refine ⟨by kernel_rfl, ?_⟩
      go_wp2_with fail
      refine ⟨rfl, ?_⟩
      go_wp2_with fail
      refine ⟨by kernel_rfl, ?_⟩
      have hE : (f.sy : Int) + min (max keep 0) ((f.bs.length : Int) - (f.sy : Int)) = ((stay keep f : Nat) : Int) := by
        have := hr.good.syn n f hfk
        unfold stay
        omega
      rw [hE]
      have hcf : crashF keep f = ⟨f.bs.take (stay keep f), stay keep f⟩ := rfl
      rw [hcf] at hst
      generalize stay keep f = q at *
      have f0 : wr.frozen? ⟨(pl n).1, 0, none⟩ = false := hB.frozen 0
      have f1 : wr.frozen? ⟨(pl n).1, 1, none⟩ = false := hB.frozen 1
      obtain ⟨hD, hcF⟩ := fil_cut hr hfk hB hR hne q hsl.2
      rw [hst] at hD
      have hD := hD.chg ((Chg.refl (fun _ => False) _).drew) (fun _ _ => id)
      have hcF := hcF.drew
      clear hE hcf k0 hlk c0 hst
      go_wp2_with fail
      go_roundw
      case rel => exact ⟨k + 1, by go_num, by omega, ⟨md, _, hD⟩, hck.trans hcF (fun _ _ h => h)⟩
      case measure => simp [RowKit.intOf]; omega
    · have hke : k = D.names.length := by omega
      subst hke
      rw [List.take_length, part_all hG] at hr
      go_wp2_with fail
      go_end0
      exact ⟨rfl, ⟨md, pl, hr⟩, (hc3.mono (fun _ _ h => h.elim)).trans hck (fun _ _ h => h)⟩

theorem DiskAt.wider {S T : Nat → Prop} {w : World} {d md : Nat} {pl : Nam → Nat × Nat} {D : Dsk} (h : DiskAt S w d md pl D) (hs : ∀ i, S i → T i) : DiskAt T w d md pl D :=
  ⟨h.blk, h.map, h.fil, h.good, hs _ h.sd, hs _ h.sm, fun n hn => ⟨hs _ (h.sf n hn).1, hs _ (h.sf n hn).2⟩, h.ap, h.lo⟩
theorem DiskAt.inside {S : Nat → Prop} {w : World} {d md : Nat} {pl : Nam → Nat × Nat} {D : Dsk} (h : DiskAt S w d md pl D) : DiskAt (fun i => S i ∧ i < w.heap.size) w d md pl D :=
  ⟨h.blk, h.map, h.fil, h.good, ⟨h.sd, h.blk.lt⟩, ⟨h.sm, h.map.lt⟩, fun n hn => ⟨⟨(h.sf n hn).1, (h.fne hn).2.2⟩, ⟨(h.sf n hn).2, (h.lo n hn).2.2⟩⟩, h.ap, h.lo⟩
theorem dsk_crash {S : Nat → Prop} {w : World} {d md : Nat} {pl : Nam → Nat × Nat} {D : Dsk} (h : DiskAt S w d md pl D) (hmx : D.ks.length ≤ 1000000) (keep : Int) (hkp : -9223372036854775808 ≤ keep ∧ keep ≤ 9223372036854775807) :
    Calls Try.prog 16 #[.pointer (some ⟨d, 0, none⟩), .int .i64 keep] w fun e w' => e = .returned (.tuple #[]) ∧ DiskW S w' d (D.crash keep) ∧ Chg S w w' := by
  refine (dsk_crash0 h.inside hmx keep hkp (fun i hi => hi.2)).mono ?_
  rintro e w' ⟨rfl, ⟨md, pl, hD⟩, hc⟩
  exact ⟨rfl, ⟨md, pl, hD.wider (fun i hi => hi.1)⟩, hc.mono (fun i _ hi => hi.1)⟩
end Go.Proofs.Ytpbjompopgdbjaa

namespace Go.Proofs.Ytpbjompopgdbjaa
open Go.RowKit Go.Maps

/-- A disk whose blocks are none of P's. -/
def DiskX (P : Nat → Prop) (w : World) (d : Nat) (D : Dsk) : Prop := ∃ S, DiskW S w d D ∧ ∀ i, P i → ¬ S i ∧ i < w.heap.size

section
variable {P : Nat → Prop} {w w' : World} {d : Nat} {D : Dsk}
theorem DiskX.good (h : DiskX P w d D) : D.Good := by
  obtain ⟨S, ⟨md, pl, hD⟩, _⟩ := h
  exact hD.good
theorem DiskX.lt (h : DiskX P w d D) : ∀ i, P i → i < w.heap.size := by
  obtain ⟨S, _, hP⟩ := h
  exact fun i hi => (hP i hi).2
theorem DiskX.more (h : DiskX P w d D) (hc : Chg (fun _ => False) w w') {Q : Nat → Prop} (hQ : ∀ i, Q i → P i ∨ (w.heap.size ≤ i ∧ i < w'.heap.size)) : DiskX Q w' d D := by
  obtain ⟨S, ⟨md, pl, hD⟩, hP⟩ := h
  refine ⟨fun i => S i ∧ i < w.heap.size, ⟨md, pl, hD.inside.chg hc (fun _ _ => id)⟩, fun i hi => ?_⟩
  have hz := hc.size
  rcases hQ i hi with h1 | h1
  · exact ⟨fun h2 => (hP i h1).1 h2.1, by have := (hP i h1).2; omega⟩
  · exact ⟨fun h2 => by omega, h1.2⟩
theorem DiskX.keep (h : DiskX P w d D) (hc : Chg (fun _ => False) w w') : DiskX P w' d D := h.more hc (fun _ h => .inl h)
/-- A step of the disk: what the contracts say, for S that all new blocks satisfy. -/
theorem DiskX.step (h : DiskX P w d D) : ∃ S md pl, DiskAt S w d md pl D ∧ (∀ i, w.heap.size ≤ i → S i) ∧ (∀ i, P i → ¬ S i) := by
  obtain ⟨S, ⟨md, pl, hD⟩, hP⟩ := h
  refine ⟨fun i => (S i ∧ i < w.heap.size) ∨ w.heap.size ≤ i, md, pl, hD.inside.wider (fun i hi => .inl hi), fun i hi => .inr hi, fun i hi hs => ?_⟩
  have := hP i hi
  rcases hs with h1 | h1
  · exact this.1 h1.1
  · omega
theorem DiskX.ofStep {S : Nat → Prop} (hP : ∀ i, P i → ¬ S i) (hlt : ∀ i, P i → i < w.heap.size) (hc : Chg S w w') {D' : Dsk} (h : DiskW S w' d D') : DiskX P w' d D' ∧ Chg (fun i => ¬ P i) w w' :=
  ⟨⟨S, h, fun i hi => ⟨hP i hi, Nat.lt_of_lt_of_le (hlt i hi) hc.size⟩⟩, hc.mono (fun i _ hs hp => hP i hp hs)⟩
end

section
variable {P : Nat → Prop} {w : World} {d : Nat} {D : Dsk} (h : DiskX P w d D)
include h
theorem x_append (hmx : D.ks.length ≤ 1000000) (n : Nam) (a : Option Addr) (b : List UInt8) (c : Nat) (hsrc : ∀ w', Chg (fun i => ¬ P i) w w' → Src Try.prog 1 31 (.slice a b.length c) b.length (bcells b) w') :
    Calls Try.prog 19 #[.pointer (some ⟨d, 0, none⟩), encStr n, .slice a b.length c] w fun e w' => e = .returned (.int .i64 (D.append n b).1) ∧ DiskX P w' d (D.append n b).2 ∧ Chg (fun i => ¬ P i) w w' := by
  obtain ⟨S, md, pl, hD, hS, hP⟩ := h.step
  refine (dsk_append hD hS hmx n a b c (fun w' hc => hsrc w' (hc.mono (fun i _ hs hp => hP i hp hs)))).mono ?_
  rintro e w' ⟨rfl, hD', hc⟩
  exact ⟨rfl, DiskX.ofStep hP h.lt hc hD'⟩
theorem x_sync (n : Nam) (hn : n.length ≤ maxLen) :
    Calls Try.prog 20 #[.pointer (some ⟨d, 0, none⟩), encStr n] w fun e w' => e = .returned (.int .i64 (D.sync n).1) ∧ DiskX P w' d (D.sync n).2 ∧ Chg (fun i => ¬ P i) w w' := by
  obtain ⟨S, md, pl, hD, hS, hP⟩ := h.step
  refine (dsk_sync hD n hn).mono ?_
  rintro e w' ⟨rfl, hD', hc⟩
  exact ⟨rfl, DiskX.ofStep hP h.lt hc hD'⟩
theorem x_cut (n : Nam) (hn : n.length ≤ maxLen) (k : Int) :
    Calls Try.prog 33 #[.pointer (some ⟨d, 0, none⟩), encStr n, .int .i64 k] w fun e w' => e = .returned (.int .i64 (D.cut n k).1) ∧ DiskX P w' d (D.cut n k).2 ∧ Chg (fun i => ¬ P i) w w' := by
  obtain ⟨S, md, pl, hD, hS, hP⟩ := h.step
  refine (dsk_cut hD n hn k).mono ?_
  rintro e w' ⟨rfl, hD', hc⟩
  exact ⟨rfl, DiskX.ofStep hP h.lt hc hD'⟩
theorem x_rename (a b : Nam) (hn : a.length ≤ maxLen) (hn2 : b.length ≤ maxLen) :
    Calls Try.prog 36 #[.pointer (some ⟨d, 0, none⟩), encStr a, encStr b] w fun e w' => e = .returned (.int .i64 (D.rename a b).1) ∧ DiskX P w' d (D.rename a b).2 ∧ Chg (fun i => ¬ P i) w w' := by
  obtain ⟨S, md, pl, hD, hS, hP⟩ := h.step
  refine (dsk_rename hD a b hn hn2).mono ?_
  rintro e w' ⟨rfl, hD', hc⟩
  exact ⟨rfl, DiskX.ofStep hP h.lt hc hD'⟩
theorem x_remove (n : Nam) (hn : n.length ≤ maxLen) :
    Calls Try.prog 31 #[.pointer (some ⟨d, 0, none⟩), encStr n] w fun e w' => e = .returned (.int .i64 (D.remove n).1) ∧ DiskX P w' d (D.remove n).2 ∧ Chg (fun i => ¬ P i) w w' := by
  obtain ⟨S, md, pl, hD, hS, hP⟩ := h.step
  refine (dsk_remove hD n hn).mono ?_
  rintro e w' ⟨rfl, hD', hc⟩
  exact ⟨rfl, DiskX.ofStep hP h.lt hc hD'⟩
theorem x_crash (hmx : D.ks.length ≤ 1000000) (keep : Int) (hkp : -9223372036854775808 ≤ keep ∧ keep ≤ 9223372036854775807) :
    Calls Try.prog 16 #[.pointer (some ⟨d, 0, none⟩), .int .i64 keep] w fun e w' => e = .returned (.tuple #[]) ∧ DiskX P w' d (D.crash keep) ∧ Chg (fun i => ¬ P i) w w' := by
  obtain ⟨S, md, pl, hD, hS, hP⟩ := h.step
  refine (dsk_crash hD hmx keep hkp).mono ?_
  rintro e w' ⟨rfl, hD', hc⟩
  exact ⟨rfl, DiskX.ofStep hP h.lt hc hD'⟩
theorem x_used (hmx : D.ks.length ≤ 1000000) :
    Calls Try.prog 21 #[.pointer (some ⟨d, 0, none⟩)] w fun e w' => e = .returned (.int .i64 D.used) ∧ DiskX P w' d D ∧ Chg (fun _ => False) w w' := by
  obtain ⟨S, ⟨md, pl, hD⟩, hP⟩ := id h
  refine (dsk_used hD hmx).mono ?_
  rintro e w' ⟨rfl, hc⟩
  exact ⟨rfl, h.keep hc, hc⟩
theorem x_names (hmx : D.ks.length ≤ 1000000) :
    Calls Try.prog 37 #[.pointer (some ⟨d, 0, none⟩)] w fun e w' => ∃ ad cap, e = .returned (.slice ad D.ks.length cap) ∧
      NamIn w' ad D.names ∧ (∀ a, ad = some a → w.heap.size ≤ a.block ∧ a.block < w'.heap.size) ∧ DiskX P w' d D ∧ Chg (fun _ => False) w w' := by
  obtain ⟨S, ⟨md, pl, hD⟩, hP⟩ := id h
  refine (dsk_names hD hmx).mono ?_
  rintro e w' ⟨ad, cap, rfl, hN, hfr, hc⟩
  exact ⟨ad, cap, rfl, hN, hfr, h.keep hc, hc⟩
theorem x_synced (n : Nam) (hn : n.length ≤ maxLen) :
    Calls Try.prog 29 #[.pointer (some ⟨d, 0, none⟩), encStr n] w fun e w' => e = .returned (.int .i64 (syF (D.fl n))) ∧ w' = w := by
  obtain ⟨S, ⟨md, pl, hD⟩, hP⟩ := h
  exact dsk_synced hD n hn
theorem x_read_none (n : Nam) (hn : n.length ≤ maxLen) (hf : D.fl n = none) :
    Calls Try.prog 18 #[.pointer (some ⟨d, 0, none⟩), encStr n] w fun e w' => e = .returned (.tuple #[.slice none 0 0, .int .i64 5]) ∧ w' = w := by
  obtain ⟨S, ⟨md, pl, hD⟩, hP⟩ := h
  exact dsk_read_none hD n hn hf
theorem x_read (n : Nam) {f : Fil} (hf : D.fl n = some f) :
    Calls Try.prog 18 #[.pointer (some ⟨d, 0, none⟩), encStr n] w fun e w' => ∃ ao off cap rb, e = .returned (.tuple #[.slice ao f.bs.length cap, .int .i64 0]) ∧ RowB w' ao off cap rb f.bs ∧
      (cap = 0 ∨ (w.heap.size ≤ rb ∧ rb < w'.heap.size)) ∧ DiskX P w' d D ∧ Chg (fun _ => False) w w' := by
  obtain ⟨S, ⟨md, pl, hD⟩, hP⟩ := id h
  refine (dsk_read hD n hf).mono ?_
  rintro e w' ⟨ao, off, cap, rb, rfl, hR, hc, hrb⟩
  exact ⟨ao, off, cap, rb, rfl, hR, hrb, h.keep hc, hc⟩
end

theorem x_new (w : World) (r : Int) (hr : 0 ≤ r ∧ r ≤ 1000000) :
    Calls Try.prog 8 #[.int .i64 r] w fun e w' => ∃ d, e = .returned (.tuple #[.pointer (some ⟨d, 0, none⟩), .int .i64 0]) ∧ DiskX (fun i => i < w.heap.size) w' d (Dsk.new r) ∧ Chg (fun _ => False) w w' := by
  refine (dsk_new w r hr (fun i => w.heap.size ≤ i) (fun _ h => h)).mono ?_
  rintro e w' ⟨d, rfl, hW, hc, _⟩
  exact ⟨d, rfl, ⟨_, hW, fun i hi => ⟨fun h => by omega, by have := hc.size; omega⟩⟩, hc⟩

theorem rowB_blk {w : World} {g : Nat} {bs : List UInt8} (h : Blk w g 5 (bcells bs).toArray) (hl : bs.length ≤ 1000000) : RowB w (some ⟨g, 0, none⟩) 0 bs.length g bs :=
  ⟨⟨Nat.le_refl _, fun _ => rfl, fun _ => h.lt, by rw [bcells_len]; simp, fun j u hj => by rw [Nat.zero_add, h.cell]; simpa using hj, fun j hj => by simp at hj⟩, by unfold maxLen; omega⟩
theorem rowB_src {P : Nat → Prop} {w : World} {ao : Option Addr} {off cap rb : Nat} {bs : List UInt8} (h : RowB w ao off cap rb bs) (hP : 0 < cap → P rb) : ∀ w', Chg (fun i => ¬ P i) w w' → Src Try.prog 1 31 (.slice ao bs.length cap) bs.length (bcells bs) w' :=
  fun _ hc => src_row (h.keep hc.size (fun h0 => hc.block rb (h.came.lt h0) (fun h1 => h1 (hP h0))))
end Go.Proofs.Ytpbjompopgdbjaa
