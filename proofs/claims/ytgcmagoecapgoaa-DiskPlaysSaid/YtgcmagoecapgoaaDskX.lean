/-
  disk: what the laws use: a disk beside protected blocks P.
-/
import Derived.Test.YtgcmagoecapgoaaDskH
namespace Go.Proofs.Ytgcmagoecapgoaa
open Go.RowKit Go.Maps

/-- A disk whose blocks are none of P's. -/
def DiskX (P : Nat → Prop) (w : World) (d : Nat) (D : Dsk) : Prop := ∃ S, DiskW S w d D ∧ ∀ i, P i → ¬ S i ∧ i < w.heap.size

section
variable {P : Nat → Prop} {w w' : World} {d : Nat} {D : Dsk}
theorem DiskX.good (h : DiskX P w d D) : D.Good := by
  obtain ⟨S, ⟨md, pl, hD⟩, _⟩ := h
  exact hD.good
theorem DiskX.lt (h : DiskX P w d D) : ∀ i, P i → i < w.heap.size := by
  obtain ⟨S, _, hP⟩ := h
  exact fun i hi => (hP i hi).2
theorem DiskX.more (h : DiskX P w d D) (hc : Chg (fun _ => False) w w') {Q : Nat → Prop} (hQ : ∀ i, Q i → P i ∨ (w.heap.size ≤ i ∧ i < w'.heap.size)) : DiskX Q w' d D := by
  obtain ⟨S, ⟨md, pl, hD⟩, hP⟩ := h
  refine ⟨fun i => S i ∧ i < w.heap.size, ⟨md, pl, hD.inside.chg hc (fun _ _ => id)⟩, fun i hi => ?_⟩
  have hz := hc.size
  rcases hQ i hi with h1 | h1
  · exact ⟨fun h2 => (hP i h1).1 h2.1, by have := (hP i h1).2; omega⟩
  · exact ⟨fun h2 => by omega, h1.2⟩
theorem DiskX.keep (h : DiskX P w d D) (hc : Chg (fun _ => False) w w') : DiskX P w' d D := h.more hc (fun _ h => .inl h)
/-- A step of the disk: what the contracts say, for S that all new blocks satisfy. -/
theorem DiskX.step (h : DiskX P w d D) : ∃ S md pl, DiskAt S w d md pl D ∧ (∀ i, w.heap.size ≤ i → S i) ∧ (∀ i, P i → ¬ S i) := by
  obtain ⟨S, ⟨md, pl, hD⟩, hP⟩ := h
  refine ⟨fun i => (S i ∧ i < w.heap.size) ∨ w.heap.size ≤ i, md, pl, hD.inside.wider (fun i hi => .inl hi), fun i hi => .inr hi, fun i hi hs => ?_⟩
  have := hP i hi
  rcases hs with h1 | h1
  · exact this.1 h1.1
  · omega
theorem DiskX.ofStep {S : Nat → Prop} (hP : ∀ i, P i → ¬ S i) (hlt : ∀ i, P i → i < w.heap.size) (hc : Chg S w w') {D' : Dsk} (h : DiskW S w' d D') : DiskX P w' d D' ∧ Chg (fun i => ¬ P i) w w' :=
  ⟨⟨S, h, fun i hi => ⟨hP i hi, Nat.lt_of_lt_of_le (hlt i hi) hc.size⟩⟩, hc.mono (fun i _ hs hp => hP i hp hs)⟩
end

section
variable {P : Nat → Prop} {w : World} {d : Nat} {D : Dsk} (h : DiskX P w d D)
include h
theorem x_append (hmx : D.ks.length ≤ 1000000) (n : Nam) (a : Option Addr) (b : List UInt8) (c : Nat) (hsrc : ∀ w', Chg (fun i => ¬ P i) w w' → Src Try.prog 1 22 (.slice a b.length c) b.length (bcells b) w') :
    Calls Try.prog 11 #[.pointer (some ⟨d, 0, none⟩), encStr n, .slice a b.length c] w fun e w' => e = .returned (.int .i64 (D.append n b).1) ∧ DiskX P w' d (D.append n b).2 ∧ Chg (fun i => ¬ P i) w w' := by
  obtain ⟨S, md, pl, hD, hS, hP⟩ := h.step
  refine (dsk_append hD hS hmx n a b c (fun w' hc => hsrc w' (hc.mono (fun i _ hs hp => hP i hp hs)))).mono ?_
  rintro e w' ⟨rfl, hD', hc⟩
  exact ⟨rfl, DiskX.ofStep hP h.lt hc hD'⟩
theorem x_sync (n : Nam) (hn : n.length ≤ maxLen) :
    Calls Try.prog 12 #[.pointer (some ⟨d, 0, none⟩), encStr n] w fun e w' => e = .returned (.int .i64 (D.sync n).1) ∧ DiskX P w' d (D.sync n).2 ∧ Chg (fun i => ¬ P i) w w' := by
  obtain ⟨S, md, pl, hD, hS, hP⟩ := h.step
  refine (dsk_sync hD n hn).mono ?_
  rintro e w' ⟨rfl, hD', hc⟩
  exact ⟨rfl, DiskX.ofStep hP h.lt hc hD'⟩
theorem x_cut (n : Nam) (hn : n.length ≤ maxLen) (k : Int) :
    Calls Try.prog 21 #[.pointer (some ⟨d, 0, none⟩), encStr n, .int .i64 k] w fun e w' => e = .returned (.int .i64 (D.cut n k).1) ∧ DiskX P w' d (D.cut n k).2 ∧ Chg (fun i => ¬ P i) w w' := by
  obtain ⟨S, md, pl, hD, hS, hP⟩ := h.step
  refine (dsk_cut hD n hn k).mono ?_
  rintro e w' ⟨rfl, hD', hc⟩
  exact ⟨rfl, DiskX.ofStep hP h.lt hc hD'⟩
theorem x_rename (a b : Nam) (hn : a.length ≤ maxLen) (hn2 : b.length ≤ maxLen) :
    Calls Try.prog 18 #[.pointer (some ⟨d, 0, none⟩), encStr a, encStr b] w fun e w' => e = .returned (.int .i64 (D.rename a b).1) ∧ DiskX P w' d (D.rename a b).2 ∧ Chg (fun i => ¬ P i) w w' := by
  obtain ⟨S, md, pl, hD, hS, hP⟩ := h.step
  refine (dsk_rename hD a b hn hn2).mono ?_
  rintro e w' ⟨rfl, hD', hc⟩
  exact ⟨rfl, DiskX.ofStep hP h.lt hc hD'⟩
theorem x_remove (n : Nam) (hn : n.length ≤ maxLen) :
    Calls Try.prog 24 #[.pointer (some ⟨d, 0, none⟩), encStr n] w fun e w' => e = .returned (.int .i64 (D.remove n).1) ∧ DiskX P w' d (D.remove n).2 ∧ Chg (fun i => ¬ P i) w w' := by
  obtain ⟨S, md, pl, hD, hS, hP⟩ := h.step
  refine (dsk_remove hD n hn).mono ?_
  rintro e w' ⟨rfl, hD', hc⟩
  exact ⟨rfl, DiskX.ofStep hP h.lt hc hD'⟩
theorem x_crash (hmx : D.ks.length ≤ 1000000) (keep : Int) (hkp : -9223372036854775808 ≤ keep ∧ keep ≤ 9223372036854775807) :
    Calls Try.prog 13 #[.pointer (some ⟨d, 0, none⟩), .int .i64 keep] w fun e w' => e = .returned (.tuple #[]) ∧ DiskX P w' d (D.crash keep) ∧ Chg (fun i => ¬ P i) w w' := by
  obtain ⟨S, md, pl, hD, hS, hP⟩ := h.step
  refine (dsk_crash hD hmx keep hkp).mono ?_
  rintro e w' ⟨rfl, hD', hc⟩
  exact ⟨rfl, DiskX.ofStep hP h.lt hc hD'⟩
theorem x_used (hmx : D.ks.length ≤ 1000000) :
    Calls Try.prog 16 #[.pointer (some ⟨d, 0, none⟩)] w fun e w' => e = .returned (.int .i64 D.used) ∧ DiskX P w' d D ∧ Chg (fun _ => False) w w' := by
  obtain ⟨S, ⟨md, pl, hD⟩, hP⟩ := id h
  refine (dsk_used hD hmx).mono ?_
  rintro e w' ⟨rfl, hc⟩
  exact ⟨rfl, h.keep hc, hc⟩
theorem x_names (hmx : D.ks.length ≤ 1000000) :
    Calls Try.prog 17 #[.pointer (some ⟨d, 0, none⟩)] w fun e w' => ∃ ad cap, e = .returned (.slice ad D.ks.length cap) ∧
      NamIn w' ad D.names ∧ (∀ a, ad = some a → w.heap.size ≤ a.block ∧ a.block < w'.heap.size) ∧ DiskX P w' d D ∧ Chg (fun _ => False) w w' := by
  obtain ⟨S, ⟨md, pl, hD⟩, hP⟩ := id h
  refine (dsk_names hD hmx).mono ?_
  rintro e w' ⟨ad, cap, rfl, hN, hfr, hc⟩
  exact ⟨ad, cap, rfl, hN, hfr, h.keep hc, hc⟩
theorem x_synced (n : Nam) (hn : n.length ≤ maxLen) :
    Calls Try.prog 15 #[.pointer (some ⟨d, 0, none⟩), encStr n] w fun e w' => e = .returned (.int .i64 (syF (D.fl n))) ∧ w' = w := by
  obtain ⟨S, ⟨md, pl, hD⟩, hP⟩ := h
  exact dsk_synced hD n hn
theorem x_read_none (n : Nam) (hn : n.length ≤ maxLen) (hf : D.fl n = none) :
    Calls Try.prog 14 #[.pointer (some ⟨d, 0, none⟩), encStr n] w fun e w' => e = .returned (.tuple #[.slice none 0 0, .int .i64 5]) ∧ w' = w := by
  obtain ⟨S, ⟨md, pl, hD⟩, hP⟩ := h
  exact dsk_read_none hD n hn hf
theorem x_read (n : Nam) {f : Fil} (hf : D.fl n = some f) :
    Calls Try.prog 14 #[.pointer (some ⟨d, 0, none⟩), encStr n] w fun e w' => ∃ ao off cap rb, e = .returned (.tuple #[.slice ao f.bs.length cap, .int .i64 0]) ∧ RowB w' ao off cap rb f.bs ∧
      (cap = 0 ∨ (w.heap.size ≤ rb ∧ rb < w'.heap.size)) ∧ DiskX P w' d D ∧ Chg (fun _ => False) w w' := by
  obtain ⟨S, ⟨md, pl, hD⟩, hP⟩ := id h
  refine (dsk_read hD n hf).mono ?_
  rintro e w' ⟨ao, off, cap, rb, rfl, hR, hc, hrb⟩
  exact ⟨ao, off, cap, rb, rfl, hR, hrb, h.keep hc, hc⟩
end

theorem x_new (w : World) (r : Int) (hr : 0 ≤ r ∧ r ≤ 1000000) :
    Calls Try.prog 9 #[.int .i64 r] w fun e w' => ∃ d, e = .returned (.tuple #[.pointer (some ⟨d, 0, none⟩), .int .i64 0]) ∧ DiskX (fun i => i < w.heap.size) w' d (Dsk.new r) ∧ Chg (fun _ => False) w w' := by
  refine (dsk_new w r hr (fun i => w.heap.size ≤ i) (fun _ h => h)).mono ?_
  rintro e w' ⟨d, rfl, hW, hc, _⟩
  exact ⟨d, rfl, ⟨_, hW, fun i hi => ⟨fun h => by omega, by have := hc.size; omega⟩⟩, hc⟩

theorem rowB_blk {w : World} {g : Nat} {bs : List UInt8} (h : Blk w g 5 (bcells bs).toArray) (hl : bs.length ≤ 1000000) : RowB w (some ⟨g, 0, none⟩) 0 bs.length g bs :=
  ⟨⟨Nat.le_refl _, fun _ => rfl, fun _ => h.lt, by rw [bcells_len]; simp, fun j u hj => by rw [Nat.zero_add, h.cell]; simpa using hj, fun j hj => by simp at hj⟩, by unfold maxLen; omega⟩
theorem rowB_src {P : Nat → Prop} {w : World} {ao : Option Addr} {off cap rb : Nat} {bs : List UInt8} (h : RowB w ao off cap rb bs) (hP : 0 < cap → P rb) : ∀ w', Chg (fun i => ¬ P i) w w' → Src Try.prog 1 22 (.slice ao bs.length cap) bs.length (bcells bs) w' :=
  fun _ hc => src_row (h.keep hc.size (fun h0 => hc.block rb (h.came.lt h0) (fun h1 => h1 (hP h0))))
end Go.Proofs.Ytgcmagoecapgoaa
