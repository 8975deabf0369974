/-
  DiskPlays: what holds ahead of each step, and what a step makes of it.
-/
import Derived.Test.YtgcmagoecapgoaaRDskJ
import Derived.Test.YtgcmagoecapgoaaRDskI
namespace Go.Proofs.Ytgcmagoecapgoaa
open Go.RowKit Go.Maps Go.Sort

theorem DiskX.touch2 {P : Nat → Prop} {w w' : World} {d : Nat} {D : Dsk} (h : DiskX P w d D) (hc : Chg P w w') {Q : Nat → Prop} (hQ : ∀ i, Q i → P i ∨ (w.heap.size ≤ i ∧ i < w'.heap.size)) : DiskX Q w' d D := by
  obtain ⟨S, ⟨md, pl, hD⟩, hP⟩ := h
  refine ⟨fun i => S i ∧ i < w.heap.size, ⟨md, pl, hD.inside.chg hc (fun i hs hp => (hP i hp).1 hs.1)⟩, fun i hi => ?_⟩
  have hz := hc.size
  rcases hQ i hi with h1 | h1
  · exact ⟨fun h2 => (hP i h1).1 h2.1, by have := (hP i h1).2; omega⟩
  · exact ⟨fun h2 => by omega, h1.2⟩
theorem RD.block {w : World} {base X : Nat} {v : Value} {D : Dsk} (h : RD w base X v D) {k : Nat} (hk : v.ownBlock = some k) : base ≤ k ∧ k < w.heap.size ∧ k ≠ X := by
  obtain ⟨l, h1, _⟩ := h
  exact h1.block hk
theorem RD.xlt {w : World} {base X : Nat} {v : Value} {D : Dsk} (h : RD w base X v D) : X < w.heap.size := by
  obtain ⟨l, h1, _⟩ := h
  exact h1.blk.lt
theorem rd_new (w : World) (base : Nat) (r : Int) : RD (w.alloc (.cells #[.int .i64 r, .slice none 0 0] 44)) base w.heap.size (.slice none 0 0) (Dsk.new r) :=
  ⟨[], ⟨Blk.new w _ _, by simp [fcells], .inl ⟨rfl, rfl⟩⟩, IsRows.new r⟩

theorem ks_append (D : Dsk) (n : Nam) (b : List UInt8) : (D.append n b).2.ks.length ≤ D.ks.length + 1 := by
  unfold Dsk.append
  split
  · exact Nat.le_succ _
  · split
    · exact Nat.le_succ _
    · exact dput_ks_le _ _ _
theorem ks_sync (D : Dsk) (n : Nam) : (D.sync n).2.ks.length ≤ D.ks.length + 1 := by
  unfold Dsk.sync
  split
  · exact Nat.le_succ _
  · exact dput_ks_le _ _ _
theorem ks_cut (D : Dsk) (n : Nam) (k : Int) : (D.cut n k).2.ks.length ≤ D.ks.length + 1 := by
  unfold Dsk.cut
  split
  · exact Nat.le_succ _
  · split
    · exact Nat.le_succ _
    · exact dput_ks_le _ _ _
theorem ks_del (D : Dsk) (n : Nam) : (D.del n).ks.length ≤ D.ks.length := List.length_erase_le
theorem ks_rename (D : Dsk) (a b : Nam) : (D.rename a b).2.ks.length ≤ D.ks.length + 1 := by
  unfold Dsk.rename
  split
  · exact Nat.le_succ _
  · split
    · exact Nat.le_succ _
    · have h1 := ks_del D a
      exact Nat.le_trans (dput_ks_le _ _ _) (by omega)
theorem ks_remove (D : Dsk) (n : Nam) : (D.remove n).2.ks.length ≤ D.ks.length + 1 := by
  unfold Dsk.remove
  split
  · exact Nat.le_succ _
  · have := ks_del D n
    show (D.del n).ks.length ≤ _
    omega

/-- What holds ahead of each step. -/
def PlayI (w : World) (X k : Nat) (v5 : Value) (wr : World) : Prop := ∃ (d : Nat) (D : Dsk) (v : Value) (Pk : Nat → Prop), v5 = .pointer (some ⟨d, 0, none⟩) ∧ DiskX Pk wr d D ∧ RD wr w.heap.size X v D ∧ Pk X ∧ (∀ q, v.ownBlock = some q → Pk q) ∧ (∀ q, q < w.heap.size → Pk q) ∧ D.ks.length ≤ k ∧ w.heap.size ≤ wr.heap.size ∧ Chg (fun q => ¬ q < w.heap.size) w wr

theorem play_step {w w2 w3 w4 : World} {X k d : Nat} {D' : Dsk} {v : Value} {P2 : Nat → Prop} (hPX : P2 X) (hPv : ∀ q, v.ownBlock = some q → P2 q) (hPw : ∀ q, q < w.heap.size → P2 q) (hXw : ¬ X < w.heap.size) (hvw : ∀ q, v.ownBlock = some q → ¬ q < w.heap.size)
    (hc2 : Chg (fun q => ¬ q < w.heap.size) w w2) (hc3 : Chg (fun i => ¬ P2 i) w2 w3) (hD3 : DiskX P2 w3 d D') (hP : RDPost w3 w4 w.heap.size X v D') (hks : D'.ks.length ≤ k) : PlayI w X k (.pointer (some ⟨d, 0, none⟩)) w4 := by
  obtain ⟨v', hR', hc4, ho'⟩ := hP
  have hcw := (hc2.trans hc3 (fun q hq hn hw => hn (hPw q hw))).trans hc4 (fun q hq h hw => by
    rcases h with rfl | h
    · exact hXw hw
    · exact hvw q h hw)
  refine ⟨d, D', v', fun q => P2 q ∨ (w3.heap.size ≤ q ∧ q < w4.heap.size), rfl, hD3.touch2 (hc4.mono (fun i hi h => ?_)) (fun _ h => h), hR', .inl hPX, fun q hq => ?_, fun q hq => .inl (hPw q hq), hks, hcw.size, hcw⟩
  · rcases h with rfl | h
    · exact hPX
    · exact hPv i h
  · rcases ho' q hq with h | h
    · exact .inl (hPv q h)
    · exact .inr ⟨h, (hR'.block hq).2.1⟩
theorem PlayI.keep {w : World} {X k : Nat} {v5 : Value} {wr w' : World} (h : PlayI w X k v5 wr) (hc : Chg (fun _ => False) wr w') : PlayI w X k v5 w' := by
  obtain ⟨d, D, v, Pk, h1, h2, h3, h4, h5, h6, h7, h8, h9⟩ := h
  exact ⟨d, D, v, Pk, h1, h2.keep hc, h3.keep hc, h4, h5, h6, h7, Nat.le_trans h8 hc.size, h9.trans hc (fun _ _ h => h.elim)⟩
end Go.Proofs.Ytgcmagoecapgoaa
