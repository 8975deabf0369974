/-
  the log beside blocks that change: what is protected may change, and grow.
-/
import Derived.Test.YtpbjompopgdbjaaSealF
import Derived.Test.YtpbjompopgdbjaaSealU
namespace Go.Proofs.Ytpbjompopgdbjaa
open Go.RowKit Go.Maps

theorem DiskX.touch {P : Nat → Prop} {w w' : World} {d : Nat} {D : Dsk} (h : DiskX P w d D) (hc : Chg P w w') {Q : Nat → Prop} (hQ : ∀ i, Q i → P i ∨ (w.heap.size ≤ i ∧ i < w'.heap.size)) : DiskX Q w' d D := by
  obtain ⟨S, ⟨md, pl, hD⟩, hP⟩ := h
  refine ⟨fun i => S i ∧ i < w.heap.size, ⟨md, pl, hD.inside.chg hc (fun i hs hp => (hP i hp).1 hs.1)⟩, fun i hi => ?_⟩
  have hz := hc.size
  rcases hQ i hi with h1 | h1
  · exact ⟨fun h2 => (hP i h1).1 h2.1, by have := (hP i h1).2; omega⟩
  · exact ⟨fun h2 => by omega, h1.2⟩
section
variable {P : Nat → Prop} {w w' : World} {g d sy : Nat} {room age : Int} {st recs : List Rec}
theorem SealW.pg (h : SealW P w g d room age st recs sy) : P g := by
  obtain ⟨D, h1, h2, h3, h4, h5⟩ := h
  exact h2
theorem SealW.touch (h : SealW P w g d room age st recs sy) (hc : Chg (fun i => P i ∧ i ≠ g) w w') {Q : Nat → Prop} (hQ : ∀ i, Q i → P i ∨ (w.heap.size ≤ i ∧ i < w'.heap.size)) (hg : Q g) : SealW Q w' g d room age st recs sy := by
  obtain ⟨D, h1, h2, h3, h4, h5⟩ := h
  exact ⟨D, h1.touch (hc.mono (fun i _ h => h.1)) hQ, hg, Blk.chg h3 hc (fun h => h.2 rfl), h4, h5⟩
end
theorem TxtO.block {w : World} {base : Nat} {v : Value} {l : List Rec} (h : TxtO w base v l) {i : Nat} (hi : v.ownBlock = some i) : base ≤ i ∧ i < w.heap.size := by
  rcases h.2 with ⟨rfl, _⟩ | ⟨g, cap, cur, rfl, hb, hh, _⟩
  · simp [Value.ownBlock] at hi
  · simp [Value.ownBlock] at hi
    subst hi
    exact ⟨hb, (Array.getElem?_eq_some_iff.1 hh).1⟩
theorem TxtO.slice {w : World} {base : Nat} {v : Value} {l : List Rec} (h : TxtO w base v l) : ∃ ao cp, v = .slice ao l.length cp := by
  rcases h.2 with ⟨h1, h0⟩ | ⟨g, cap, _, h1, _⟩
  · exact ⟨none, 0, by rw [h1, h0]⟩
  · exact ⟨_, _, h1⟩
/-- Append to texts: the new block is the old one, or the next. -/
theorem wpList_append_txt2 {w : World} {ops : Array Oper} {rest : List Oper} {o : Oper} {a : Act} {Q : Exit → Act → World → Prop} (hgd : o.guard = none) (s x : Operand)
    (ho : o.op = .call { callee := .builtin .append, args := #[s, x], argTypes := #[30, 30] })
    {base : Nat} {v : Value} {l : List Rec} (h : TxtO w base v l) (hv : a.eval s = v) {b : Rec} {g : Nat} (hx : a.eval x = .slice (some ⟨g, 0, none⟩) 1 1) (hcell : w.cell? ⟨g, 0, none⟩ = some (encStr b)) (hbase : base ≤ w.heap.size) (hl : l.length ≤ 1000000)
    (hK : ∀ v' w', TxtO w' base v' (l ++ [b]) → Chg (fun i => v.ownBlock = some i) w w' → (∃ ad cap, v' = .slice (some ad) (l.length + 1) cap) → (v'.ownBlock = v.ownBlock ∨ v'.ownBlock = some w.heap.size) → wpList Try.prog ops Q rest (a.put o.dst v') w') : wpList Try.prog ops Q (o :: rest) a w := by
  obtain ⟨i, hi, hz, h1, h2⟩ := infoT_parts
  refine wpList_append_own_at _ hgd s x 30 ho base 9 i _ 1 16 Try.underlying30 hi hz h1 h2 rfl (by decide) v l.length (l.map encStr) hv h ⟨g, 0, none⟩ 1 1 [encStr b] hx rfl ?_ ?_ (by unfold maxLen; omega) (by omega) hbase ?_
  · intro j y hj
    match j, hj with
    | 0, hj =>
      simp at hj
      subst hj
      simpa [Addr.add] using hcell
    | j + 1, hj => simp at hj
  · intro y hy
    simp at hy
    subst hy
    rfl
  · intro v' w' hown' hgr _ hob
    refine hK v' w' ?_ (own_grown hgr) ?_ hob
    · unfold TxtO
      rw [List.length_append, List.map_append]
      exact hown'
    · rcases hown'.2 with ⟨_, h0⟩ | ⟨g, cap, _, rfl, _⟩
      · omega
      · exact ⟨_, cap, rfl⟩

end Go.Proofs.Ytpbjompopgdbjaa
