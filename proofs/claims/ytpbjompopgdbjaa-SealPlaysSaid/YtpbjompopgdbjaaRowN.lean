/-
  Rows of layer 5: a slice of strings that came in, opened.
-/
import Derived.Test.YtpbjompopgdbjaaZRowX
import Derived.SliceStrings
namespace Go.Proofs.Ytpbjompopgdbjaa
open Go.ChangeShapes Go.WideShapes Go.ChangeAt Go.RowKit Go.Deep

/-- Strings that came in. -/
def StrIn (w : World) (ad : Option Addr) (l : List (List UInt8)) : Prop := ∀ (j : Nat) (s : List UInt8), l[j]? = some s → s.length ≤ maxLen ∧ ∃ a', ad = some a' ∧ a'.block < w.heap.size ∧ w.cell? (a'.add j) = some (encStr s)

theorem StrIn.at {w wr : World} {ad : Option Addr} {l : List (List UInt8)} (h : StrIn w ad l) {S : Nat → Prop} (hc : Chg S w wr) (hS : ∀ i, i < w.heap.size → ¬ S i) {k : Nat} {n : List UInt8} (hk : l[k]? = some n) : List.length n ≤ maxLen ∧ ∃ a', ad = some a' ∧ wr.cell? (a'.add k) = some (encStr n) := by
  obtain ⟨h1, a', rfl, hlt, h2⟩ := h k n hk
  have hblk : (a'.add k).block = a'.block := by unfold Addr.add; split <;> rfl
  exact ⟨h1, a', rfl, (World.cell?_of_block (by rw [hblk]; exact hc.block _ hlt (hS _ hlt))).trans h2⟩


section
variable {H : Type} {enc : TypeId × Value → H} {w : World} {base : Nat} {spare : Nat → Bool} {held : Bool}

set_option maxRecDepth 100000 in
theorem open_strs {r : Reach} {b0 : Nat} {v : Value} {d : DataW H} {p : List MemPlace} (hv : Value.okWide Try.prog w r b0 30 v) (h : DataW.Trod enc Try.prog w base spare held 30 v d p) :
    ∃ ad l cap, v = .slice ad (List.length l) cap ∧ StrIn w ad l := by
  obtain ⟨a, n, c, rfl⟩ := okWide_slice Try.underlying30 hv
  obtain ⟨fuel, hf⟩ := h
  rcases open_strings Try.underlying30 Try.underlying9 (by kernel_rfl) hf with ⟨hcs, _⟩ | ⟨a', len, cap, ss, hcs, hb, hlc, hcm, hl, hx, hcell, hsz⟩
  · simp [Value.cells] at hcs
    obtain ⟨rfl, rfl, rfl⟩ := hcs
    exact ⟨none, [], 0, rfl, fun j s hj => by simp at hj⟩
  · simp [Value.cells] at hcs
    obtain ⟨rfl, rfl, rfl⟩ := hcs
    have hlm : n ≤ ss.length := by rw [hl]; split <;> omega
    refine ⟨some a', (ss.take n).map (fun s => s.data.toList), c, ?_, ?_⟩
    · rw [List.length_map, List.length_take, Nat.min_eq_left hlm]
    · intro j s hj
      rw [List.getElem?_map] at hj
      obtain ⟨b, hb2, rfl⟩ := Option.map_eq_some_iff.1 hj
      have hjn : j < n := by
        have := (List.getElem?_eq_some_iff.1 hb2).1
        rw [List.length_take] at this
        omega
      rw [List.getElem?_take_of_lt hjn] at hb2
      have hmem := List.mem_of_getElem? hb2
      have hc := hcell j (by omega)
      have hg : ss.getD j ByteArray.empty = b := by rw [List.getD, hb2]; rfl
      rw [hg] at hc
      refine ⟨by rw [Array.length_toList]; exact hsz b hmem, a', rfl, ?_, hc⟩
      have := World.block_lt_of_cell? _ _ hc
      have hblk : (a'.add j).block = a'.block := by unfold Addr.add; split <;> rfl
      rw [hblk] at this
      exact this
end
end Go.Proofs.Ytpbjompopgdbjaa
