/-
  bytes: of a constant, as a string; strings put together.
-/
import Derived.Test.YtpbjompopgdbjaaZRowX
import Derived.Lib.SlBytesConst
import Derived.Laws.OwnMore
import Derived.Laws.IdiomStrings
import Derived.Laws.Concat
namespace Go.Proofs.Ytpbjompopgdbjaa
open Go.RowKit Go.Maps

/-- The bytes of a constant. -/
theorem rowB_const (w : World) (bs : List UInt8) (hl : bs.length ≤ 1000000) (C : Array Value) (fr : Nat × Nat) (hC : C = (bcells bs).toArray) : RowB (w.alloc (.cells C 5 fr)) (some ⟨w.heap.size, 0, none⟩) 0 bs.length w.heap.size bs := by
  subst hC
  exact ⟨⟨Nat.le_refl _, fun _ => rfl, fun _ => by simp, by rw [bcells_len]; simp, fun j u hj => by rw [Nat.zero_add, World.cell?_alloc_mark]; simpa using hj, fun j hj => by simp at hj⟩, by unfold maxLen; omega⟩
theorem conv_str {w : World} {ao : Option Addr} {off cap rb : Nat} {bs : List UInt8} (h : RowB w ao off cap rb bs) : (convert 31 9 (.slice ao bs.length cap)).run Try.prog w = .ok (.string ⟨bs.toArray⟩) w := by
  rcases Nat.eq_zero_or_pos cap with h0 | h0
  · have hb := h.bare h0
    subst hb
    show (convert 31 9 (.slice ao 0 cap)).run Try.prog w = _
    rw [run_convert_bytes_string w 31 9 5 _ 0 cap Try.underlying31 Try.underlying5 Try.underlying9]
    cases ao <;> simp [Conv.bytesToString, loadCells]
    all_goals rfl
  · rw [h.came.addr h0]
    refine run_convert_bytes_back w _ _ 5 _ cap bs Try.underlying31 Try.underlying5 Try.underlying9 (fun j hj => ?_)
    rw [addr_at]
    refine h.came.olds j _ ?_
    unfold bcells
    rw [List.getElem?_map, List.getElem?_eq_getElem hj]
    rfl

theorem BytIn.conv {w : World} {ad : Option Addr} {l : List UInt8} (h : BytIn w ad l) (k : Nat) (hk : k ≤ l.length) (c : Nat) {w' : World} (hc : ∀ i, i < w.heap.size → w'.heap[i]? = w.heap[i]?) :
    (convert 31 9 (.slice ad k c)).run Try.prog w' = .ok (.string ⟨(l.take k).toArray⟩) w' := by
  have hlen : (l.take k).length = k := by rw [List.length_take]; omega
  cases ad with
  | none =>
    have : l = [] := by
      cases l with
      | nil => rfl
      | cons b l =>
        obtain ⟨a', h1, _⟩ := h 0 b rfl
        cases h1
    subst this
    have hk0 : k = 0 := by simpa using hk
    subst hk0
    rw [run_convert_bytes_string w' 31 9 5 _ 0 c Try.underlying31 Try.underlying5 Try.underlying9]
    simp [Conv.bytesToString]
    rfl
  | some a =>
    have := run_convert_bytes_back (P := Try.prog) w' 31 9 5 a c (l.take k) Try.underlying31 Try.underlying5 Try.underlying9 (fun j hj => by
      have hjk : j < k := by omega
      have hb : l[j]? = some (l.take k)[j] := by
        rw [← List.getElem?_take_of_lt hjk, List.getElem?_eq_getElem hj]
      obtain ⟨a', h1, h2, h3⟩ := h j _ hb
      cases h1
      have hblk : (a.add j).block = a.block := by unfold Addr.add; split <;> rfl
      rw [World.cell?_of_block (hc _ (by rw [hblk]; exact h2))]
      exact h3)
    rw [hlen] at this
    exact this

theorem add_str (w : World) (a b : List UInt8) (h : a.length + b.length ≤ 1000000) : (Op.stringOp .add ⟨a.toArray⟩ ⟨b.toArray⟩).run Try.prog w = .ok (.string ⟨(a ++ b).toArray⟩) w := by
  have ha : (⟨a.toArray⟩ : ByteArray).size = a.length := by show a.toArray.size = _; simp
  have hb : (⟨b.toArray⟩ : ByteArray).size = b.length := by show b.toArray.size = _; simp
  rw [run_string_add_sum w _ _ (by rw [ha, hb]; omega)]
  have e : (⟨a.toArray⟩ : ByteArray) ++ ⟨b.toArray⟩ = ⟨(a ++ b).toArray⟩ := by
    apply ByteArray.ext
    simp
  rw [e]

end Go.Proofs.Ytpbjompopgdbjaa
