/-
  pack: a writer beside blocks that it leaves alone.
-/
import Derived.Test.YtihfcfpkffebiaaPackB
namespace Go.Proofs.Ytihfcfpkffebiaa
open Go.RowKit

/-- A writer of blocks from B on, none of them of P. -/
def Wr (w : World) (g B : Nat) (P : Nat → Prop) (xs : List UInt8) : Prop := ∃ lv, WrAt w g B lv xs ∧ B ≤ g ∧ ¬ P g ∧ ∀ k, lv.ownBlock = some k → ¬ P k

theorem Wr.new {w : World} {P : Nat → Prop} (hP : ∀ i, P i → i < w.heap.size) : Wr (w.alloc (.cells #[.slice none 0 0] 69)) w.heap.size w.heap.size P [] :=
  ⟨.slice none 0 0, ⟨Blk.new w _ _, ⟨rfl, .inl ⟨rfl, rfl⟩⟩⟩, Nat.le_refl _, fun h => Nat.lt_irrefl _ (hP _ h), fun k hk => by simp [Value.ownBlock] at hk⟩
theorem Wr.chg {w w' : World} {g B : Nat} {P S : Nat → Prop} {xs : List UInt8} (h : Wr w g B P xs) (hc : Chg S w w') (hs : ∀ i, S i → P i ∨ i < B) : Wr w' g B P xs := by
  obtain ⟨lv, h1, h2, h3, h4⟩ := h
  refine ⟨lv, h1.chg hc (fun hS => ?_) (fun k hk hS => ?_), h2, h3, h4⟩
  · rcases hs _ hS with h | h
    · exact h3 h
    · omega
  · rcases hs _ hS with h | h
    · exact h4 k hk h
    · have := (h1.own.lt k hk).1; omega
theorem Wr.keep {w w' : World} {g B : Nat} {P : Nat → Prop} {xs : List UInt8} (h : Wr w g B P xs) (hc : Chg (fun _ => False) w w') : Wr w' g B P xs := h.chg hc (fun _ h => h.elim)
theorem Wr.mono {w : World} {g B : Nat} {P Q : Nat → Prop} {xs : List UInt8} (h : Wr w g B P xs) (hpq : ∀ i, Q i → P i ∨ w.heap.size ≤ i) : Wr w g B Q xs := by
  obtain ⟨lv, h1, h2, h3, h4⟩ := h
  refine ⟨lv, h1, h2, fun hQ => ?_, fun k hk hQ => ?_⟩
  · rcases hpq _ hQ with h | h
    · exact h3 h
    · have := h1.blk.lt; omega
  · rcases hpq _ hQ with h | h
    · exact h4 k hk h
    · have := (h1.own.lt k hk).2; omega
theorem Wr.lt {w : World} {g B : Nat} {P : Nat → Prop} {xs : List UInt8} (h : Wr w g B P xs) : g < w.heap.size := by
  obtain ⟨lv, h1, _⟩ := h
  exact h1.blk.lt
/-- The blocks that the writer has. -/
theorem Wr.int {w : World} {g B : Nat} {P : Nat → Prop} {xs : List UInt8} (h : Wr w g B P xs) (hP : ∀ i, P i → i < w.heap.size) (hB : B ≤ w.heap.size) (v : Int) (h0 : 0 ≤ v) (h1 : v ≤ 4611686018427387904) (hlen : xs.length ≤ 1000000000) :
    Calls Try.prog 33 #[.pointer (some ⟨g, 0, none⟩), .int .i64 v] w fun e w' => e = .returned (.tuple #[]) ∧ Wr w' g B P (xs ++ nb v) ∧ Chg (fun i => B ≤ i ∧ ¬ P i) w w' := by
  obtain ⟨lv, hW, h2, h3, h4⟩ := h
  refine (wrInt_any hW v h0 h1 hB hlen).mono ?_
  rintro e w' ⟨rfl, lv', hW', hc, hl⟩
  refine ⟨rfl, ⟨lv', hW', h2, h3, fun k hk hPk => ?_⟩, hc.mono (fun i hi hS => ?_)⟩
  · rcases hl with e | ⟨k', e, hk'⟩
    · exact h4 k (by rw [← e]; exact hk) hPk
    · rw [e] at hk; injection hk with hk; subst hk
      have := hP _ hPk; omega
  · rcases hS with rfl | e
    · exact ⟨h2, h3⟩
    · exact ⟨(hW.own.lt i e).1, h4 i e⟩
theorem Wr.bytes {w : World} {g B : Nat} {P : Nat → Prop} {xs : List UInt8} (h : Wr w g B P xs) (hne : xs ≠ []) (hlen : xs.length ≤ 1000000000) :
    Calls Try.prog 34 #[.pointer (some ⟨g, 0, none⟩)] w fun e w' => ∃ v, e = .returned v ∧ w'.ownsRow w.heap.size 5 1 v xs.length (xs.map encB) ∧ Chg (fun _ => False) w w' := by
  obtain ⟨lv, hW, _⟩ := h
  exact wrBytes_any hW hne hlen
theorem nb_ne (v : Int) : nb v ≠ [] := by
  unfold nb
  by_cases h : zig v < 128
  · rw [vb_lo h]; simp
  · rw [vb_hi (by omega)]; simp
theorem flat_len {f : Int → List UInt8} {c : Nat} : ∀ (l : List Int), (∀ b ∈ l, (f b).length ≤ c) → (l.flatMap f).length ≤ l.length * c
  | [], _ => by simp
  | b :: l, h => by
    rw [List.flatMap_cons, List.length_append, List.length_cons, Nat.succ_mul]
    have h1 := h b (List.mem_cons_self ..)
    have h2 := flat_len l (fun x hx => h x (List.mem_cons_of_mem _ hx))
    omega
theorem flat_take {f : Int → List UInt8} {l : List Int} {k : Nat} {b : Int} (h : l[k]? = some b) : (l.take (k + 1)).flatMap f = (l.take k).flatMap f ++ f b := by
  rw [List.take_add_one, h, Option.toList_some, List.flatMap_append]
  simp
end Go.Proofs.Ytihfcfpkffebiaa
