/-
  pack: a writer beside blocks that it leaves alone.
-/
import Derived.Test.YtpbjompopgdbjaaPackB
namespace Go.Proofs.Ytpbjompopgdbjaa
open Go.RowKit

/-- A writer of blocks from B on, none of them of P. -/
def Wr (w : World) (g B : Nat) (P : Nat → Prop) (xs : List UInt8) : Prop := ∃ lv, WrAt w g B lv xs ∧ B ≤ g ∧ ¬ P g ∧ ∀ k, lv.ownBlock = some k → ¬ P k

theorem Wr.new {w : World} {P : Nat → Prop} (hP : ∀ i, P i → i < w.heap.size) : Wr (w.alloc (.cells #[.slice none 0 0] 101)) w.heap.size w.heap.size P [] :=
  ⟨.slice none 0 0, ⟨Blk.new w _ _, ⟨rfl, .inl ⟨rfl, rfl⟩⟩⟩, Nat.le_refl _, fun h => Nat.lt_irrefl _ (hP _ h), fun k hk => by simp [Value.ownBlock] at hk⟩
theorem Wr.chg {w w' : World} {g B : Nat} {P S : Nat → Prop} {xs : List UInt8} (h : Wr w g B P xs) (hc : Chg S w w') (hs : ∀ i, S i → P i ∨ i < B) : Wr w' g B P xs := by
  obtain ⟨lv, h1, h2, h3, h4⟩ := h
  refine ⟨lv, h1.chg hc (fun hS => ?_) (fun k hk hS => ?_), h2, h3, h4⟩
  · rcases hs _ hS with h | h
    · exact h3 h
    · omega
  · rcases hs _ hS with h | h
    · exact h4 k hk h
    · have := (h1.own.lt k hk).1; omega
theorem Wr.keep {w w' : World} {g B : Nat} {P : Nat → Prop} {xs : List UInt8} (h : Wr w g B P xs) (hc : Chg (fun _ => False) w w') : Wr w' g B P xs := h.chg hc (fun _ h => h.elim)
theorem Wr.mono {w : World} {g B : Nat} {P Q : Nat → Prop} {xs : List UInt8} (h : Wr w g B P xs) (hpq : ∀ i, Q i → P i ∨ w.heap.size ≤ i) : Wr w g B Q xs := by
  obtain ⟨lv, h1, h2, h3, h4⟩ := h
  refine ⟨lv, h1, h2, fun hQ => ?_, fun k hk hQ => ?_⟩
  · rcases hpq _ hQ with h | h
    · exact h3 h
    · have := h1.blk.lt; omega
  · rcases hpq _ hQ with h | h
    · exact h4 k hk h
    · have := (h1.own.lt k hk).2; omega
theorem Wr.lt {w : World} {g B : Nat} {P : Nat → Prop} {xs : List UInt8} (h : Wr w g B P xs) : g < w.heap.size := by
  obtain ⟨lv, h1, _⟩ := h
  exact h1.blk.lt
/-- The blocks that the writer has. -/
theorem Wr.int {w : World} {g B : Nat} {P : Nat → Prop} {xs : List UInt8} (h : Wr w g B P xs) (hP : ∀ i, P i → i < w.heap.size) (hB : B ≤ w.heap.size) (v : Int) (h0 : 0 ≤ v) (h1 : v ≤ 4611686018427387904) (hlen : xs.length ≤ 1000000000) :
    Calls Try.prog 54 #[.pointer (some ⟨g, 0, none⟩), .int .i64 v] w fun e w' => e = .returned (.tuple #[]) ∧ Wr w' g B P (xs ++ nb v) ∧ Chg (fun i => B ≤ i ∧ ¬ P i) w w' := by
  obtain ⟨lv, hW, h2, h3, h4⟩ := h
  refine (wrInt_any hW v h0 h1 hB hlen).mono ?_
  rintro e w' ⟨rfl, lv', hW', hc, hl⟩
  refine ⟨rfl, ⟨lv', hW', h2, h3, fun k hk hPk => ?_⟩, hc.mono (fun i hi hS => ?_)⟩
  · rcases hl with e | ⟨k', e, hk'⟩
    · exact h4 k (by rw [← e]; exact hk) hPk
    · rw [e] at hk; injection hk with hk; subst hk
      have := hP _ hPk; omega
  · rcases hS with rfl | e
    · exact ⟨h2, h3⟩
    · exact ⟨(hW.own.lt i e).1, h4 i e⟩
theorem Wr.bytes {w : World} {g B : Nat} {P : Nat → Prop} {xs : List UInt8} (h : Wr w g B P xs) (hne : xs ≠ []) (hlen : xs.length ≤ 1000000000) :
    Calls Try.prog 55 #[.pointer (some ⟨g, 0, none⟩)] w fun e w' => ∃ v, e = .returned v ∧ w'.ownsRow w.heap.size 5 1 v xs.length (xs.map encB) ∧ Chg (fun _ => False) w w' := by
  obtain ⟨lv, hW, _⟩ := h
  exact wrBytes_any hW hne hlen
theorem nb_ne (v : Int) : nb v ≠ [] := by
  unfold nb
  by_cases h : zig v < 128
  · rw [vb_lo h]; simp
  · rw [vb_hi (by omega)]; simp
theorem flat_len {f : Int → List UInt8} {c : Nat} : ∀ (l : List Int), (∀ b ∈ l, (f b).length ≤ c) → (l.flatMap f).length ≤ l.length * c
  | [], _ => by simp
  | b :: l, h => by
    rw [List.flatMap_cons, List.length_append, List.length_cons, Nat.succ_mul]
    have h1 := h b (List.mem_cons_self ..)
    have h2 := flat_len l (fun x hx => h x (List.mem_cons_of_mem _ hx))
    omega
theorem flat_take {f : Int → List UInt8} {l : List Int} {k : Nat} {b : Int} (h : l[k]? = some b) : (l.take (k + 1)).flatMap f = (l.take k).flatMap f ++ f b := by
  rw [List.take_add_one, h, Option.toList_some, List.flatMap_append]
  simp
/-- 'append(b, x)' of one byte, by a list of bytes. -/
theorem wpList_append_byte {w : World} {ops : Array Oper} {rest : List Oper} {o : Oper} {a : Act} {Q : Exit → Act → World → Prop} (hgd : o.guard = none) (s x : Operand)
    (ho : o.op = .call { callee := .builtin .append, args := #[s, x], argTypes := #[31, 31] })
    (base : Nat) (v : Value) (ys : List UInt8) (b : UInt8) (g : Nat) (u : Value) (hs : a.eval s = v) (hown : w.ownsRow base 5 1 v ys.length (ys.map encB)) (hx : a.eval x = .slice (some ⟨g, 0, none⟩) 1 1) (hu : encB b = u)
    (hc : w.cell? ⟨g, 0, none⟩ = some u) (hlen : ys.length ≤ 1000000000) (hbase : base ≤ w.heap.size)
    (h : ∀ g5 cp5 w', w'.ownsRow base 5 1 (.slice (some ⟨g5, 0, none⟩) (ys.length + 1) cp5) (ys ++ [b]).length ((ys ++ [b]).map encB) → Chg (fun i => v.ownBlock = some i) w w' → (v.ownBlock = some g5 ∨ g5 = w.heap.size) →
      (convert 31 9 (.slice (some ⟨g5, 0, none⟩) (ys.length + 1) cp5)).run Try.prog w' = .ok (.string ⟨(ys ++ [b]).toArray⟩) w' →
      wpList Try.prog ops Q rest (a.put o.dst (.slice (some ⟨g5, 0, none⟩) (ys.length + 1) cp5)) w') :
    wpList Try.prog ops Q (o :: rest) a w := by
  obtain ⟨i0, hi, hz0, hz1, hz2⟩ := info_parts infoByte
  refine wpList_append_own_at _ hgd s x 31 ho base 5 i0 (.int .u8 0) 1 1 Try.underlying31 hi hz0 hz1 hz2 rfl (by decide) v ys.length (ys.map encB) hs hown ⟨g, 0, none⟩ 1 1 [u] hx rfl ?_ ?_ (by unfold maxLen; omega) (by omega) hbase ?_
  · intro j y hj
    match j, hj with
    | 0, hj =>
      simp at hj
      subst hj
      simpa [Addr.add] using hc
    | j + 1, hj => simp at hj
  · intro y hy
    simp at hy
    subst hy
    rw [← hu]; rfl
  · intro v' w' hown' hgr _ hloc
    have e1 : (ys ++ [b]).length = ys.length + 1 := by simp
    have hown6 : w'.ownsRow base 5 1 v' (ys ++ [b]).length ((ys ++ [b]).map encB) := by
      rw [e1, List.map_append]
      show World.ownsRow _ _ _ _ _ _ (_ ++ [encB b])
      rw [hu]
      exact hown'
    obtain ⟨g5, cp5, rfl, _, _, hcells⟩ := bytes_cells hown6 (by simp)
    have hcv := bytes_str (cap := cp5) hcells
    rw [e1] at hcv hloc
    rw [e1]
    refine h g5 cp5 w' ?_ (own_grown hgr) ?_ hcv
    · rw [e1] at hown6 ⊢
      exact hown6
    · rcases hloc with e | e
      · exact .inl (by rw [← e]; rfl)
      · simp [Value.ownBlock] at e
        exact .inr e

/-- Bytes as a string. -/
def bstr (xs : List UInt8) : ByteArray := ⟨xs.toArray⟩
end Go.Proofs.Ytpbjompopgdbjaa
