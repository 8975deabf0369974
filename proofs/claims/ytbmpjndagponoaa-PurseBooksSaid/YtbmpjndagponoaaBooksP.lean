/-
  The purse as plain mathematics: what moves tell of each booking (for PurseBooks).
-/
import Derived.Test.YtbmpjndagponoaaPurseR
import Derived.Test.YtbmpjndagponoaaPurseD
namespace Go.Proofs.Ytbmpjndagponoaa

/-- What is noted while the moves are read: of each booking how many, what, who. -/
structure Tly where
  cnt : Int → Int
  amt : Int → Int
  who : Int → Int

def updI (g : Int → Int) (i v : Int) : Int → Int := fun j => if j = i then v else g j

def Tly.step (t : Tly) (m : Mv) : Tly :=
  if t.cnt m.bk = 0 then ⟨updI t.cnt m.bk (if m.to = m.fr then 9 else 1), updI t.amt m.bk m.am, updI t.who m.bk m.fr⟩
  else ⟨updI t.cnt m.bk (if m.to = t.who m.bk then 9 else t.cnt m.bk + 1), t.amt, t.who⟩

def tally (l : List Mv) : Tly := l.foldl Tly.step ⟨fun _ => 0, fun _ => 0, fun _ => 0⟩
theorem tally_snoc (l : List Mv) (m : Mv) : tally (l ++ [m]) = (tally l).step m := by unfold tally; rw [List.foldl_append]; rfl
theorem tally_take (l : List Mv) (k : Nat) (m : Mv) (h : l[k]? = some m) : (tally (l.take k)).step m = tally (l.take (k + 1)) := by
  rw [List.take_add_one, h, Option.toList_some, tally_snoc]

/-- May a move come next? -/
structure MvOK (t : Tly) (m : Mv) : Prop where
  bk : 1 ≤ m.bk ∧ m.bk ≤ 200
  am : 0 ≤ m.am ∧ m.am ≤ 1099511627776
  go : (t.cnt m.bk = 0 ∧ 0 ≤ m.fr ∧ m.fr ≤ 3 ∧ m.to = 4) ∨
    (t.cnt m.bk = 1 ∧ m.fr = 4 ∧ m.to = 5 ∧ m.am = t.amt m.bk ∧ 0 ≤ t.who m.bk ∧ t.who m.bk ≤ 3) ∨
    (t.cnt m.bk = 1 ∧ m.fr = 4 ∧ m.to = t.who m.bk ∧ m.am = t.amt m.bk ∧ 0 ≤ t.who m.bk ∧ t.who m.bk ≤ 3) ∨
    (t.cnt m.bk = 2 ∧ m.fr = 5 ∧ m.to = t.who m.bk ∧ m.am = t.amt m.bk ∧ 0 ≤ t.who m.bk ∧ t.who m.bk ≤ 3)

structure Bks (p : Pur) : Prop where
  n0 : ∀ b, (p.en b).st = 0 → (tally p.ln).cnt b = 0
  n3 : ∀ b, (p.en b).st = 3 → (tally p.ln).cnt b = 0 ∨ (tally p.ln).cnt b = 9
  n4 : ∀ b, (p.en b).st = 4 → (tally p.ln).cnt b = 1 ∧ (tally p.ln).amt b = (p.en b).am ∧ (tally p.ln).who b = (p.en b).cu
  n5 : ∀ b, (p.en b).st = 5 → (tally p.ln).cnt b = 2 ∧ (tally p.ln).amt b = (p.en b).am ∧ (tally p.ln).who b = (p.en b).cu
  ok : ∀ (j : Nat) m, p.ln[j]? = some m → MvOK (tally (p.ln.take j)) m

theorem Bks.stay {p : Pur} (h : Bks p) (b : Int) : Bks (p.stay b) := by
  have hl : (p.stay b).ln = p.ln := by unfold Pur.stay Pur.set; split <;> rfl
  refine ⟨?_, ?_, ?_, ?_, ?_⟩
  all_goals rw [hl]
  · intro i hi
    rw [Pur.stay_en] at hi
    split at hi
    · simp [Ent.gone] at hi
    · exact h.n0 i hi
  · intro i hi
    rw [Pur.stay_en] at hi
    split at hi
    · rename_i h1; rw [h1.1]; exact .inl (h.n0 b h1.2)
    · exact h.n3 i hi
  · intro i hi
    rw [Pur.stay_en] at hi ⊢
    split at hi
    · simp [Ent.gone] at hi
    · rename_i h1; rw [if_neg h1]; exact h.n4 i hi
  · intro i hi
    rw [Pur.stay_en] at hi ⊢
    split at hi
    · simp [Ent.gone] at hi
    · rename_i h1; rw [if_neg h1]; exact h.n5 i hi
  · exact h.ok

theorem Bks.move {p : Pur} (h : Bks p) {b fr to am : Int} {e : Ent} (hok : MvOK (tally p.ln) ⟨b, fr, to, am⟩)
    (he : (e.st = 3 ∧ ((tally p.ln).step ⟨b, fr, to, am⟩).cnt b = 9) ∨ (e.st = 4 ∧ ((tally p.ln).step ⟨b, fr, to, am⟩).cnt b = 1 ∧ ((tally p.ln).step ⟨b, fr, to, am⟩).amt b = e.am ∧ ((tally p.ln).step ⟨b, fr, to, am⟩).who b = e.cu) ∨
      (e.st = 5 ∧ ((tally p.ln).step ⟨b, fr, to, am⟩).cnt b = 2 ∧ ((tally p.ln).step ⟨b, fr, to, am⟩).amt b = e.am ∧ ((tally p.ln).step ⟨b, fr, to, am⟩).who b = e.cu)) :
    Bks (p.move b fr to am e) := by
  have hl : (p.move b fr to am e).ln = p.ln ++ [⟨b, fr, to, am⟩] := rfl
  have hen : ∀ i, (p.move b fr to am e).en i = if i = b then e else p.en i := fun _ => rfl
  have hoth : ∀ i, i ≠ b → ((tally p.ln).step ⟨b, fr, to, am⟩).cnt i = (tally p.ln).cnt i ∧ ((tally p.ln).step ⟨b, fr, to, am⟩).amt i = (tally p.ln).amt i ∧ ((tally p.ln).step ⟨b, fr, to, am⟩).who i = (tally p.ln).who i := by
    intro i hi
    unfold Tly.step
    split <;> simp [updI, hi]
  refine ⟨?_, ?_, ?_, ?_, ?_⟩
  · intro i hi
    rw [hl, tally_snoc]
    rw [hen] at hi
    by_cases hb : i = b
    · subst hb
      rw [if_pos rfl] at hi
      omega
    · rw [if_neg hb] at hi
      rw [(hoth i hb).1]; exact h.n0 i hi
  · intro i hi
    rw [hl, tally_snoc]
    rw [hen] at hi
    by_cases hb : i = b
    · subst hb
      rw [if_pos rfl] at hi
      omega
    · rw [if_neg hb] at hi
      rw [(hoth i hb).1]; exact h.n3 i hi
  · intro i hi
    rw [hl, tally_snoc]
    rw [hen] at hi ⊢
    by_cases hb : i = b
    · subst hb
      rw [if_pos rfl] at hi ⊢
      rcases he with he | he | he
      · omega
      · exact he.2
      · omega
    · rw [if_neg hb] at hi ⊢
      rw [(hoth i hb).1, (hoth i hb).2.1, (hoth i hb).2.2]; exact h.n4 i hi
  · intro i hi
    rw [hl, tally_snoc]
    rw [hen] at hi ⊢
    by_cases hb : i = b
    · subst hb
      rw [if_pos rfl] at hi ⊢
      rcases he with he | he | he
      · omega
      · omega
      · exact he.2
    · rw [if_neg hb] at hi ⊢
      rw [(hoth i hb).1, (hoth i hb).2.1, (hoth i hb).2.2]; exact h.n5 i hi
  · intro j m hj
    rw [hl] at hj ⊢
    by_cases hlt : j < p.ln.length
    · rw [List.getElem?_append_left hlt] at hj
      rw [List.take_append_of_le_length (by omega)]
      exact h.ok j m hj
    · rw [List.getElem?_append_right (by omega)] at hj
      have h0 : j - p.ln.length = 0 := by
        apply Decidable.byContradiction
        intro hn
        rw [List.getElem?_eq_none (by simp; omega)] at hj
        cases hj
      rw [h0] at hj
      simp at hj
      subst hj
      have : j = p.ln.length := by omega
      subst this
      simpa using hok

theorem Bks.act {T : Int} {p : Pur} (h : Bks p) (hG : p.Good T) (o : POp) : Bks (p.act o).2 := by
  unfold Pur.act
  split
  · exact h
  rename_i hm
  have hm : mayOp o = true := by cases e : mayOp o <;> simp_all
  have hb := mayOp_bk hm
  dsimp only
  split
  · rename_i h1
    have := mayOp_4 hm h1.1
    have h0 := h.n0 _ h1.2.1
    refine h.move ⟨hb, this.2, .inl ⟨h0, by dsimp only; omega, by dsimp only; omega, rfl⟩⟩ (.inr (.inl ⟨rfl, ?_⟩))
    unfold Tly.step
    rw [if_pos h0]
    simp [updI]
    omega
  split
  · exact h.stay _
  split
  · rename_i h1
    have ha := hG.amt o.bk (.inl h1.2)
    have h4 := h.n4 _ h1.2
    refine h.move ⟨hb, ⟨ha.1, ha.2.1⟩, .inr (.inl ⟨h4.1, rfl, rfl, h4.2.1.symm, by dsimp only; omega, by dsimp only; omega⟩)⟩ (.inr (.inr ⟨rfl, ?_⟩))
    unfold Tly.step
    rw [if_neg (by dsimp only; omega)]
    simp only [updI]
    refine ⟨?_, h4.2.1, h4.2.2⟩
    rw [if_pos trivial, if_neg (by omega)]
    omega
  split
  · exact h.stay _
  split
  · rename_i h1
    have ha := hG.amt o.bk (.inl h1.2)
    have h4 := h.n4 _ h1.2
    refine h.move ⟨hb, ⟨ha.1, ha.2.1⟩, .inr (.inr (.inl ⟨h4.1, rfl, h4.2.2.symm, h4.2.1.symm, by dsimp only; omega, by dsimp only; omega⟩))⟩ (.inl ⟨rfl, ?_⟩)
    unfold Tly.step
    rw [if_neg (by dsimp only; omega)]
    simp only [updI]
    rw [if_pos trivial, if_pos (by omega)]
  split
  · rename_i h1
    have ha := hG.amt o.bk (.inr h1.2)
    have h4 := h.n5 _ h1.2
    refine h.move ⟨hb, ⟨ha.1, ha.2.1⟩, .inr (.inr (.inr ⟨h4.1, rfl, h4.2.2.symm, h4.2.1.symm, by dsimp only; omega, by dsimp only; omega⟩))⟩ (.inl ⟨rfl, ?_⟩)
    unfold Tly.step
    rw [if_neg (by dsimp only; omega)]
    simp only [updI]
    rw [if_pos trivial, if_pos (by omega)]
  split
  · exact h.stay _
  · exact h

theorem runP_bks {T : Int} : ∀ {p : Pur} (l : List POp), p.Good T → Bks p → Bks (runP p l)
  | _, [], _, h => h
  | _, o :: l, hG, h => by rw [runP_cons]; exact runP_bks l (hG.act o) (h.act hG o)

theorem Bks.new (f : Int → Int) : Bks (Pur.new f) := by
  refine ⟨fun _ _ => rfl, ?_, ?_, ?_, ?_⟩
  · intro b hb; simp [Pur.new, Ent.none] at hb
  · intro b hb; simp [Pur.new, Ent.none] at hb
  · intro b hb; simp [Pur.new, Ent.none] at hb
  · intro j m hj; simp [Pur.new] at hj
end Go.Proofs.Ytbmpjndagponoaa
