/-
  The purse as plain mathematics: many operations one behind the other; moves tell the accounts.
-/
import Derived.Test.YtddnpjlcmokbiaaPurseN
namespace Go.Proofs.Ytddnpjlcmokbiaa

/-- Many operations. -/
def runP (p : Pur) (l : List POp) : Pur := l.foldl (fun p o => (p.act o).2) p

theorem runP_nil (p : Pur) : runP p [] = p := rfl
theorem runP_cons (p : Pur) (o : POp) (l : List POp) : runP p (o :: l) = runP (p.act o).2 l := rfl
theorem runP_snoc (p : Pur) (l : List POp) (o : POp) : runP p (l ++ [o]) = ((runP p l).act o).2 := by unfold runP; rw [List.foldl_append]; rfl
theorem runP_take (p : Pur) (l : List POp) (k : Nat) (o : POp) (h : l[k]? = some o) : ((runP p (l.take k)).act o).2 = runP p (l.take (k + 1)) := by
  rw [List.take_add_one, h, Option.toList_some, runP_snoc]

theorem runP_good {T : Int} : ∀ {p : Pur} (l : List POp), p.Good T → (runP p l).Good T
  | _, [], h => h
  | _, o :: l, h => by rw [runP_cons]; exact runP_good l (h.act o)

theorem runP_len : ∀ (p : Pur) (l : List POp), (runP p l).ln.length ≤ p.ln.length + l.length
  | _, [] => Nat.le_refl _
  | p, o :: l => by
    rw [runP_cons]
    have h1 := runP_len (p.act o).2 l
    have h2 := p.act_len o
    simp only [List.length_cons]
    omega

/-- What moves make of accounts. -/
def bal (ac : Int → Int) (l : List Mv) : Int → Int := l.foldl (fun a m => mvd a m.fr m.to m.am) ac
theorem bal_snoc (ac : Int → Int) (l : List Mv) (m : Mv) : bal ac (l ++ [m]) = mvd (bal ac l) m.fr m.to m.am := by unfold bal; rw [List.foldl_append]; rfl

structure Mv.OK (m : Mv) : Prop where
  bk : 1 ≤ m.bk ∧ m.bk ≤ 200
  fr : 0 ≤ m.fr ∧ m.fr ≤ 5
  to : 0 ≤ m.to ∧ m.to ≤ 5
  ne : m.fr ≠ m.to
  am : 0 ≤ m.am ∧ m.am ≤ 1099511627776

/-- The moves tell the accounts. -/
structure Pur.Told (ac0 : Int → Int) (p : Pur) : Prop where
  eq : p.ac = bal ac0 p.ln
  ok : ∀ m ∈ p.ln, m.OK

theorem Pur.Told.move {ac0 : Int → Int} {p : Pur} (h : p.Told ac0) {b fr to am : Int} (e : Ent) (hm : Mv.OK ⟨b, fr, to, am⟩) : (p.move b fr to am e).Told ac0 := by
  refine ⟨?_, ?_⟩
  · show mvd p.ac fr to am = bal ac0 (p.ln ++ [⟨b, fr, to, am⟩])
    rw [bal_snoc, ← h.eq]
  · intro m hmem
    rcases List.mem_append.1 (show m ∈ p.ln ++ [⟨b, fr, to, am⟩] from hmem) with h1 | h1
    · exact h.ok m h1
    · rw [List.mem_singleton.1 h1]; exact hm

theorem Pur.Told.stay {ac0 : Int → Int} {p : Pur} (h : p.Told ac0) (b : Int) : (p.stay b).Told ac0 := by
  unfold Pur.stay Pur.set
  split
  · exact ⟨h.eq, h.ok⟩
  · exact h

theorem Pur.Told.act {ac0 : Int → Int} {T : Int} {p : Pur} (h : p.Told ac0) (hG : p.Good T) (o : POp) : (p.act o).2.Told ac0 := by
  unfold Pur.act
  split
  · exact h
  rename_i hm
  have hm : mayOp o = true := by cases e : mayOp o <;> simp_all
  have hb := mayOp_bk hm
  dsimp only
  split
  · rename_i h1
    have := mayOp_4 hm h1.1
    exact h.move _ ⟨hb, by simp only; omega, by simp only; omega, by simp only; omega, this.2⟩
  split
  · exact h.stay _
  split
  · rename_i h1
    have := hG.amt o.bk (.inl h1.2)
    exact h.move _ ⟨hb, by simp only; omega, by simp only; omega, by simp only; omega, ⟨this.1, this.2.1⟩⟩
  split
  · exact h.stay _
  split
  · rename_i h1
    have := hG.amt o.bk (.inl h1.2)
    exact h.move _ ⟨hb, by simp only; omega, by simp only; omega, by simp only; omega, ⟨this.1, this.2.1⟩⟩
  split
  · rename_i h1
    have := hG.amt o.bk (.inr h1.2)
    exact h.move _ ⟨hb, by simp only; omega, by simp only; omega, by simp only; omega, ⟨this.1, this.2.1⟩⟩
  split
  · exact h.stay _
  · exact h

theorem runP_told {ac0 : Int → Int} {T : Int} : ∀ {p : Pur} (l : List POp), p.Good T → p.Told ac0 → (runP p l).Told ac0
  | _, [], _, h => h
  | _, o :: l, hG, h => by rw [runP_cons]; exact runP_told l (hG.act o) (h.act hG o)

/-- Accounts on the way stay within bounds. -/
theorem bal_bound {ac : Int → Int} {K : Int} (hK : 0 ≤ K) (ha : ∀ i, -K ≤ ac i ∧ ac i ≤ K) : ∀ (l : List Mv), (∀ m ∈ l, m.OK) → ∀ i, -(K + 1099511627776 * l.length) ≤ bal ac l i ∧ bal ac l i ≤ K + 1099511627776 * l.length
  | [], _, i => by simpa [bal] using ha i
  | m :: l, hl, i => by
    have hm := hl m (List.mem_cons_self ..)
    have h1 : ∀ j, -(K + 1099511627776) ≤ mvd ac m.fr m.to m.am j ∧ mvd ac m.fr m.to m.am j ≤ K + 1099511627776 := by
      intro j
      have h1 := ha j; have h2 := ha m.to; have h3 := ha m.fr
      have := hm.am
      unfold mvd
      split
      · omega
      split
      · omega
      · omega
    have h2 := bal_bound (K := K + 1099511627776) (by omega) h1 l (fun m h => hl m (List.mem_cons_of_mem _ h)) i
    show _ ≤ bal (mvd ac m.fr m.to m.am) l i ∧ bal (mvd ac m.fr m.to m.am) l i ≤ _
    simp only [List.length_cons]
    omega
end Go.Proofs.Ytddnpjlcmokbiaa
