/-
  layer 13: TillApart, the plain law.
-/
import Derived.Test.YthngllogkejejaaTillA
namespace Go.Proofs.Ythngllogkejejaa
open Go.RowKit Go.Maps

/-- Two tills that have one booking alike, and money for all. -/
structure ApJ (p p' : Pur) (f f' : Tab) (b : Int) (k : Nat) : Prop where
  g : p.Good 4398046511104
  g' : p'.Good 4398046511104
  en : p.en b = p'.en b
  ff : ∀ q, f (b, q) = f' (b, q)
  fr : ∀ c, 0 ≤ c → c ≤ 3 → 1099511627776 - 1073741824 * (k : Int) ≤ p.ac c
  fr' : ∀ c, 0 ≤ c → c ≤ 3 → 1099511627776 - 1073741824 * (k : Int) ≤ p'.ac c
  ln : p.ln.length ≤ k
  ln' : p'.ln.length ≤ k

theorem pact_low {p : Pur} {T : Int} (hG : p.Good T) (o : POp) (ha : o.am ≤ 1073741824) (c : Int) (h0 : 0 ≤ c) (h3 : c ≤ 3) : p.ac c - 1073741824 ≤ (p.act o).2.ac c := by
  have hst : ∀ b, (p.stay b).ac = p.ac := by
    intro b
    unfold Pur.stay Pur.set
    split <;> rfl
  have hamt := hG.amt o.bk
  unfold Pur.act
  split
  · dsimp only; omega
  rename_i hm
  have hm1 : mayOp o = true := by cases e : mayOp o <;> simp_all
  dsimp only
  split
  · rename_i h1
    have := mayOp_4 hm1 h1.1
    dsimp only [Pur.move, mvd]
    rw [if_neg (by omega)]
    split
    · rename_i e; rw [e]; omega
    · omega
  split
  · dsimp only; rw [hst]; omega
  split
  · dsimp only [Pur.move, mvd]
    rw [if_neg (by omega), if_neg (by omega)]
    omega
  split
  · dsimp only; rw [hst]; omega
  split
  · rename_i h1
    have := hamt (.inl h1.2)
    dsimp only [Pur.move, mvd]
    split
    · rename_i e; rw [e]; omega
    · rw [if_neg (by omega)]; omega
  split
  · rename_i h1
    have := hamt (.inr h1.2)
    dsimp only [Pur.move, mvd]
    split
    · rename_i e; rw [e]; omega
    · rw [if_neg (by omega)]; omega
  split
  · dsimp only; rw [hst]; omega
  · dsimp only; omega

theorem pact_other (p : Pur) (o : POp) {b : Int} (hb : o.bk ≠ b) : (p.act o).2.en b = p.en b := by
  have hb' : ¬ b = o.bk := fun e => hb e.symm
  have hst : (p.stay o.bk).en b = p.en b := by
    unfold Pur.stay Pur.set
    split
    · dsimp only; rw [if_neg hb']
    · rfl
  unfold Pur.act
  split
  · rfl
  dsimp only
  repeat' split
  all_goals first | exact hst | (dsimp only [Pur.move]; rw [if_neg hb']) | rfl

theorem pact_same {p p' : Pur} (o : POp) (he : p.en o.bk = p'.en o.bk) (ha : o.am ≤ 1073741824)
    (h1 : ∀ c, 0 ≤ c → c ≤ 3 → 1073741824 ≤ p.ac c) (h2 : ∀ c, 0 ≤ c → c ≤ 3 → 1073741824 ≤ p'.ac c) :
    (p.act o).1 = (p'.act o).1 ∧ (p.act o).2.en o.bk = (p'.act o).2.en o.bk := by
  have hst : (p.stay o.bk).en o.bk = (p'.stay o.bk).en o.bk := by
    unfold Pur.stay Pur.set
    rw [← he]
    split
    · dsimp only; rw [if_pos rfl, if_pos rfl]
    · exact he
  have hmv : ∀ (a b c a' b' c' : Int) (e : Ent), (p.move o.bk a b c e).en o.bk = (p'.move o.bk a' b' c' e).en o.bk := by
    intro a b c a' b' c' e
    dsimp only [Pur.move]
    rw [if_pos rfl, if_pos rfl]
  unfold Pur.act
  by_cases hm : mayOp o = false
  · rw [if_pos hm, if_pos hm]; exact ⟨rfl, he⟩
  rw [if_neg hm, if_neg hm]
  have hm1 : mayOp o = true := by cases e : mayOp o <;> simp_all
  dsimp only
  rw [← he]
  by_cases k4 : o.kd = 4
  · have hc := mayOp_4 hm1 k4
    have e1 := h1 o.cu hc.1.1 hc.1.2
    have e2 := h2 o.cu hc.1.1 hc.1.2
    by_cases hs : (p.en o.bk).st = 0
    · rw [if_pos ⟨k4, hs, by omega⟩, if_pos ⟨k4, hs, by omega⟩]
      exact ⟨rfl, hmv _ _ _ _ _ _ _⟩
    · have n1 : ∀ z : Prop, ¬ (o.kd = 4 ∧ (p.en o.bk).st = 0 ∧ z) := fun z h => hs h.2.1
      rw [if_neg (n1 (o.am ≤ p.ac o.cu)), if_neg (n1 (o.am ≤ p'.ac o.cu)), if_pos k4, if_pos k4]
      exact ⟨rfl, hst⟩
  have n1 : ∀ z : Prop, ¬ (o.kd = 4 ∧ (p.en o.bk).st = 0 ∧ z) := fun z h => k4 h.1
  rw [if_neg (n1 (o.am ≤ p.ac o.cu)), if_neg (n1 (o.am ≤ p'.ac o.cu)), if_neg k4, if_neg k4]
  by_cases c1 : o.kd = 5 ∧ (p.en o.bk).st = 4
  · rw [if_pos c1, if_pos c1]; exact ⟨rfl, hmv _ _ _ _ _ _ _⟩
  rw [if_neg c1, if_neg c1]
  by_cases c2 : o.kd = 5
  · rw [if_pos c2, if_pos c2]; exact ⟨rfl, hst⟩
  rw [if_neg c2, if_neg c2]
  by_cases c3 : o.kd = 6 ∧ (p.en o.bk).st = 4
  · rw [if_pos c3, if_pos c3]; exact ⟨rfl, hmv _ _ _ _ _ _ _⟩
  rw [if_neg c3, if_neg c3]
  by_cases c4 : o.kd = 6 ∧ (p.en o.bk).st = 5
  · rw [if_pos c4, if_pos c4]; exact ⟨rfl, hmv _ _ _ _ _ _ _⟩
  rw [if_neg c4, if_neg c4]
  by_cases c5 : o.kd = 6
  · rw [if_pos c5, if_pos c5]; exact ⟨rfl, hst⟩
  rw [if_neg c5, if_neg c5]
  exact ⟨rfl, he⟩

variable {p p' : Pur} {f f' : Tab} {b : Int} {k : Nat}
theorem ApJ.skip (h : ApJ p p' f f' b k) : ApJ p p' f f' b (k + 1) :=
  ⟨h.g, h.g', h.en, h.ff, fun c h0 h3 => by have := h.fr c h0 h3; push_cast; omega, fun c h0 h3 => by have := h.fr' c h0 h3; push_cast; omega, Nat.le_succ_of_le h.ln, Nat.le_succ_of_le h.ln'⟩

theorem ApJ.other (h : ApJ p p' f f' b k) (o : POp) (hb : o.bk ≠ b) (ha : o.am ≤ 1073741824) : ApJ (tAsk p f o).2.2.1 p' (tAsk p f o).2.2.2 f' b (k + 1) := by
  have hs := h.skip
  unfold tAsk
  split
  · exact hs
  split
  · exact hs
  · refine ⟨h.g.act o, h.g', ?_, fun q => ?_, fun c h0 h3 => ?_, hs.fr', ?_, hs.ln'⟩
    · dsimp only; rw [pact_other p o hb]; exact h.en
    · dsimp only
      rw [upd_other _ _ _ _ (fun e => hb (by injection e with e1 _; exact e1.symm))]
      exact h.ff q
    · have h1 := h.fr c h0 h3
      have h2 := pact_low h.g o ha c h0 h3
      dsimp only; push_cast; omega
    · have h1 := h.ln
      have h2 := p.act_len o
      dsimp only; omega

theorem ApJ.same (h : ApJ p p' f f' b k) (hk : k < 40) (o : POp) (hb : o.bk = b) (ha : o.am ≤ 1073741824) :
    (tAsk p f o).1 = (tAsk p' f' o).1 ∧ (tAsk p f o).2.1 = (tAsk p' f' o).2.1 ∧ ApJ (tAsk p f o).2.2.1 (tAsk p' f' o).2.2.1 (tAsk p f o).2.2.2 (tAsk p' f' o).2.2.2 b (k + 1) := by
  have hs := h.skip
  subst hb
  have hff := h.ff o.kd
  unfold tAsk
  by_cases c1 : mayOp o = false ∨ o.kd < 4
  · rw [if_pos c1, if_pos c1]
    exact ⟨rfl, rfl, hs⟩
  rw [if_neg c1, if_neg c1, ← hff]
  by_cases c2 : f (o.bk, o.kd) ≠ 0
  · rw [if_pos c2, if_pos c2]
    exact ⟨rfl, rfl, hs⟩
  rw [if_neg c2, if_neg c2]
  obtain ⟨e1, e2⟩ := pact_same (p := p) (p' := p') o h.en ha (fun c h0 h3 => by have := h.fr c h0 h3; omega) (fun c h0 h3 => by have := h.fr' c h0 h3; omega)
  refine ⟨e1, rfl, h.g.act o, h.g'.act o, e2, fun q => ?_, fun c h0 h3 => ?_, fun c h0 h3 => ?_, ?_, ?_⟩
  · dsimp only
    rw [e1]
    by_cases hq : q = o.kd
    · subst hq; rw [upd_same, upd_same]
    · rw [upd_other _ _ _ _ (fun e => hq (by injection e)), upd_other _ _ _ _ (fun e => hq (by injection e))]
      exact h.ff q
  · have h1 := h.fr c h0 h3
    have h2 := pact_low h.g o ha c h0 h3
    dsimp only; push_cast; omega
  · have h1 := h.fr' c h0 h3
    have h2 := pact_low h.g' o ha c h0 h3
    dsimp only; push_cast; omega
  · have h1 := h.ln
    have h2 := p.act_len o
    dsimp only; omega
  · have h1 := h.ln'
    have h2 := p'.act_len o
    dsimp only; omega
theorem ApJ.new (b : Int) : ApJ (Pur.new fun _ => 1099511627776) (Pur.new fun _ => 1099511627776) (fun _ => 0) (fun _ => 0) b 0 := by
  have hg : (Pur.new fun _ => 1099511627776).Good 4398046511104 := Pur.new_good (f := fun _ => 1099511627776) (fun _ _ _ => by omega)
  have ha : ∀ c, 0 ≤ c → c ≤ 3 → 1099511627776 - 1073741824 * ((0 : Nat) : Int) ≤ (Pur.new fun _ => 1099511627776).ac c := by
    intro c h0 h3
    show _ ≤ (if 0 ≤ c ∧ c ≤ 3 then (1099511627776 : Int) else 0)
    rw [if_pos ⟨h0, h3⟩]
    omega
  exact ⟨hg, hg, rfl, fun _ => rfl, ha, ha, Nat.le_refl _, Nat.le_refl _⟩
end Go.Proofs.Ythngllogkejejaa
