/-
  layer 12: HostApart, the plain law.
-/
import Derived.Test.YtdeoipioinnkcaaLateP
namespace Go.Proofs.Ytdeoipioinnkcaa
open Go.RowKit Go.Maps

/-- Two hosts that have one booking alike, and room for all. -/
structure ApI (s s' : Stk) (f f' : Tab) (b : Int) (k : Nat) : Prop where
  g : s.Good
  g' : s'.Good
  en : s.en b = s'.en b
  ff : ∀ q, f (b, q) = f' (b, q)
  fr : 1000000 - 1000 * (k : Int) ≤ s.free
  fr' : 1000000 - 1000 * (k : Int) ≤ s'.free

theorem act_free {s : Stk} (hG : s.Good) (o : POp) (t : Int) : s.free - 1000 ≤ (s.act o t).2.free := by
  have hun := hG.un o.bk
  have hgone : s.free - 1000 ≤ (s.gone o.bk).free := by show _ ≤ s.free + (s.en o.bk).un; omega
  unfold Stk.act
  split
  · show _ ≤ s.free; omega
  rename_i hm
  have hm1 : mayOp o = true := by cases e : mayOp o <;> simp_all
  split
  · rename_i h1
    have hu := mayOp_1 hm1 h1
    unfold Stk.hold
    dsimp only
    split
    · show _ ≤ s.free; omega
    split
    · show _ ≤ s.free; omega
    split
    · exact hgone
    · show _ ≤ s.free - o.un; omega
  split
  · unfold Stk.confirm
    dsimp only
    split
    · show _ ≤ s.free; omega
    split
    · show _ ≤ s.free; omega
    split
    · exact hgone
    · show _ ≤ s.free; omega
  split
  · exact hgone
  · show _ ≤ s.free; omega

theorem act_same {s s' : Stk} (o : POp) (t : Int) (he : s.en o.bk = s'.en o.bk) (h1 : 1000 ≤ s.free) (h2 : 1000 ≤ s'.free) :
    (s.act o t).1 = (s'.act o t).1 ∧ (s.act o t).2.en o.bk = (s'.act o t).2.en o.bk := by
  have hset : ∀ f f' e, (s.set o.bk f e).en o.bk = (s'.set o.bk f' e).en o.bk := by
    intro f f' e
    unfold Stk.set
    simp
  have hgone : (s.gone o.bk).en o.bk = (s'.gone o.bk).en o.bk := hset _ _ _
  unfold Stk.act
  by_cases hm : mayOp o = false ∨ t < 0 ∨ 1099511627776 < t
  · rw [if_pos hm, if_pos hm]; exact ⟨rfl, he⟩
  rw [if_neg hm, if_neg hm]
  have hm1 : mayOp o = true := by cases e : mayOp o <;> simp_all
  by_cases k1 : o.kd = 1
  · rw [if_pos k1, if_pos k1]
    have hu := mayOp_1 hm1 k1
    unfold Stk.hold
    dsimp only
    rw [← he]
    by_cases c1 : (s.en o.bk).st = 1 ∨ (s.en o.bk).st = 2
    · rw [if_pos c1, if_pos c1]; exact ⟨rfl, he⟩
    rw [if_neg c1, if_neg c1]
    by_cases c2 : (s.en o.bk).st = 3
    · rw [if_pos c2, if_pos c2]; exact ⟨rfl, he⟩
    rw [if_neg c2, if_neg c2, if_neg (by omega), if_neg (by omega)]
    exact ⟨rfl, hset _ _ _⟩
  rw [if_neg k1, if_neg k1]
  by_cases k2 : o.kd = 2
  · rw [if_pos k2, if_pos k2]
    unfold Stk.confirm
    dsimp only
    rw [← he]
    by_cases c1 : (s.en o.bk).st = 2
    · rw [if_pos c1, if_pos c1]; exact ⟨rfl, he⟩
    rw [if_neg c1, if_neg c1]
    by_cases c2 : (s.en o.bk).st = 3
    · rw [if_pos c2, if_pos c2]; exact ⟨rfl, he⟩
    rw [if_neg c2, if_neg c2]
    by_cases c3 : (s.en o.bk).st = 0 ∨ (s.en o.bk).til ≤ t
    · rw [if_pos c3, if_pos c3]; exact ⟨rfl, hgone⟩
    rw [if_neg c3, if_neg c3]
    exact ⟨rfl, hset _ _ _⟩
  rw [if_neg k2, if_neg k2]
  by_cases k3 : o.kd = 3
  · rw [if_pos k3, if_pos k3]; exact ⟨rfl, hgone⟩
  · rw [if_neg k3, if_neg k3]; exact ⟨rfl, he⟩

theorem ApI.other {s s' : Stk} {f f' : Tab} {b : Int} {k : Nat} (h : ApI s s' f f' b k) (o : POp) (t : Int) (hb : o.bk ≠ b) :
    ApI (hAsk s f o t).2.2.1 s' (hAsk s f o t).2.2.2 f' b (k + 1) := by
  have hf := h.fr
  have hf' := h.fr'
  unfold hAsk
  split
  · exact ⟨h.g, h.g', h.en, h.ff, by push_cast; omega, by push_cast; omega⟩
  split
  · exact ⟨h.g, h.g', h.en, h.ff, by push_cast; omega, by push_cast; omega⟩
  · have hfr := act_free h.g o t
    refine ⟨h.g.act o t, h.g', ?_, fun q => ?_, ?_, ?_⟩
    · dsimp only; rw [s.act_other o t hb]; exact h.en
    · dsimp only
      rw [upd_other _ _ _ _ (fun e => hb (by injection e with e1 _; exact e1.symm))]
      exact h.ff q
    · dsimp only; push_cast; omega
    · push_cast; omega

theorem ApI.same {s s' : Stk} {f f' : Tab} {b : Int} {k : Nat} (h : ApI s s' f f' b k) (hk : k < 40) (o : POp) (t : Int) (hb : o.bk = b) :
    (hAsk s f o t).1 = (hAsk s' f' o t).1 ∧ (hAsk s f o t).2.1 = (hAsk s' f' o t).2.1 ∧ ApI (hAsk s f o t).2.2.1 (hAsk s' f' o t).2.2.1 (hAsk s f o t).2.2.2 (hAsk s' f' o t).2.2.2 b (k + 1) := by
  have hf := h.fr
  have hf' := h.fr'
  subst hb
  have hff := h.ff o.kd
  unfold hAsk
  by_cases c1 : mayOp o = false ∨ 3 < o.kd ∨ t < 0 ∨ 1099511627776 < t
  · rw [if_pos c1, if_pos c1]
    exact ⟨rfl, rfl, h.g, h.g', h.en, h.ff, by push_cast; omega, by push_cast; omega⟩
  rw [if_neg c1, if_neg c1, ← hff]
  by_cases c2 : f (o.bk, o.kd) ≠ 0
  · rw [if_pos c2, if_pos c2]
    exact ⟨rfl, rfl, h.g, h.g', h.en, h.ff, by push_cast; omega, by push_cast; omega⟩
  rw [if_neg c2, if_neg c2]
  obtain ⟨e1, e2⟩ := act_same (s := s) (s' := s') o t h.en (by omega) (by omega)
  have hfr := act_free h.g o t
  have hfr' := act_free h.g' o t
  refine ⟨e1, rfl, h.g.act o t, h.g'.act o t, e2, fun q => ?_, ?_, ?_⟩
  · dsimp only
    rw [e1]
    by_cases hq : q = o.kd
    · subst hq; rw [upd_same, upd_same]
    · rw [upd_other _ _ _ _ (fun e => hq (by injection e)), upd_other _ _ _ _ (fun e => hq (by injection e))]
      exact h.ff q
  · dsimp only; push_cast; omega
  · dsimp only; push_cast; omega
theorem ApI.new (b : Int) : ApI (Stk.new 1000000 0) (Stk.new 1000000 0) (fun _ => 0) (fun _ => 0) b 0 :=
  ⟨Stk.Good.new (by omega) (by omega), Stk.Good.new (by omega) (by omega), rfl, fun _ => rfl, by show _ ≤ (1000000 + 0 : Int); simp, by show _ ≤ (1000000 + 0 : Int); simp⟩
end Go.Proofs.Ytdeoipioinnkcaa
