/-
  stock: a release; what is gone stays gone.
-/
import Derived.Test.YtdeoipioinnkcaaStockM
namespace Go.Proofs.Ytdeoipioinnkcaa

theorem Stk.act_rel (s : Stk) {b t : Int} (hb : 1 ≤ b ∧ b ≤ 200) (h0 : 0 ≤ t) (h1 : t ≤ 1099511627776) : (s.act ⟨3, b, 0, 0, 0⟩ t).1 = 1 ∧ (s.act ⟨3, b, 0, 0, 0⟩ t).2.en b = Ent.gone := by
  have hm : mayOp ⟨3, b, 0, 0, 0⟩ = true := by unfold mayOp; simp; omega
  unfold Stk.act
  rw [hm, if_neg (by intro h; rcases h with h | h | h; cases h; omega; omega)]
  refine ⟨rfl, ?_⟩
  show (s.gone b).en b = _
  unfold Stk.gone Stk.set
  simp

/-- What is gone stays gone. -/
theorem Stk.act_gone (s : Stk) {b : Int} (hg : s.en b = Ent.gone) (o : POp) {t : Int} (h0 : 0 ≤ t) (h1 : t ≤ 1099511627776) :
    (s.act o t).2.en b = Ent.gone ∧ (o.bk = b → (s.act o t).1 = if o.kd = 3 ∧ mayOp o = true then 1 else 2) := by
  by_cases hm : mayOp o = true
  · unfold Stk.act
    rw [hm, if_neg (by intro h; rcases h with h | h | h; cases h; omega; omega)]
    have hgone : (s.gone o.bk).en b = Ent.gone := by
      unfold Stk.gone Stk.set
      dsimp only
      split
      · rfl
      · exact hg
    by_cases hb : o.bk = b
    · by_cases k1 : o.kd = 1
      · rw [if_pos k1]
        unfold Stk.hold
        rw [hb, hg]
        simp [Ent.gone, k1, hg]
      · rw [if_neg k1]
        by_cases k2 : o.kd = 2
        · rw [if_pos k2]
          unfold Stk.confirm
          rw [hb, hg]
          simp [Ent.gone, k2, hg]
        · rw [if_neg k2]
          by_cases k3 : o.kd = 3
          · rw [if_pos k3]
            exact ⟨hgone, fun _ => by simp [k3]⟩
          · rw [if_neg k3]
            exact ⟨hg, fun _ => by simp [k3]⟩
    · refine ⟨?_, fun h => absurd h hb⟩
      have hset : ∀ f e, (s.set o.bk f e).en b = Ent.gone := by
        intro f e
        unfold Stk.set
        dsimp only
        rw [if_neg (fun h => hb h.symm)]
        exact hg
      unfold Stk.hold Stk.confirm
      dsimp only
      repeat' split
      all_goals first | exact hg | exact hgone | exact hset _ _
  · have hm : mayOp o = false := by cases e : mayOp o <;> simp_all
    unfold Stk.act
    rw [hm, if_pos (.inl rfl)]
    exact ⟨hg, fun _ => by simp⟩
end Go.Proofs.Ytdeoipioinnkcaa
