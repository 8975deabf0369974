/-
  The purse as plain mathematics: what a void does; what is gone stays gone.
-/
import Derived.Test.YtajefffhdeljfaaPurseQ
namespace Go.Proofs.Ytajefffhdeljfaa

theorem Pur.stay_en (p : Pur) (b i : Int) : (p.stay b).en i = if i = b ∧ (p.en b).st = 0 then Ent.gone else p.en i := by
  unfold Pur.stay Pur.set
  by_cases h : (p.en b).st = 0
  · rw [if_pos h]; by_cases e : i = b <;> simp [e, h]
  · rw [if_neg h]; simp [h]

theorem Pur.act_res (p : Pur) (o : POp) : (p.act o).1 = 1 ∨ (p.act o).1 = 2 := by
  unfold Pur.act
  simp only
  repeat' split
  all_goals simp

def voidOp (b : Int) : POp := ⟨6, b, 0, 0, 0⟩
theorem mayOp_void {b : Int} (hb : 1 ≤ b ∧ b ≤ 200) : mayOp (voidOp b) = true := by
  simp [mayOp, voidOp, hb.1, hb.2]

theorem Pur.act_void {T : Int} {p : Pur} (h : p.Good T) {b : Int} (hb : 1 ≤ b ∧ b ≤ 200) : (p.act (voidOp b)).1 = 1 ∧ (p.act (voidOp b)).2.en b = Ent.gone := by
  have hm : mayOp ⟨6, b, 0, 0, 0⟩ = true := mayOp_void hb
  rcases h.sts b with s | s | s | s
  · simp [Pur.act, voidOp, hm, Pur.stay_en, s]
  · simp [Pur.act, voidOp, hm, Pur.stay_en, h.gon b s, Ent.gone]
  · simp [Pur.act, voidOp, hm, Pur.move, s]
  · simp [Pur.act, voidOp, hm, Pur.move, s]

/-- What is gone stays gone, and only a void of it is done. -/
theorem Pur.act_gone {p : Pur} {b : Int} (hg : p.en b = Ent.gone) (o : POp) : (p.act o).2.en b = Ent.gone ∧ (o.bk = b → (p.act o).1 = if o.kd = 6 ∧ mayOp o = true then 1 else 2) := by
  have hst : (p.en b).st = 3 := by rw [hg]; rfl
  unfold Pur.act
  cases hm : mayOp o with
  | false => simp [hg]
  | true =>
    have hk := mayOp_kd hm
    rw [if_neg (by simp)]
    dsimp only
    by_cases hb : o.bk = b
    · rw [hb, hst]
      rw [if_neg (by omega)]
      by_cases h4 : o.kd = 4
      · rw [if_pos h4]; simp [Pur.stay_en, hg, h4]
      rw [if_neg h4, if_neg (by omega)]
      by_cases h5 : o.kd = 5
      · rw [if_pos h5]; simp [Pur.stay_en, hg, h5]
      rw [if_neg h5, if_neg (by omega), if_neg (by omega)]
      by_cases h6 : o.kd = 6
      · rw [if_pos h6]; simp [Pur.stay_en, hg, h6]
      · rw [if_neg h6]; simp [hg, h6]
    · have hb' : ¬ b = o.bk := fun e => hb e.symm
      refine ⟨?_, fun e => absurd e hb⟩
      repeat' split
      all_goals simp [Pur.stay_en, Pur.move, hb', hg]
end Go.Proofs.Ytajefffhdeljfaa
