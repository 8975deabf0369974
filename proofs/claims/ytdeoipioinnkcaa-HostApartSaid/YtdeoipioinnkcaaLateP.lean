/-
  layer 12: HostLate, the plain law.
-/
import Derived.Test.YtdeoipioinnkcaaHostB
import Derived.Test.YtdeoipioinnkcaaSGonP2
namespace Go.Proofs.Ytdeoipioinnkcaa
open Go.RowKit Go.Maps

/-- A booking that was released is gone. -/
structure LateI (s : Stk) (f : Tab) (b : Int) (v : Bool) : Prop where
  good : s.Good
  rel : f (b, 3) ≠ 0 → s.en b = Ent.gone
  gone : v = true → s.en b = Ent.gone

theorem Stk.act_other (s : Stk) {b : Int} (o : POp) (t : Int) (hb : o.bk ≠ b) : (s.act o t).2.en b = s.en b := by
  have hset : ∀ f e, (s.set o.bk f e).en b = s.en b := by
    intro f e
    unfold Stk.set
    dsimp only
    rw [if_neg (fun h => hb h.symm)]
  have hgone : (s.gone o.bk).en b = s.en b := hset _ _
  unfold Stk.act Stk.hold Stk.confirm
  dsimp only
  repeat' split
  all_goals first | rfl | exact hgone | exact hset _ _

theorem LateI.other {s : Stk} {f : Tab} {b : Int} {v : Bool} (h : LateI s f b v) (o : POp) (t : Int) (hb : o.bk ≠ b) : LateI (hAsk s f o t).2.2.1 (hAsk s f o t).2.2.2 b v := by
  unfold hAsk
  split
  · exact h
  split
  · exact h
  · have he := s.act_other o t hb
    refine ⟨h.good.act o t, ?_, ?_⟩
    · dsimp only
      rw [he, upd_other _ _ _ _ (fun e => hb (by injection e with e1 _; exact e1.symm))]
      exact h.rel
    · dsimp only
      rw [he]
      exact h.gone

theorem LateI.keep {s : Stk} {f : Tab} {b : Int} {v : Bool} (h : LateI s f b v) (o : POp) {t : Int} (h0 : 0 ≤ t) (h1 : t ≤ 1099511627776) (_hb : o.bk = b) (hk : o.kd ≠ 3) : LateI (hAsk s f o t).2.2.1 (hAsk s f o t).2.2.2 b v := by
  unfold hAsk
  split
  · exact h
  split
  · exact h
  · refine ⟨h.good.act o t, ?_, ?_⟩
    · dsimp only
      rw [upd_other _ _ _ _ (fun e => hk (by injection e with _ e2; exact e2.symm))]
      exact fun hf => (Stk.act_gone s (h.rel hf) o h0 h1).1
    · dsimp only
      exact fun hv => (Stk.act_gone s (h.gone hv) o h0 h1).1

theorem LateI.release {s : Stk} {f : Tab} {b : Int} {v : Bool} (h : LateI s f b v) {t : Int} (h0 : 0 ≤ t) (h1 : t ≤ 1099511627776) (hb : 1 ≤ b ∧ b ≤ 200) : LateI (hAsk s f ⟨3, b, 0, 0, 0⟩ t).2.2.1 (hAsk s f ⟨3, b, 0, 0, 0⟩ t).2.2.2 b true := by
  have hm : mayOp ⟨3, b, 0, 0, 0⟩ = true := by unfold mayOp; simp; omega
  by_cases hf : f (b, 3) = 0
  · rw [hAsk_new hm (by show (3 : Int) ≤ 3; decide) h0 h1 hf]
    have := (Stk.act_rel s hb h0 h1).2
    exact ⟨h.good.act _ _, fun _ => this, fun _ => this⟩
  · rw [hAsk_old hm (by show (3 : Int) ≤ 3; decide) h0 h1 hf]
    exact ⟨h.good, h.rel, fun _ => h.rel hf⟩
end Go.Proofs.Ytdeoipioinnkcaa
