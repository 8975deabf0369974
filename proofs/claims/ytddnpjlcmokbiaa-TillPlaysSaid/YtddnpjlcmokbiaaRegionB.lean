/-
  Regions that draw their order, walked in ONE order: the theorem. A plan is a list of stages: floats, those of them that are asked in every world of F, and the one operation that acts. Behind the last stage stand the floats that are left.
-/
import Derived.Test.YtddnpjlcmokbiaaRegion
import Derived.Tactics
namespace Go.Proofs.Ytddnpjlcmokbiaa

/-- The kinds of operation that hand back one value and are no call. -/
def valueOp : Op → Bool
  | .move _ | .assign _ | .pick .. | .build .. | .nilCheck _ | .binOp .. | .unOp .. | .makeFunc .. | .fieldAddr .. | .field .. | .indexAddr .. | .index .. | .extract .. | .load .. | .lookup .. | .convert .. | .slice .. | .makeInterface .. => true
  | .call { callee := .builtin .len, .. } => true
  | _ => false

section
variable {P : Program}

theorem value_of {ρ : Operand → Value} {o : Oper} (h : valueOp o.op = true) {w w1 : World} {n : Next} (hr : (execOp ρ o).run P w = .ok n w1) : ∃ v, n = .value v := by
  obtain ⟨dst, op, type, pos, after, guard⟩ := o
  cases op <;> first | (simp [valueOp] at h; done) | exact run_value_inv hr | skip
  case move x => simp only [execOp, Sem.run_pure] at hr; cases hr; exact ⟨_, rfl⟩
  case assign x => simp only [execOp, Sem.run_pure] at hr; cases hr; exact ⟨_, rfl⟩
  case pick c a b =>
    change ((asBool (ρ c)) >>= fun b' => Pure.pure (Next.value (if b' then ρ a else ρ b)) : Sem Next).run P w = _ at hr
    rw [Sem.run_bind] at hr
    cases hs : (asBool (ρ c)).run P w with
    | ok x w2 => rw [hs] at hr; simp only [Result.andThen_ok, Sem.run_pure] at hr; cases hr; exact ⟨_, rfl⟩
    | halt e w2 => rw [hs] at hr; cases hr
  case nilCheck x =>
    cases hx : ρ x with
    | pointer p =>
      cases p with
      | none => simp only [execOp, hx] at hr; exact absurd hr (NoEnd.runtimePanic _ w n w1)
      | some q => simp only [execOp, hx, Sem.run_pure] at hr; cases hr; exact ⟨_, rfl⟩
    | nilIface => simp only [execOp, hx] at hr; exact absurd hr (NoEnd.runtimePanic _ w n w1)
    | nilFunc => simp only [execOp, hx] at hr; exact absurd hr (NoEnd.runtimePanic _ w n w1)
    | func fn first captured =>
      cases fn with
      | method name =>
        simp only [execOp, hx] at hr
        cases hf : first[0]? with
        | none => rw [hf] at hr; simp only [Sem.run_pure] at hr; cases hr; exact ⟨_, rfl⟩
        | some u =>
          rw [hf] at hr
          cases u <;> first
            | (simp only [Sem.run_pure] at hr; cases hr; exact ⟨_, rfl⟩)
            | exact absurd hr (NoEnd.runtimePanic _ w n w1)
            | skip
          rename_i t v
          simp only [Sem.run_bind, run_program, Result.andThen_ok] at hr
          generalize (nilAhead _ t v name).run P w = r at hr
          cases r with
          | halt e w2 => cases hr
          | ok x w2 =>
            simp only [Result.andThen_ok] at hr
            split at hr
            · simp only [run_unsupported, Sem.run_bind, Result.andThen_halt] at hr; cases hr
            · simp only [Sem.run_pure] at hr; cases hr; exact ⟨_, rfl⟩
      | _ => simp only [execOp, hx, Sem.run_pure] at hr; cases hr; exact ⟨_, rfl⟩
    | _ => simp only [execOp, hx, Sem.run_pure] at hr; cases hr; exact ⟨_, rfl⟩
  case call c =>
    obtain ⟨callee, args, ats⟩ := c
    cases callee with
    | builtin b =>
      cases b <;> first | (simp [valueOp] at h; done) | skip
      have e : execOp ρ { dst, op := .call { callee := .builtin .len, args, argTypes := ats }, type, pos, after, guard } = (Builtin.len_ ats type (args.map ρ) >>= fun x => Pure.pure (Next.value x)) := rfl
      rw [e] at hr
      exact run_value_inv hr
    | _ => simp [valueOp] at h
end

/-! ### Who waits for whom -/
section
variable {ops : Array Oper}

/-- Does j wait for i, straight or through others? (n: how far is looked) -/
def waitsT (ops : Array Oper) (i : Nat) : Nat → Nat → Bool
  | 0, _ => false
  | n + 1, j => match ops[j]? with
    | none => false
    | some o => o.after.any fun e => Region.binds .any e && (e.on == i || waitsT ops i n e.on)

/-- What is listed has all listed that it waits for. -/
def ClosedL (ops : Array Oper) (L : Array Bool) : Prop :=
  ∀ j o, ops[j]? = some o → L.getD j false = true → ∀ e ∈ o.after, Region.binds .any e = true → L.getD e.on false = true

theorem ClosedL.start (n : Nat) : ClosedL ops (Array.replicate n false) := by
  intro j o _ h
  have : (Array.replicate n false).getD j false = false := by
    rcases Nat.lt_or_ge j n with h | h <;> simp [h]
  rw [this] at h; cases h

theorem ClosedL.set {L : Array Bool} (h : ClosedL ops L) {i : Nat} (hi : i ∈ Region.ready .any ops L) : ClosedL ops (L.setIfInBounds i true) := by
  intro j o hj hl e he hb
  by_cases hij : i = j
  · subst hij
    obtain ⟨_, o', ho', hall⟩ := mem_ready.1 hi
    have : o = o' := Option.some.inj (hj.symm.trans ho')
    subst this
    exact getD_set_true (hall e he hb)
  · rw [getD_set_ne false hij] at hl
    exact getD_set_true (h j o hj hl e he hb)

theorem waitsT_listed {L : Array Bool} (h : ClosedL ops L) {i : Nat} : ∀ (n j : Nat), waitsT ops i n j = true → L.getD j false = true → L.getD i false = true
  | 0, _, hw, _ => by simp [waitsT] at hw
  | n + 1, j, hw, hl => by
    unfold waitsT at hw
    split at hw
    · cases hw
    · rename_i o ho
      obtain ⟨e, he, hb⟩ := Array.any_eq_true'.1 hw
      simp only [Bool.and_eq_true, Bool.or_eq_true, beq_iff_eq] at hb
      have h1 := h j o ho hl e he hb.1
      rcases hb.2 with h2 | h2
      · rw [← h2]; exact h1
      · exact waitsT_listed h n e.on h2 h1

theorem waitsT_not_ready {L : Array Bool} (h : ClosedL ops L) {i n j : Nat} (hw : waitsT ops i n j = true) (hi : L.getD i false = false) : j ∉ Region.ready .any ops L := by
  intro hr
  obtain ⟨_, o, ho, hall⟩ := mem_ready.1 hr
  cases n with
  | zero => simp [waitsT] at hw
  | succ n =>
    unfold waitsT at hw
    rw [ho] at hw
    obtain ⟨e, he, hb⟩ := Array.any_eq_true'.1 hw
    simp only [Bool.and_eq_true, Bool.or_eq_true, beq_iff_eq] at hb
    have h1 := hall e he hb.1
    rcases hb.2 with h2 | h2
    · rw [h2, hi] at h1; cases h1
    · rw [waitsT_listed h n e.on h2 h1] at hi; cases hi

theorem getD_true_false {L : Array Bool} {i : Nat} (h : L.getD i true = false) : L.getD i false = false := by
  rcases Nat.lt_or_ge i L.size with h' | h'
  · simp [h'] at h ⊢; exact h
  · simp [Array.getElem?_eq_none h'] at h
end

/-! ### Any order -/
section
variable {P : Program} {ops : Array Oper} {A : Nat → World → Prop} {F : World → Prop} {Q : Exit → Act → World → Prop} {effs : List Nat}

/-- The one way out but the end: it outgrew. -/
def NQ (Q : Exit → Act → World → Prop) : Exit → Act → World → Prop
  | .outgrown, a, w => Q .outgrown a w
  | _, _, _ => False

def noQ : Exit → Act → World → Prop := fun _ _ _ => False

theorem NQ.imp (e : Exit) (a : Act) (w : World) (h : NQ Q e a w) : Q e a w := by
  cases e <;> first | exact h | exact (h : False).elim

/-- Whatever order is picked from here on: what acts leaves a world of which A holds, all else leaves the world alone. -/
def anyM (P : Program) (ops : Array Oper) (A : Nat → World → Prop) (Q : Exit → Act → World → Prop) (effs : List Nat) : Nat → Array Bool → Act → World → Prop
  | 0, L, a, w => Region.ready .any ops L = [] ∧ Q .normal a w
  | n + 1, L, a, w => (Region.ready .any ops L = [] → Q .normal a w) ∧ ∀ i ∈ Region.ready .any ops L,
      if effs.contains i then wpOp P ops (NQ Q) i (fun a' w' => A i w' ∧ anyM P ops A Q effs n (L.setIfInBounds i true) a' w') a w
      else stOp P ops w i (fun a' => anyM P ops A Q effs n (L.setIfInBounds i true) a' w) a

theorem wpOp_mono_Q {Q' : Exit → Act → World → Prop} {i : Nat} {a : Act} {w : World} {K : Act → World → Prop} (hQ : ∀ e a w, Q e a w → Q' e a w)
    (h : wpOp P ops Q i K a w) : wpOp P ops Q' i K a w := by
  unfold wpOp at *
  split
  · simpa [*] using h
  · rename_i o ho
    simp only [ho] at h
    split
    · rename_i hw
      simp only [hw, if_true] at h
      rcases h with h | ⟨h1, a0, w0, h2⟩
      · refine .inl ?_
        unfold Oper.wp at *
        generalize (execOp a.eval o).run P w = r at *
        cases r with
        | ok n w' =>
          cases n <;> simp only [Oper.upon] at h ⊢ <;> first
            | exact h
            | exact Calls.mono h (fun e w'' he => by
                cases e with
                | returned v => exact he
                | panicked c => exact hQ _ _ _ he
                | outgrown => obtain ⟨a0, w0, h2⟩ := he; exact ⟨a0, w0, hQ _ _ _ h2⟩)
        | halt x w' => cases x <;> simp only [Oper.upon] at h ⊢; exact hQ _ _ _ h
      · exact .inr ⟨h1, a0, w0, hQ _ _ _ h2⟩
    · rename_i hw
      simp only [hw] at h
      exact h

theorem wpAny_of_anyM : ∀ (n : Nat) (L : Array Bool) (a : Act) (w : World), anyM P ops A Q effs n L a w → wpAny P .any ops Q n L a w
  | 0, _, _, _, h => h
  | n + 1, L, a, w, h => ⟨h.1, fun i hi => by
      have h1 := h.2 i hi
      split at h1
      · exact wpOp_mono_Q NQ.imp (wpOp_mono (fun a' w' h2 => wpAny_of_anyM n _ a' w' h2.2) h1)
      · exact wpOp_of_stOp (fun a' h2 => wpAny_of_anyM n _ a' w h2) h1⟩

/-- 'oi' yields v in every world of F. -/
def YieldsF (P : Program) (ops : Array Oper) (F : World → Prop) (o : Oper) (v : Value) (a : Act) : Prop := ∀ w, F w → YieldsAt P ops w o v a

theorem YieldsF.of_same {o : Oper} {v : Value} {a a' : Act} (hy : YieldsF P ops F o v a) (he : execOp a'.eval o = execOp a.eval o)
    (hw : Region.wanted o (yielded ops a'.tmps) = Region.wanted o (yielded ops a.tmps)) : YieldsF P ops F o v a' := fun w h => (hy w h).of_same he hw

theorem wpOp_putF {j : Nat} {oi oj : Oper} {v : Value} (hj : ops[j]? = some oj) (hap : oi.apart ops oj = true)
    (hsi : ∀ cs b, oi.op ≠ .select cs b) (hsj : ∀ cs b, oj.op ≠ .select cs b) {K : Act → World → Prop} {a : Act} {w : World}
    (hy : YieldsF P ops F oi v a) (h : wpOp P ops (NQ Q) j K (a.put oi.dst v) w) :
    wpOp P ops (NQ Q) j (fun a' w' => YieldsF P ops F oi v a' ∧ K (a'.put oi.dst v) w') a w := by
  obtain ⟨h1, h2, h3⟩ := Oper.apart_spec hap
  have keep : ∀ (a : Act), YieldsF P ops F oi v a → ∀ u, YieldsF P ops F oi v (a.put oj.dst u) := fun a hy u =>
    hy.of_same (execOp_put oi hsi a oj.dst u h3) (wanted_put oi a oj.dst u h3)
  have keepD : ∀ d, YieldsF P ops F oi v { a with defers := d :: a.defers } := fun d => hy.of_same rfl rfl
  unfold wpOp at *
  simp only [hj] at *
  rw [wanted_put oj a oi.dst v h1] at h
  split
  · rename_i hw
    simp only [hw, if_true] at h
    rcases h with h | ⟨hasks, hlets⟩
    case inr => exact .inr ⟨by unfold Oper.asks at *; rw [execOp_put oj hsj a oi.dst v h1] at hasks; exact hasks, hlets⟩
    refine .inl ?_
    unfold Oper.wp at *
    rw [execOp_put oj hsj a oi.dst v h1] at h
    generalize (execOp a.eval oj).run P w = r at *
    cases r with
    | ok n w' =>
      cases n <;> simp only [Oper.upon] at h ⊢
      case value u => exact ⟨keep a hy u, by rw [← Act.put_comm a v u h2]; exact h⟩
      case skip => exact ⟨keep a hy _, by rw [← Act.put_comm a v undef h2]; exact h⟩
      case defer d =>
        refine ⟨keep _ (keepD d) _, ?_⟩
        rw [← Act.put_comm _ v undef h2, ← Act.put_defers]
        exact h
      case enter f args =>
        refine Calls.mono h fun e w'' he => ?_
        cases e with
        | returned u => exact ⟨keep a hy u, by rw [← Act.put_comm a v u h2]; exact he⟩
        | panicked c => exact he
        | outgrown => exact he
      case row row args => exact Rows.mono h fun u w'' he => ⟨keep a hy u, by rw [← Act.put_comm a v u h2]; exact he⟩
    | halt x w' =>
      cases x <;> simp only [Oper.upon] at h ⊢
      case panic u => exact h
  · rename_i hw
    simp only [hw] at h
    exact ⟨keep a hy _, by rw [← Act.put_comm a v undef h2]; exact h⟩

theorem stOp_putF {j : Nat} {oi oj : Oper} {v : Value} {w : World} (hj : ops[j]? = some oj) (hap : oi.apart ops oj = true)
    (hsi : ∀ cs b, oi.op ≠ .select cs b) (hsj : ∀ cs b, oj.op ≠ .select cs b) {K : Act → Prop} {a : Act}
    (hy : YieldsF P ops F oi v a) (h : stOp P ops w j K (a.put oi.dst v)) :
    stOp P ops w j (fun a' => YieldsF P ops F oi v a' ∧ K (a'.put oi.dst v)) a := by
  obtain ⟨h1, h2, h3⟩ := Oper.apart_spec hap
  have keep : ∀ (a : Act), YieldsF P ops F oi v a → ∀ u, YieldsF P ops F oi v (a.put oj.dst u) := fun a hy u =>
    hy.of_same (execOp_put oi hsi a oj.dst u h3) (wanted_put oi a oj.dst u h3)
  unfold stOp at *
  simp only [hj] at *
  rw [wanted_put oj a oi.dst v h1] at h
  split
  · rename_i hw
    simp only [hw, if_true] at h
    unfold Oper.still at *
    rw [execOp_put oj hsj a oi.dst v h1] at h
    generalize (execOp a.eval oj).run P w = r at *
    cases r with
    | ok n w' =>
      cases n <;> simp only [Oper.stillUpon] at h ⊢
      case value u => exact ⟨h.1, keep a hy u, by rw [← Act.put_comm a v u h2]; exact h.2⟩
      case skip => exact ⟨h.1, keep a hy _, by rw [← Act.put_comm a v undef h2]; exact h.2⟩
      case enter f args => obtain ⟨hw', u, hc, hn⟩ := h; exact ⟨hw', u, hc, keep a hy u, by rw [← Act.put_comm a v u h2]; exact hn⟩
    | halt x w' => simp only [Oper.stillUpon] at h
  · rename_i hw
    simp only [hw] at h
    exact ⟨keep a hy _, by rw [← Act.put_comm a v undef h2]; exact h⟩

theorem not_after {L : Array Bool} {i : Nat} {oj : Oper} (hr : i ∈ Region.ready .any ops L) (hall : ∀ e ∈ oj.after, Region.binds .any e = true → L.getD e.on false = true) :
    ∀ e ∈ oj.after, Region.binds .any e = true → e.on ≠ i := fun e he hb heq => by
  have h1 := hall e he hb
  have h0 := getD_true_false (mem_ready.1 hr).1
  rw [heq, h0] at h1; cases h1

theorem free_set {L : Array Bool} {i j : Nat} {oi : Oper} (hfree : ∀ k ok, ops[k]? = some ok → k ≠ i → L.getD k true = false → (∀ e ∈ ok.after, Region.binds .any e = true → e.on ≠ i) → oi.apart ops ok = true) :
    ∀ k ok, ops[k]? = some ok → k ≠ i → (L.setIfInBounds j true).getD k true = false → (∀ e ∈ ok.after, Region.binds .any e = true → e.on ≠ i) → oi.apart ops ok = true := fun k ok hk hki hun hno => by
  by_cases hjk : j = k
  · subst hjk
    rcases Nat.lt_or_ge j L.size with h | h
    · simp [h] at hun
    · rw [Array.setIfInBounds_eq_of_size_le h] at hun
      exact hfree j ok hk hki hun hno
  · rw [getD_set_ne true hjk] at hun
    exact hfree k ok hk hki hun hno

/-- A float that yields its value in every world of a class F may be taken first, if each act that is left waits for it or leaves a world of the class. -/
theorem anyM_first {i : Nat} {oi : Oper} {v : Value} (hi : ops[i]? = some oi) (hsel : ∀ (j : Nat) (o : Oper) cs b, ops[j]? = some o → o.op ≠ .select cs b) (hie : effs.contains i = false) :
    ∀ (n : Nat) (L : Array Bool) (a : Act) (w : World), F w → ClosedL ops L → (∀ j, effs.contains j = true → L.getD j true = false → (∃ m, waitsT ops i m j = true) ∨ ∀ w', A j w' → F w') →
      (∀ j oj, ops[j]? = some oj → j ≠ i → L.getD j true = false → (∀ e ∈ oj.after, Region.binds .any e = true → e.on ≠ i) → oi.apart ops oj = true) →
      i ∈ Region.ready .any ops L → YieldsF P ops F oi v a →
      anyM P ops A Q effs n (L.setIfInBounds i true) (a.put oi.dst v) w → anyM P ops A Q effs (n + 1) L a w := by
  intro n
  induction n with
  | zero =>
    intro L a w hF _ _ _ hr hy H
    refine ⟨fun h => (by rw [h] at hr; cases hr), fun j hj => ?_⟩
    by_cases hji : j = i
    · subst hji
      rw [if_neg (by rw [hie]; exact Bool.false_ne_true)]
      exact (hy w hF).stOp hi H
    · have := ready_mono hj hji
      rw [H.1] at this
      cases this
  | succ n ih =>
    intro L a w hF hcl hwait hfree hr hy H
    refine ⟨fun h => (by rw [h] at hr; cases hr), fun j hj => ?_⟩
    by_cases hji : j = i
    · subst hji
      rw [if_neg (by rw [hie]; exact Bool.false_ne_true)]
      exact (hy w hF).stOp hi H
    · have h1 := H.2 j (ready_mono hj hji)
      obtain ⟨hjun, oj, hoj, hall⟩ := mem_ready.1 hj
      have hap := hfree j oj hoj hji hjun (not_after hr hall)
      have hwait' : ∀ k, effs.contains k = true → (L.setIfInBounds j true).getD k true = false → (∃ m, waitsT ops i m k = true) ∨ ∀ w', A k w' → F w' := by
        intro k hk hku
        by_cases hjk : j = k
        · subst hjk; exact hwait j hk hjun
        · rw [getD_set_ne true hjk] at hku; exact hwait k hk hku
      by_cases hje : effs.contains j = true
      · rcases hwait j hje hjun with ⟨m, hm⟩ | hA
        · exact absurd hj (waitsT_not_ready hcl hm (getD_true_false (mem_ready.1 hr).1))
        · rw [if_pos hje] at h1 ⊢
          have h2 := wpOp_putF hoj hap (fun cs b => hsel i oi cs b hi) (fun cs b => hsel j oj cs b hoj) hy h1
          refine wpOp_mono (fun a' w' h3 => ⟨h3.2.1, ih (L.setIfInBounds j true) a' w' (hA w' h3.2.1) (hcl.set hj) hwait' (free_set hfree) (ready_mono hr (Ne.symm hji)) h3.1 ?_⟩) h2
          rw [Array.setIfInBounds_comm _ _ hji]
          exact h3.2.2
      · rw [if_neg hje] at h1 ⊢
        have h2 := stOp_putF hoj hap (fun cs b => hsel i oi cs b hi) (fun cs b => hsel j oj cs b hoj) hy h1
        refine stOp_mono (fun a' h3 => ih (L.setIfInBounds j true) a' w hF (hcl.set hj) hwait' (free_set hfree) (ready_mono hr (Ne.symm hji)) h3.1 ?_) h2
        rw [Array.setIfInBounds_comm _ _ hji]
        exact h3.2

/-- What acts, when nothing else can come up. -/
theorem anyM_act {i : Nat} {oi : Oper} (hi : ops[i]? = some oi) (hie : effs.contains i = true) {n : Nat} {L : Array Bool} {a : Act} {w : World} (hr : Region.ready .any ops L = [i])
    (h : wpList P ops (Exit.then (fun a' w' => A i w' ∧ anyM P ops A Q effs n (L.setIfInBounds i true) a' w') (NQ Q)) [oi] a w) : anyM P ops A Q effs (n + 1) L a w := by
  refine ⟨fun h0 => (by rw [hr] at h0; cases h0), fun j hj => ?_⟩
  rw [hr] at hj
  obtain rfl : j = i := by simpa using hj
  rw [if_pos hie]
  unfold wpOp
  rw [hi]
  unfold wpList at h
  split at h
  · rename_i hw
    simp only [hw, if_true]
    refine h.imp (fun h1 => ?_) (fun ⟨h1, a0, w0, h2⟩ => ⟨h1, a0, w0, h2⟩)
    unfold Oper.wp at h1 ⊢
    generalize (execOp a.eval oi).run P w = r at h1 ⊢
    cases r with
    | ok n' w' => cases n' <;> simp only [Oper.upon] at h1 ⊢ <;> exact h1
    | halt x w' => cases x <;> simp only [Oper.upon] at h1 ⊢ <;> exact h1
  · rename_i hw
    simp only [hw]
    exact h

/-! ### The floats of a stage -/

/-- The operations at these numbers. -/
def opsAt (ops : Array Oper) (l : List Nat) : List Oper := l.filterMap (ops[·]?)

/-- The floats of a stage, at the frame behind them: each comes to the same everywhere, or is a load, or is one of those that are asked in every world. -/
def floatsOK (P : Program) (ops : Array Oper) (long : List Nat) (a : Act) (l : List Nat) : Bool :=
  l.all fun i => match ops[i]? with
    | none => false
    | some o => !Region.wanted o (yielded ops a.tmps) || sameOK P a.eval o || long.contains i || (match o.op with | .load .. => true | _ => false)

/-- Those that are asked in every world of their class: what they come to stands in their slots. -/
def longOK (P : Program) (ops : Array Oper) (F : Nat → World → Prop) (a : Act) : List Nat → Prop
  | [] => True
  | i :: r => (match ops[i]? with
      | none => False
      | some o => Region.wanted o (yielded ops a.tmps) = true → ∀ w, F i w → (execOp a.eval o).run P w = .ok (.value (match o.dst with | some d => a.tmps.getD d undef | none => undef)) w) ∧ longOK P ops F a r

theorem longOK_mem {F : Nat → World → Prop} {a : Act} : ∀ {l : List Nat} {i : Nat} {o : Oper}, longOK P ops F a l → i ∈ l → ops[i]? = some o →
    Region.wanted o (yielded ops a.tmps) = true → ∀ w, F i w → (execOp a.eval o).run P w = .ok (.value (match o.dst with | some d => a.tmps.getD d undef | none => undef)) w
  | [], _, _, _, hm, _ => by cases hm
  | j :: r, i, o, h, hm, ho => by
    rcases List.mem_cons.1 hm with rfl | hm
    · have := h.1
      rw [ho] at this
      exact this
    · exact longOK_mem h.2 hm ho

/-- What is asked behind an act: the classes of those that may still be to come. -/
def keepOK (F : Nat → World → Prop) (w : World) : List Nat → Prop
  | [] => True
  | i :: r => F i w ∧ keepOK F w r

theorem keepOK_mem {F : Nat → World → Prop} {w : World} : ∀ {l : List Nat} {i : Nat}, keepOK F w l → i ∈ l → F i w
  | [], _, _, hm => by cases hm
  | j :: r, i, h, hm => by
    rcases List.mem_cons.1 hm with rfl | hm
    · exact h.1
    · exact keepOK_mem h.2 hm

/-- No float of the list looks at, or writes, what one behind it (or itself) writes. -/
def slotsOK (ops : Array Oper) : List Nat → Bool
  | [] => true
  | i :: r => (match ops[i]? with
      | none => false
      | some o => (match o.dst with
          | none => false
          | some d => !(o.looksAt ops).contains d && r.all fun j => match ops[j]? with
            | none => false
            | some oj => match oj.dst with
              | none => true
              | some dj => dj != d && !(o.looksAt ops).contains dj)) && slotsOK ops r

/-- Each float can come up at its turn, hands back one value, and is apart from all that does not wait for it; an act that is left waits for it, or keeps its class, or it needs none. -/
def floatsB (ops : Array Oper) (effs long : List Nat) (keep : Nat → List Nat) : List Nat → Array Bool → Bool
  | [], _ => true
  | i :: r, L => (Region.ready .any ops L).contains i && Region.free .any ops L i && !effs.contains i &&
      (match ops[i]? with
        | none => false
        | some o => valueOp o.op && (if long.contains i then effs.all fun e => L.getD e true || waitsT ops i ops.size e || (keep e).contains i else (match o.op with | .load .. => effs.all fun e => L.getD e true || waitsT ops i ops.size e | _ => true))) && floatsB ops effs long keep r (L.setIfInBounds i true)

def listAll (L : Array Bool) : List Nat → Array Bool
  | [] => L
  | i :: r => listAll (L.setIfInBounds i true) r

/-- One operation behind the other, what each hands back, and the worlds between. -/
def Ran (P : Program) (ops : Array Oper) : List Nat → Act → World → Act → World → Prop
  | [], a, w, a1, w1 => a1 = a ∧ w1 = w
  | i :: r, a, w, a1, w1 => ∃ o v w', ops[i]? = some o ∧ ((Region.wanted o (yielded ops a.tmps) = true ∧ (execOp a.eval o).run P w = .ok (.value v) w') ∨ (Region.wanted o (yielded ops a.tmps) = false ∧ v = undef ∧ w' = w)) ∧
      Ran P ops r (a.put o.dst v) w' a1 w1

theorem ran_of_wpList {N : Act → World → Prop} {effs long : List Nat} {keep : Nat → List Nat} : ∀ (l : List Nat) (L : Array Bool) (a : Act) (w : World), floatsB ops effs long keep l L = true → wpList P ops (Exit.then N noQ) (opsAt ops l) a w →
    ∃ a1 w1, Ran P ops l a w a1 w1 ∧ N a1 w1
  | [], _, a, w, _, h => ⟨a, w, ⟨rfl, rfl⟩, h⟩
  | i :: r, L, a, w, hB, h => by
    simp only [floatsB, Bool.and_eq_true] at hB
    obtain ⟨⟨⟨⟨_, _⟩, _⟩, hk⟩, hB'⟩ := hB
    cases ho : ops[i]? with
    | none => rw [ho] at hk; cases hk
    | some o =>
      rw [ho] at hk
      simp only [Bool.and_eq_true] at hk
      have he : opsAt ops (i :: r) = o :: opsAt ops r := by simp [opsAt, ho]
      rw [he] at h
      unfold wpList at h
      split at h
      · rename_i hw
        rcases h with h | ⟨_, _, _, h⟩
        case inr => cases h
        unfold Oper.wp at h
        cases hr : (execOp a.eval o).run P w with
        | halt x w' => rw [hr] at h; cases x <;> simp only [Oper.upon] at h <;> cases h
        | ok n w' =>
          obtain ⟨v, rfl⟩ := value_of hk.1 hr
          rw [hr] at h
          simp only [Oper.upon] at h
          obtain ⟨a1, w1, h1, h2⟩ := ran_of_wpList r _ _ _ hB' h
          exact ⟨a1, w1, ⟨o, v, w', ho, .inl ⟨hw, hr⟩, h1⟩, h2⟩
      · rename_i hw
        obtain ⟨a1, w1, h1, h2⟩ := ran_of_wpList r _ _ _ hB' h
        exact ⟨a1, w1, ⟨o, undef, w, ho, .inr ⟨by simpa using hw, rfl, rfl⟩, h1⟩, h2⟩

theorem put_other (a : Act) (d : Option Tmp) (v : Value) (t : Tmp) (h : d ≠ some t) : (a.put d v).tmps[t]? = a.tmps[t]? := by
  cases d with
  | none => rfl
  | some d =>
    have : d ≠ t := fun e => h (by rw [e])
    simp [Act.put, Array.getElem?_setIfInBounds_ne this]

theorem ran_slot : ∀ {l : List Nat} {a : Act} {w : World} {a1 : Act} {w1 : World} {t : Tmp}, Ran P ops l a w a1 w1 → (∀ j ∈ l, ∀ oj, ops[j]? = some oj → oj.dst ≠ some t) → a1.tmps[t]? = a.tmps[t]?
  | [], _, _, _, _, _, h, _ => by rw [h.1]
  | i :: r, a, w, a1, w1, t, ⟨o, v, w', ho, _, h⟩, hd => by
    rw [ran_slot h (fun j hj => hd j (List.mem_cons_of_mem _ hj)), put_other _ _ _ _ (hd i List.mem_cons_self o ho)]

theorem exec_same_of_slots {a a1 : Act} {o : Oper} (hs : ∀ cs b, o.op ≠ .select cs b) (h : ∀ t ∈ o.looksAt ops, a1.tmps[t]? = a.tmps[t]?) : execOp a1.eval o = execOp a.eval o := by
  refine execOp_congr o hs fun x hx => ?_
  cases x with
  | tmp t =>
    have ht : t ∈ o.looksAt ops := List.mem_append_left _ (List.mem_filterMap.2 ⟨.tmp t, by simpa using hx, rfl⟩)
    simp [Act.eval, h t ht]
  | _ => rfl

theorem wanted_same_of_slots {a a1 : Act} {o : Oper} (h : ∀ t ∈ o.looksAt ops, a1.tmps[t]? = a.tmps[t]?) : Region.wanted o (yielded ops a1.tmps) = Region.wanted o (yielded ops a.tmps) := by
  unfold Region.wanted
  cases hg : o.guard with
  | none => rfl
  | some gw =>
    obtain ⟨g, want⟩ := gw
    have hy : yielded ops a1.tmps g = yielded ops a.tmps g := by
      unfold yielded
      cases ht : (ops[g]?).bind (·.dst) with
      | none => rfl
      | some t =>
        have : t ∈ o.looksAt ops := by simp [Oper.looksAt, hg, ht]
        simp [h t this]
    simp only [hy]

theorem floats_lead {effs long : List Nat} {keep : Nat → List Nat} {F : Nat → World → Prop} (hkeep : ∀ e ∈ effs, ∀ w, A e w → keepOK F w (keep e)) (hsel : ∀ (j : Nat) (o : Oper) cs b, ops[j]? = some o → o.op ≠ .select cs b) : ∀ (l : List Nat) (L : Array Bool) (a : Act) (w : World) (a1 : Act) (w1 : World) (n : Nat),
    floatsB ops effs long keep l L = true → slotsOK ops l = true → ClosedL ops L → Ran P ops l a w a1 w1 → floatsOK P ops long a1 l = true → longOK P ops F a1 long → keepOK F w long →
    w1 = w ∧ ClosedL ops (listAll L l) ∧ (anyM P ops A Q effs n (listAll L l) a1 w → anyM P ops A Q effs (l.length + n) L a w)
  | [], L, a, w, a1, w1, n, _, _, hcl, hr, _, _, _ => by
    obtain ⟨h1, h2⟩ := hr
    subst h1; subst h2
    exact ⟨rfl, hcl, fun h => by rw [List.length_nil, Nat.zero_add]; exact h⟩
  | i :: r, L, a, w, a1, w1, n, hB, hS, hcl, hr, hok, hlong, hF => by
    obtain ⟨o, v, w', ho, hrun, hr'⟩ := hr
    simp only [floatsB, Bool.and_eq_true] at hB
    obtain ⟨⟨⟨⟨hready, hfree⟩, hie⟩, hk⟩, hB'⟩ := hB
    rw [ho] at hk
    simp only [Bool.and_eq_true] at hk
    simp only [slotsOK, ho, Bool.and_eq_true] at hS
    obtain ⟨hS1, hS2⟩ := hS
    simp only [floatsOK, List.all_cons, ho, Bool.and_eq_true] at hok
    obtain ⟨hok1, hok2⟩ := hok
    have hready' : i ∈ Region.ready .any ops L := by simpa using hready
    have hie' : effs.contains i = false := by simpa using hie
    cases hd : o.dst with
    | none => rw [hd] at hS1; cases hS1
    | some d =>
      rw [hd] at hS1
      simp only [Bool.and_eq_true, Bool.not_eq_true', List.all_eq_true] at hS1
      obtain ⟨hself, hbeh⟩ := hS1
      have hnd : ∀ j ∈ r, ∀ oj, ops[j]? = some oj → oj.dst ≠ some d ∧ ∀ t ∈ o.looksAt ops, oj.dst ≠ some t := by
        intro j hj oj hoj
        have h1 := hbeh j hj
        rw [hoj] at h1
        cases hdj : oj.dst with
        | none => exact ⟨by simp, fun t _ => by simp⟩
        | some dj =>
          simp only [hdj, Bool.and_eq_true, bne_iff_ne, Bool.not_eq_true', List.contains_eq_mem, decide_eq_false_iff_not] at h1
          exact ⟨fun e => h1.1 (Option.some.inj e), fun t ht e => h1.2 (by rw [Option.some.inj e]; exact ht)⟩
      have hsl : ∀ t ∈ o.looksAt ops, a1.tmps[t]? = a.tmps[t]? := by
        intro t ht
        rw [ran_slot hr' (fun j hj oj hoj => (hnd j hj oj hoj).2 t ht), put_other]
        rw [hd]
        intro e
        have : d = t := Option.some.inj e
        subst this
        simp only [List.contains_eq_mem, decide_eq_false_iff_not] at hself
        exact hself ht
      have hex := exec_same_of_slots (hsel i o · · ho) hsl
      have hwa := wanted_same_of_slots hsl
      -- the world stays, and in which class of worlds the value is known
      have key : w' = w ∧ ∃ C : World → Prop, C w ∧ YieldsF P ops C o v a ∧ ∀ e, effs.contains e = true → L.getD e true = false → (∃ m, waitsT ops i m e = true) ∨ ∀ w', A e w' → C w' := by
        rcases hrun with ⟨hw, hrun⟩ | ⟨hw, rfl, rfl⟩
        · rw [hwa, hw] at hok1
          simp only [Bool.not_true, Bool.false_or, Bool.or_eq_true] at hok1
          by_cases hlo : long.contains i = true
          · have h1 := longOK_mem hlong (by simpa using hlo) ho (by rw [hwa]; exact hw)
            rw [hex] at h1
            have hFi : F i w := keepOK_mem hF (by simpa using hlo)
            have h2 := h1 w hFi
            rw [hrun] at h2
            cases h2
            refine ⟨rfl, F i, hFi, fun w2 hw2 => .inl ⟨hw, .inl (h1 w2 hw2)⟩, fun e he hu => ?_⟩
            have hk2 := hk.2
            rw [if_pos hlo] at hk2
            have h3 := List.all_eq_true.1 hk2 e (by simpa using he)
            rw [hu] at h3
            simp only [Bool.false_or, Bool.or_eq_true] at h3
            rcases h3 with h3 | h3
            · exact .inl ⟨_, h3⟩
            · exact .inr fun w3 hA => keepOK_mem (hkeep e (by simpa using he) w3 hA) (by simpa using h3)
          · rcases hok1 with (h1 | h1) | h1
            · have h2 := (same_of (P := P) h1).1
              rw [hex] at h2
              obtain ⟨e1, e2⟩ := h2 w _ _ hrun
              subst e1
              exact ⟨rfl, fun _ => True, trivial, fun w2 _ => .inl ⟨hw, .inl (e2 w2)⟩, fun _ _ _ => .inr fun _ _ => trivial⟩
            · exact absurd h1 hlo
            · have hload : ∃ t x, o.op = .load t x := by
                cases hop : o.op <;> rw [hop] at h1 <;> first | exact ⟨_, _, rfl⟩ | cases h1
              obtain ⟨t, x, hop⟩ := hload
              have hk2 := hk.2
              rw [if_neg hlo, hop] at hk2
              simp only [List.all_eq_true, Bool.or_eq_true] at hk2
              have hkeep2 : w' = w := by
                have e : execOp a.eval o = (Instr.loadAt t (a.eval x) >>= fun u => Pure.pure (Next.value u)) := by unfold execOp; rw [hop]
                have hr2 := hrun
                rw [e] at hr2
                exact (Keeps.loadAt t (a.eval x)).value _ _ _ hr2
              subst hkeep2
              refine ⟨rfl, fun w2 => w2 = w', rfl, fun w2 hw2 => by subst hw2; exact .inl ⟨hw, .inl hrun⟩, fun e he hu => ?_⟩
              rcases hk2 e (by simpa using he) with h3 | h3
              · rw [hu] at h3; cases h3
              · exact .inl ⟨_, h3⟩
        · exact ⟨rfl, fun _ => True, trivial, fun w2 _ => .inr ⟨hw, rfl⟩, fun _ _ _ => .inr fun _ _ => trivial⟩
      obtain ⟨rfl, C, hC, hY, hwait⟩ := key
      obtain ⟨e1, e2, e3⟩ := floats_lead hkeep hsel r (L.setIfInBounds i true) (a.put o.dst v) w' a1 w1 n hB' hS2 (hcl.set hready') hr' hok2 hlong hF
      refine ⟨e1, e2, fun hM => ?_⟩
      have hM' := e3 hM
      rw [List.length_cons, show r.length + 1 + n = (r.length + n) + 1 by omega]
      exact anyM_first (F := C) ho hsel hie' _ L a w' hC hcl hwait (Region.free_spec ho hfree) hready' hY hM'

/-! ### The plan -/

theorem wpList_mono_then {N N' : Act → World → Prop} {R : Exit → Act → World → Prop} (h : ∀ a w, N a w → N' a w) {o : Oper} {a : Act} {w : World} (hh : wpList P ops (Exit.then N R) [o] a w) : wpList P ops (Exit.then N' R) [o] a w := by
  unfold wpList at hh ⊢
  split at hh
  · rename_i hw
    simp only [hw, if_true]
    refine hh.imp (fun h1 => ?_) (fun ⟨h1, a0, w0, h2⟩ => ⟨h1, a0, w0, h2⟩)
    have h3 : o.wp P a w (wpList P ops (Exit.then N' R) []) (Exit.then N R) := Oper.wp_mono (fun a w hn => h a w hn) h1
    unfold Oper.wp at h3 ⊢
    generalize (execOp a.eval o).run P w = r at h3 ⊢
    cases r with
    | ok n' w' => cases n' <;> simp only [Oper.upon] at h3 ⊢ <;> exact h3
    | halt x w' => cases x <;> simp only [Oper.upon] at h3 ⊢ <;> exact h3
  · rename_i hw
    simp only [hw]
    exact h _ _ hh

/-- A stage: its floats, those of them that are asked in every world of their class, what acts, and whose classes are shown anew behind it. -/
structure Stage where
  fl : List Nat
  long : List Nat := []
  ef : Nat
  keep : List Nat := []

def keepOf (pl : List Stage) (e : Nat) : List Nat :=
  match pl.find? (·.ef == e) with
  | some s => s.keep
  | none => []

def planB (ops : Array Oper) (effs : List Nat) (keep : Nat → List Nat) (last : List Nat) : List Stage → Array Bool → Bool
  | [], L => floatsB ops effs [] keep last L && slotsOK ops last && (Region.ready .any ops (listAll L last)).isEmpty
  | s :: r, L => floatsB ops effs s.long keep s.fl L && slotsOK ops s.fl && effs.contains s.ef && decide (Region.ready .any ops (listAll L s.fl) = [s.ef]) && decide (keep s.ef = s.keep) && planB ops effs keep last r ((listAll L s.fl).setIfInBounds s.ef true)

def planLen (last : List Nat) : List Stage → Nat
  | [] => last.length
  | s :: r => s.fl.length + (planLen last r + 1)

/-- What is to be shown: the operations in the plan's order. -/
def wpPlan (P : Program) (ops : Array Oper) (F : Nat → World → Prop) (Q : Exit → Act → World → Prop) (last : List Nat) : List Stage → Act → World → Prop
  | [], a, w => wpList P ops (Exit.then (fun a1 w1 => floatsOK P ops [] a1 last = true ∧ Q .normal a1 w1) noQ) (opsAt ops last) a w
  | s :: r, a, w => keepOK F w s.long ∧ wpList P ops (Exit.then (fun a1 w1 => floatsOK P ops s.long a1 s.fl = true ∧ longOK P ops F a1 s.long ∧
      wpList P ops (Exit.then (fun a2 w2 => keepOK F w2 s.keep ∧ wpPlan P ops F Q last r a2 w2) (NQ Q)) (opsAt ops [s.ef]) a1 w1) noQ) (opsAt ops s.fl) a w

theorem anyM_of_plan {effs last : List Nat} {keep : Nat → List Nat} {F : Nat → World → Prop} (hsel : ∀ (j : Nat) (o : Oper) cs b, ops[j]? = some o → o.op ≠ .select cs b) : ∀ (pl : List Stage) (L : Array Bool) (a : Act) (w : World),
    planB ops effs keep last pl L = true → ClosedL ops L → wpPlan P ops F Q last pl a w → anyM P ops (fun e w => keepOK F w (keep e)) Q effs (planLen last pl) L a w
  | [], L, a, w, hB, hcl, h => by
    simp only [planB, Bool.and_eq_true] at hB
    obtain ⟨⟨hB1, hB2⟩, hB3⟩ := hB
    obtain ⟨a1, w1, hr, hok, hq⟩ := ran_of_wpList last L a w hB1 h
    obtain ⟨e1, e2, e3⟩ := floats_lead (A := fun e w => keepOK F w (keep e)) (F := F) (Q := Q) (fun _ _ _ h => h) hsel last L a w a1 w1 0 hB1 hB2 hcl hr hok trivial trivial
    subst e1
    have := e3 ⟨by simpa using hB3, hq⟩
    simpa [planLen] using this
  | s :: r, L, a, w, hB, hcl, h => by
    simp only [planB, Bool.and_eq_true, decide_eq_true_eq] at hB
    obtain ⟨⟨⟨⟨⟨hB1, hB2⟩, hB3⟩, hB4⟩, hB6⟩, hB5⟩ := hB
    obtain ⟨hF, h⟩ := h
    obtain ⟨a1, w1, hr, hok, hlong, hq⟩ := ran_of_wpList s.fl L a w hB1 h
    obtain ⟨e1, e2, e3⟩ := floats_lead (A := fun e w => keepOK F w (keep e)) (F := F) (Q := Q) (fun _ _ _ h => h) hsel s.fl L a w a1 w1 (planLen last r + 1) hB1 hB2 hcl hr hok hlong hF
    subst e1
    refine e3 ?_
    have hmem : s.ef ∈ Region.ready .any ops (listAll L s.fl) := by rw [hB4]; simp
    obtain ⟨_, oe, hoe, _⟩ := mem_ready.1 hmem
    refine anyM_act hoe hB3 hB4 ?_
    have he : opsAt ops [s.ef] = [oe] := by simp [opsAt, hoe]
    rw [he] at hq
    refine wpList_mono_then (fun a2 w2 h2 => ⟨by rw [hB6]; exact h2.1, anyM_of_plan hsel r _ a2 w2 hB5 (e2.set hmem) h2.2⟩) hq

/-- The whole plan fits the region. -/
def planOK (ops : Array Oper) (last : List Nat) (pl : List Stage) : Bool :=
  Region.noSelect ops && planB ops (pl.map (·.ef)) (keepOf pl) last pl (Array.replicate ops.size false) && planLen last pl == ops.size

/-- **A region that draws its order, walked by a plan.** -/
theorem wp_region_plan {id : Nat} {a : Act} {w : World} {l : List Oper} (hm : P.follows .mixedOrders = true) (pl : List Stage) (last : List Nat) (hB : planOK l.toArray last pl = true) (F : Nat → World → Prop)
    (h : wpPlan P l.toArray F Q last pl a w.drew) : (Code.region id l.toArray true).wp P Q a w := by
  simp only [planOK, Bool.and_eq_true, beq_iff_eq] at hB
  obtain ⟨⟨h1, h2⟩, h3⟩ := hB
  have h4 := anyM_of_plan (Region.noSelect_spec h1) pl _ _ _ h2 (ClosedL.start _) h
  rw [h3] at h4
  exact wp_region_any hm (wpAny_of_anyM (effs := pl.map (·.ef)) _ _ _ _ h4)
end
end Go.Proofs.Ytddnpjlcmokbiaa
