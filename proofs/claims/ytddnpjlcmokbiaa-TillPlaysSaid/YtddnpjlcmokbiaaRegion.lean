/-
  Regions that draw their order, walked in ONE order: stages of operations that only look ('floats'), each followed by one operation that acts. Floats that must stand ahead of the next act may read what it turns; those that need not are asked in every world of a class F.
-/
import Derived.Still
import Derived.Laws.Sem
import Derived.Laws.Entries
namespace Go.Proofs.Ytddnpjlcmokbiaa

/-! ### What only looks -/
section
variable {P : Program} {α β : Type}

/-- Where it comes to an end the world is as it was. -/
def Keeps (P : Program) (s : Sem α) : Prop := ∀ w x w1, s.run P w = .ok x w1 → w1 = w
/-- Where it comes to an end it comes to the same in every world, and turns none. -/
def Same (P : Program) (s : Sem α) : Prop := ∀ w x w1, s.run P w = .ok x w1 → w1 = w ∧ ∀ w', s.run P w' = .ok x w'

theorem Same.keeps {s : Sem α} (h : Same P s) : Keeps P s := fun w x w1 hr => (h w x w1 hr).1

theorem Keeps.pure (a : α) : Keeps P (Pure.pure a : Sem α) := fun w x w1 h => by
  rw [Sem.run_pure] at h; cases h; rfl
theorem Same.pure (a : α) : Same P (Pure.pure a : Sem α) := fun w x w1 h => by
  rw [Sem.run_pure] at h; cases h; exact ⟨rfl, fun _ => by rw [Sem.run_pure]⟩
theorem Keeps.bind {s : Sem α} {f : α → Sem β} (h : Keeps P s) (hf : ∀ a, Keeps P (f a)) : Keeps P (s >>= f) := fun w x w1 hr => by
  rw [Sem.run_bind] at hr
  cases hs : s.run P w with
  | ok a w2 =>
    rw [hs] at hr
    simp only [Result.andThen_ok] at hr
    have := h w a w2 hs
    subst this
    exact hf a _ _ _ hr
  | halt e w2 => rw [hs] at hr; cases hr
theorem Same.bind {s : Sem α} {f : α → Sem β} (h : Same P s) (hf : ∀ a, Same P (f a)) : Same P (s >>= f) := fun w x w1 hr => by
  rw [Sem.run_bind] at hr
  cases hs : s.run P w with
  | ok a w2 =>
    rw [hs] at hr
    simp only [Result.andThen_ok] at hr
    obtain ⟨h1, h2⟩ := h w a w2 hs
    subst h1
    obtain ⟨h3, h4⟩ := hf a _ _ _ hr
    refine ⟨h3, fun w' => ?_⟩
    rw [Sem.run_bind, h2 w', Result.andThen_ok, h4 w']
  | halt e w2 => rw [hs] at hr; cases hr
theorem Same.program : Same P program := fun w x w1 h => by
  rw [run_program] at h; cases h; exact ⟨rfl, fun _ => by rw [run_program]⟩
theorem Same.stuck (s : String) : Same P (stuck s : Sem α) := fun w x w1 h => by rw [run_stuck] at h; cases h
theorem Same.unsupported (u : Unsupported) : Same P (unsupported u : Sem α) := fun w x w1 h => by rw [run_unsupported] at h; cases h
theorem Same.goPanic (v : Value) : Same P (goPanic v : Sem α) := fun w x w1 h => by rw [run_goPanic] at h; cases h
theorem Same.ite {c : Prop} [Decidable c] {s t : Sem α} (hs : Same P s) (ht : Same P t) : Same P (if c then s else t) := by split <;> assumption
theorem Keeps.ite {c : Prop} [Decidable c] {s t : Sem α} (hs : Keeps P s) (ht : Keeps P t) : Keeps P (if c then s else t) := by split <;> assumption

/-- What never comes to an end comes to the same everywhere. -/
def NoEnd (P : Program) (s : Sem α) : Prop := ∀ w x w1, s.run P w ≠ .ok x w1
theorem NoEnd.same {s : Sem α} (h : NoEnd P s) : Same P s := fun w x w1 hr => absurd hr (h w x w1)
theorem NoEnd.goPanic (v : Value) : NoEnd P (goPanic v : Sem α) := fun w x w1 h => by rw [run_goPanic] at h; cases h
theorem NoEnd.after {s : Sem β} {f : β → Sem α} (hf : ∀ a, NoEnd P (f a)) : NoEnd P (s >>= f) := fun w x w1 hr => by
  rw [Sem.run_bind] at hr
  cases hs : s.run P w with
  | ok a w2 => rw [hs] at hr; exact hf a _ _ _ hr
  | halt e w2 => rw [hs] at hr; cases hr
theorem NoEnd.runtimePanic (e : RuntimeError) : NoEnd P (runtimePanic e : Sem α) := by
  unfold Go.runtimePanic
  refine NoEnd.after fun p => ?_
  cases e <;> first
    | exact NoEnd.goPanic _
    | exact NoEnd.after fun _ => NoEnd.goPanic _
    | exact NoEnd.after fun _ => NoEnd.after fun _ => NoEnd.goPanic _
theorem NoEnd.boundsPanic (k : IntKind) (x y : Int) (c : BoundsCode) : NoEnd P (boundsPanic k x y c : Sem α) := by
  unfold Go.boundsPanic
  dsimp only
  split <;> exact NoEnd.after fun _ => NoEnd.runtimePanic _

theorem Same.underlying (t : TypeId) : Same P (underlying t) := by
  unfold Go.underlying
  refine Same.program.bind fun p => ?_
  split
  · exact Same.pure _
  · exact Same.stuck _
theorem Same.typeInfo (t : TypeId) : Same P (typeInfo t) := by
  unfold Go.typeInfo
  refine Same.program.bind fun p => ?_
  split
  · exact Same.pure _
  · exact Same.stuck _
theorem Same.zeroValue (t : TypeId) : Same P (zeroValue t) := by
  unfold Go.zeroValue
  refine (Same.typeInfo t).bind fun i => ?_
  split
  · exact Same.pure _
  · exact Same.unsupported _
theorem Same.sizeOf (t : TypeId) : Same P (Go.sizeOf t) := by
  unfold Go.sizeOf
  exact (Same.typeInfo t).bind fun _ => Same.pure _
theorem Same.isAgg (t : TypeId) : Same P (isAgg t) := by
  unfold Go.isAgg
  refine (Same.underlying t).bind fun d => ?_
  split <;> exact Same.pure _
theorem Same.part (t : TypeId) (cs : Array Value) (off : Nat) : Same P (part t cs off) := by
  unfold Go.part
  refine (Same.isAgg t).bind fun b => ?_
  split
  · exact (Same.sizeOf t).bind fun _ => Same.pure _
  · split
    · exact Same.pure _
    · exact Same.stuck _
theorem Same.sureAddr (v : Value) : Same P (Instr.sureAddr v) := by
  unfold Instr.sureAddr
  split
  · exact Same.pure _
  · exact Same.stuck _
theorem Same.asIntOf (v : Value) : Same P (asIntOf v) := by
  unfold Go.asIntOf
  split
  · exact Same.pure _
  · exact Same.unsupported _
  · exact Same.stuck _
theorem Same.asAgg (v : Value) : Same P (asAgg v) := by
  unfold Go.asAgg
  split
  · exact Same.pure _
  · exact Same.stuck _
theorem Same.asBool (v : Value) : Same P (asBool v) := by
  unfold Go.asBool
  split
  · exact Same.pure _
  · exact Same.stuck _
theorem Same.mapM {γ : Type} (f : γ → Sem β) (hf : ∀ x, Same P (f x)) : ∀ l : List γ, Same P (l.mapM f)
  | [] => by rw [List.mapM_nil]; exact Same.pure _
  | x :: l => by
    rw [List.mapM_cons]
    exact (hf x).bind fun _ => (Same.mapM f hf l).bind fun _ => Same.pure _
theorem Same.arrMapM {γ : Type} (f : γ → Sem β) (hf : ∀ x, Same P (f x)) (l : Array γ) : Same P (l.mapM f) := by
  rw [Array.mapM_eq_mapM_toList]
  exact Same.bind (f := fun a => Pure.pure a.toArray) (Same.mapM f hf l.toList) (fun _ => Same.pure _)

theorem Keeps.load (a : Addr) (m : Mode) : Keeps P (load a m) := fun w x w1 h => by
  rw [run_load] at h
  split at h
  · cases h; rfl
  · split at h
    · cases h; rfl
    · cases h
theorem Keeps.loadCellsFrom (a : Addr) : ∀ (n i : Nat) (acc : Array Value), Keeps P (loadCellsFrom a i n acc)
  | 0, i, acc => by unfold Go.loadCellsFrom; exact Keeps.pure _
  | n + 1, i, acc => by
    unfold Go.loadCellsFrom
    exact (Keeps.load _ _).bind fun _ => Keeps.loadCellsFrom a n _ _
theorem Keeps.loadAt (t : TypeId) (v : Value) : Keeps P (Instr.loadAt t v) := by
  unfold Instr.loadAt
  refine (Same.sureAddr v).keeps.bind fun a => ?_
  unfold loadVar
  refine (Same.isAgg t).keeps.bind fun b => ?_
  split
  · exact (Same.sizeOf t).keeps.bind fun _ => (Keeps.loadCellsFrom _ _ _ _).bind fun _ => Keeps.pure _
  · exact Keeps.load _ _
theorem Keeps.getObj (r : Nat) : Keeps P (getObj r) := fun w x w1 h => by
  simp only [Go.getObj, Sem.run] at h
  split at h
  · cases h
  · cases h; rfl
  · cases h
end

/-! ### Which operations float: asked of the values that they are handed -/

def isPlainPair : Value → Value → Bool
  | .int _ _, .int _ _ => true
  | .string _, .string _ => true
  | _, _ => false

def isNilPair : Value → Value → Bool
  | .pointer none, .pointer _ => true
  | .pointer _, .pointer none => true
  | _, _ => false

/-- Is the field of some size? -/
def fieldSized (P : Program) (s : TypeId) (f : Nat) : Bool :=
  match P.underlying s with
  | some (.struct fields) => match fields[f]? with
    | some fd => match P.info? fd.type with
      | some i => i.size != 0
      | none => false
    | none => false
  | _ => false

/-- Does the operation, at these values, come to the same in every world? -/
def sameOK (P : Program) (ρ : Operand → Value) (o : Oper) : Bool :=
  match o.op with
  | .move _ | .assign _ | .pick .. | .indexAddr .. | .index .. | .field .. | .extract .. | .build .. | .makeFunc .. => true
  | .fieldAddr s _ f => fieldSized P s f
  | .nilCheck x => match ρ x with | .pointer _ => true | _ => false
  | .unOp .not _ _ => true
  | .binOp op _ x y _ => isPlainPair (ρ x) (ρ y) || ((op == .eql || op == .neq) && isNilPair (ρ x) (ρ y))
  | _ => false

/-- Does it only read? -/
def readOp : Op → Bool
  | .load .. | .lookup .. => true
  | _ => false

theorem BinOp.eql_or {op : BinOp} (h : (op == .eql || op == .neq) = true) : op = .eql ∨ op = .neq := by
  cases op <;> first | exact .inl rfl | exact .inr rfl | (exact absurd h (by decide))

section
variable {P : Program}

theorem Same.value {s : Sem Value} (h : Same P s) : Same P (s >>= fun x => Pure.pure (Next.value x) : Sem Next) := h.bind fun _ => Same.pure _
theorem Keeps.value {s : Sem Value} (h : Keeps P s) : Keeps P (s >>= fun x => Pure.pure (Next.value x) : Sem Next) := h.bind fun _ => Keeps.pure _

theorem run_value_inv {s : Sem Value} {w w1 : World} {n : Next} (h : (s >>= fun x => Pure.pure (Next.value x) : Sem Next).run P w = .ok n w1) : ∃ v, n = .value v := by
  rw [Sem.run_bind] at h
  cases hs : s.run P w with
  | ok a w2 => rw [hs] at h; simp only [Result.andThen_ok, Sem.run_pure] at h; cases h; exact ⟨_, rfl⟩
  | halt e w2 => rw [hs] at h; cases h

theorem Same.eqGuardPlain (op : BinOp) (t : TypeId) (x y : Operand) {a b : Value} (h : isPlainPair a b = true ∨ isNilPair a b = true) : Same P (eqGuard op t x y a b) := by
  have e : eqGuard op t x y a b = (if !(op matches .eql | .neq) then Pure.pure () else Pure.pure () : Sem Unit) := by
    unfold eqGuard
    cases op <;> cases a <;> cases b <;> first | rfl | (rcases h with h | h <;> exact absurd h (by simp [isPlainPair, isNilPair]))
  rw [e]
  split <;> exact Same.pure _

theorem Same.intArith (op : BinOp) (k : IntKind) (a b : Int) : Same P (Op.intArith op k a b) := by
  unfold Op.intArith
  split <;> first | exact Same.pure _ | exact Same.stuck _
theorem Same.intDiv (op : BinOp) (k : IntKind) (a b : Int) : Same P (Op.intDiv op k a b) := by
  unfold Op.intDiv
  repeat' split
  all_goals first | exact Same.pure _ | exact Same.stuck _ | exact (NoEnd.runtimePanic _).same
theorem Same.intBits (op : BinOp) (k : IntKind) (a b : Int) : Same P (Op.intBits op k a b) := by
  unfold Op.intBits
  repeat' split
  all_goals first | exact Same.pure _ | exact Same.stuck _
theorem Same.intCmp (op : BinOp) (a b : Int) : Same P (Op.intCmp op a b) := by
  unfold Op.intCmp
  repeat' split
  all_goals first | exact Same.pure _ | exact Same.stuck _
theorem Same.shift (op : BinOp) (k : IntKind) (a : Int) (yk : IntKind) (b : Int) : Same P (Op.shift op k a yk b) := by
  unfold Op.shift
  repeat' split
  all_goals first | exact Same.pure _ | exact Same.stuck _ | exact (NoEnd.runtimePanic _).same
theorem Same.stringOp (op : BinOp) (a b : ByteArray) : Same P (Op.stringOp op a b) := by
  unfold Op.stringOp
  repeat' split
  all_goals first | exact Same.pure _ | exact Same.stuck _ | exact (NoEnd.runtimePanic _).same | exact Same.unsupported _

theorem Same.fieldAt (s : TypeId) (v : Value) (f : Nat) (h : fieldSized P s f = true) : Same P (Instr.fieldAt s v f) := by
  unfold Instr.fieldAt
  unfold fieldSized at h
  cases hu : P.underlying s with
  | none => rw [hu] at h; cases h
  | some d =>
    rw [hu] at h
    cases d <;> simp only [Bool.false_eq_true] at h
    rename_i fields
    cases hf : fields[f]? with
    | none => rw [hf] at h; cases h
    | some fd =>
      rw [hf] at h
      simp only at h
      cases hi : P.info? fd.type with
      | none => rw [hi] at h; cases h
      | some i =>
        rw [hi] at h
        have hz : i.size ≠ 0 := by simpa using h
        have hfp : ∀ a, fieldPlace a fd = (Go.sizeOf fd.type >>= fun n => if n = 0 then partAt a fd.offset fd.byteOffset else Pure.pure (a.add fd.offset)) := fun _ => rfl
        intro w x w1 hr
        rw [Sem.run_bind, run_underlying hu, Result.andThen_ok] at hr
        simp only [hf] at hr
        have hs : Same P (Instr.sureAddr v >>= fun a => (Pure.pure (Value.pointer (some (a.add fd.offset))) : Sem Value)) := (Same.sureAddr v).bind fun _ => Same.pure _
        have e : ∀ w, (Instr.sureAddr v >>= fun a => fieldPlace a fd >>= fun p => (Pure.pure (Value.pointer (some p)) : Sem Value)).run P w = (Instr.sureAddr v >>= fun a => (Pure.pure (Value.pointer (some (a.add fd.offset))) : Sem Value)).run P w := by
          intro w
          simp only [Sem.run_bind]
          congr 1
          funext a w'
          rw [hfp]
          simp [Go.sizeOf, Go.typeInfo, hi, hz]
        rw [e] at hr
        obtain ⟨h1, h2⟩ := hs w x w1 hr
        refine ⟨h1, fun w' => ?_⟩
        rw [Sem.run_bind, run_underlying hu, Result.andThen_ok]
        simp only [hf]
        rw [e]
        exact h2 w'

theorem Same.indexAt (t : TypeId) (x i : Value) : Same P (Instr.indexAt t x i) := by
  unfold Instr.indexAt
  refine (Same.asIntOf i).bind fun ki => ?_
  refine (Same.underlying t).bind fun d => ?_
  have rest : ∀ r : Option Addr × Nat × TypeId, Same P (match r with
      | (base, len, elem) => (do
        let d' ← Go.underlying t
        let tiny : Bool := decide (len ≤ 1) && (match d' with | .array .. => true | _ => false)
        match base with
          | some a =>
            if 0 ≤ ki.snd ∧ ki.snd < (len : Int) then do
              let n ← Go.sizeOf elem
              Pure.pure (Value.pointer (some (a.add (ki.snd.toNat * n))))
            else if tiny = true then Go.unsupported (Unsupported.noEntry "op/indexAddr.an index out of range at an array of length 0 or 1 (ledger 616)")
              else boundsPanic ki.fst ki.snd (len : Int) BoundsCode.index
          | none => boundsPanic ki.fst ki.snd 0 BoundsCode.index : Sem Value)) := by
    rintro ⟨base, len, elem⟩
    refine (Same.underlying t).bind fun d' => ?_
    dsimp only
    cases base with
    | some a => refine Same.ite ((Same.sizeOf _).bind fun _ => Same.pure _) (Same.ite (Same.unsupported _) (NoEnd.boundsPanic _ _ _ _).same)
    | none => exact (NoEnd.boundsPanic _ _ _ _).same
  dsimp only
  split
  · exact (Same.sureAddr x).bind fun _ => (Same.pure _).bind rest
  · exact (Same.pure _).bind rest
  · exact (Same.stuck _).bind rest

theorem Same.index (t : TypeId) (x i : Value) : Same P (Instr.index t x i) := by
  unfold Instr.index
  refine (Same.asIntOf i).bind fun ki => ?_
  refine (Same.underlying t).bind fun d => ?_
  split
  · exact Same.ite ((Same.sizeOf _).bind fun _ => Same.part _ _ _) (NoEnd.boundsPanic _ _ _ _).same
  · split
    · exact Same.pure _
    · exact (NoEnd.boundsPanic _ _ _ _).same
  · exact Same.stuck _

theorem Same.field (t : TypeId) (x : Value) (f : Nat) : Same P (Instr.field t x f) := by
  unfold Instr.field
  refine (Same.underlying t).bind fun d => ?_
  split
  · split
    · exact (Same.asAgg x).bind fun _ => Same.part _ _ _
    · exact Same.stuck _
  · exact Same.stuck _

theorem Same.extract (x : Value) (i : Nat) : Same P (Instr.extract x i) := by
  unfold Instr.extract
  split
  · split
    · exact Same.pure _
    · exact Same.stuck _
  · exact Same.stuck _

theorem Same.build (t : TypeId) (ps : Array (Nat × Value)) : Same P (Instr.build t ps) := by
  unfold Instr.build
  refine (Same.zeroValue t).bind fun z => ?_
  refine (Same.underlying t).bind fun d => ?_
  split
  · refine (Same.arrMapM _ (fun f => (Same.sizeOf _).bind fun _ => Same.pure _) _).bind fun places => ?_
    split
    · exact Same.pure _
    · exact Same.stuck _
  · refine (Same.sizeOf _).bind fun n => ?_
    split
    · exact Same.pure _
    · exact Same.stuck _
  · exact Same.stuck _

theorem Same.binOpPlain (op : BinOp) (t : TypeId) {a b : Value} (h : isPlainPair a b = true) : Same P (binOp op t a b) := by
  cases a <;> cases b <;> first | (simp [isPlainPair] at h; done) | skip
  · cases op <;> simp only [binOp] <;> repeat' split
    all_goals first | exact Same.stuck _ | exact Same.intArith _ _ _ _ | exact Same.intDiv _ _ _ _ | exact Same.intBits _ _ _ _ | exact Same.intCmp _ _ _ | exact Same.shift _ _ _ _ _
  · cases op <;> simp only [binOp] <;> exact Same.stringOp _ _ _

theorem Same.equalNil (t : TypeId) {a b : Value} (h : isNilPair a b = true) : Same P (Op.equal t a b) := by
  unfold Op.equal Op.maxDepth
  cases a with
  | pointer p =>
    cases b with
    | pointer q =>
      show Same P (Op.equalIn (9999 + 1) t _ _)
      unfold Op.equalIn
      refine (Same.underlying t).bind fun d => ?_
      cases p with
      | none =>
        cases q with
        | none => cases d <;> first | exact Same.pure _ | exact Same.stuck _ | exact Same.unsupported _
        | some q => cases d <;> first | exact Same.pure _ | exact Same.stuck _ | exact Same.unsupported _
      | some p =>
        cases q with
        | none => cases d <;> first | exact Same.pure _ | exact Same.stuck _ | exact Same.unsupported _
        | some q => exact absurd h (by simp [isNilPair])
    | _ => cases p <;> exact absurd h (by simp [isNilPair])
  | _ => exact absurd h (by simp [isNilPair])

theorem same_of {ρ : Operand → Value} {o : Oper} (h : sameOK P ρ o = true) : Same P (execOp ρ o) ∧ ∀ w n w1, (execOp ρ o).run P w = .ok n w1 → ∃ v, n = .value v := by
  obtain ⟨dst, op, type, pos, after, guard⟩ := o
  cases op <;> first | (simp [sameOK] at h; done) | skip
  case move x => exact ⟨Same.pure _, fun w n w1 h => by simp only [execOp, Sem.run_pure] at h; cases h; exact ⟨_, rfl⟩⟩
  case assign x => exact ⟨Same.pure _, fun w n w1 h => by simp only [execOp, Sem.run_pure] at h; cases h; exact ⟨_, rfl⟩⟩
  case pick c a b =>
    refine ⟨(Same.asBool _).bind fun _ => Same.pure _, fun w n w1 h => ?_⟩
    change ((asBool (ρ c)) >>= fun b' => Pure.pure (Next.value (if b' then ρ a else ρ b)) : Sem Next).run P w = _ at h
    rw [Sem.run_bind] at h
    cases hs : (asBool (ρ c)).run P w with
    | ok x w2 => rw [hs] at h; simp only [Result.andThen_ok, Sem.run_pure] at h; cases h; exact ⟨_, rfl⟩
    | halt e w2 => rw [hs] at h; cases h
  case build t ps => exact ⟨(Same.build _ _).value, fun w n w1 h => run_value_inv h⟩
  case nilCheck x =>
    simp only [sameOK] at h
    cases hx : ρ x <;> rw [hx] at h <;> first | cases h | skip
    rename_i p
    cases p with
    | none =>
      have e : execOp ρ { dst, op := .nilCheck x, type, pos, after, guard } = runtimePanic .nilDeref := by simp only [execOp, hx]
      rw [e]
      exact ⟨(NoEnd.runtimePanic _).same, fun w n w1 h => absurd h (NoEnd.runtimePanic _ w n w1)⟩
    | some q =>
      have e : execOp ρ { dst, op := .nilCheck x, type, pos, after, guard } = Pure.pure (.value (.pointer (some q))) := by simp only [execOp, hx]
      rw [e]
      exact ⟨Same.pure _, fun w n w1 h => by simp only [Sem.run_pure] at h; cases h; exact ⟨_, rfl⟩⟩
  case binOp op t x y yt =>
    simp only [sameOK, Bool.or_eq_true, Bool.and_eq_true] at h
    refine ⟨Same.value (s := do eqGuard op t x y (ρ x) (ρ y); binOp op t (ρ x) (ρ y)) ?_, fun w n w1 h => run_value_inv (s := do eqGuard op t x y (ρ x) (ρ y); binOp op t (ρ x) (ρ y)) h⟩
    refine (Same.eqGuardPlain op t x y (h.imp id And.right)).bind fun _ => ?_
    rcases h with h | ⟨h1, h2⟩
    · exact Same.binOpPlain op t h
    · have hh : op = .eql ∨ op = .neq := BinOp.eql_or (by simpa using h1)
      have hp : ∃ p q, ρ x = .pointer p ∧ ρ y = .pointer q := by
        cases hx : ρ x <;> cases hy : ρ y <;> rw [hx, hy] at h2 <;> first | exact ⟨_, _, rfl, rfl⟩ | (simp [isNilPair] at h2; done)
      obtain ⟨p, q, hx, hy⟩ := hp
      rw [hx, hy] at h2 ⊢
      rcases hh with rfl | rfl
      · have e : binOp .eql t (.pointer p) (.pointer q) = (Op.equal t (.pointer p) (.pointer q) >>= fun b => Pure.pure (.bool b)) := by rfl
        rw [e]
        exact (Same.equalNil t h2).bind fun _ => Same.pure _
      · have e : binOp .neq t (.pointer p) (.pointer q) = (Op.equal t (.pointer p) (.pointer q) >>= fun b => Pure.pure (.bool !b)) := by rfl
        rw [e]
        exact (Same.equalNil t h2).bind fun _ => Same.pure _
  case unOp op t x =>
    cases op <;> first | (simp [sameOK] at h; done) | skip
    refine ⟨Same.value (s := Op.unary .not (ρ x)) ?_, fun w n w1 h => run_value_inv (s := Op.unary .not (ρ x)) h⟩
    unfold Op.unary
    split <;> first | exact Same.pure _ | exact Same.stuck _ | exact Same.unsupported _ | (rename_i h1; cases h1)
  case makeFunc fn f c => exact ⟨(show Same P (Instr.makeFunc fn _ _) from Same.pure _).value, fun w n w1 h => run_value_inv h⟩
  case fieldAddr s x f => exact ⟨(Same.fieldAt _ _ _ (by simpa [sameOK] using h)).value, fun w n w1 h => run_value_inv h⟩
  case field s x f => exact ⟨(Same.field _ _ _).value, fun w n w1 h => run_value_inv h⟩
  case indexAddr t x i => exact ⟨(Same.indexAt _ _ _).value, fun w n w1 h => run_value_inv h⟩
  case index t x i => exact ⟨(Same.index _ _ _).value, fun w n w1 h => run_value_inv h⟩
  case extract x i => exact ⟨(Same.extract _ _).value, fun w n w1 h => run_value_inv h⟩

theorem Keeps.findAsking (hq : ∀ t a b, Keeps P (Op.equal t a b)) (t : TypeId) (k : Value) : ∀ (es : List MapEntry) (i : Nat), Keeps P (Instr.findAsking t k es i)
  | [], i => by unfold Instr.findAsking; exact Keeps.pure _
  | e :: es, i => by
    unfold Instr.findAsking
    refine (hq _ _ _).bind fun b => ?_
    split
    · exact Keeps.pure _
    · exact Keeps.findAsking hq t k es _
end
end Go.Proofs.Ytddnpjlcmokbiaa
