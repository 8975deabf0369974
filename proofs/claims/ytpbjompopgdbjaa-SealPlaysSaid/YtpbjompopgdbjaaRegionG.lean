/-
  The plan in two parts again, for great regions: the operations stand as literals only where the walk reads them; the checks behind a stage name them by a letter, and the later stages stay folded.
-/
import Derived.Test.YtpbjompopgdbjaaRegionE
import Derived.Lib.Hide
namespace Go.Proofs.Ytpbjompopgdbjaa

/-! ### Who waits for whom, by masks: the plan's check in a time that does not grow with the number of ways -/
section
variable {ops : Array Oper} {ms : List Nat}

theorem waitsT_more {i : Nat} : ∀ (n m j : Nat), n ≤ m → waitsT ops i n j = true → waitsT ops i m j = true
  | 0, _, _, _, h => by simp [waitsT] at h
  | n + 1, 0, _, hle, _ => absurd hle (by omega)
  | n + 1, m + 1, j, hle, h => by
    unfold waitsT at h ⊢
    cases ho : ops[j]? with
    | none => rw [ho] at h; cases h
    | some o =>
      rw [ho] at h
      simp only at h ⊢
      obtain ⟨e, he, hb⟩ := Array.any_eq_true'.1 h
      simp only [Bool.and_eq_true, Bool.or_eq_true, beq_iff_eq] at hb
      refine Array.any_eq_true'.2 ⟨e, he, ?_⟩
      simp only [Bool.and_eq_true, Bool.or_eq_true, beq_iff_eq]
      exact ⟨hb.1, hb.2.imp id (fun h2 => waitsT_more n m e.on (by omega) h2)⟩

def waitsM (ms : List Nat) (i j : Nat) : Bool := (ms.getD j 0).testBit i
def maskUp (ms : List Nat) : List Edge → Nat
  | [] => 0
  | e :: r => if Region.binds .any e then 2 ^ e.on ||| (ms.getD e.on 0 ||| maskUp ms r) else maskUp ms r
def masksOK (ops : Array Oper) (ms : List Nat) : Bool :=
  (List.range ops.size).all (fun j => match ops[j]? with
    | none => false
    | some o => (o.after.toList.all fun e => !Region.binds .any e || decide (e.on < j)) && (ms.getD j 0 ||| maskUp ms o.after.toList) == maskUp ms o.after.toList) && decide (ms.length ≤ ops.size)

theorem maskUp_spec {i : Nat} : ∀ l : List Edge, (maskUp ms l).testBit i = true → ∃ e ∈ l, Region.binds .any e = true ∧ (e.on = i ∨ waitsM ms i e.on = true)
  | [], h => by simp [maskUp] at h
  | e :: r, h => by
    unfold maskUp at h
    split at h
    · rename_i hb
      rw [Nat.testBit_or, Nat.testBit_or, Nat.testBit_two_pow] at h
      simp only [Bool.or_eq_true, decide_eq_true_eq] at h
      rcases h with h | h | h
      · exact ⟨e, List.mem_cons_self .., hb, .inl h⟩
      · exact ⟨e, List.mem_cons_self .., hb, .inr h⟩
      · obtain ⟨e', he, h2⟩ := maskUp_spec r h
        exact ⟨e', List.mem_cons_of_mem _ he, h2⟩
    · obtain ⟨e', he, h2⟩ := maskUp_spec r h
      exact ⟨e', List.mem_cons_of_mem _ he, h2⟩

theorem masks_sound (hm : masksOK ops ms = true) {i : Nat} : ∀ j, waitsM ms i j = true → j < ops.size ∧ waitsT ops i (j + 1) j = true := by
  intro j
  induction j using Nat.strongRecOn with
  | ind j ih =>
    intro h
    simp only [masksOK, Bool.and_eq_true, decide_eq_true_eq] at hm
    have hj : j < ops.size := by
      rcases Nat.lt_or_ge j ops.size with h1 | h1
      · exact h1
      · unfold waitsM at h
        rw [List.getD, List.getElem?_eq_none (by omega)] at h
        simp at h
    have h1 := List.all_eq_true.1 hm.1 j (List.mem_range.2 hj)
    cases ho : ops[j]? with
    | none => rw [ho] at h1; cases h1
    | some o =>
      rw [ho] at h1
      simp only [Bool.and_eq_true, beq_iff_eq] at h1
      have h2 : (ms.getD j 0 ||| maskUp ms o.after.toList).testBit i = true := by
        rw [Nat.testBit_or]
        unfold waitsM at h
        rw [h]
        rfl
      rw [h1.2] at h2
      obtain ⟨e, he, hb, hw⟩ := maskUp_spec _ h2
      have hlt := List.all_eq_true.1 h1.1 e he
      rw [hb] at hlt
      have hlt : e.on < j := by simpa using hlt
      refine ⟨hj, ?_⟩
      unfold waitsT
      rw [ho]
      refine Array.any_eq_true'.2 ⟨e, Array.mem_toList_iff.1 he, ?_⟩
      simp only [Bool.and_eq_true, Bool.or_eq_true, beq_iff_eq]
      exact ⟨hb, hw.imp id (fun h3 => waitsT_more _ _ _ (by omega) (ih e.on hlt h3).2)⟩

def floatsM (ops : Array Oper) (ms : List Nat) (effs long : List Nat) (keep : Nat → List Nat) : List Nat → Array Bool → Bool
  | [], _ => true
  | i :: r, L => (Region.ready .any ops L).contains i && Region.free .any ops L i && !effs.contains i &&
      (match ops[i]? with
        | none => false
        | some o => valueOp o.op && (if long.contains i then effs.all fun e => L.getD e true || waitsM ms i e || (keep e).contains i else (match o.op with | .load .. => effs.all fun e => L.getD e true || waitsM ms i e | _ => true))) && floatsM ops ms effs long keep r (L.setIfInBounds i true)

theorem waits_B (hm : masksOK ops ms = true) {i e : Nat} {a : Bool} (h : (a || waitsM ms i e) = true) : (a || waitsT ops i ops.size e) = true := by
  simp only [Bool.or_eq_true] at h ⊢
  exact h.imp id (fun h1 => by
    have := masks_sound hm e h1
    exact waitsT_more _ _ _ (by omega) this.2)

theorem floatsM_B (hm : masksOK ops ms = true) {effs long : List Nat} {keep : Nat → List Nat} : ∀ (l : List Nat) (L : Array Bool), floatsM ops ms effs long keep l L = true → floatsB ops effs long keep l L = true
  | [], _, _ => rfl
  | i :: r, L, h => by
    unfold floatsM at h
    unfold floatsB
    simp only [Bool.and_eq_true] at h ⊢
    refine ⟨⟨h.1.1, ?_⟩, floatsM_B hm r _ h.2⟩
    have h1 := h.1.2
    cases ho : ops[i]? with
    | none => rw [ho] at h1; cases h1
    | some o =>
      rw [ho] at h1
      simp only [Bool.and_eq_true] at h1 ⊢
      refine ⟨h1.1, ?_⟩
      have h2 := h1.2
      split
      · rename_i hl
        rw [if_pos hl] at h2
        refine List.all_eq_true.2 fun e he => ?_
        have h3 := List.all_eq_true.1 h2 e he
        simp only [Bool.or_eq_true] at h3 ⊢
        rcases h3 with h3 | h3
        · exact .inl (by simpa using waits_B hm (by simpa using h3))
        · exact .inr h3
      · rename_i hl
        rw [if_neg hl] at h2
        split
        · rename_i ho2
          rw [ho2] at h2
          exact List.all_eq_true.2 fun e he => waits_B hm (List.all_eq_true.1 h2 e he)
        · rfl

def planBM (ops : Array Oper) (ms : List Nat) (effs : List Nat) (keep : Nat → List Nat) (last : List Nat) : List Stage → Array Bool → Bool
  | [], L => floatsM ops ms effs [] keep last L && slotsOK ops last && (Region.ready .any ops (listAll L last)).isEmpty
  | s :: r, L => floatsM ops ms effs s.long keep s.fl L && slotsOK ops s.fl && effs.contains s.ef && decide (Region.ready .any ops (listAll L s.fl) = [s.ef]) && decide (keep s.ef = s.keep) && planBM ops ms effs keep last r ((listAll L s.fl).setIfInBounds s.ef true)
theorem planBM_B (hm : masksOK ops ms = true) {effs last : List Nat} {keep : Nat → List Nat} : ∀ (pl : List Stage) (L : Array Bool), planBM ops ms effs keep last pl L = true → planB ops effs keep last pl L = true
  | [], L, h => by
    unfold planBM at h
    unfold planB
    simp only [Bool.and_eq_true] at h ⊢
    exact ⟨⟨floatsM_B hm _ _ h.1.1, h.1.2⟩, h.2⟩
  | s :: r, L, h => by
    unfold planBM at h
    unfold planB
    simp only [Bool.and_eq_true] at h ⊢
    exact ⟨⟨⟨⟨⟨floatsM_B hm _ _ h.1.1.1.1.1, h.1.1.1.1.2⟩, h.1.1.1.2⟩, h.1.1.2⟩, h.1.2⟩, planBM_B hm r _ h.2⟩
def planOKM (ops : Array Oper) (ms : List Nat) (last : List Nat) (pl : List Stage) : Bool :=
  masksOK ops ms && Region.noSelect ops && planBM ops ms (pl.map (·.ef)) (keepOf pl) last pl (Array.replicate ops.size false) && planLen last pl == ops.size
theorem planOKM_ok {last : List Nat} {pl : List Stage} (h : planOKM ops ms last pl = true) : planOK ops last pl = true := by
  simp only [planOKM, Bool.and_eq_true] at h
  simp only [planOK, Bool.and_eq_true]
  exact ⟨⟨h.1.1.2, planBM_B h.1.1.1 _ _ h.1.2⟩, h.2⟩
end

section
variable {P : Program} {ops : Array Oper} {Q : Exit → Act → World → Prop} {effs : List Nat}

/-- As longOK: what is wanted is asked of the letter. -/
def longOKN (P : Program) (ops opsF : Array Oper) (F : Nat → World → Prop) (a : Act) : List Nat → Prop
  | [] => True
  | i :: r => (match ops[i]? with
      | none => False
      | some o => Region.wanted o (yielded opsF a.tmps) = true → ∀ w, F i w → (execOp a.eval o).run P w = .ok (.value (match o.dst with | some d => a.tmps.getD d undef | none => undef)) w) ∧ longOKN P ops opsF F a r

theorem longOKN_eq (F : Nat → World → Prop) (a : Act) : ∀ l : List Nat, longOKN P ops ops F a l = longOK P ops F a l
  | [] => rfl
  | i :: r => by simp only [longOKN, longOK, longOKN_eq F a r]; rfl

def wpPlanN (P : Program) (ops opsF : Array Oper) (F : Nat → World → Prop) (Q : Exit → Act → World → Prop) (last : List Nat) : List Stage → Act → World → Prop
  | [], a, w => wpList P ops (Exit.then (fun a1 w1 => floatsOK P opsF [] a1 last = true ∧ Q .normal a1 w1) noQ) (opsAt ops last) a w
  | s :: r, a, w => keepOK F w s.long ∧ wpList P ops (Exit.then (fun a1 w1 => floatsOK P opsF s.long a1 s.fl = true ∧ longOKN P ops opsF F a1 s.long ∧
      wpList P ops (Exit.then (fun a2 w2 => keepOK F w2 s.keep ∧ wpPlanN P ops opsF F Q last r a2 w2) (NQ Q)) (opsAt ops [s.ef]) a1 w1) noQ) (opsAt ops s.fl) a w

theorem wpPlanN_eq (F : Nat → World → Prop) (last : List Nat) : ∀ (pl : List Stage) (a : Act) (w : World), wpPlanN P ops ops F Q last pl a w = wpPlan P ops F Q last pl a w
  | [], _, _ => rfl
  | s :: r, a, w => by simp only [wpPlanN, wpPlan, longOKN_eq, wpPlanN_eq F last r]

def wpPlanTN (P : Program) (ops opsF : Array Oper) (Q : Exit → Act → World → Prop) (last : List Nat) (pl2 : List Stage) : List Stage → Act → World → Prop
  | [], a, w => ∃ F : Nat → World → Prop, wpPlanN P ops opsF F Q last pl2 a w
  | s :: r, a, w => wpList P ops (Exit.then (fun a1 w1 => floatsOK P opsF [] a1 s.fl = true ∧
      wpList P ops (Exit.then (fun a2 w2 => wpPlanTN P ops opsF Q last pl2 r a2 w2) (NQ Q)) (opsAt ops [s.ef]) a1 w1) noQ) (opsAt ops s.fl) a w

theorem wpPlanTN_eq (last : List Nat) (pl2 : List Stage) : ∀ (pl : List Stage) (a : Act) (w : World), wpPlanTN P ops ops Q last pl2 pl a w = wpPlanT P ops Q last pl2 pl a w
  | [], a, w => by simp only [wpPlanTN, wpPlanT, wpPlanN_eq]
  | s :: r, a, w => by simp only [wpPlanTN, wpPlanT, wpPlanTN_eq last pl2 r]

/-- The stages, opened one at a time. -/
theorem wpPlanN_nil {opsF : Array Oper} {F : Nat → World → Prop} {last : List Nat} {a : Act} {w : World} (h : wpList P ops (Exit.then (fun a1 w1 => floatsOK P opsF [] a1 last = true ∧ Q .normal a1 w1) noQ) (opsAt ops last) a w) : wpPlanN P ops opsF F Q last [] a w := h
theorem wpPlanN_cons {opsF : Array Oper} {F : Nat → World → Prop} {last : List Nat} {s : Stage} {r : List Stage} {a : Act} {w : World} (h1 : keepOK F w s.long)
    (h : wpList P ops (Exit.then (fun a1 w1 => floatsOK P opsF s.long a1 s.fl = true ∧ longOKN P ops opsF F a1 s.long ∧
      wpList P ops (Exit.then (fun a2 w2 => keepOK F w2 s.keep ∧ wpPlanN P ops opsF F Q last r a2 w2) (NQ Q)) (opsAt ops [s.ef]) a1 w1) noQ) (opsAt ops s.fl) a w) : wpPlanN P ops opsF F Q last (s :: r) a w := ⟨h1, h⟩
theorem wpPlanTN_nil {opsF : Array Oper} {last : List Nat} {pl2 : List Stage} {a : Act} {w : World} (F : Nat → World → Prop) (h : wpPlanN P ops opsF F Q last pl2 a w) : wpPlanTN P ops opsF Q last pl2 [] a w := ⟨F, h⟩
theorem wpPlanTN_cons {opsF : Array Oper} {last : List Nat} {pl2 : List Stage} {s : Stage} {r : List Stage} {a : Act} {w : World}
    (h : wpList P ops (Exit.then (fun a1 w1 => floatsOK P opsF [] a1 s.fl = true ∧
      wpList P ops (Exit.then (fun a2 w2 => wpPlanTN P ops opsF Q last pl2 r a2 w2) (NQ Q)) (opsAt ops [s.ef]) a1 w1) noQ) (opsAt ops s.fl) a w) : wpPlanTN P ops opsF Q last pl2 (s :: r) a w := h

/-- **A region that draws its order, walked by a plan in two parts, its checks by a letter.** -/
theorem wp_region_planN {id : Nat} {a : Act} {w : World} {l : List Oper} (hm : P.follows .mixedOrders = true) (ms : List Nat) (pl pl2 : List Stage) (last : List Nat) (hB : planOKM l.toArray ms last (pl ++ pl2) = true) (hl : ∀ s ∈ pl, s.long = [])
    (h : ∀ opsF : Array Oper, RowKit.Hid (opsF = l.toArray) → wpPlanTN P l.toArray opsF Q last pl2 pl a w.drew) : (Code.region id l.toArray true).wp P Q a w :=
  wp_region_plan2 hm pl pl2 last (planOKM_ok hB) hl (by
    have := h l.toArray (Lib.hid rfl)
    rw [wpPlanTN_eq] at this
    exact this)
end
end Go.Proofs.Ytpbjompopgdbjaa
