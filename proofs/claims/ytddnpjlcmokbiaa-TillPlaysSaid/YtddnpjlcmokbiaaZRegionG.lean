/-
  The plan in two parts again, for great regions: the operations stand as literals only where the walk reads them; the checks behind a stage name them by a letter, and the later stages stay folded.
-/
import Derived.Test.YtddnpjlcmokbiaaZRegionE
import Derived.Lib.Hide
namespace Go.Proofs.Ytddnpjlcmokbiaa

/-! ### Who waits for whom, by masks: the plan's check in a time that does not grow with the number of ways -/
section
variable {ops : Array Oper} {ms : List Nat}

theorem waitsT_more {i : Nat} : ∀ (n m j : Nat), n ≤ m → waitsT ops i n j = true → waitsT ops i m j = true
  | 0, _, _, _, h => by simp [waitsT] at h
  | n + 1, 0, _, hle, _ => absurd hle (by omega)
  | n + 1, m + 1, j, hle, h => by
    unfold waitsT at h ⊢
    cases ho : ops[j]? with
    | none => rw [ho] at h; cases h
    | some o =>
      rw [ho] at h
      simp only at h ⊢
      obtain ⟨e, he, hb⟩ := Array.any_eq_true'.1 h
      simp only [Bool.and_eq_true, Bool.or_eq_true, beq_iff_eq] at hb
      refine Array.any_eq_true'.2 ⟨e, he, ?_⟩
      simp only [Bool.and_eq_true, Bool.or_eq_true, beq_iff_eq]
      exact ⟨hb.1, hb.2.imp id (fun h2 => waitsT_more n m e.on (by omega) h2)⟩

def waitsM (ms : List Nat) (i j : Nat) : Bool := (ms.getD j 0).testBit i
def maskUp (ms : List Nat) : List Edge → Nat
  | [] => 0
  | e :: r => if Region.binds .any e then 2 ^ e.on ||| (ms.getD e.on 0 ||| maskUp ms r) else maskUp ms r
def masksOK (ops : Array Oper) (ms : List Nat) : Bool :=
  (List.range ops.size).all (fun j => match ops[j]? with
    | none => false
    | some o => (o.after.toList.all fun e => !Region.binds .any e || decide (e.on < j)) && (ms.getD j 0 ||| maskUp ms o.after.toList) == maskUp ms o.after.toList) && decide (ms.length ≤ ops.size)

theorem maskUp_spec {i : Nat} : ∀ l : List Edge, (maskUp ms l).testBit i = true → ∃ e ∈ l, Region.binds .any e = true ∧ (e.on = i ∨ waitsM ms i e.on = true)
  | [], h => by simp [maskUp] at h
  | e :: r, h => by
    unfold maskUp at h
    split at h
    · rename_i hb
      rw [Nat.testBit_or, Nat.testBit_or, Nat.testBit_two_pow] at h
      simp only [Bool.or_eq_true, decide_eq_true_eq] at h
      rcases h with h | h | h
      · exact ⟨e, List.mem_cons_self .., hb, .inl h⟩
      · exact ⟨e, List.mem_cons_self .., hb, .inr h⟩
      · obtain ⟨e', he, h2⟩ := maskUp_spec r h
        exact ⟨e', List.mem_cons_of_mem _ he, h2⟩
    · obtain ⟨e', he, h2⟩ := maskUp_spec r h
      exact ⟨e', List.mem_cons_of_mem _ he, h2⟩

theorem masks_sound (hm : masksOK ops ms = true) {i : Nat} : ∀ j, waitsM ms i j = true → j < ops.size ∧ waitsT ops i (j + 1) j = true := by
  intro j
  induction j using Nat.strongRecOn with
  | ind j ih =>
    intro h
    simp only [masksOK, Bool.and_eq_true, decide_eq_true_eq] at hm
    have hj : j < ops.size := by
      rcases Nat.lt_or_ge j ops.size with h1 | h1
      · exact h1
      · unfold waitsM at h
        rw [List.getD, List.getElem?_eq_none (by omega)] at h
        simp at h
    have h1 := List.all_eq_true.1 hm.1 j (List.mem_range.2 hj)
    cases ho : ops[j]? with
    | none => rw [ho] at h1; cases h1
    | some o =>
      rw [ho] at h1
      simp only [Bool.and_eq_true, beq_iff_eq] at h1
      have h2 : (ms.getD j 0 ||| maskUp ms o.after.toList).testBit i = true := by
        rw [Nat.testBit_or]
        unfold waitsM at h
        rw [h]
        rfl
      rw [h1.2] at h2
      obtain ⟨e, he, hb, hw⟩ := maskUp_spec _ h2
      have hlt := List.all_eq_true.1 h1.1 e he
      rw [hb] at hlt
      have hlt : e.on < j := by simpa using hlt
      refine ⟨hj, ?_⟩
      unfold waitsT
      rw [ho]
      refine Array.any_eq_true'.2 ⟨e, Array.mem_toList_iff.1 he, ?_⟩
      simp only [Bool.and_eq_true, Bool.or_eq_true, beq_iff_eq]
      exact ⟨hb, hw.imp id (fun h3 => waitsT_more _ _ _ (by omega) (ih e.on hlt h3).2)⟩

def floatsM (ops : Array Oper) (ms : List Nat) (effs long : List Nat) (keep : Nat → List Nat) : List Nat → Array Bool → Bool
  | [], _ => true
  | i :: r, L => (Region.ready .any ops L).contains i && Region.free .any ops L i && !effs.contains i &&
      (match ops[i]? with
        | none => false
        | some o => valueOp o.op && (if long.contains i then effs.all fun e => L.getD e true || waitsM ms i e || (keep e).contains i else (match o.op with | .load .. => effs.all fun e => L.getD e true || waitsM ms i e | _ => true))) && floatsM ops ms effs long keep r (L.setIfInBounds i true)

theorem waits_B (hm : masksOK ops ms = true) {i e : Nat} {a : Bool} (h : (a || waitsM ms i e) = true) : (a || waitsT ops i ops.size e) = true := by
  simp only [Bool.or_eq_true] at h ⊢
  exact h.imp id (fun h1 => by
    have := masks_sound hm e h1
    exact waitsT_more _ _ _ (by omega) this.2)

theorem floatsM_B (hm : masksOK ops ms = true) {effs long : List Nat} {keep : Nat → List Nat} : ∀ (l : List Nat) (L : Array Bool), floatsM ops ms effs long keep l L = true → floatsB ops effs long keep l L = true
  | [], _, _ => rfl
  | i :: r, L, h => by
    unfold floatsM at h
    unfold floatsB
    simp only [Bool.and_eq_true] at h ⊢
    refine ⟨⟨h.1.1, ?_⟩, floatsM_B hm r _ h.2⟩
    have h1 := h.1.2
    cases ho : ops[i]? with
    | none => rw [ho] at h1; cases h1
    | some o =>
      rw [ho] at h1
      simp only [Bool.and_eq_true] at h1 ⊢
      refine ⟨h1.1, ?_⟩
      have h2 := h1.2
      split
      · rename_i hl
        rw [if_pos hl] at h2
        refine List.all_eq_true.2 fun e he => ?_
        have h3 := List.all_eq_true.1 h2 e he
        simp only [Bool.or_eq_true] at h3 ⊢
        rcases h3 with h3 | h3
        · exact .inl (by simpa using waits_B hm (by simpa using h3))
        · exact .inr h3
      · rename_i hl
        rw [if_neg hl] at h2
        split
        · rename_i ho2
          rw [ho2] at h2
          exact List.all_eq_true.2 fun e he => waits_B hm (List.all_eq_true.1 h2 e he)
        · rfl

def planBM (ops : Array Oper) (ms : List Nat) (effs : List Nat) (keep : Nat → List Nat) (last : List Nat) : List Stage → Array Bool → Bool
  | [], L => floatsM ops ms effs [] keep last L && slotsOK ops last && (Region.ready .any ops (listAll L last)).isEmpty
  | s :: r, L => floatsM ops ms effs s.long keep s.fl L && slotsOK ops s.fl && effs.contains s.ef && decide (Region.ready .any ops (listAll L s.fl) = [s.ef]) && decide (keep s.ef = s.keep) && planBM ops ms effs keep last r ((listAll L s.fl).setIfInBounds s.ef true)
theorem planBM_B (hm : masksOK ops ms = true) {effs last : List Nat} {keep : Nat → List Nat} : ∀ (pl : List Stage) (L : Array Bool), planBM ops ms effs keep last pl L = true → planB ops effs keep last pl L = true
  | [], L, h => by
    unfold planBM at h
    unfold planB
    simp only [Bool.and_eq_true] at h ⊢
    exact ⟨⟨floatsM_B hm _ _ h.1.1, h.1.2⟩, h.2⟩
  | s :: r, L, h => by
    unfold planBM at h
    unfold planB
    simp only [Bool.and_eq_true] at h ⊢
    exact ⟨⟨⟨⟨⟨floatsM_B hm _ _ h.1.1.1.1.1, h.1.1.1.1.2⟩, h.1.1.1.2⟩, h.1.1.2⟩, h.1.2⟩, planBM_B hm r _ h.2⟩
def planOKM (ops : Array Oper) (ms : List Nat) (last : List Nat) (pl : List Stage) : Bool :=
  masksOK ops ms && Region.noSelect ops && planBM ops ms (pl.map (·.ef)) (keepOf pl) last pl (Array.replicate ops.size false) && planLen last pl == ops.size
theorem planOKM_ok {last : List Nat} {pl : List Stage} (h : planOKM ops ms last pl = true) : planOK ops last pl = true := by
  simp only [planOKM, Bool.and_eq_true] at h
  simp only [planOK, Bool.and_eq_true]
  exact ⟨⟨h.1.1.2, planBM_B h.1.1.1 _ _ h.1.2⟩, h.2⟩
end

section
variable {P : Program} {ops : Array Oper} {Q : Exit → Act → World → Prop} {effs : List Nat}

/-- As longOK: what is wanted is asked of the letter. -/
def longOKN (P : Program) (ops opsF : Array Oper) (F : Nat → World → Prop) (a : Act) : List Nat → Prop
  | [] => True
  | i :: r => (match ops[i]? with
      | none => False
      | some o => Region.wanted o (yielded opsF a.tmps) = true → ∀ w, F i w → (execOp a.eval o).run P w = .ok (.value (match o.dst with | some d => a.tmps.getD d undef | none => undef)) w) ∧ longOKN P ops opsF F a r

theorem longOKN_eq (F : Nat → World → Prop) (a : Act) : ∀ l : List Nat, longOKN P ops ops F a l = longOK P ops F a l
  | [] => rfl
  | i :: r => by simp only [longOKN, longOK, longOKN_eq F a r]; rfl

def wpPlanN (P : Program) (ops opsF : Array Oper) (F : Nat → World → Prop) (Q : Exit → Act → World → Prop) (last : List Nat) : List Stage → Act → World → Prop
  | [], a, w => wpList P ops (Exit.then (fun a1 w1 => floatsOK P opsF [] a1 last = true ∧ Q .normal a1 w1) noQ) (opsAt ops last) a w
  | s :: r, a, w => keepOK F w s.long ∧ wpList P ops (Exit.then (fun a1 w1 => floatsOK P opsF s.long a1 s.fl = true ∧ longOKN P ops opsF F a1 s.long ∧
      wpList P ops (Exit.then (fun a2 w2 => keepOK F w2 s.keep ∧ wpPlanN P ops opsF F Q last r a2 w2) (NQ Q)) (opsAt ops [s.ef]) a1 w1) noQ) (opsAt ops s.fl) a w

theorem wpPlanN_eq (F : Nat → World → Prop) (last : List Nat) : ∀ (pl : List Stage) (a : Act) (w : World), wpPlanN P ops ops F Q last pl a w = wpPlan P ops F Q last pl a w
  | [], _, _ => rfl
  | s :: r, a, w => by simp only [wpPlanN, wpPlan, longOKN_eq, wpPlanN_eq F last r]

def wpPlanTN (P : Program) (ops opsF : Array Oper) (Q : Exit → Act → World → Prop) (last : List Nat) (pl2 : List Stage) : List Stage → Act → World → Prop
  | [], a, w => ∃ F : Nat → World → Prop, wpPlanN P ops opsF F Q last pl2 a w
  | s :: r, a, w => wpList P ops (Exit.then (fun a1 w1 => floatsOK P opsF [] a1 s.fl = true ∧
      wpList P ops (Exit.then (fun a2 w2 => wpPlanTN P ops opsF Q last pl2 r a2 w2) (NQ Q)) (opsAt ops [s.ef]) a1 w1) noQ) (opsAt ops s.fl) a w

theorem wpPlanTN_eq (last : List Nat) (pl2 : List Stage) : ∀ (pl : List Stage) (a : Act) (w : World), wpPlanTN P ops ops Q last pl2 pl a w = wpPlanT P ops Q last pl2 pl a w
  | [], a, w => by simp only [wpPlanTN, wpPlanT, wpPlanN_eq]
  | s :: r, a, w => by simp only [wpPlanTN, wpPlanT, wpPlanTN_eq last pl2 r]

/-- The stages, opened one at a time. -/
theorem wpPlanN_nil {opsF : Array Oper} {F : Nat → World → Prop} {last : List Nat} {a : Act} {w : World} (h : wpList P ops (Exit.then (fun a1 w1 => floatsOK P opsF [] a1 last = true ∧ Q .normal a1 w1) noQ) (opsAt ops last) a w) : wpPlanN P ops opsF F Q last [] a w := h
theorem wpPlanN_cons {opsF : Array Oper} {F : Nat → World → Prop} {last : List Nat} {s : Stage} {r : List Stage} {a : Act} {w : World} (h1 : keepOK F w s.long)
    (h : wpList P ops (Exit.then (fun a1 w1 => floatsOK P opsF s.long a1 s.fl = true ∧ longOKN P ops opsF F a1 s.long ∧
      wpList P ops (Exit.then (fun a2 w2 => keepOK F w2 s.keep ∧ wpPlanN P ops opsF F Q last r a2 w2) (NQ Q)) (opsAt ops [s.ef]) a1 w1) noQ) (opsAt ops s.fl) a w) : wpPlanN P ops opsF F Q last (s :: r) a w := ⟨h1, h⟩
theorem wpPlanTN_nil {opsF : Array Oper} {last : List Nat} {pl2 : List Stage} {a : Act} {w : World} (F : Nat → World → Prop) (h : wpPlanN P ops opsF F Q last pl2 a w) : wpPlanTN P ops opsF Q last pl2 [] a w := ⟨F, h⟩
theorem wpPlanTN_cons {opsF : Array Oper} {last : List Nat} {pl2 : List Stage} {s : Stage} {r : List Stage} {a : Act} {w : World}
    (h : wpList P ops (Exit.then (fun a1 w1 => floatsOK P opsF [] a1 s.fl = true ∧
      wpList P ops (Exit.then (fun a2 w2 => wpPlanTN P ops opsF Q last pl2 r a2 w2) (NQ Q)) (opsAt ops [s.ef]) a1 w1) noQ) (opsAt ops s.fl) a w) : wpPlanTN P ops opsF Q last pl2 (s :: r) a w := h

/-- **A region that draws its order, walked by a plan in two parts, its checks by a letter.** -/
theorem wp_region_planN {id : Nat} {a : Act} {w : World} {l : List Oper} (hm : P.follows .mixedOrders = true) (ms : List Nat) (pl pl2 : List Stage) (last : List Nat) (hB : planOKM l.toArray ms last (pl ++ pl2) = true) (hl : ∀ s ∈ pl, s.long = [])
    (h : ∀ opsF : Array Oper, RowKit.Hid (opsF = l.toArray) → wpPlanTN P l.toArray opsF Q last pl2 pl a w.drew) : (Code.region id l.toArray true).wp P Q a w :=
  wp_region_plan2 hm pl pl2 last (planOKM_ok hB) hl (by
    have := h l.toArray (Lib.hid rfl)
    rw [wpPlanTN_eq] at this
    exact this)
end
end Go.Proofs.Ytddnpjlcmokbiaa

namespace Go.Proofs.Ytddnpjlcmokbiaa

section
variable {P : Program} {ops : Array Oper} {Q : Exit → Act → World → Prop} {effs : List Nat}

def wpPlanX (P : Program) (ops opsF : Array Oper) (Q : Exit → Act → World → Prop) (last : List Nat) : List Stage → Act → World → Prop
  | [], a, w => wpList P ops (Exit.then (fun a1 w1 => floatsOK P opsF [] a1 last = true ∧ Q .normal a1 w1) noQ) (opsAt ops last) a w
  | s :: r, a, w => ∃ F : Nat → World → Prop, keepOK F w s.long ∧ wpList P ops (Exit.then (fun a1 w1 => floatsOK P opsF s.long a1 s.fl = true ∧ longOKN P ops opsF F a1 s.long ∧
      wpList P ops (Exit.then (fun a2 w2 => keepOK F w2 s.keep ∧ wpPlanX P ops opsF Q last r a2 w2) (NQ Q)) (opsAt ops [s.ef]) a1 w1) noQ) (opsAt ops s.fl) a w
theorem wpPlanX_nil {opsF : Array Oper} {last : List Nat} {a : Act} {w : World} (h : wpList P ops (Exit.then (fun a1 w1 => floatsOK P opsF [] a1 last = true ∧ Q .normal a1 w1) noQ) (opsAt ops last) a w) : wpPlanX P ops opsF Q last [] a w := h
theorem wpPlanX_cons {opsF : Array Oper} (F : Nat → World → Prop) {last : List Nat} {s : Stage} {r : List Stage} {a : Act} {w : World} (h1 : keepOK F w s.long)
    (h : wpList P ops (Exit.then (fun a1 w1 => floatsOK P opsF s.long a1 s.fl = true ∧ longOKN P ops opsF F a1 s.long ∧
      wpList P ops (Exit.then (fun a2 w2 => keepOK F w2 s.keep ∧ wpPlanX P ops opsF Q last r a2 w2) (NQ Q)) (opsAt ops [s.ef]) a1 w1) noQ) (opsAt ops s.fl) a w) : wpPlanX P ops opsF Q last (s :: r) a w := ⟨F, h1, h⟩

/-- No later act shows anew what an earlier stage asked. -/
def planDisj (keep : Nat → List Nat) : List Stage → Bool
  | [] => true
  | s :: r => (r.all fun t => (keep t.ef).all fun i => !s.long.contains i) && planDisj keep r

def onlyF (long : List Nat) (F : Nat → World → Prop) : Nat → World → Prop := fun i w => if long.contains i = true then F i w else True
theorem onlyF_off {long : List Nat} {F : Nat → World → Prop} {w : World} : ∀ l : List Nat, (l.all fun i => !long.contains i) = true → keepOK (onlyF long F) w l
  | [], _ => trivial
  | i :: r, h => by
    simp only [List.all_cons, Bool.and_eq_true] at h
    refine ⟨?_, onlyF_off r h.2⟩
    unfold onlyF
    have h1 := h.1
    cases hc : long.contains i with
    | true => rw [hc] at h1; cases h1
    | false => simp
theorem onlyF_on {long : List Nat} {F : Nat → World → Prop} {w : World} : ∀ l : List Nat, keepOK F w l → keepOK (onlyF long F) w l
  | [], _ => trivial
  | i :: r, h => by
    refine ⟨?_, onlyF_on r h.2⟩
    unfold onlyF
    split
    · exact h.1
    · trivial
theorem onlyF_long {long : List Nat} {F : Nat → World → Prop} {a : Act} : ∀ l : List Nat, (∀ i ∈ l, long.contains i = true) → longOK P ops F a l → longOK P ops (onlyF long F) a l
  | [], _, _ => trivial
  | i :: r, hm, h => by
    refine ⟨?_, onlyF_long r (fun j hj => hm j (List.mem_cons_of_mem _ hj)) h.2⟩
    have h1 := h.1
    cases ho : ops[i]? with
    | none => rw [ho] at h1; exact h1
    | some o =>
      rw [ho] at h1
      intro hw w hF
      refine h1 hw w ?_
      unfold onlyF at hF
      rw [if_pos (hm i (List.mem_cons_self ..))] at hF
      exact hF

theorem anyM_of_planX {effs last : List Nat} {keep : Nat → List Nat} (hsel : ∀ (j : Nat) (o : Oper) cs b, ops[j]? = some o → o.op ≠ .select cs b) : ∀ (pl : List Stage) (A : Nat → World → Prop) (L : Array Bool) (a : Act) (w : World),
    (∀ s ∈ pl, ∀ w, A s.ef w) → planDisj keep pl = true → planB ops effs keep last pl L = true → ClosedL ops L → wpPlanX P ops ops Q last pl a w → anyM P ops A Q effs (planLen last pl) L a w
  | [], A, L, a, w, _, _, hB, hcl, h => by
    simp only [planB, Bool.and_eq_true] at hB
    obtain ⟨⟨hB1, hB2⟩, hB3⟩ := hB
    obtain ⟨a1, w1, hr, hok, hq⟩ := ran_of_wpList last L a w hB1 h
    obtain ⟨e1, e2, e3⟩ := floats_lead (A := A) (F := fun _ _ => True) (Q := Q) (fun _ _ w _ => keepOK_true w _) hsel last L a w a1 w1 0 hB1 hB2 hcl hr hok trivial trivial
    subst e1
    have := e3 ⟨by simpa using hB3, hq⟩
    exact this
  | s :: r, A, L, a, w, hA, hD, hB, hcl, h => by
    simp only [planB, Bool.and_eq_true, decide_eq_true_eq] at hB
    obtain ⟨⟨⟨⟨⟨hB1, hB2⟩, hB3⟩, hB4⟩, hB6⟩, hB5⟩ := hB
    simp only [planDisj, Bool.and_eq_true] at hD
    obtain ⟨F, hk, h⟩ := h
    obtain ⟨a1, w1, hr, hok, hlong, hq⟩ := ran_of_wpList s.fl L a w hB1 h
    rw [longOKN_eq] at hlong
    obtain ⟨e1, e2, e3⟩ := floats_lead (A := fun e w => A e w ∧ keepOK (onlyF s.long F) w (keep e)) (F := onlyF s.long F) (Q := Q) (fun _ _ w h => h.2) hsel s.fl L a w a1 w1 (planLen last r + 1) hB1 hB2 hcl hr hok (onlyF_long s.long (fun i hi => by simpa using hi) hlong) (onlyF_on _ hk)
    subst e1
    refine anyM_mono (A := fun e w => A e w ∧ keepOK (onlyF s.long F) w (keep e)) (fun _ _ h => h.1) _ _ _ _ (e3 ?_)
    have hmem : s.ef ∈ Region.ready .any ops (listAll L s.fl) := by rw [hB4]; simp
    obtain ⟨_, oe, hoe, _⟩ := mem_ready.1 hmem
    refine anyM_act hoe hB3 hB4 ?_
    have he : opsAt ops [s.ef] = [oe] := by simp [opsAt, hoe]
    rw [he] at hq
    refine wpList_mono_then (fun a2 w2 h2 => ⟨⟨hA s (List.mem_cons_self ..) w2, ?_⟩, anyM_of_planX hsel r _ _ a2 w2 (fun x hx w => ⟨hA x (List.mem_cons_of_mem _ hx) w, ?_⟩) hD.2 hB5 (e2.set hmem) h2.2⟩) hq
    · rw [hB6]
      exact onlyF_on _ h2.1
    · exact onlyF_off _ (List.all_eq_true.1 hD.1 x hx)

/-- **A region that draws its order, walked by a plan of as many parts as stages; its checks by a letter.** -/
theorem wp_region_planX {id : Nat} {a : Act} {w : World} {l : List Oper} (hm : P.follows .mixedOrders = true) (ms : List Nat) (pl : List Stage) (last : List Nat) (hB : (planOKM l.toArray ms last pl && planDisj (keepOf pl) pl) = true)
    (h : ∀ opsF : Array Oper, RowKit.Hid (opsF = l.toArray) → wpPlanX P l.toArray opsF Q last pl a w.drew) : (Code.region id l.toArray true).wp P Q a w := by
  rw [Bool.and_eq_true] at hB
  have hB1 := planOKM_ok hB.1
  simp only [planOK, Bool.and_eq_true, beq_iff_eq] at hB1
  obtain ⟨⟨h1, h2⟩, h3⟩ := hB1
  have h4 := anyM_of_planX (Region.noSelect_spec h1) pl (fun _ _ => True) _ _ _ (fun _ _ _ => trivial) hB.2 h2 (ClosedL.start _) (h l.toArray (Lib.hid rfl))
  rw [h3] at h4
  exact wp_region_any hm (wpAny_of_anyM (effs := pl.map (·.ef)) _ _ _ _ h4)
end
end Go.Proofs.Ytddnpjlcmokbiaa
