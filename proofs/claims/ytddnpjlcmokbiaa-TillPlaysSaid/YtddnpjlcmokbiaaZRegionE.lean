/-
  A plan in two parts: what is asked of the worlds between the acts of the second part may be said when the first part is done.
-/
import Derived.Test.YtddnpjlcmokbiaaRegionC
namespace Go.Proofs.Ytddnpjlcmokbiaa

section
variable {P : Program} {ops : Array Oper} {Q : Exit → Act → World → Prop} {effs : List Nat}

theorem anyM_mono {A B : Nat → World → Prop} (hAB : ∀ i w, A i w → B i w) : ∀ (n : Nat) (L : Array Bool) (a : Act) (w : World), anyM P ops A Q effs n L a w → anyM P ops B Q effs n L a w
  | 0, _, _, _, h => h
  | n + 1, L, a, w, h => ⟨h.1, fun i hi => by
      have h1 := h.2 i hi
      split at h1
      · rename_i he
        rw [if_pos he]
        exact wpOp_mono (fun a' w' h2 => ⟨hAB _ _ h2.1, anyM_mono hAB n _ a' w' h2.2⟩) h1
      · rename_i he
        rw [if_neg he]
        exact stOp_mono (fun a' h2 => anyM_mono hAB n _ a' w h2) h1⟩

theorem keepOK_true (w : World) : ∀ l : List Nat, keepOK (fun _ _ => True) w l
  | [] => trivial
  | _ :: r => ⟨trivial, keepOK_true w r⟩

/-- The first part; behind it the second with what is asked said then. -/
def wpPlanT (P : Program) (ops : Array Oper) (Q : Exit → Act → World → Prop) (last : List Nat) (pl2 : List Stage) : List Stage → Act → World → Prop
  | [], a, w => ∃ F : Nat → World → Prop, wpPlan P ops F Q last pl2 a w
  | s :: r, a, w => wpList P ops (Exit.then (fun a1 w1 => floatsOK P ops [] a1 s.fl = true ∧
      wpList P ops (Exit.then (fun a2 w2 => wpPlanT P ops Q last pl2 r a2 w2) (NQ Q)) (opsAt ops [s.ef]) a1 w1) noQ) (opsAt ops s.fl) a w

theorem anyM_of_planT {effs last : List Nat} {keep : Nat → List Nat} {pl2 : List Stage} (hsel : ∀ (j : Nat) (o : Oper) cs b, ops[j]? = some o → o.op ≠ .select cs b) : ∀ (pl : List Stage) (L : Array Bool) (a : Act) (w : World),
    (∀ s ∈ pl, s.long = []) → planB ops effs keep last (pl ++ pl2) L = true → ClosedL ops L → wpPlanT P ops Q last pl2 pl a w → anyM P ops (fun _ _ => True) Q effs (planLen last (pl ++ pl2)) L a w
  | [], L, a, w, _, hB, hcl, h => by
    obtain ⟨F, h⟩ := h
    exact anyM_mono (fun _ _ _ => trivial) _ _ _ _ (anyM_of_plan (F := F) hsel pl2 L a w hB hcl h)
  | s :: r, L, a, w, hl, hB, hcl, h => by
    have hsl := hl s (List.mem_cons_self ..)
    rw [List.cons_append] at hB ⊢
    simp only [planB, Bool.and_eq_true, decide_eq_true_eq] at hB
    obtain ⟨⟨⟨⟨⟨hB1, hB2⟩, hB3⟩, hB4⟩, hB6⟩, hB5⟩ := hB
    rw [hsl] at hB1
    obtain ⟨a1, w1, hr, hok, hq⟩ := ran_of_wpList s.fl L a w hB1 h
    obtain ⟨e1, e2, e3⟩ := floats_lead (A := fun _ _ => True) (F := fun _ _ => True) (Q := Q) (fun _ _ w _ => keepOK_true w _) hsel s.fl L a w a1 w1 (planLen last (r ++ pl2) + 1) hB1 hB2 hcl hr hok trivial trivial
    subst e1
    refine e3 ?_
    have hmem : s.ef ∈ Region.ready .any ops (listAll L s.fl) := by rw [hB4]; simp
    obtain ⟨_, oe, hoe, _⟩ := mem_ready.1 hmem
    refine anyM_act hoe hB3 hB4 ?_
    have he : opsAt ops [s.ef] = [oe] := by simp [opsAt, hoe]
    rw [he] at hq
    exact wpList_mono_then (fun a2 w2 h2 => ⟨trivial, anyM_of_planT hsel r _ a2 w2 (fun x hx => hl x (List.mem_cons_of_mem _ hx)) hB5 (e2.set hmem) h2⟩) hq

/-- **A region that draws its order, walked by a plan in two parts.** -/
theorem wp_region_plan2 {id : Nat} {a : Act} {w : World} {l : List Oper} (hm : P.follows .mixedOrders = true) (pl pl2 : List Stage) (last : List Nat) (hB : planOK l.toArray last (pl ++ pl2) = true) (hl : ∀ s ∈ pl, s.long = [])
    (h : wpPlanT P l.toArray Q last pl2 pl a w.drew) : (Code.region id l.toArray true).wp P Q a w := by
  simp only [planOK, Bool.and_eq_true, beq_iff_eq] at hB
  obtain ⟨⟨h1, h2⟩, h3⟩ := hB
  have h4 := anyM_of_planT (Region.noSelect_spec h1) pl _ _ _ hl h2 (ClosedL.start _) h
  rw [h3] at h4
  exact wp_region_any hm (wpAny_of_anyM (effs := (pl ++ pl2).map (·.ef)) _ _ _ _ h4)
end
end Go.Proofs.Ytddnpjlcmokbiaa

namespace Go.Proofs.Ytddnpjlcmokbiaa

section
variable {P : Program} {ops : Array Oper} {Q : Exit → Act → World → Prop} {effs : List Nat}

theorem keepOK_mono {F F1 : Nat → World → Prop} (hF : ∀ i w, F i w → F1 i w) (w : World) : ∀ l : List Nat, keepOK F w l → keepOK F1 w l
  | [], _ => trivial
  | _ :: r, h => ⟨hF _ _ h.1, keepOK_mono hF w r h.2⟩

/-- The first part; behind it the second with what is asked said then. -/
def wpPlanU (P : Program) (ops : Array Oper) (F1 : Nat → World → Prop) (Q : Exit → Act → World → Prop) (last : List Nat) (pl2 : List Stage) : List Stage → Act → World → Prop
  | [], a, w => ∃ F : Nat → World → Prop, (∀ i w, F i w → F1 i w) ∧ wpPlan P ops F Q last pl2 a w
  | s :: r, a, w => keepOK F1 w s.long ∧ wpList P ops (Exit.then (fun a1 w1 => floatsOK P ops s.long a1 s.fl = true ∧ longOK P ops F1 a1 s.long ∧
      wpList P ops (Exit.then (fun a2 w2 => keepOK F1 w2 s.keep ∧ wpPlanU P ops F1 Q last pl2 r a2 w2) (NQ Q)) (opsAt ops [s.ef]) a1 w1) noQ) (opsAt ops s.fl) a w

theorem anyM_of_planU {effs last : List Nat} {keep : Nat → List Nat} {F1 : Nat → World → Prop} {pl2 : List Stage} (hsel : ∀ (j : Nat) (o : Oper) cs b, ops[j]? = some o → o.op ≠ .select cs b) : ∀ (pl : List Stage) (L : Array Bool) (a : Act) (w : World),
    planB ops effs keep last (pl ++ pl2) L = true → ClosedL ops L → wpPlanU P ops F1 Q last pl2 pl a w → anyM P ops (fun e w => keepOK F1 w (keep e)) Q effs (planLen last (pl ++ pl2)) L a w
  | [], L, a, w, hB, hcl, h => by
    obtain ⟨F, hF, h⟩ := h
    exact anyM_mono (fun _ w h => keepOK_mono hF w _ h) _ _ _ _ (anyM_of_plan (F := F) hsel pl2 L a w hB hcl h)
  | s :: r, L, a, w, hB, hcl, h => by
    rw [List.cons_append] at hB ⊢
    simp only [planB, Bool.and_eq_true, decide_eq_true_eq] at hB
    obtain ⟨⟨⟨⟨⟨hB1, hB2⟩, hB3⟩, hB4⟩, hB6⟩, hB5⟩ := hB
    obtain ⟨hF, h⟩ := h
    obtain ⟨a1, w1, hr, hok, hlong, hq⟩ := ran_of_wpList s.fl L a w hB1 h
    obtain ⟨e1, e2, e3⟩ := floats_lead (A := fun e w => keepOK F1 w (keep e)) (F := F1) (Q := Q) (fun _ _ _ h => h) hsel s.fl L a w a1 w1 (planLen last (r ++ pl2) + 1) hB1 hB2 hcl hr hok hlong hF
    subst e1
    refine e3 ?_
    have hmem : s.ef ∈ Region.ready .any ops (listAll L s.fl) := by rw [hB4]; simp
    obtain ⟨_, oe, hoe, _⟩ := mem_ready.1 hmem
    refine anyM_act hoe hB3 hB4 ?_
    have he : opsAt ops [s.ef] = [oe] := by simp [opsAt, hoe]
    rw [he] at hq
    exact wpList_mono_then (fun a2 w2 h2 => ⟨by rw [hB6]; exact h2.1, anyM_of_planU hsel r _ a2 w2 hB5 (e2.set hmem) h2.2⟩) hq

/-- **A region that draws its order, walked by a plan in two parts.** -/
theorem wp_region_plan3 {id : Nat} {a : Act} {w : World} {l : List Oper} (hm : P.follows .mixedOrders = true) (pl pl2 : List Stage) (last : List Nat) (hB : planOK l.toArray last (pl ++ pl2) = true) (F1 : Nat → World → Prop)
    (h : wpPlanU P l.toArray F1 Q last pl2 pl a w.drew) : (Code.region id l.toArray true).wp P Q a w := by
  simp only [planOK, Bool.and_eq_true, beq_iff_eq] at hB
  obtain ⟨⟨h1, h2⟩, h3⟩ := hB
  have h4 := anyM_of_planU (Region.noSelect_spec h1) pl _ _ _ h2 (ClosedL.start _) h
  rw [h3] at h4
  exact wp_region_any hm (wpAny_of_anyM (effs := (pl ++ pl2).map (·.ef)) _ _ _ _ h4)
end
end Go.Proofs.Ytddnpjlcmokbiaa
