/-
  Regions that draw their order, walked by a TREE: where two acts may come up in either order, both ways are walked. The check is by masks.
-/
import Derived.Test.YtpbjompopgdbjaaRegionG
namespace Go.Proofs.Ytpbjompopgdbjaa

/-- Stages; at a fork two acts may come up, and each has its own rest. -/
inductive PlanT where
  | fin (fl : List Nat)
  | one (fl long : List Nat) (e : Nat) (r : PlanT)
  | two (fl long : List Nat) (e1 e2 : Nat) (r1 r2 : PlanT)

def PlanT.len : PlanT → Nat
  | .fin fl => fl.length
  | .one fl _ _ r => fl.length + (r.len + 1)
  | .two fl _ _ _ r1 _ => fl.length + (r1.len + 1)

/-- What is shown anew behind an act. -/
def keepT (ks : List (Nat × List Nat)) (e : Nat) : List Nat :=
  match ks.find? (·.1 == e) with
  | some p => p.2
  | none => []

def treeM (ops : Array Oper) (ms : List Nat) (effs : List Nat) (keep : Nat → List Nat) : PlanT → Array Bool → Bool
  | .fin fl, L => floatsM ops ms effs [] keep fl L && slotsOK ops fl && (Region.ready .any ops (listAll L fl)).isEmpty
  | .one fl long e r, L => floatsM ops ms effs long keep fl L && slotsOK ops fl && effs.contains e && decide (Region.ready .any ops (listAll L fl) = [e]) && treeM ops ms effs keep r ((listAll L fl).setIfInBounds e true)
  | .two fl long e1 e2 r1 r2, L => floatsM ops ms effs long keep fl L && slotsOK ops fl && effs.contains e1 && effs.contains e2 && decide (Region.ready .any ops (listAll L fl) = [e1, e2]) && decide (r1.len = r2.len) &&
      treeM ops ms effs keep r1 ((listAll L fl).setIfInBounds e1 true) && treeM ops ms effs keep r2 ((listAll L fl).setIfInBounds e2 true)

section
variable {P : Program} {ops : Array Oper} {Q : Exit → Act → World → Prop} {effs : List Nat} {A : Nat → World → Prop}

def wpTree (P : Program) (ops : Array Oper) (F : Nat → World → Prop) (Q : Exit → Act → World → Prop) (keep : Nat → List Nat) : PlanT → Act → World → Prop
  | .fin fl, a, w => wpList P ops (Exit.then (fun a1 w1 => floatsOK P ops [] a1 fl = true ∧ Q .normal a1 w1) noQ) (opsAt ops fl) a w
  | .one fl long e r, a, w => keepOK F w long ∧ wpList P ops (Exit.then (fun a1 w1 => floatsOK P ops long a1 fl = true ∧ longOK P ops F a1 long ∧
      wpList P ops (Exit.then (fun a2 w2 => keepOK F w2 (keep e) ∧ wpTree P ops F Q keep r a2 w2) (NQ Q)) (opsAt ops [e]) a1 w1) noQ) (opsAt ops fl) a w
  | .two fl long e1 e2 r1 r2, a, w => keepOK F w long ∧ wpList P ops (Exit.then (fun a1 w1 => floatsOK P ops long a1 fl = true ∧ longOK P ops F a1 long ∧
      wpList P ops (Exit.then (fun a2 w2 => keepOK F w2 (keep e1) ∧ wpTree P ops F Q keep r1 a2 w2) (NQ Q)) (opsAt ops [e1]) a1 w1 ∧
      wpList P ops (Exit.then (fun a2 w2 => keepOK F w2 (keep e2) ∧ wpTree P ops F Q keep r2 a2 w2) (NQ Q)) (opsAt ops [e2]) a1 w1) noQ) (opsAt ops fl) a w

/-- What acts, when nothing but acts can come up. -/
theorem anyM_acts {n : Nat} {L : Array Bool} {a : Act} {w : World} (hr : Region.ready .any ops L ≠ [])
    (h : ∀ i ∈ Region.ready .any ops L, effs.contains i = true ∧ ∀ oi, ops[i]? = some oi → wpList P ops (Exit.then (fun a' w' => A i w' ∧ anyM P ops A Q effs n (L.setIfInBounds i true) a' w') (NQ Q)) [oi] a w) : anyM P ops A Q effs (n + 1) L a w := by
  refine ⟨fun h0 => absurd h0 hr, fun i hj => ?_⟩
  obtain ⟨hie, h⟩ := h i hj
  rw [if_pos hie]
  obtain ⟨_, oi, hi, _⟩ := mem_ready.1 hj
  have h := h oi hi
  unfold wpOp
  rw [hi]
  unfold wpList at h
  split at h
  · rename_i hw
    simp only [hw, if_true]
    refine h.imp (fun h1 => ?_) (fun ⟨h1, a0, w0, h2⟩ => ⟨h1, a0, w0, h2⟩)
    unfold Oper.wp at h1 ⊢
    generalize (execOp a.eval oi).run P w = r at h1 ⊢
    cases r with
    | ok n' w' => cases n' <;> simp only [Oper.upon] at h1 ⊢ <;> exact h1
    | halt x w' => cases x <;> simp only [Oper.upon] at h1 ⊢ <;> exact h1
  · rename_i hw
    simp only [hw]
    exact h

theorem anyM_of_tree {ms : List Nat} {keep : Nat → List Nat} {F : Nat → World → Prop} (hm : masksOK ops ms = true) (hsel : ∀ (j : Nat) (o : Oper) cs b, ops[j]? = some o → o.op ≠ .select cs b) : ∀ (t : PlanT) (L : Array Bool) (a : Act) (w : World),
    treeM ops ms effs keep t L = true → ClosedL ops L → wpTree P ops F Q keep t a w → anyM P ops (fun e w => keepOK F w (keep e)) Q effs t.len L a w
  | .fin fl, L, a, w, hB, hcl, h => by
    simp only [treeM, Bool.and_eq_true] at hB
    obtain ⟨⟨hB1, hB2⟩, hB3⟩ := hB
    have hB1 := floatsM_B hm _ _ hB1
    obtain ⟨a1, w1, hr, hok, hq⟩ := ran_of_wpList fl L a w hB1 h
    obtain ⟨e1, e2, e3⟩ := floats_lead (A := fun e w => keepOK F w (keep e)) (F := F) (Q := Q) (fun _ _ _ h => h) hsel fl L a w a1 w1 0 hB1 hB2 hcl hr hok trivial trivial
    subst e1
    have := e3 ⟨by simpa using hB3, hq⟩
    simpa [PlanT.len] using this
  | .one fl long e r, L, a, w, hB, hcl, h => by
    simp only [treeM, Bool.and_eq_true, decide_eq_true_eq] at hB
    obtain ⟨⟨⟨⟨hB1, hB2⟩, hB3⟩, hB4⟩, hB5⟩ := hB
    have hB1 := floatsM_B hm _ _ hB1
    obtain ⟨hF, h⟩ := h
    obtain ⟨a1, w1, hr, hok, hlong, hq⟩ := ran_of_wpList fl L a w hB1 h
    obtain ⟨e1, e2, e3⟩ := floats_lead (A := fun e w => keepOK F w (keep e)) (F := F) (Q := Q) (fun _ _ _ h => h) hsel fl L a w a1 w1 (r.len + 1) hB1 hB2 hcl hr hok hlong hF
    subst e1
    refine e3 ?_
    refine anyM_acts (by rw [hB4]; exact List.cons_ne_nil _ _) (fun i hi => ?_)
    have hi' := hi
    rw [hB4] at hi
    obtain rfl : i = e := by simpa using hi
    refine ⟨hB3, fun oe hoe => ?_⟩
    have he : opsAt ops [i] = [oe] := by simp [opsAt, hoe]
    rw [he] at hq
    exact wpList_mono_then (fun a2 w2 h2 => ⟨h2.1, anyM_of_tree hm hsel r _ a2 w2 hB5 (e2.set hi') h2.2⟩) hq
  | .two fl long x1 x2 r1 r2, L, a, w, hB, hcl, h => by
    simp only [treeM, Bool.and_eq_true, decide_eq_true_eq] at hB
    obtain ⟨⟨⟨⟨⟨⟨⟨hB1, hB2⟩, hB3⟩, hB3'⟩, hB4⟩, hln⟩, hB5⟩, hB6⟩ := hB
    have hB1 := floatsM_B hm _ _ hB1
    obtain ⟨hF, h⟩ := h
    obtain ⟨a1, w1, hr, hok, hlong, hq1, hq2⟩ := ran_of_wpList fl L a w hB1 h
    obtain ⟨e1, e2, e3⟩ := floats_lead (A := fun e w => keepOK F w (keep e)) (F := F) (Q := Q) (fun _ _ _ h => h) hsel fl L a w a1 w1 (r1.len + 1) hB1 hB2 hcl hr hok hlong hF
    subst e1
    refine e3 ?_
    refine anyM_acts (by rw [hB4]; exact List.cons_ne_nil _ _) (fun i hi => ?_)
    have hi' := hi
    rw [hB4] at hi
    have hi2 : i = x1 ∨ i = x2 := by simpa using hi
    rcases hi2 with rfl | rfl
    · refine ⟨hB3, fun oe hoe => ?_⟩
      have he : opsAt ops [i] = [oe] := by simp [opsAt, hoe]
      rw [he] at hq1
      exact wpList_mono_then (fun a2 w2 h2 => ⟨h2.1, anyM_of_tree hm hsel r1 _ a2 w2 hB5 (e2.set hi') h2.2⟩) hq1
    · refine ⟨hB3', fun oe hoe => ?_⟩
      have he : opsAt ops [i] = [oe] := by simp [opsAt, hoe]
      rw [he] at hq2
      exact wpList_mono_then (fun a2 w2 h2 => ⟨h2.1, by rw [hln]; exact anyM_of_tree hm hsel r2 _ a2 w2 hB6 (e2.set hi') h2.2⟩) hq2

def treeOK (ops : Array Oper) (ms : List Nat) (effs : List Nat) (ks : List (Nat × List Nat)) (t : PlanT) : Bool :=
  masksOK ops ms && Region.noSelect ops && treeM ops ms effs (keepT ks) t (Array.replicate ops.size false) && t.len == ops.size

/-- **A region that draws its order, walked by a tree.** -/
theorem wp_region_tree {id : Nat} {a : Act} {w : World} {l : List Oper} (hm : P.follows .mixedOrders = true) (ms effs : List Nat) (ks : List (Nat × List Nat)) (t : PlanT) (hB : treeOK l.toArray ms effs ks t = true) (F : Nat → World → Prop)
    (h : wpTree P l.toArray F Q (keepT ks) t a w.drew) : (Code.region id l.toArray true).wp P Q a w := by
  simp only [treeOK, Bool.and_eq_true, beq_iff_eq] at hB
  obtain ⟨⟨⟨h0, h1⟩, h2⟩, h3⟩ := hB
  have h4 := anyM_of_tree h0 (Region.noSelect_spec h1) t _ _ _ h2 (ClosedL.start _) h
  rw [h3] at h4
  exact wp_region_any hm (wpAny_of_anyM (effs := effs) _ _ _ _ h4)
end
end Go.Proofs.Ytpbjompopgdbjaa
