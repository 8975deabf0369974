/-
  The till as plain mathematics: a booking's moves of one customer (for TillVoid).
-/
import Derived.Test.YtajefffhdeljfaaPurseR
import Derived.Test.YtajefffhdeljfaaTillB
namespace Go.Proofs.Ytajefffhdeljfaa

/-- What a move of booking 150 gives customer 2. -/
def netm (m : Mv) : Int := if m.bk = 150 then (if m.fr = 2 then -m.am else 0) + (if m.to = 2 then m.am else 0) else 0
def net (l : List Mv) : Int := l.foldl (fun s m => s + netm m) 0
theorem net_snoc (l : List Mv) (m : Mv) : net (l ++ [m]) = net l + netm m := by unfold net; rw [List.foldl_append]; rfl
theorem net_take (l : List Mv) (k : Nat) (m : Mv) (h : l[k]? = some m) : net (l.take k) + netm m = net (l.take (k + 1)) := by
  rw [List.take_add_one, h, Option.toList_some, net_snoc]

structure NetI (p : Pur) : Prop where
  n0 : (p.en 150).st = 0 ∨ (p.en 150).st = 3 → net p.ln = 0
  n4 : (p.en 150).st = 4 ∨ (p.en 150).st = 5 → net p.ln = -(p.en 150).am ∧ (p.en 150).cu = 2

theorem NetI.stay {p : Pur} (h : NetI p) (b : Int) : NetI (p.stay b) := by
  have hl : (p.stay b).ln = p.ln := by unfold Pur.stay Pur.set; split <;> rfl
  refine ⟨?_, ?_⟩
  all_goals
    rw [hl, Pur.stay_en]
    by_cases e : (150 : Int) = b ∧ (p.en b).st = 0
    · rw [if_pos e]
      obtain ⟨e1, e2⟩ := e
      have := h.n0 (.inl (by rw [e1]; exact e2))
      simp [Ent.gone, this]
    · rw [if_neg e]
      first
      | exact h.n0
      | exact h.n4

theorem NetI.move {p : Pur} (h : NetI p) {b fr tt am : Int} {e : Ent} (ho : b ≠ 150 ∨ (((e.st = 0 ∨ e.st = 3) ∧ net p.ln + netm ⟨b, fr, tt, am⟩ = 0) ∨ ((e.st = 4 ∨ e.st = 5) ∧ net p.ln + netm ⟨b, fr, tt, am⟩ = -e.am ∧ e.cu = 2))) : NetI (p.move b fr tt am e) := by
  have hl : (p.move b fr tt am e).ln = p.ln ++ [⟨b, fr, tt, am⟩] := rfl
  have hen : (p.move b fr tt am e).en 150 = if (150 : Int) = b then e else p.en 150 := rfl
  refine ⟨?_, ?_⟩
  all_goals
    rw [hl, net_snoc, hen]
    by_cases hb : (150 : Int) = b
    · rw [if_pos hb]
      rcases ho with ho | ⟨h1, h2⟩ | ⟨h1, h2, h3⟩
      · exact absurd hb.symm ho
      · intro hs
        omega
      · intro hs
        omega
    · rw [if_neg hb]
      have hz : netm ⟨b, fr, tt, am⟩ = 0 := by unfold netm; rw [if_neg (fun e => hb e.symm)]
      rw [hz, Int.add_zero]
      first
      | exact h.n0
      | exact h.n4

theorem NetI.act {T : Int} {p : Pur} (h : NetI p) (_hG : p.Good T) (o : POp) (ho : o.bk ≠ 150 ∨ o.kd ≠ 4 ∨ o.cu = 2) : NetI (p.act o).2 := by
  unfold Pur.act
  split
  · exact h
  dsimp only
  split
  · rename_i h1
    refine h.move ?_
    by_cases hb : o.bk = 150
    · right; right
      have hc : o.cu = 2 := by omega
      have hn := h.n0 (.inl (by rw [← hb]; exact h1.2.1))
      refine ⟨.inl rfl, ?_, hc⟩
      simp [netm, hb, hc, hn]
    · exact .inl hb
  split
  · exact h.stay _
  split
  · rename_i h1
    refine h.move ?_
    by_cases hb : o.bk = 150
    · right; right
      have hn := h.n4 (.inl (by rw [← hb]; exact h1.2))
      refine ⟨.inr rfl, ?_, ?_⟩
      · simp [netm, hn.1, hb]
      · simp [hb, hn.2]
    · exact .inl hb
  split
  · exact h.stay _
  split
  · rename_i h1
    refine h.move ?_
    by_cases hb : o.bk = 150
    · right; left
      have hn := h.n4 (.inl (by rw [← hb]; exact h1.2))
      refine ⟨.inr rfl, ?_⟩
      simp [netm, hb, hn.1, hn.2]
      omega
    · exact .inl hb
  split
  · rename_i h1
    refine h.move ?_
    by_cases hb : o.bk = 150
    · right; left
      have hn := h.n4 (.inr (by rw [← hb]; exact h1.2))
      refine ⟨.inr rfl, ?_⟩
      simp [netm, hb, hn.1, hn.2]
      omega
    · exact .inl hb
  split
  · exact h.stay _
  · exact h

theorem mvs_ok {T : Int} {p : Pur} (hG : p.Good T) (o : POp) (h : ∀ m ∈ p.ln, m.OK) : ∀ m ∈ (p.act o).2.ln, m.OK := by
  unfold Pur.act
  split
  · exact h
  rename_i hm
  have hm : mayOp o = true := by cases e : mayOp o <;> simp_all
  have hb := mayOp_bk hm
  have hst : ∀ b, (p.stay b).ln = p.ln := fun b => by unfold Pur.stay Pur.set; split <;> rfl
  have hmv : ∀ (fr tt am : Int) (e : Ent), Mv.OK ⟨o.bk, fr, tt, am⟩ → ∀ m ∈ (p.move o.bk fr tt am e).ln, m.OK := by
    intro fr tt am e hok m hmem
    rcases List.mem_append.1 (show m ∈ p.ln ++ [⟨o.bk, fr, tt, am⟩] from hmem) with h1 | h1
    · exact h m h1
    · rw [List.mem_singleton.1 h1]; exact hok
  dsimp only
  split
  · rename_i h1
    have := mayOp_4 hm h1.1
    exact hmv _ _ _ _ ⟨hb, by simp only; omega, by simp only; omega, by simp only; omega, this.2⟩
  split
  · rw [hst]; exact h
  split
  · rename_i h1
    have := hG.amt o.bk (.inl h1.2)
    exact hmv _ _ _ _ ⟨hb, by simp only; omega, by simp only; omega, by simp only; omega, ⟨this.1, this.2.1⟩⟩
  split
  · rw [hst]; exact h
  split
  · rename_i h1
    have := hG.amt o.bk (.inl h1.2)
    exact hmv _ _ _ _ ⟨hb, by simp only; omega, by simp only; omega, by simp only; omega, ⟨this.1, this.2.1⟩⟩
  split
  · rename_i h1
    have := hG.amt o.bk (.inr h1.2)
    exact hmv _ _ _ _ ⟨hb, by simp only; omega, by simp only; omega, by simp only; omega, ⟨this.1, this.2.1⟩⟩
  split
  · rw [hst]; exact h
  · exact h

/-- What is true in TillVoid's loop; v: was a void asked? -/
structure VoidI (v : Bool) (p : Pur) (f : Tab) : Prop where
  told : ∀ m ∈ p.ln, m.OK
  good : p.Good 4294967296
  net : NetI p
  no : v = false → f (150, 6) = 0
  yes : v = true → p.en 150 = Ent.gone

theorem VoidI.ask {v : Bool} {p : Pur} {f : Tab} (h : VoidI v p f) (o : POp) (ho : o.bk ≠ 150 ∨ (o.kd ≠ 4 ∨ o.cu = 2) ∧ o.kd ≠ 6) : VoidI v (tAsk p f o).2.2.1 (tAsk p f o).2.2.2 := by
  unfold tAsk
  split
  · exact h
  split
  · exact h
  · refine ⟨mvs_ok h.good o h.told, h.good.act o, h.net.act h.good o (by omega), fun hv => ?_, fun hv => (Pur.act_gone (h.yes hv) o).1⟩
    dsimp only
    rw [upd_other _ _ _ _ (fun e => by injection e with e1 e2; omega)]
    exact h.no hv

theorem VoidI.void {v : Bool} {p : Pur} {f : Tab} (h : VoidI v p f) : VoidI true (tAsk p f (voidOp 150)).2.2.1 (tAsk p f (voidOp 150)).2.2.2 := by
  have hm : mayOp (voidOp 150) = true := mayOp_void (by omega)
  by_cases hf : f (150, 6) = 0
  · rw [tAsk_new hm (by decide) hf]
    exact ⟨mvs_ok h.good _ h.told, h.good.act _, h.net.act h.good _ (.inr (.inl (by decide))), (fun hv => by cases hv), fun _ => (Pur.act_void h.good (by omega)).2⟩
  · rw [tAsk_old hm (by decide) hf]
    refine ⟨h.told, h.good, h.net, (fun hv => by cases hv), fun _ => ?_⟩
    cases v with
    | true => exact h.yes rfl
    | false => exact absurd (h.no rfl) hf

theorem VoidI.new : VoidI false (Pur.new (fun _ => 1073741824)) (fun _ => 0) := by
  have hg := Pur.new_good (f := fun _ => 1073741824) (fun _ _ _ => by omega)
  refine ⟨(fun m hm => by cases hm), by simpa using hg, ⟨fun _ => rfl, fun h => ?_⟩, fun _ => rfl, fun h => by cases h⟩
  simp [Pur.new, Ent.none] at h
end Go.Proofs.Ytajefffhdeljfaa
