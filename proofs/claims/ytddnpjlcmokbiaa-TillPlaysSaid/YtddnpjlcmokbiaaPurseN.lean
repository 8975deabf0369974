/-
  The purse as plain mathematics: what stays true whatever is asked.
-/
import Derived.Test.YtddnpjlcmokbiaaPurseM
namespace Go.Proofs.Ytddnpjlcmokbiaa

/-- Totals over the bookings 1..n. -/
def tot (g : Int → Int) : Nat → Int
  | 0 => 0
  | n + 1 => tot g n + g (n + 1 : Nat)

theorem tot_upd_out (g : Int → Int) (b v : Int) : ∀ n : Nat, (b < 1 ∨ n < b) → tot (fun i => if i = b then v else g i) n = tot g n
  | 0, _ => rfl
  | n + 1, h => by
    unfold tot
    rw [tot_upd_out g b v n (by omega), if_neg (by omega)]

theorem tot_upd (g : Int → Int) (b v : Int) : ∀ n : Nat, 1 ≤ b → b ≤ n → tot (fun i => if i = b then v else g i) n = tot g n + (v - g b)
  | 0, h1, h2 => by omega
  | n + 1, h1, h2 => by
    unfold tot
    by_cases e : ((n + 1 : Nat) : Int) = b
    · rw [tot_upd_out g b v n (by omega), if_pos e, e]; omega
    · rw [tot_upd g b v n h1 (by omega), if_neg e]; omega

theorem tot_pos (g : Int → Int) (h : ∀ i, 0 ≤ g i) : ∀ n, 0 ≤ tot g n
  | 0 => Int.le_refl _
  | n + 1 => by unfold tot; have := tot_pos g h n; have := h (n + 1 : Nat); omega

theorem tot_zero : ∀ n, tot (fun _ => 0) n = 0
  | 0 => rfl
  | n + 1 => by unfold tot; rw [tot_zero n]; rfl

theorem tot_ge (g : Int → Int) (h : ∀ i, 0 ≤ g i) (b : Int) : ∀ n : Nat, 1 ≤ b → b ≤ n → g b ≤ tot g n
  | 0, h1, h2 => by omega
  | n + 1, h1, h2 => by
    unfold tot
    by_cases e : ((n + 1 : Nat) : Int) = b
    · have := tot_pos g h n; rw [e]; omega
    · have := tot_ge g h b n h1 (by omega); have := h (n + 1 : Nat); omega

/-- What a booking has in state s. -/
def Ent.inn (s : Int) (e : Ent) : Int := if e.st = s then e.am else 0

/-- What stays true of a purse that began with T. -/
structure Pur.Good (T : Int) (p : Pur) : Prop where
  pos : ∀ i, 0 ≤ i → i ≤ 3 → 0 ≤ p.ac i
  sum : p.ac 0 + p.ac 1 + p.ac 2 + p.ac 3 + p.ac 4 + p.ac 5 = T
  res : p.ac 4 = tot (fun b => (p.en b).inn 4) 200
  tak : p.ac 5 = tot (fun b => (p.en b).inn 5) 200
  sts : ∀ b, (p.en b).st = 0 ∨ (p.en b).st = 3 ∨ (p.en b).st = 4 ∨ (p.en b).st = 5
  non : ∀ b, (p.en b).st = 0 → p.en b = Ent.none
  gon : ∀ b, (p.en b).st = 3 → p.en b = Ent.gone
  amt : ∀ b, (p.en b).st = 4 ∨ (p.en b).st = 5 → 0 ≤ (p.en b).am ∧ (p.en b).am ≤ 1099511627776 ∧ 0 ≤ (p.en b).cu ∧ (p.en b).cu ≤ 3
  key : ∀ b, (p.en b).st ≠ 0 → 1 ≤ b ∧ b ≤ 200

variable {T : Int} {p : Pur} {o : POp}

theorem Pur.Good.inn (h : p.Good T) (s : Int) (hs : s = 4 ∨ s = 5) (b : Int) : 0 ≤ (p.en b).inn s := by
  unfold Ent.inn
  split
  · have := (h.amt b (by omega)).1; omega
  · exact Int.le_refl _

theorem Pur.Good.bounds (h : p.Good T) : ∀ i, 0 ≤ i → i ≤ 5 → 0 ≤ p.ac i ∧ p.ac i ≤ T := by
  have h4 : 0 ≤ p.ac 4 := by rw [h.res]; exact tot_pos _ (h.inn 4 (.inl rfl)) _
  have h5 : 0 ≤ p.ac 5 := by rw [h.tak]; exact tot_pos _ (h.inn 5 (.inr rfl)) _
  have := h.sum
  have h0 := h.pos 0 (by omega) (by omega)
  have h1 := h.pos 1 (by omega) (by omega)
  have h2 := h.pos 2 (by omega) (by omega)
  have h3 := h.pos 3 (by omega) (by omega)
  intro i hi hj
  have : i = 0 ∨ i = 1 ∨ i = 2 ∨ i = 3 ∨ i = 4 ∨ i = 5 := by omega
  rcases this with rfl | rfl | rfl | rfl | rfl | rfl <;> omega

theorem Pur.Good.held (h : p.Good T) {b : Int} (s : Int) (hs : s = 4 ∨ s = 5) (he : (p.en b).st = s) : (p.en b).am ≤ p.ac s := by
  have hk := h.key b (by omega)
  have := tot_ge (fun b => (p.en b).inn s) (h.inn s hs) b 200 hk.1 hk.2
  have hi : (p.en b).inn s = (p.en b).am := by unfold Ent.inn; rw [if_pos he]
  rcases hs with rfl | rfl
  · rw [h.res]; omega
  · rw [h.tak]; omega

theorem mayOp_bk (h : mayOp o = true) : 1 ≤ o.bk ∧ o.bk ≤ 200 := by
  unfold mayOp at h; simp at h; omega
theorem mayOp_kd (h : mayOp o = true) : 1 ≤ o.kd ∧ o.kd ≤ 6 := by
  unfold mayOp at h; simp at h; omega
theorem mayOp_4 (h : mayOp o = true) (h4 : o.kd = 4) : (0 ≤ o.cu ∧ o.cu ≤ 3) ∧ 0 ≤ o.am ∧ o.am ≤ 1099511627776 := by
  unfold mayOp at h; simp [h4] at h; omega

theorem inn_upd (en : Int → Ent) (b : Int) (e : Ent) (s : Int) : (fun i => Ent.inn s (if i = b then e else en i)) = fun i => if i = b then e.inn s else (en i).inn s := by
  funext i; split <;> rfl

theorem Pur.Good.setGone (h : p.Good T) {b : Int} (hb : 1 ≤ b ∧ b ≤ 200) (h0 : (p.en b).st = 0) : (p.set b Ent.gone).Good T := by
  refine ⟨h.pos, h.sum, ?_, ?_, ?_, ?_, ?_, ?_, ?_⟩
  · show p.ac 4 = tot (fun i => Ent.inn 4 (if i = b then Ent.gone else p.en i)) 200
    rw [inn_upd, tot_upd _ _ _ _ hb.1 hb.2, h.res]; simp [Ent.inn, h0, Ent.gone]
  · show p.ac 5 = tot (fun i => Ent.inn 5 (if i = b then Ent.gone else p.en i)) 200
    rw [inn_upd, tot_upd _ _ _ _ hb.1 hb.2, h.tak]; simp [Ent.inn, h0, Ent.gone]
  all_goals
    intro i
    simp only [Pur.set]
    by_cases e : i = b
    · rw [if_pos e]; simp [Ent.gone, e]
      try omega
    · rw [if_neg e]
      first
      | exact h.sts i
      | exact h.non i
      | exact h.gon i
      | exact h.amt i
      | exact h.key i

theorem Pur.Good.stay (h : p.Good T) {b : Int} (hb : 1 ≤ b ∧ b ≤ 200) : (p.stay b).Good T := by
  unfold Pur.stay
  split
  · exact h.setGone hb (by assumption)
  · exact h

theorem Pur.Good.goAuth (h : p.Good T) {b cu am un til : Int} (hb : 1 ≤ b ∧ b ≤ 200) (h0 : (p.en b).st = 0) (hc : 0 ≤ cu ∧ cu ≤ 3) (ha : 0 ≤ am ∧ am ≤ 1099511627776) (hh : am ≤ p.ac cu) : (p.move b cu 4 am ⟨4, un, til, cu, am⟩).Good T := by
  have hs := h.sum
  refine ⟨?_, ?_, ?_, ?_, ?_, ?_, ?_, ?_, ?_⟩
  · intro i h1 h2
    have := h.pos i h1 h2
    simp only [Pur.move, mvd]
    rw [if_neg (by omega)]
    split
    · omega
    · exact this
  · simp only [Pur.move, mvd]
    have : cu = 0 ∨ cu = 1 ∨ cu = 2 ∨ cu = 3 := by omega
    rcases this with rfl | rfl | rfl | rfl <;> simp <;> omega
  · show mvd p.ac cu 4 am 4 = tot (fun i => Ent.inn 4 (if i = b then ⟨4, un, til, cu, am⟩ else p.en i)) 200
    rw [inn_upd, tot_upd _ _ _ _ hb.1 hb.2, ← h.res]; simp [Ent.inn, h0, mvd]
  · show mvd p.ac cu 4 am 5 = tot (fun i => Ent.inn 5 (if i = b then ⟨4, un, til, cu, am⟩ else p.en i)) 200
    rw [inn_upd, tot_upd _ _ _ _ hb.1 hb.2, ← h.tak]; simp [Ent.inn, h0, mvd]; intro; omega
  all_goals
    intro i
    simp only [Pur.move]
    by_cases e : i = b
    · rw [if_pos e]; simp [Ent.gone, e]
      try omega
    · rw [if_neg e]
      first
      | exact h.sts i
      | exact h.non i
      | exact h.gon i
      | exact h.amt i
      | exact h.key i

theorem Pur.Good.goCapt (h : p.Good T) {b un til : Int} (h4 : (p.en b).st = 4) : (p.move b 4 5 (p.en b).am ⟨5, un, til, (p.en b).cu, (p.en b).am⟩).Good T := by
  have hb := h.key b (by omega)
  have ha := h.amt b (.inl h4)
  have hs := h.sum
  refine ⟨?_, ?_, ?_, ?_, ?_, ?_, ?_, ?_, ?_⟩
  · intro i h1 h2
    have := h.pos i h1 h2
    simp only [Pur.move, mvd]
    rw [if_neg (by omega), if_neg (by omega)]
    exact this
  · simp only [Pur.move, mvd]
    simp; omega
  · show mvd p.ac 4 5 (p.en b).am 4 = tot (fun i => Ent.inn 4 (if i = b then ⟨5, un, til, (p.en b).cu, (p.en b).am⟩ else p.en i)) 200
    rw [inn_upd, tot_upd _ _ _ _ hb.1 hb.2, ← h.res]; simp [Ent.inn, h4, mvd]; omega
  · show mvd p.ac 4 5 (p.en b).am 5 = tot (fun i => Ent.inn 5 (if i = b then ⟨5, un, til, (p.en b).cu, (p.en b).am⟩ else p.en i)) 200
    rw [inn_upd, tot_upd _ _ _ _ hb.1 hb.2, ← h.tak]; simp [Ent.inn, h4, mvd]
  all_goals
    intro i
    simp only [Pur.move]
    by_cases e : i = b
    · rw [if_pos e]; simp [Ent.gone, e]
      try omega
    · rw [if_neg e]
      first
      | exact h.sts i
      | exact h.non i
      | exact h.gon i
      | exact h.amt i
      | exact h.key i

theorem Pur.Good.goVoid (h : p.Good T) {b : Int} (s : Int) (hss : s = 4 ∨ s = 5) (h4 : (p.en b).st = s) : (p.move b s (p.en b).cu (p.en b).am Ent.gone).Good T := by
  have hb := h.key b (by omega)
  have ha := h.amt b (by omega)
  have hs := h.sum
  have hcu : (p.en b).cu = 0 ∨ (p.en b).cu = 1 ∨ (p.en b).cu = 2 ∨ (p.en b).cu = 3 := by omega
  refine ⟨?_, ?_, ?_, ?_, ?_, ?_, ?_, ?_, ?_⟩
  · intro i h1 h2
    have := h.pos i h1 h2
    simp only [Pur.move, mvd]
    split
    · rename_i e; rw [← e]; omega
    · rw [if_neg (by omega)]; exact this
  · simp only [Pur.move, mvd]
    rcases hss with rfl | rfl <;> rcases hcu with e | e | e | e <;> rw [e] <;> simp <;> omega
  · show mvd p.ac s (p.en b).cu (p.en b).am 4 = tot (fun i => Ent.inn 4 (if i = b then Ent.gone else p.en i)) 200
    rw [inn_upd, tot_upd _ _ _ _ hb.1 hb.2, ← h.res]
    rcases hss with rfl | rfl <;> simp [Ent.inn, h4, mvd, Ent.gone] <;> omega
  · show mvd p.ac s (p.en b).cu (p.en b).am 5 = tot (fun i => Ent.inn 5 (if i = b then Ent.gone else p.en i)) 200
    rw [inn_upd, tot_upd _ _ _ _ hb.1 hb.2, ← h.tak]
    rcases hss with rfl | rfl <;> simp [Ent.inn, h4, mvd, Ent.gone] <;> omega
  all_goals
    intro i
    simp only [Pur.move]
    by_cases e : i = b
    · rw [if_pos e]; simp [Ent.gone, e]
      try omega
    · rw [if_neg e]
      first
      | exact h.sts i
      | exact h.non i
      | exact h.gon i
      | exact h.amt i
      | exact h.key i

theorem Pur.Good.act (h : p.Good T) (o : POp) : (p.act o).2.Good T := by
  unfold Pur.act
  split
  · exact h
  rename_i hm
  have hm : mayOp o = true := by cases e : mayOp o <;> simp_all
  have hb := mayOp_bk hm
  dsimp only
  split
  · rename_i h1
    have := mayOp_4 hm h1.1
    exact h.goAuth hb h1.2.1 this.1 this.2 h1.2.2
  split
  · exact h.stay hb
  split
  · rename_i h1; exact h.goCapt h1.2
  split
  · exact h.stay hb
  split
  · rename_i h1; exact h.goVoid 4 (.inl rfl) h1.2
  split
  · rename_i h1; exact h.goVoid 5 (.inr rfl) h1.2
  split
  · exact h.stay hb
  · exact h

theorem Pur.act_len (p : Pur) (o : POp) : (p.act o).2.ln.length ≤ p.ln.length + 1 := by
  unfold Pur.act Pur.stay
  simp only
  repeat' split
  all_goals simp [Pur.move, Pur.set]

end Go.Proofs.Ytddnpjlcmokbiaa
