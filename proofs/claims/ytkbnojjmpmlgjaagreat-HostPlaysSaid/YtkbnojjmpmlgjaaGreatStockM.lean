/-
  The inventory as plain mathematics: what there is, what is free, the bookings; what an operation does.
-/
import Derived.Test.YtkbnojjmpmlgjaaGreatPurseM
namespace Go.Proofs.YtkbnojjmpmlgjaaGreat

structure Stk where
  cap : Int
  over : Int
  free : Int
  en : Int → Ent

def Stk.new (c o : Int) : Stk := ⟨c, o, c + o, fun _ => Ent.none⟩
def Stk.set (s : Stk) (b free : Int) (e : Ent) : Stk := { s with free := free, en := fun i => if i = b then e else s.en i }
def Stk.gone (s : Stk) (b : Int) : Stk := s.set b (s.free + (s.en b).un) Ent.gone

def Stk.hold (s : Stk) (b u now : Int) : Int × Stk :=
  let x := s.en b
  if x.st = 1 ∨ x.st = 2 then (if x.un = u then 1 else 2, s)
  else if x.st = 3 then (2, s)
  else if s.free < u then (2, s.gone b)
  else (1, s.set b (s.free - u) ⟨1, u, now + 60, 0, 0⟩)
def Stk.confirm (s : Stk) (b now : Int) : Int × Stk :=
  let x := s.en b
  if x.st = 2 then (1, s)
  else if x.st = 3 then (2, s)
  else if x.st = 0 ∨ x.til ≤ now then (2, s.gone b)
  else (1, s.set b s.free ⟨2, x.un, 0, 0, 0⟩)
def Stk.act (s : Stk) (o : POp) (now : Int) : Int × Stk :=
  if mayOp o = false ∨ now < 0 ∨ 1099511627776 < now then (2, s)
  else if o.kd = 1 then s.hold o.bk o.un now
  else if o.kd = 2 then s.confirm o.bk now
  else if o.kd = 3 then (1, s.gone o.bk)
  else (2, s)

/-- Units over the bookings 1..n. -/
def sumU (g : Int → Int) : Nat → Int
  | 0 => 0
  | n + 1 => sumU g n + g (n + 1 : Nat)
theorem sumU_out (g : Int → Int) (b v : Int) : ∀ n : Nat, (b < 1 ∨ n < b) → sumU (fun i => if i = b then v else g i) n = sumU g n
  | 0, _ => rfl
  | n + 1, h => by
    unfold sumU
    rw [sumU_out g b v n (by omega), if_neg (by omega)]
theorem sumU_upd (g : Int → Int) (b v : Int) : ∀ n : Nat, 1 ≤ b → b ≤ n → sumU (fun i => if i = b then v else g i) n = sumU g n + (v - g b)
  | 0, h1, h2 => by omega
  | n + 1, h1, h2 => by
    unfold sumU
    by_cases e : ((n + 1 : Nat) : Int) = b
    · rw [sumU_out g b v n (by omega), if_pos e, e]; omega
    · rw [sumU_upd g b v n h1 (by omega), if_neg e]; omega
theorem sumU_pos (g : Int → Int) (h : ∀ i, 0 ≤ g i) : ∀ n, 0 ≤ sumU g n
  | 0 => Int.le_refl _
  | n + 1 => by unfold sumU; have := sumU_pos g h n; have := h (n + 1 : Nat); omega
theorem sumU_zero : ∀ n, sumU (fun _ => 0) n = 0
  | 0 => rfl
  | n + 1 => by unfold sumU; rw [sumU_zero n]; rfl

/-- What stays true of an inventory. -/
structure Stk.Good (s : Stk) : Prop where
  cap : 0 ≤ s.cap ∧ s.cap ≤ 1000000
  over : 0 ≤ s.over ∧ s.over ≤ 1000000
  free : 0 ≤ s.free
  sum : s.free + sumU (fun b => (s.en b).un) 200 = s.cap + s.over
  non : ∀ b, (s.en b).st = 0 → s.en b = Ent.none
  sts : ∀ b, (s.en b).st = 0 ∨ s.en b = Ent.gone ∨ ((s.en b).st = 1 ∧ 1 ≤ (s.en b).un ∧ (s.en b).un ≤ 1000 ∧ 60 ≤ (s.en b).til ∧ (s.en b).til ≤ 1099511627836 ∧ (s.en b).cu = 0 ∧ (s.en b).am = 0) ∨ ((s.en b).st = 2 ∧ 1 ≤ (s.en b).un ∧ (s.en b).un ≤ 1000 ∧ (s.en b).til = 0 ∧ (s.en b).cu = 0 ∧ (s.en b).am = 0)
  key : ∀ b, (s.en b).st ≠ 0 → 1 ≤ b ∧ b ≤ 200

theorem Stk.Good.un {s : Stk} (h : s.Good) (b : Int) : 0 ≤ (s.en b).un ∧ (s.en b).un ≤ 1000 := by
  rcases h.sts b with e | e | e | e
  · rw [h.non b e]; decide
  · rw [e]; decide
  · omega
  · omega

theorem Stk.Good.st3 {s : Stk} (h : s.Good) (b : Int) (e : (s.en b).st = 3) : s.en b = Ent.gone := by
  rcases h.sts b with e' | e' | e' | e'
  · omega
  · exact e'
  · omega
  · omega

theorem Stk.Good.bound {s : Stk} (h : s.Good) : s.free ≤ 2000000 := by
  have := sumU_pos (fun b => (s.en b).un) (fun i => (h.un i).1) 200
  have := h.sum
  have := h.cap
  have := h.over
  omega

theorem Stk.Good.put {s : Stk} (h : s.Good) {b free : Int} {e : Ent} (hb : 1 ≤ b ∧ b ≤ 200) (hf : 0 ≤ free) (hs : free + e.un = s.free + (s.en b).un) (hne : e.st ≠ 0)
    (he : e = Ent.gone ∨ (e.st = 1 ∧ 1 ≤ e.un ∧ e.un ≤ 1000 ∧ 60 ≤ e.til ∧ e.til ≤ 1099511627836 ∧ e.cu = 0 ∧ e.am = 0) ∨ (e.st = 2 ∧ 1 ≤ e.un ∧ e.un ≤ 1000 ∧ e.til = 0 ∧ e.cu = 0 ∧ e.am = 0)) : (s.set b free e).Good := by
  refine ⟨h.cap, h.over, hf, ?_, ?_, ?_, ?_⟩
  · have hf2 : (fun i => ((s.set b free e).en i).un) = fun i => if i = b then e.un else (s.en i).un := by
      funext i; simp only [Stk.set]; split <;> rfl
    rw [hf2, sumU_upd _ _ _ _ hb.1 hb.2]
    have := h.sum
    show free + (sumU (fun i => (s.en i).un) 200 + (e.un - (s.en b).un)) = s.cap + s.over
    omega
  · intro i hi
    simp only [Stk.set] at hi ⊢
    by_cases e' : i = b
    · rw [if_pos e'] at hi; exact absurd hi hne
    · rw [if_neg e'] at hi ⊢; exact h.non i hi
  · intro i
    simp only [Stk.set]
    by_cases e' : i = b
    · rw [if_pos e']; right; exact he
    · rw [if_neg e']; exact h.sts i
  · intro i hi
    simp only [Stk.set] at hi
    by_cases e' : i = b
    · rw [e']; exact hb
    · rw [if_neg e'] at hi; exact h.key i hi

theorem Stk.Good.gone {s : Stk} (h : s.Good) {b : Int} (hb : 1 ≤ b ∧ b ≤ 200) : (s.gone b).Good := by
  have := h.un b
  have := h.free
  exact h.put hb (by omega) (by show s.free + (s.en b).un + 0 = _; omega) (by decide) (.inl rfl)

theorem Stk.Good.new {c o : Int} (hc : 0 ≤ c ∧ c ≤ 1000000) (ho : 0 ≤ o ∧ o ≤ 1000000) : (Stk.new c o).Good := by
  refine ⟨hc, ho, by show 0 ≤ c + o; omega, ?_, fun _ _ => rfl, fun _ => .inl rfl, fun b hb => absurd rfl hb⟩
  have : (fun b => ((Stk.new c o).en b).un) = fun _ => 0 := rfl
  rw [this, sumU_zero]
  show c + o + 0 = c + o
  omega

theorem mayOp_bkS {o : POp} (h : mayOp o = true) : 1 ≤ o.bk ∧ o.bk ≤ 200 := by
  unfold mayOp at h; simp at h; omega
theorem mayOp_1 {o : POp} (h : mayOp o = true) (h1 : o.kd = 1) : 1 ≤ o.un ∧ o.un ≤ 1000 := by
  unfold mayOp at h; simp [h1] at h; omega

theorem Stk.Good.act {s : Stk} (h : s.Good) (o : POp) (now : Int) : (s.act o now).2.Good := by
  unfold Stk.act
  split
  · exact h
  rename_i hm
  have hm1 : mayOp o = true := by cases e : mayOp o <;> simp_all
  have hb := mayOp_bkS hm1
  split
  · rename_i h1
    have hu := mayOp_1 hm1 h1
    unfold Stk.hold
    dsimp only
    split
    · exact h
    split
    · exact h
    split
    · exact h.gone hb
    · rename_i n1 n2 n3
      have h0 : (s.en o.bk).st = 0 := by
        rcases h.sts o.bk with e | e | e | e
        · exact e
        · exact absurd (by rw [e]; rfl) n2
        · omega
        · omega
      have hn := h.non _ h0
      refine h.put hb (by omega) ?_ (by show (1 : Int) ≠ 0; decide) (.inr (.inl ⟨rfl, hu.1, hu.2, ?_, ?_, rfl, rfl⟩))
      · rw [hn]; show s.free - o.un + o.un = s.free + 0; omega
      · dsimp only; omega
      · dsimp only; omega
  split
  · unfold Stk.confirm
    dsimp only
    split
    · exact h
    split
    · exact h
    split
    · exact h.gone hb
    · rename_i n1 n2 n3
      have h1 : (s.en o.bk).st = 1 ∧ 1 ≤ (s.en o.bk).un ∧ (s.en o.bk).un ≤ 1000 := by
        rcases h.sts o.bk with e | e | e | e
        · omega
        · exact absurd (by rw [e]; rfl) n2
        · omega
        · omega
      exact h.put hb h.free rfl (by show (2 : Int) ≠ 0; decide) (.inr (.inr ⟨rfl, h1.2.1, h1.2.2, rfl, rfl, rfl⟩))
  split
  · exact h.gone hb
  · exact h
end Go.Proofs.YtkbnojjmpmlgjaaGreat
