/-
  The purse as plain mathematics: one customer's bookings, one behind the other (for PurseFits).
-/
import Derived.Test.YtbmpjndagponoaaPurseR
import Derived.Test.YtbmpjndagponoaaPurseD
namespace Go.Proofs.Ytbmpjndagponoaa

/-- Bookings up to k were asked; the last is e; customer 1 has h, a is reserved, t taken. -/
structure Lay (f k : Int) (e : Ent) (h a t : Int) (n : Nat) (p : Pur) : Prop where
  good : p.Good f
  a0 : p.ac 0 = 0
  a1 : p.ac 1 = h
  a2 : p.ac 2 = 0
  a3 : p.ac 3 = 0
  a4 : p.ac 4 = a
  a5 : p.ac 5 = t
  en : p.en k = e
  fresh : ∀ b, k < b → (p.en b).st = 0
  len : p.ln.length ≤ n

variable {f k h a t m : Int} {e : Ent} {n : Nat} {p : Pur}

theorem Lay.auth (L : Lay f k e h a t n p) (hk : 0 ≤ k ∧ k < 200) (hm : 0 ≤ m ∧ m ≤ 1000) (hle : m ≤ h) :
    (p.act ⟨4, k + 1, 0, 1, m⟩).1 = 1 ∧ Lay f (k + 1) ⟨4, 0, 0, 1, m⟩ (h - m) (a + m) t (n + 1) (p.act ⟨4, k + 1, 0, 1, m⟩).2 := by
  have hmay : mayOp ⟨4, k + 1, 0, 1, m⟩ = true := by simp [mayOp]; omega
  have h0 := L.fresh (k + 1) (by omega)
  have hn := L.good.non _ h0
  have hact : p.act ⟨4, k + 1, 0, 1, m⟩ = (1, p.move (k + 1) 1 4 m ⟨4, 0, 0, 1, m⟩) := by
    unfold Pur.act
    simp [hmay, L.a1, hle, hn, Ent.none]
  have hG := L.good.act ⟨4, k + 1, 0, 1, m⟩
  rw [hact] at hG ⊢
  refine ⟨rfl, hG, ?_, ?_, ?_, ?_, ?_, ?_, ?_, ?_, ?_⟩
  all_goals simp only [Pur.move, mvd]
  · simpa using L.a0
  · simp [L.a1]
  · simpa using L.a2
  · simpa using L.a3
  · simp [L.a4]
  · simpa using L.a5
  · simp
  · intro b hb; rw [if_neg (by omega)]; exact L.fresh b (by omega)
  · simpa using L.len

theorem Lay.refuse (L : Lay f k e h a t n p) (hk : 0 ≤ k ∧ k < 200) (hm : 0 ≤ m ∧ m ≤ 1000) (hle : h < m) :
    (p.act ⟨4, k + 1, 0, 1, m⟩).1 = 2 ∧ Lay f (k + 1) Ent.gone h a t n (p.act ⟨4, k + 1, 0, 1, m⟩).2 := by
  have hmay : mayOp ⟨4, k + 1, 0, 1, m⟩ = true := by simp [mayOp]; omega
  have h0 := L.fresh (k + 1) (by omega)
  have hact : p.act ⟨4, k + 1, 0, 1, m⟩ = (2, p.set (k + 1) Ent.gone) := by
    unfold Pur.act Pur.stay
    simp [hmay, h0, L.a1, show ¬ m ≤ h by omega]
  have hG := L.good.act ⟨4, k + 1, 0, 1, m⟩
  rw [hact] at hG ⊢
  refine ⟨rfl, hG, L.a0, L.a1, L.a2, L.a3, L.a4, L.a5, ?_, ?_, L.len⟩
  all_goals simp only [Pur.set]
  · simp
  · intro b hb; rw [if_neg (by omega)]; exact L.fresh b (by omega)

theorem Lay.capt (L : Lay f k ⟨4, 0, 0, 1, m⟩ h a t n p) (hk : 1 ≤ k ∧ k ≤ 200) :
    (p.act ⟨5, k, 0, 0, 0⟩).1 = 1 ∧ Lay f k ⟨5, 0, 0, 1, m⟩ h (a - m) (t + m) (n + 1) (p.act ⟨5, k, 0, 0, 0⟩).2 := by
  have hmay : mayOp ⟨5, k, 0, 0, 0⟩ = true := by simp [mayOp]; omega
  have hact : p.act ⟨5, k, 0, 0, 0⟩ = (1, p.move k 4 5 m ⟨5, 0, 0, 1, m⟩) := by
    unfold Pur.act
    simp [hmay, L.en]
  have hG := L.good.act ⟨5, k, 0, 0, 0⟩
  rw [hact] at hG ⊢
  refine ⟨rfl, hG, ?_, ?_, ?_, ?_, ?_, ?_, ?_, ?_, ?_⟩
  all_goals simp only [Pur.move, mvd]
  · simpa using L.a0
  · simpa using L.a1
  · simpa using L.a2
  · simpa using L.a3
  · simp [L.a4]
  · simp [L.a5]
  · simp
  · intro b hb; rw [if_neg (by omega)]; exact L.fresh b (by omega)
  · simpa using L.len

theorem Lay.void4 (L : Lay f k ⟨4, 0, 0, 1, m⟩ h a t n p) (hk : 1 ≤ k ∧ k ≤ 200) :
    (p.act ⟨6, k, 0, 0, 0⟩).1 = 1 ∧ Lay f k Ent.gone (h + m) (a - m) t (n + 1) (p.act ⟨6, k, 0, 0, 0⟩).2 := by
  have hmay : mayOp ⟨6, k, 0, 0, 0⟩ = true := by simp [mayOp]; omega
  have hact : p.act ⟨6, k, 0, 0, 0⟩ = (1, p.move k 4 1 m Ent.gone) := by
    unfold Pur.act
    simp [hmay, L.en]
  have hG := L.good.act ⟨6, k, 0, 0, 0⟩
  rw [hact] at hG ⊢
  refine ⟨rfl, hG, ?_, ?_, ?_, ?_, ?_, ?_, ?_, ?_, ?_⟩
  all_goals simp only [Pur.move, mvd]
  · simpa using L.a0
  · simp [L.a1]
  · simpa using L.a2
  · simpa using L.a3
  · simp [L.a4]
  · simpa using L.a5
  · simp
  · intro b hb; rw [if_neg (by omega)]; exact L.fresh b (by omega)
  · simpa using L.len

theorem Lay.void5 (L : Lay f k ⟨5, 0, 0, 1, m⟩ h a t n p) (hk : 1 ≤ k ∧ k ≤ 200) :
    (p.act ⟨6, k, 0, 0, 0⟩).1 = 1 ∧ Lay f k Ent.gone (h + m) a (t - m) (n + 1) (p.act ⟨6, k, 0, 0, 0⟩).2 := by
  have hmay : mayOp ⟨6, k, 0, 0, 0⟩ = true := by simp [mayOp]; omega
  have hact : p.act ⟨6, k, 0, 0, 0⟩ = (1, p.move k 5 1 m Ent.gone) := by
    unfold Pur.act
    simp [hmay, L.en]
  have hG := L.good.act ⟨6, k, 0, 0, 0⟩
  rw [hact] at hG ⊢
  refine ⟨rfl, hG, ?_, ?_, ?_, ?_, ?_, ?_, ?_, ?_, ?_⟩
  all_goals simp only [Pur.move, mvd]
  · simpa using L.a0
  · simp [L.a1]
  · simpa using L.a2
  · simpa using L.a3
  · simpa using L.a4
  · simp [L.a5]
  · simp
  · intro b hb; rw [if_neg (by omega)]; exact L.fresh b (by omega)
  · simpa using L.len

theorem Lay.late (L : Lay f k Ent.gone h a t n p) (hk : 1 ≤ k ∧ k ≤ 200) :
    (p.act ⟨5, k, 0, 0, 0⟩).1 = 2 ∧ Lay f k Ent.gone h a t n (p.act ⟨5, k, 0, 0, 0⟩).2 := by
  have hmay : mayOp ⟨5, k, 0, 0, 0⟩ = true := by simp [mayOp]; omega
  have hact : p.act ⟨5, k, 0, 0, 0⟩ = (2, p) := by
    unfold Pur.act Pur.stay
    simp [hmay, L.en, Ent.gone]
  rw [hact]
  exact ⟨rfl, L⟩

theorem Lay.new {F : Int} (hF : 0 ≤ F) : Lay F 0 Ent.none F 0 0 0 (Pur.new (fun i => if i = 1 then F else 0)) := by
  have hg := Pur.new_good (f := fun i => if i = 1 then F else 0) (fun i _ _ => by show 0 ≤ (if i = 1 then F else 0); split <;> omega)
  refine ⟨by simpa using hg, ?_, ?_, ?_, ?_, ?_, ?_, rfl, fun _ _ => rfl, Nat.le_refl _⟩
  all_goals simp [Pur.new]

theorem Lay.sum (L : Lay f k e h a t n p) : h + a + t = f ∧ 0 ≤ h ∧ 0 ≤ a ∧ 0 ≤ t := by
  have hs := L.good.sum
  rw [L.a0, L.a1, L.a2, L.a3, L.a4, L.a5] at hs
  have h1 := L.good.bounds 1 (by omega) (by omega)
  have h4 := L.good.bounds 4 (by omega) (by omega)
  have h5 := L.good.bounds 5 (by omega) (by omega)
  rw [L.a1] at h1
  rw [L.a4] at h4
  rw [L.a5] at h5
  omega

theorem Lay.up (L : Lay f k e h a t n p) {k' h' a' t' : Int} {n' : Nat} (hk : k = k') (hh : h = h') (ha : a = a') (ht : t = t') (hn : n ≤ n') : Lay f k' e h' a' t' n' p := by
  subst hk hh ha ht
  exact ⟨L.good, L.a0, L.a1, L.a2, L.a3, L.a4, L.a5, L.en, L.fresh, Nat.le_trans L.len hn⟩
end Go.Proofs.Ytbmpjndagponoaa
