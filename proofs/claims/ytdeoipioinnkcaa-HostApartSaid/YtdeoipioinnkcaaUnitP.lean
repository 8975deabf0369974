/-
  layer 9: StockUnits, the plain law.
-/
import Derived.Test.YtdeoipioinnkcaaStockG
import Derived.Test.YtdeoipioinnkcaaStockN
namespace Go.Proofs.Ytdeoipioinnkcaa

theorem sumU_add (f g h : Int → Int) : ∀ n : Nat, (∀ i, f i = g i + h i) → sumU f n = sumU g n + sumU h n
  | 0, _ => rfl
  | n + 1, e => by
    unfold sumU
    rw [sumU_add f g h n e, e]
    omega
theorem sumU_mono (g : Int → Int) (hg : ∀ i, 0 ≤ g i) (m : Nat) : ∀ d : Nat, sumU g m ≤ sumU g (m + d)
  | 0 => Int.le_refl _
  | d + 1 => by
    have h1 := sumU_mono g hg m d
    have h2 := hg ((m + d + 1 : Nat) : Int)
    show _ ≤ sumU g (m + d) + g ((m + d + 1 : Nat) : Int)
    omega

/-- The units of the bookings 1..n in a state. -/
def Stk.ofN (s : Stk) (st : Int) (n : Nat) : Int := sumU (fun b => if (s.en b).st = st then (s.en b).un else 0) n
theorem Stk.Good.ofN {s : Stk} (h : s.Good) (st : Int) (n : Nat) (hn : n ≤ 200) : 0 ≤ s.ofN st n ∧ s.ofN st n ≤ s.of st ∧ s.of st ≤ 2000000 := by
  have hp : ∀ i, 0 ≤ (fun b => if (s.en b).st = st then (s.en b).un else 0) i := by
    intro i
    have := h.un i
    dsimp only
    split <;> omega
  have h2 := h.part st (fun _ => false)
  simp only [Bool.false_eq_true, if_false] at h2
  refine ⟨sumU_pos _ hp n, ?_, ?_⟩
  · have := sumU_mono _ hp n (200 - n)
    have e : n + (200 - n) = 200 := by omega
    rw [e] at this
    exact this
  · exact h2.2
theorem Stk.ofN_succ (s : Stk) (st : Int) (n : Nat) : s.ofN st (n + 1) = s.ofN st n + (if (s.en ((n : Int) + 1)).st = st then (s.en ((n : Int) + 1)).un else 0) := by
  show sumU _ n + _ = _
  rfl
/-- Free, held and confirmed units are all there are. -/
theorem Stk.Good.all {s : Stk} (h : s.Good) : 0 ≤ s.free ∧ 0 ≤ s.of 1 ∧ 0 ≤ s.of 2 ∧ s.free + s.of 1 + s.of 2 = s.cap + s.over := by
  have h1 := h.ofN 1 0 (by omega)
  have h2 := h.ofN 2 0 (by omega)
  refine ⟨h.free, by omega, by omega, ?_⟩
  have hs := h.sum
  have e : sumU (fun b => (s.en b).un) 200 = s.of 1 + s.of 2 := by
    refine sumU_add _ _ _ 200 (fun b => ?_)
    rcases h.sts b with e | e | e | e
    · rw [h.non b e]; decide
    · rw [e]; decide
    · simp [e.1]
    · simp [e.1]
  omega

theorem gone_conf (s : Stk) (b : Int) : (s.gone b).cap = s.cap ∧ (s.gone b).over = s.over := ⟨rfl, rfl⟩
theorem Stk.act_conf (s : Stk) (o : POp) (now : Int) : (s.act o now).2.cap = s.cap ∧ (s.act o now).2.over = s.over := by
  unfold Stk.act Stk.hold Stk.confirm
  dsimp only
  repeat' split
  all_goals exact ⟨rfl, rfl⟩
theorem Stk.sweep_conf (s : Stk) (now : Int) : (s.sweep now).2.cap = s.cap ∧ (s.sweep now).2.over = s.over := by
  unfold Stk.sweep
  split
  · exact ⟨rfl, rfl⟩
  · have : ∀ (l : List Int) (acc : List Int × Stk), (l.foldl (Stk.swp now) acc).2.cap = acc.2.cap ∧ (l.foldl (Stk.swp now) acc).2.over = acc.2.over := by
      intro l
      induction l with
      | nil => intro acc; exact ⟨rfl, rfl⟩
      | cons b l ih =>
        intro acc
        rw [List.foldl_cons, (ih _).1, (ih _).2]
        unfold Stk.swp
        split <;> exact ⟨rfl, rfl⟩
    exact this _ ([], s)
end Go.Proofs.Ytdeoipioinnkcaa
