/-
  stock: New, Do, Sweep as laws use them.
-/
import Derived.Test.YtdeoipioinnkcaaStockF
namespace Go.Proofs.Ytdeoipioinnkcaa
open Go.RowKit Go.Maps

theorem Stk.Good.sweep {s : Stk} (h : s.Good) (now : Int) : (s.sweep now).2.Good := by
  unfold Stk.sweep
  split
  · exact h
  · exact sweepL_good h now _ (fun x hx => h.key x ((bookings_mem s.en h.key x).1 hx)) ([], s) h

theorem new_w (w : World) (c o : Int) (hc : 0 ≤ c ∧ c ≤ 1000000) (ho : 0 ≤ o ∧ o ≤ 1000000) :
    Calls Try.prog 15 #[.agg #[.int .i64 c, .int .i64 o]] w fun e w' => ∃ b mb, e = .returned (.tuple #[.pointer (some ⟨b, 0, none⟩), .int .i64 0]) ∧ StkAt w' b mb (Stk.new c o) ∧ Chg (fun _ => False) w w' ∧ w.heap.size ≤ b ∧ w.heap.size ≤ mb := stkNew w c o hc ho

/-- What an operation gives, told by names. -/
theorem do_w {B : Nat} {w : World} {b mb : Nat} {s : Stk} (h : StkAt w b mb s) (hG : s.Good) (hb : B ≤ b ∧ B ≤ mb) (o : POp) (now r : Int) (s' : Stk) (hr : (s.act o now).1 = r) (hs : (s.act o now).2 = s') :
    Calls Try.prog 20 #[.pointer (some ⟨b, 0, none⟩), o.val, .int .i64 now] w fun e w' => e = .returned (.int .i64 r) ∧ StkAt w' b mb s' ∧ Chg (fun i => B ≤ i) w w' := by
  subst hr; subst hs
  refine (stk_do h hG o now).mono ?_
  rintro e w' ⟨h1, h2, h3⟩
  exact ⟨h1, h2, h3.mono (fun i _ hi => by rcases hi with rfl | rfl; exact hb.1; exact hb.2)⟩
theorem sweep_w {B : Nat} {w : World} {b mb : Nat} {s : Stk} (h : StkAt w b mb s) (hG : s.Good) (hb : B ≤ b ∧ B ≤ mb) (now : Int) (l : List Int) (s' : Stk) (hl : (s.sweep now).1 = l) (hs : (s.sweep now).2 = s') :
    Calls Try.prog 33 #[.pointer (some ⟨b, 0, none⟩), .int .i64 now] w fun e w' => ∃ v, e = .returned v ∧
      w'.ownsRow w.heap.size 3 1 v l.length (l.map encI) ∧ StkAt w' b mb s' ∧ Chg (fun i => B ≤ i) w w' := by
  subst hl; subst hs
  refine (sweep_any h hG now).mono ?_
  rintro e w' ⟨v, h1, h2, h3, h4⟩
  exact ⟨v, h1, h2, h3, h4.mono (fun i _ hi => by rcases hi with rfl | rfl; exact hb.1; exact hb.2)⟩

end Go.Proofs.Ytdeoipioinnkcaa
