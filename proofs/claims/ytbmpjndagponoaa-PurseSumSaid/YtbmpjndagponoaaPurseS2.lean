/-
  layer 10: PurseSum, its walk, at any funds.
-/
import Derived.Test.YtbmpjndagponoaaPurseS
namespace Go.Proofs.Ytbmpjndagponoaa
open Go.RowKit Go.Maps

set_option maxRecDepth 100000 in
theorem sum_bad (w : World) (a b c d : Int) (v : Value) (hb : (inF a && inF b && inF c && inF d) = false) :
    Calls Try.prog 3 #[.agg #[.int .i64 a, .int .i64 b, .int .i64 c, .int .i64 d], v] w fun e w' => e = .returned (.bool true) ∧ Chg (fun _ => False) w w' := by
  have hbh := Lib.hid hb
  clear hb
  go_enter Try.func3, Try.ntmps3
  go_wp2_with fail
  refine (funds_any _ a b c d).mono ?_
  rintro e w1 ⟨rfl, hc1⟩
  rw [hbh.out]
  go_wp2_with (go_at_call 10; refine (told10 _).mono ?_; rintro e wt ⟨rfl, hct⟩)
  go_ret
  exact ⟨rfl, (((Chg.refl _ w).alloc _).trans hc1 (fun _ _ h => h)).trans hct (fun _ _ h => h)⟩

theorem sum_any (w : World) (a b c d : Int) (ad : Option Addr) (cap : Nat) (l : List POp) (hl : OpsIn w ad l) :
    Calls Try.prog 3 #[.agg #[.int .i64 a, .int .i64 b, .int .i64 c, .int .i64 d], .slice ad l.length cap] w fun e w' => e = .returned (.bool true) ∧ Chg (fun _ => False) w w' := by
  rcases Bool.eq_false_or_eq_true (inF a && inF b && inF c && inF d) with h | h
  · simp [inF] at h
    exact sum_walk w a b c d ad cap l (by omega) (by omega) (by omega) (by omega) hl
  · exact sum_bad w a b c d _ h
end Go.Proofs.Ytbmpjndagponoaa
