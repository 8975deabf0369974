/-
  purse: which funds may be: the reference's MayFunds; New at others. (Printed by wip/tools/genfunds.py.)
-/
import Derived.Test.YtddnpjlcmokbiaaZPurseCo
namespace Go.Proofs.Ytddnpjlcmokbiaa
open Go.RowKit Go.Maps

def inF (a : Int) : Bool := decide (0 ≤ a) && decide (a ≤ 1099511627776)

set_option maxRecDepth 100000 in
set_option maxHeartbeats 1000000 in
theorem funds_lo0 (w : World) (a b c d : Int)  (hb : a < 0) : Calls Try.prog 6 #[.agg #[.int .i64 a, .int .i64 b, .int .i64 c, .int .i64 d]] w fun e w' => e = .returned (.bool false) ∧ Chg (fun _ => False) w w' := by
  go_enter Try.func6, Try.ntmps6
  go_wp2
  refine wp_loop_rounds 5 ?_
  rw [rounds_succ]; go_wp2
  go_ret
  exact ⟨rfl, (Chg.refl _ _).alloc _⟩

set_option maxRecDepth 100000 in
set_option maxHeartbeats 1000000 in
theorem funds_hi0 (w : World) (a b c d : Int)  (hb : 1099511627776 < a) : Calls Try.prog 6 #[.agg #[.int .i64 a, .int .i64 b, .int .i64 c, .int .i64 d]] w fun e w' => e = .returned (.bool false) ∧ Chg (fun _ => False) w w' := by
  go_enter Try.func6, Try.ntmps6
  go_wp2
  refine wp_loop_rounds 5 ?_
  rw [rounds_succ]; go_wp2
  go_ret
  exact ⟨rfl, (Chg.refl _ _).alloc _⟩

set_option maxRecDepth 100000 in
set_option maxHeartbeats 1000000 in
theorem funds_lo1 (w : World) (a b c d : Int) (ha : 0 ≤ a ∧ a ≤ 1099511627776) (hb : b < 0) : Calls Try.prog 6 #[.agg #[.int .i64 a, .int .i64 b, .int .i64 c, .int .i64 d]] w fun e w' => e = .returned (.bool false) ∧ Chg (fun _ => False) w w' := by
  go_enter Try.func6, Try.ntmps6
  go_wp2
  refine wp_loop_rounds 5 ?_
  rw [rounds_succ]; go_wp2
  rw [rounds_succ]; go_wp2
  go_ret
  exact ⟨rfl, (Chg.refl _ _).alloc _⟩

set_option maxRecDepth 100000 in
set_option maxHeartbeats 1000000 in
theorem funds_hi1 (w : World) (a b c d : Int) (ha : 0 ≤ a ∧ a ≤ 1099511627776) (hb : 1099511627776 < b) : Calls Try.prog 6 #[.agg #[.int .i64 a, .int .i64 b, .int .i64 c, .int .i64 d]] w fun e w' => e = .returned (.bool false) ∧ Chg (fun _ => False) w w' := by
  go_enter Try.func6, Try.ntmps6
  go_wp2
  refine wp_loop_rounds 5 ?_
  rw [rounds_succ]; go_wp2
  rw [rounds_succ]; go_wp2
  go_ret
  exact ⟨rfl, (Chg.refl _ _).alloc _⟩

set_option maxRecDepth 100000 in
set_option maxHeartbeats 1000000 in
theorem funds_lo2 (w : World) (a b c d : Int) (ha : 0 ≤ a ∧ a ≤ 1099511627776) (hb : 0 ≤ b ∧ b ≤ 1099511627776) (hb : c < 0) : Calls Try.prog 6 #[.agg #[.int .i64 a, .int .i64 b, .int .i64 c, .int .i64 d]] w fun e w' => e = .returned (.bool false) ∧ Chg (fun _ => False) w w' := by
  go_enter Try.func6, Try.ntmps6
  go_wp2
  refine wp_loop_rounds 5 ?_
  rw [rounds_succ]; go_wp2
  rw [rounds_succ]; go_wp2
  rw [rounds_succ]; go_wp2
  go_ret
  exact ⟨rfl, (Chg.refl _ _).alloc _⟩

set_option maxRecDepth 100000 in
set_option maxHeartbeats 1000000 in
theorem funds_hi2 (w : World) (a b c d : Int) (ha : 0 ≤ a ∧ a ≤ 1099511627776) (hb : 0 ≤ b ∧ b ≤ 1099511627776) (hb : 1099511627776 < c) : Calls Try.prog 6 #[.agg #[.int .i64 a, .int .i64 b, .int .i64 c, .int .i64 d]] w fun e w' => e = .returned (.bool false) ∧ Chg (fun _ => False) w w' := by
  go_enter Try.func6, Try.ntmps6
  go_wp2
  refine wp_loop_rounds 5 ?_
  rw [rounds_succ]; go_wp2
  rw [rounds_succ]; go_wp2
  rw [rounds_succ]; go_wp2
  go_ret
  exact ⟨rfl, (Chg.refl _ _).alloc _⟩

set_option maxRecDepth 100000 in
set_option maxHeartbeats 1000000 in
theorem funds_lo3 (w : World) (a b c d : Int) (ha : 0 ≤ a ∧ a ≤ 1099511627776) (hb : 0 ≤ b ∧ b ≤ 1099511627776) (hc : 0 ≤ c ∧ c ≤ 1099511627776) (hb : d < 0) : Calls Try.prog 6 #[.agg #[.int .i64 a, .int .i64 b, .int .i64 c, .int .i64 d]] w fun e w' => e = .returned (.bool false) ∧ Chg (fun _ => False) w w' := by
  go_enter Try.func6, Try.ntmps6
  go_wp2
  refine wp_loop_rounds 5 ?_
  rw [rounds_succ]; go_wp2
  rw [rounds_succ]; go_wp2
  rw [rounds_succ]; go_wp2
  rw [rounds_succ]; go_wp2
  go_ret
  exact ⟨rfl, (Chg.refl _ _).alloc _⟩

set_option maxRecDepth 100000 in
set_option maxHeartbeats 1000000 in
theorem funds_hi3 (w : World) (a b c d : Int) (ha : 0 ≤ a ∧ a ≤ 1099511627776) (hb : 0 ≤ b ∧ b ≤ 1099511627776) (hc : 0 ≤ c ∧ c ≤ 1099511627776) (hb : 1099511627776 < d) : Calls Try.prog 6 #[.agg #[.int .i64 a, .int .i64 b, .int .i64 c, .int .i64 d]] w fun e w' => e = .returned (.bool false) ∧ Chg (fun _ => False) w w' := by
  go_enter Try.func6, Try.ntmps6
  go_wp2
  refine wp_loop_rounds 5 ?_
  rw [rounds_succ]; go_wp2
  rw [rounds_succ]; go_wp2
  rw [rounds_succ]; go_wp2
  rw [rounds_succ]; go_wp2
  go_ret
  exact ⟨rfl, (Chg.refl _ _).alloc _⟩

set_option maxRecDepth 100000 in
set_option maxHeartbeats 1000000 in
theorem funds_ok (w : World) (a b c d : Int) (ha : 0 ≤ a ∧ a ≤ 1099511627776) (hb : 0 ≤ b ∧ b ≤ 1099511627776) (hc : 0 ≤ c ∧ c ≤ 1099511627776) (hd : 0 ≤ d ∧ d ≤ 1099511627776) : Calls Try.prog 6 #[.agg #[.int .i64 a, .int .i64 b, .int .i64 c, .int .i64 d]] w fun e w' => e = .returned (.bool true) ∧ Chg (fun _ => False) w w' := by
  go_enter Try.func6, Try.ntmps6
  go_wp2
  refine wp_loop_rounds 5 ?_
  rw [rounds_succ]; go_wp2
  rw [rounds_succ]; go_wp2
  rw [rounds_succ]; go_wp2
  rw [rounds_succ]; go_wp2
  rw [rounds_succ]; go_wp2
  go_ret
  exact ⟨rfl, (Chg.refl _ _).alloc _⟩

set_option maxRecDepth 100000 in
set_option maxHeartbeats 1000000 in
theorem funds_any (w : World) (a b c d : Int)  : Calls Try.prog 6 #[.agg #[.int .i64 a, .int .i64 b, .int .i64 c, .int .i64 d]] w fun e w' => e = .returned (.bool (inF a && inF b && inF c && inF d)) ∧ Chg (fun _ => False) w w' := by
  rcases Int.lt_or_le a 0 with hx | hb0
  · have e : (inF a && inF b && inF c && inF d) = false := by simp [inF]; omega
    rw [e]; exact funds_lo0 w a b c d  hx
  rcases Int.lt_or_le 1099511627776 a with hx | hb1
  · have e : (inF a && inF b && inF c && inF d) = false := by simp [inF]; omega
    rw [e]; exact funds_hi0 w a b c d  hx
  have ha := And.intro hb0 hb1
  rcases Int.lt_or_le b 0 with hx | hb0
  · have e : (inF a && inF b && inF c && inF d) = false := by simp [inF]; omega
    rw [e]; exact funds_lo1 w a b c d ha hx
  rcases Int.lt_or_le 1099511627776 b with hx | hb1
  · have e : (inF a && inF b && inF c && inF d) = false := by simp [inF]; omega
    rw [e]; exact funds_hi1 w a b c d ha hx
  have hb := And.intro hb0 hb1
  rcases Int.lt_or_le c 0 with hx | hb0
  · have e : (inF a && inF b && inF c && inF d) = false := by simp [inF]; omega
    rw [e]; exact funds_lo2 w a b c d ha hb hx
  rcases Int.lt_or_le 1099511627776 c with hx | hb1
  · have e : (inF a && inF b && inF c && inF d) = false := by simp [inF]; omega
    rw [e]; exact funds_hi2 w a b c d ha hb hx
  have hc := And.intro hb0 hb1
  rcases Int.lt_or_le d 0 with hx | hb0
  · have e : (inF a && inF b && inF c && inF d) = false := by simp [inF]; omega
    rw [e]; exact funds_lo3 w a b c d ha hb hc hx
  rcases Int.lt_or_le 1099511627776 d with hx | hb1
  · have e : (inF a && inF b && inF c && inF d) = false := by simp [inF]; omega
    rw [e]; exact funds_hi3 w a b c d ha hb hc hx
  have hd := And.intro hb0 hb1
  have e : (inF a && inF b && inF c && inF d) = true := by simp [inF]; omega
  rw [e]; exact funds_ok w a b c d ha hb hc hd

end Go.Proofs.Ytddnpjlcmokbiaa
