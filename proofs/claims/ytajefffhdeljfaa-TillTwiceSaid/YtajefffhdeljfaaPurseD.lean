/-
  purse: New, by its contract.
-/
import Derived.Test.YtajefffhdeljfaaPurseP
namespace Go.Proofs.Ytajefffhdeljfaa
open Go.RowKit Go.Maps

def Pur.new (f : Int → Int) : Pur := ⟨fun i => if 0 ≤ i ∧ i ≤ 3 then f i else 0, fun _ => Ent.none, []⟩
def fundsVal (f : Int → Int) : Value := .agg #[.int .i64 (f 0), .int .i64 (f 1), .int .i64 (f 2), .int .i64 (f 3)]
def fundsOK (f : Int → Int) : Bool := decide (0 ≤ f 0 ∧ f 0 ≤ 1099511627776) && decide (0 ≤ f 1 ∧ f 1 ≤ 1099511627776) && decide (0 ≤ f 2 ∧ f 2 ≤ 1099511627776) && decide (0 ≤ f 3 ∧ f 3 ≤ 1099511627776)

set_option maxRecDepth 100000 in
set_option maxHeartbeats 4000000 in
theorem new_ok (w : World) (a b c d : Int) (ha : 0 ≤ a ∧ a ≤ 1099511627776) (hb : 0 ≤ b ∧ b ≤ 1099511627776) (hc : 0 ≤ c ∧ c ≤ 1099511627776) (hd : 0 ≤ d ∧ d ≤ 1099511627776) :
    Calls Try.prog 34 #[.agg #[.int .i64 a, .int .i64 b, .int .i64 c, .int .i64 d]] w fun e w' => e = .returned (.tuple #[.pointer (some ⟨w.heap.size + 2, 0, none⟩), .int .i64 0]) ∧
      w' = ((w.alloc (.cells #[.int .i64 a, .int .i64 b, .int .i64 c, .int .i64 d] 23)).alloc (.map #[] 0)).alloc (.cells #[.int .i64 a, .int .i64 b, .int .i64 c, .int .i64 d, .int .i64 0, .int .i64 0, .map (some (w.heap.size + 1)), .slice none 0 0] 90) := by
  have hmm := @run_makeMap Try.prog
  have i0 : ∀ w1, (Instr.index 23 (.agg #[.int .i64 a, .int .i64 b, .int .i64 c, .int .i64 d]) (.int .i64 0)).run Try.prog w1 = .ok (.int .i64 a) w1 := fun w1 => by kernel_rfl
  have i1 : ∀ w1, (Instr.index 23 (.agg #[.int .i64 a, .int .i64 b, .int .i64 c, .int .i64 d]) (.int .i64 1)).run Try.prog w1 = .ok (.int .i64 b) w1 := fun w1 => by kernel_rfl
  have i2 : ∀ w1, (Instr.index 23 (.agg #[.int .i64 a, .int .i64 b, .int .i64 c, .int .i64 d]) (.int .i64 2)).run Try.prog w1 = .ok (.int .i64 c) w1 := fun w1 => by kernel_rfl
  have i3 : ∀ w1, (Instr.index 23 (.agg #[.int .i64 a, .int .i64 b, .int .i64 c, .int .i64 d]) (.int .i64 3)).run Try.prog w1 = .ok (.int .i64 d) w1 := fun w1 => by kernel_rfl
  go_enter Try.func34, Try.ntmps34
  go_wp2
  refine wp_loop_rounds 5 ?_
  rw [rounds_succ]; go_wp2
  rw [rounds_succ]; go_wp2
  rw [rounds_succ]; go_wp2
  rw [rounds_succ]; go_wp2
  rw [rounds_succ]; go_wp2
  go_ret2
  exact ⟨rfl, rfl⟩

theorem Pur.new_good {f : Int → Int} (hf : ∀ i, 0 ≤ i → i ≤ 3 → 0 ≤ f i) : (Pur.new f).Good (f 0 + f 1 + f 2 + f 3) := by
  refine ⟨?_, ?_, ?_, ?_, ?_, ?_, ?_, ?_, ?_⟩
  · intro i h1 h2; simp only [Pur.new]; rw [if_pos ⟨h1, h2⟩]; exact hf i h1 h2
  · simp [Pur.new]
  · have : (fun b => Ent.inn 4 ((Pur.new f).en b)) = fun _ => 0 := rfl
    rw [this, tot_zero]; rfl
  · have : (fun b => Ent.inn 5 ((Pur.new f).en b)) = fun _ => 0 := rfl
    rw [this, tot_zero]; rfl
  all_goals intro i; simp [Pur.new, Ent.none]

theorem new_any (w : World) (f : Int → Int) (hf : ∀ i, 0 ≤ i → i ≤ 3 → 0 ≤ f i ∧ f i ≤ 1099511627776) :
    Calls Try.prog 34 #[fundsVal f] w fun e w' => ∃ b mb lv, e = .returned (.tuple #[.pointer (some ⟨b, 0, none⟩), .int .i64 0]) ∧
      PurAt w' b mb lv (Pur.new f) ∧ Chg (fun _ => False) w w' ∧ w.heap.size ≤ b ∧ w.heap.size ≤ mb ∧ lv.ownBlock = none := by
  refine (new_ok w (f 0) (f 1) (f 2) (f 3) (hf 0 (by omega) (by omega)) (hf 1 (by omega) (by omega)) (hf 2 (by omega) (by omega)) (hf 3 (by omega) (by omega))).mono ?_
  rintro e w' ⟨rfl, rfl⟩
  refine ⟨_, w.heap.size + 1, .slice none 0 0, rfl, ⟨?_, ?_, ?_, ?_⟩, (((Chg.refl _ w).alloc _).alloc _).alloc _, by omega, by omega, rfl⟩
  · have h := Blk.new ((w.alloc (.cells #[.int .i64 (f 0), .int .i64 (f 1), .int .i64 (f 2), .int .i64 (f 3)] 23)).alloc (.map #[] 0)) 90 (purRow (Pur.new f).ac (w.heap.size + 1) (.slice none 0 0))
    simpa [purRow, Pur.new] using h
  · have h := (MapOf.made (enc := encI) (w.alloc (.cells #[.int .i64 (f 0), .int .i64 (f 1), .int .i64 (f 2), .int .i64 (f 3)] 23))).chg (((Chg.refl (fun _ => False) _).alloc (.cells #[.int .i64 (f 0), .int .i64 (f 1), .int .i64 (f 2), .int .i64 (f 3), .int .i64 0, .int .i64 0, .map (some (w.heap.size + 1)), .slice none 0 0] 90))) id
    have e : entMap (Pur.new f).en = fun _ => none := rfl
    rw [e]; simpa using h
  · exact ⟨rfl, .inl ⟨rfl, rfl⟩⟩
  · intro k hk; exact absurd rfl hk
end Go.Proofs.Ytajefffhdeljfaa
