/-
  layer 9: told.
-/
import Derived.Test.YtihfcfpkffebiaaStockI
import Derived.Test.YtihfcfpkffebiaaStockF
namespace Go.Proofs.Ytihfcfpkffebiaa
open Go.RowKit Go.Maps

theorem Stk.Good.sweep {s : Stk} (h : s.Good) (now : Int) : (s.sweep now).2.Good := by
  unfold Stk.sweep
  split
  · exact h
  · exact sweepL_good h now _ (fun x hx => h.key x ((bookings_mem s.en h.key x).1 hx)) ([], s) h

namespace T9
def s0 : Stk := Stk.new 2 1
def o1 : POp := ⟨1, 1, 2, 0, 0⟩
def o2 : POp := ⟨1, 2, 2, 0, 0⟩
def o3 : POp := ⟨2, 1, 0, 0, 0⟩
def o4 : POp := ⟨1, 3, 1, 0, 0⟩
def o5 : POp := ⟨3, 9, 0, 0, 0⟩
def s1 : Stk := (s0.act o1 5).2
def s2 : Stk := (s1.act o2 5).2
def s3 : Stk := (s2.act o3 64).2
def s4 : Stk := (s3.act o4 7).2
def s5 : Stk := (s4.sweep 67).2
def s6 : Stk := (s5.act o5 70).2
theorem g0 : s0.Good := Stk.Good.new (by decide) (by decide)
theorem g1 : s1.Good := g0.act _ _
theorem g2 : s2.Good := g1.act _ _
theorem g3 : s3.Good := g2.act _ _
theorem g4 : s4.Good := g3.act _ _
theorem g5 : s5.Good := g4.sweep _
theorem g6 : s6.Good := g5.act _ _
theorem a1 : (s0.act o1 5).1 = 1 := by decide +kernel
theorem a2 : (s1.act o2 5).1 = 2 := by decide +kernel
theorem a3 : (s2.act o3 64).1 = 1 := by decide +kernel
theorem a4 : (s3.act o4 7).1 = 1 := by decide +kernel
theorem a5 : (s4.sweep 67).1 = [3] := by decide +kernel
theorem a6 : (s5.act o5 70).1 = 1 := by decide +kernel
theorem f5 : s5.free = 1 := by decide +kernel
theorem c5 : s5.of 2 = 2 := by decide +kernel
theorem h5 : s5.of 1 = 0 := by decide +kernel
theorem e2 : s5.en 2 = Ent.gone := by decide +kernel
theorem e9 : s6.en 9 = Ent.gone := by decide +kernel
end T9

theorem new_w (w : World) (c o : Int) (hc : 0 ≤ c ∧ c ≤ 1000000) (ho : 0 ≤ o ∧ o ≤ 1000000) :
    Calls Try.prog 13 #[.agg #[.int .i64 c, .int .i64 o]] w fun e w' => ∃ b mb, e = .returned (.tuple #[.pointer (some ⟨b, 0, none⟩), .int .i64 0]) ∧ StkAt w' b mb (Stk.new c o) ∧ Chg (fun _ => False) w w' ∧ w.heap.size ≤ b ∧ w.heap.size ≤ mb := stkNew w c o hc ho

/-- What an operation gives, told by names. -/
theorem do_w {B : Nat} {w : World} {b mb : Nat} {s : Stk} (h : StkAt w b mb s) (hG : s.Good) (hb : B ≤ b ∧ B ≤ mb) (o : POp) (now r : Int) (s' : Stk) (hr : (s.act o now).1 = r) (hs : (s.act o now).2 = s') :
    Calls Try.prog 15 #[.pointer (some ⟨b, 0, none⟩), o.val, .int .i64 now] w fun e w' => e = .returned (.int .i64 r) ∧ StkAt w' b mb s' ∧ Chg (fun i => B ≤ i) w w' := by
  subst hr; subst hs
  refine (stk_do h hG o now).mono ?_
  rintro e w' ⟨h1, h2, h3⟩
  exact ⟨h1, h2, h3.mono (fun i _ hi => by rcases hi with rfl | rfl; exact hb.1; exact hb.2)⟩
theorem sweep_w {B : Nat} {w : World} {b mb : Nat} {s : Stk} (h : StkAt w b mb s) (hG : s.Good) (hb : B ≤ b ∧ B ≤ mb) (now : Int) (l : List Int) (s' : Stk) (hl : (s.sweep now).1 = l) (hs : (s.sweep now).2 = s') :
    Calls Try.prog 14 #[.pointer (some ⟨b, 0, none⟩), .int .i64 now] w fun e w' => ∃ v, e = .returned v ∧
      w'.ownsRow w.heap.size 3 1 v l.length (l.map encI) ∧ StkAt w' b mb s' ∧ Chg (fun i => B ≤ i) w w' := by
  subst hl; subst hs
  refine (sweep_any h hG now).mono ?_
  rintro e w' ⟨v, h1, h2, h3, h4⟩
  exact ⟨v, h1, h2, h3, h4.mono (fun i _ hi => by rcases hi with rfl | rfl; exact hb.1; exact hb.2)⟩

set_option maxRecDepth 100000 in
set_option maxHeartbeats 4000000 in
theorem told9 (w : World) : Calls Try.prog 12 #[] w fun e w' => e = .returned (.bool true) ∧ Chg (fun _ => False) w w' := by
  have hfd : ∀ w1, (Instr.field 40 (.agg #[.int .i64 3, .int .i64 0, .int .i64 0, .int .i64 0, .int .i64 0]) 0).run Try.prog w1 = .ok (.int .i64 3) w1 := fun w1 => by kernel_rfl
  go_enter Try.func12, Try.ntmps12
  go_wp2_with fail
  refine (new_w w 2 1 (by decide) (by decide)).mono ?_
  rintro e w0 ⟨b, mb, rfl, hS0, hc0, hb, hm⟩
  have hbm : w.heap.size ≤ b ∧ w.heap.size ≤ mb := ⟨hb, hm⟩
  clear hb hm
  go_wp2_with fail
  refine (do_w hS0 T9.g0 hbm T9.o1 5 _ T9.s1 T9.a1 rfl).mono ?_
  rintro e w1 ⟨rfl, hS1, hc1⟩
  go_wp2_with fail
  refine (do_w hS1 T9.g1 hbm T9.o2 5 _ T9.s2 T9.a2 rfl).mono ?_
  rintro e w2 ⟨rfl, hS2, hc2⟩
  go_wp2_with fail
  refine (do_w hS2 T9.g2 hbm T9.o3 64 _ T9.s3 T9.a3 rfl).mono ?_
  rintro e w3 ⟨rfl, hS3, hc3⟩
  go_wp2_with fail
  refine (do_w hS3 T9.g3 hbm T9.o4 7 _ T9.s4 T9.a4 rfl).mono ?_
  rintro e w4 ⟨rfl, hS4, hc4⟩
  go_wp2_with fail
  refine (sweep_w hS4 T9.g4 hbm 67 _ T9.s5 T9.a5 rfl).mono ?_
  rintro e w5 ⟨v, rfl, hown, hS5, hc5⟩
  have hcc : Chg (fun _ => False) w w5 := hc0.trans ((((hc1.trans hc2 (fun _ _ h => h)).trans hc3 (fun _ _ h => h)).trans hc4 (fun _ _ h => h)).trans hc5 (fun _ _ h => h)) (fun i hi h => by omega)
  clear hc0 hc1 hc2 hc3 hc4 hc5 hS0 hS1 hS2 hS3 hS4
  obtain ⟨g, cap, rfl⟩ : ∃ g cap, v = .slice (some ⟨g, 0, none⟩) 1 cap := by
    rcases hown.2 with ⟨_, h⟩ | ⟨g, cap, _, rfl, _⟩
    · simp at h
    · exact ⟨g, cap, rfl⟩
  have q0 : w5.cell? ⟨g, 0, none⟩ = some (.int .i64 3) := by simpa [Addr.add, encI] using own_cells_i hown 0 _ rfl
  clear hown
  go_wp2_with fail
  refine (stk_free hS5).mono ?_
  rintro e w' ⟨rfl, rfl⟩
  rw [T9.f5]
  go_wp2_with fail
  refine (stk_conf hS5 T9.g5).mono ?_
  rintro e w6 ⟨rfl, hc6⟩
  rw [T9.c5]
  have hS6 := hS5.chg hc6 id id
  clear hS5 q0
  go_wp2_with fail
  refine (stk_held hS6 T9.g5).mono ?_
  rintro e w7 ⟨rfl, hc7⟩
  rw [T9.h5]
  have hS7 := hS6.chg hc7 id id
  clear hS6
  go_wp2_with fail
  refine (stk_entry hS7 T9.g5 2 (by decide) Ent.gone T9.e2).mono ?_
  rintro e w8 ⟨rfl, hc8⟩
  have hS8 := hS7.chg hc8 id id
  clear hS7
  unfold Ent.val Ent.row Ent.gone
  go_wp2_with fail
  refine (do_w hS8 T9.g5 hbm T9.o5 70 _ T9.s6 T9.a6 rfl).mono ?_
  rintro e w9 ⟨rfl, hS9, hc9⟩
  clear hS8
  go_wp2_with fail
  refine (stk_entry hS9 T9.g6 9 (by decide) Ent.gone T9.e9).mono ?_
  rintro e w10 ⟨rfl, hc10⟩
  unfold Ent.val Ent.row Ent.gone
  go_wp2
  go_ret
  exact ⟨rfl, (((hcc.trans hc6 (fun _ _ h => h)).trans hc7 (fun _ _ h => h)).trans hc8 (fun _ _ h => h)).trans (hc9.trans hc10 (fun _ _ h => h.elim)) (fun i hi h => by omega)⟩
end Go.Proofs.Ytihfcfpkffebiaa
