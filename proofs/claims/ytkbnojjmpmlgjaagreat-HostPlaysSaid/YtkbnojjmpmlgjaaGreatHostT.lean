/-
  layer 12: told.
-/
import Derived.Test.YtkbnojjmpmlgjaaGreatHostB
import Derived.Test.YtkbnojjmpmlgjaaGreatZStockF
namespace Go.Proofs.YtkbnojjmpmlgjaaGreat
open Go.RowKit Go.Maps

namespace T12
def s0 : Stk := Stk.new 2 0
def f0 : Tab := fun _ => 0
def o1 : POp := ⟨1, 1, 2, 0, 0⟩
def o2 : POp := ⟨4, 1, 0, 0, 0⟩
def o3 : POp := ⟨2, 1, 0, 0, 0⟩
def s1 : Stk := (s0.act o1 5).2
def f1 : Tab := upd f0 (1, 1) 1
def s2 : Stk := (s1.sweep 65).2
def s3 : Stk := (s2.act o3 66).2
def f3 : Tab := upd f1 (1, 2) 2
theorem g0 : s0.Good := Stk.Good.new (by decide) (by decide)
theorem g1 : s1.Good := g0.act _ _
theorem g2 : s2.Good := g1.sweep _
theorem r1 : (s0.act o1 5).1 = 1 := by decide +kernel
theorem r3 : (s2.act o3 66).1 = 2 := by decide +kernel
theorem a1 : hAsk s0 f0 o1 5 = (1, true, s1, f1) := by
  rw [hAsk_new (by decide +kernel) (by decide) (by decide) (by decide) rfl, r1]; rfl
theorem a2 : hAsk s1 f1 o1 6 = (1, false, s1, f1) := by
  rw [hAsk_old (by decide +kernel) (by decide) (by decide) (by decide) (by decide +kernel)]; rfl
theorem a3 : hAsk s1 f1 o2 6 = (2, false, s1, f1) := hAsk_no (.inr (.inl (by decide)))
theorem a4 : hAsk s2 f1 o3 66 = (2, true, s3, f3) := by
  rw [hAsk_new (by decide +kernel) (by decide) (by decide) (by decide) (by decide +kernel), r3]; rfl
theorem w1 : (s1.sweep 65).1 = [1] := by decide +kernel
theorem fr : s1.free = 0 := by decide +kernel
theorem keys : ∀ p, p ∈ [((1 : Int), (1 : Int)), (1, 2)] ↔ f3 p ≠ 0 := by
  intro p
  unfold f3 f1 f0 upd
  by_cases h1 : p = (1, 2)
  · simp [h1]
  · by_cases h2 : p = (1, 1)
    · simp [h2]
    · simp [h1, h2]
end T12

set_option maxRecDepth 100000 in
set_option maxHeartbeats 1000000 in
theorem told12 (w : World) : Calls Tryz.prog 6 #[] w fun e w' => e = .returned (.bool true) ∧ Chg (fun _ => False) w w' := by
  go_enter Tryz.func6, Tryz.ntmps6
  go_wp2_with fail
  refine (hostNew w 2 0 (by decide) (by decide)).mono ?_
  rintro e w0 ⟨b, rfl, hW0, hc0⟩
  go_wp2_with fail
  have hcA : Chg (fun _ => False) w0 (w0.alloc (.cells #[.int .i64 1, .int .i64 1, .int .i64 2, .int .i64 0, .int .i64 0] 43)) := (Chg.refl _ w0).alloc _
  have hO := Blk.new w0 43 #[.int .i64 1, .int .i64 1, .int .i64 2, .int .i64 0, .int .i64 0]
  generalize w0.alloc (.cells #[.int .i64 1, .int .i64 1, .int .i64 2, .int .i64 0, .int .i64 0] 43) = wA at *
  have hWA := (hW0.here).keep hcA
  have hcB := hc0.trans hcA (fun _ _ h => h)
  have hsz := hc0.size
  have hAs : w0.heap.size < wA.heap.size := hO.lt
  refine (hask_any _ wA b T12.s0 T12.f0 T12.o1 5 hWA T12.g0 _ _ _ _ T12.a1).mono ?_
  rintro e w1 ⟨rfl, hW1, hc1⟩
  have hO1 := hO.chg hc1 (fun h => by have := h.2; omega)
  have hcC : Chg (fun i => w.heap.size ≤ i) w w1 := (hcB.mono (fun _ _ h => h.elim)).trans hc1 (fun i _ h => h.1)
  have q0 : w1.cell? ⟨w0.heap.size, 0, none⟩ = some (.int .i64 1) := by rw [hO1.cell]; rfl
  have q1 : w1.cell? ⟨w0.heap.size, 1, none⟩ = some (.int .i64 1) := by rw [hO1.cell]; rfl
  have q2 : w1.cell? ⟨w0.heap.size, 2, none⟩ = some (.int .i64 2) := by rw [hO1.cell]; rfl
  have q3 : w1.cell? ⟨w0.heap.size, 3, none⟩ = some (.int .i64 0) := by rw [hO1.cell]; rfl
  have q4 : w1.cell? ⟨w0.heap.size, 4, none⟩ = some (.int .i64 0) := by rw [hO1.cell]; rfl
  have zz1 := hc1.size
  clear hc0 hcA hc1 hW0 hWA hO hcB
  go_wp2_with fail
  refine (hask_any _ w1 b T12.s1 T12.f1 T12.o1 6 hW1 T12.g1 _ _ _ _ T12.a2).mono ?_
  rintro e w2 ⟨rfl, hW2, hc2⟩
  have hcD : Chg (fun i => w.heap.size ≤ i) w w2 := hcC.trans hc2 (fun i _ h => h.1)
  have zz2 := hc2.size
  clear q0 q1 q2 q3 q4 hcC hc2 hW1 hO1
  go_wp2_with fail
  refine (hask_any _ w2 b T12.s1 T12.f1 T12.o2 6 hW2 T12.g1 _ _ _ _ T12.a3).mono ?_
  rintro e w3 ⟨rfl, hW3, hc3⟩
  have hcE : Chg (fun i => w.heap.size ≤ i) w w3 := hcD.trans hc3 (fun i hi h => h.1)
  have zz3 := hc3.size
  clear hcD hc3 hW2
  go_wp2_with fail
  refine (host_stock hW3).mono ?_
  rintro e w4 ⟨c, mc, rfl, hC4, hc4, hcb, hcm⟩
  have hW4 := hW3.keep hc4
  have hcE4 := hcE.trans hc4 (fun _ _ h => h.elim)
  clear hcE hW3
  go_wp2_with fail
  refine (host_sweep hW4 T12.g1 65).mono ?_
  rintro e w5 ⟨v, rfl, hown, hW5, hc5⟩
  have hC5 := hC4.chg hc5 (fun h => by have := h.2; omega) (fun h => by have := h.2; omega)
  have hcE5 := hcE4.trans hc5 (fun i _ h => h.1)
  rw [T12.w1] at hown
  obtain ⟨g, cap, rfl⟩ : ∃ g cap, v = .slice (some ⟨g, 0, none⟩) 1 cap := by
    rcases hown.2 with ⟨_, h⟩ | ⟨g, cap, _, rfl, _⟩
    · simp at h
    · exact ⟨g, cap, rfl⟩
  clear hown hcE4 hC4 hW4 hc5 hc4
  go_wp2_with fail
  refine (hask_any _ w5 b T12.s2 T12.f1 T12.o3 66 hW5 T12.g2 _ _ _ _ T12.a4).mono ?_
  rintro e w6 ⟨rfl, hW6, hc6⟩
  have hC6 := hC5.chg hc6 (fun h => by have := h.2; omega) (fun h => by have := h.2; omega)
  have hcE6 := hcE5.trans hc6 (fun i _ h => h.1)
  clear hcE5 hC5 hW5 hc6
  go_wp2_with fail
  refine (stk_free hC6).mono ?_
  rintro e w7 ⟨rfl, rfl⟩
  rw [T12.fr]
  go_wp2_with fail
  refine (host_answers hW6 [(1, 1), (1, 2)] (by decide) T12.keys).mono ?_
  rintro e w8 ⟨rfl, rfl⟩
  go_wp2_with fail
  go_ret
  exact ⟨rfl, hcE6.mono (fun i hi h => by omega)⟩
end Go.Proofs.YtkbnojjmpmlgjaaGreat
