/-
  layer 13: told.
-/
import Derived.Test.YtddnpjlcmokbiaaTillB
namespace Go.Proofs.Ytddnpjlcmokbiaa
open Go.RowKit Go.Maps

namespace T13
def g : Int → Int := fun i => if i = 0 then 9 else 0
theorem g_ok : ∀ i, 0 ≤ i → i ≤ 3 → 0 ≤ g i ∧ g i ≤ 1099511627776 := by
  intro i _ _; unfold g; split <;> omega
def p0 : Pur := Pur.new g
def f0 : Tab := fun _ => 0
def o1 : POp := ⟨4, 1, 0, 0, 4⟩
def o3 : POp := ⟨1, 1, 1, 0, 0⟩
def o4 : POp := ⟨5, 1, 0, 0, 0⟩
def p1 : Pur := (p0.act o1).2
def f1 : Tab := upd f0 (1, 4) 1
def p4 : Pur := (p1.act o4).2
def f4 : Tab := upd f1 (1, 5) 1
theorem g0 : p0.Good 9 := Pur.new_good fun i h1 h2 => (g_ok i h1 h2).1
theorem g1 : p1.Good 9 := g0.act _
theorem g4 : p4.Good 9 := g1.act _
theorem r1 : (p0.act o1).1 = 1 := by decide +kernel
theorem r4 : (p1.act o4).1 = 1 := by decide +kernel
theorem a1 : tAsk p0 f0 o1 = (1, true, p1, f1) := by
  rw [tAsk_new (by decide +kernel) (by decide) rfl, r1]; rfl
theorem a2 : tAsk p1 f1 o1 = (1, false, p1, f1) := by
  rw [tAsk_old (by decide +kernel) (by decide) (by decide +kernel)]; rfl
theorem a3 : tAsk p1 f1 o3 = (2, false, p1, f1) := tAsk_no (.inr (by decide))
theorem a4 : tAsk p1 f1 o4 = (1, true, p4, f4) := by
  rw [tAsk_new (by decide +kernel) (by decide) (by decide +kernel), r4]; rfl
theorem l0 : p0.ln.length ≤ 1000000 := by decide +kernel
theorem l1 : p1.ln.length ≤ 1000000 := by decide +kernel
theorem l4 : p4.ln.length ≤ 1000001 := by decide +kernel
theorem b0 : p4.ac 0 = 5 := by decide +kernel
theorem b5 : p4.ac 5 = 4 := by decide +kernel
theorem keys : ∀ p, p ∈ [((1 : Int), (4 : Int)), (1, 5)] ↔ f4 p ≠ 0 := by
  intro p
  unfold f4 f1 f0 upd
  by_cases h1 : p = (1, 5)
  · simp [h1]
  · by_cases h2 : p = (1, 4)
    · simp [h2]
    · simp [h1, h2]
end T13

set_option maxRecDepth 100000 in
set_option maxHeartbeats 4000000 in
theorem told13 (w : World) : Calls Try.prog 14 #[] w fun e w' => e = .returned (.bool true) ∧ Chg (fun _ => False) w w' := by
  go_enter Try.func14, Try.ntmps14
  go_wp2_with fail
  refine (tillNew w T13.g T13.g_ok).mono ?_
  rintro e w0 ⟨b, rfl, hW0, hc0⟩
  go_wp2_with fail
  have hcA : Chg (fun _ => False) w0 (w0.alloc (.cells #[.int .i64 4, .int .i64 1, .int .i64 0, .int .i64 0, .int .i64 4] 33)) := (Chg.refl _ w0).alloc _
  have hO := Blk.new w0 33 #[.int .i64 4, .int .i64 1, .int .i64 0, .int .i64 0, .int .i64 4]
  generalize w0.alloc (.cells #[.int .i64 4, .int .i64 1, .int .i64 0, .int .i64 0, .int .i64 4] 33) = wA at *
  have hWA := (hW0.here).keep hcA
  have hcB := hc0.trans hcA (fun _ _ h => h)
  have hsz := hc0.size
  have hAs : w0.heap.size < wA.heap.size := hO.lt
  refine (ask_any _ wA b T13.p0 T13.f0 T13.o1 9 hWA T13.g0 (by decide) T13.l0 _ _ _ _ T13.a1).mono ?_
  rintro e w1 ⟨rfl, hW1, hc1⟩
  have hO1 := hO.chg hc1 (fun h => by have := h.2; omega)
  have hcC : Chg (fun i => w.heap.size ≤ i) w w1 := (hcB.mono (fun _ _ h => h.elim)).trans hc1 (fun i _ h => h.1)
  have q0 : w1.cell? ⟨w0.heap.size, 0, none⟩ = some (.int .i64 4) := by rw [hO1.cell]; rfl
  have q1 : w1.cell? ⟨w0.heap.size, 1, none⟩ = some (.int .i64 1) := by rw [hO1.cell]; rfl
  have q2 : w1.cell? ⟨w0.heap.size, 2, none⟩ = some (.int .i64 0) := by rw [hO1.cell]; rfl
  have q3 : w1.cell? ⟨w0.heap.size, 3, none⟩ = some (.int .i64 0) := by rw [hO1.cell]; rfl
  have q4 : w1.cell? ⟨w0.heap.size, 4, none⟩ = some (.int .i64 4) := by rw [hO1.cell]; rfl
  clear hc0 hcA hc1 hW0 hWA hO hcB
  go_wp2_with fail
  refine (ask_any _ w1 b T13.p1 T13.f1 T13.o1 9 hW1 T13.g1 (by decide) T13.l1 _ _ _ _ T13.a2).mono ?_
  rintro e w2 ⟨rfl, hW2, hc2⟩
  have z1 := hcC.size
  have hcD : Chg (fun i => w.heap.size ≤ i) w w2 := hcC.trans hc2 (fun i _ h => by rcases h with h | h <;> omega)
  have z3 := hcD.size
  clear q0 q1 q2 q3 q4 hcC hc2 hW1 hO1
  go_wp2_with fail
  refine (ask_any _ w2 b T13.p1 T13.f1 T13.o3 9 hW2 T13.g1 (by decide) T13.l1 _ _ _ _ T13.a3).mono ?_
  rintro e w3 ⟨rfl, hW3, hc3⟩
  have hcE : Chg (fun i => w.heap.size ≤ i) w w3 := hcD.trans hc3 (fun i hi h => by rcases h with (h | h) | h <;> omega)
  have z4 := hcE.size
  clear hcD hc3 hW2
  go_wp2_with fail
  refine (ask_any _ w3 b T13.p1 T13.f1 T13.o4 9 hW3 T13.g1 (by decide) T13.l1 _ _ _ _ T13.a4).mono ?_
  rintro e w4 ⟨rfl, hW4, hc4⟩
  have hcG : Chg (fun i => w.heap.size ≤ i) w w4 := hcE.trans hc4 (fun i hi h => by rcases h with ((h | h) | h) | h <;> omega)
  clear hcE hc4 hW3
  go_wp2_with fail
  refine (till_purse hW4 T13.l4).mono ?_
  rintro e w5 ⟨b2, rfl, hP5, hc5⟩
  have hW5 := hW4.keep hc5
  go_wp2_with fail
  refine (balance_i hP5 0 (by omega)).mono ?_
  rintro e w' ⟨rfl, rfl⟩
  rw [T13.b0]
  go_wp2_with fail
  refine (takings_w hP5).mono ?_
  rintro e w' ⟨rfl, rfl⟩
  rw [T13.b5]
  go_wp2_with fail
  refine (till_answers hW5 [(1, 4), (1, 5)] (by decide) T13.keys).mono ?_
  rintro e w' ⟨rfl, rfl⟩
  go_wp2_with fail
  go_ret
  exact ⟨rfl, (hcG.mono (fun i hi h => by omega)).trans hc5 (fun _ _ h => h)⟩
end Go.Proofs.Ytddnpjlcmokbiaa
