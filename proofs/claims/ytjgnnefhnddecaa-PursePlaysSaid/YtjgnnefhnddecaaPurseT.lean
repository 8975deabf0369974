/-
  layer 10: told.
-/
import Derived.Test.YtjgnnefhnddecaaPurseW
import Derived.Test.YtjgnnefhnddecaaPurseGr
namespace Go.Proofs.Ytjgnnefhnddecaa
open Go.RowKit Go.Maps

namespace T10
def f : Int → Int := fun i => if i = 0 then 5 else if i = 1 then 9 else 0
def p0 : Pur := Pur.new f
def o1 : POp := ⟨4, 1, 0, 0, 6⟩
def o2 : POp := ⟨4, 2, 0, 1, 6⟩
def o3 : POp := ⟨5, 2, 0, 0, 0⟩
def o4 : POp := ⟨6, 3, 0, 0, 0⟩
def p1 : Pur := (p0.act o1).2
def p2 : Pur := (p1.act o2).2
def p3 : Pur := (p2.act o3).2
def p4 : Pur := (p3.act o4).2
theorem f_ok : ∀ i, 0 ≤ i → i ≤ 3 → 0 ≤ f i ∧ f i ≤ 1099511627776 := by
  intro i _ _; unfold f; repeat' split
  all_goals omega
theorem g0 : p0.Good 14 := Pur.new_good fun i h1 h2 => (f_ok i h1 h2).1
theorem g1 : p1.Good 14 := g0.act _
theorem g2 : p2.Good 14 := g1.act _
theorem g3 : p3.Good 14 := g2.act _
theorem g4 : p4.Good 14 := g3.act _
theorem a1 : (p0.act o1).1 = 2 := by decide +kernel
theorem a2 : (p1.act o2).1 = 1 := by decide +kernel
theorem a3 : (p2.act o3).1 = 1 := by decide +kernel
theorem a4 : (p3.act o4).1 = 1 := by decide +kernel
theorem l0 : p0.ln.length ≤ 1000000 := by decide +kernel
theorem l1 : p1.ln.length ≤ 1000000 := by decide +kernel
theorem l2 : p2.ln.length ≤ 1000000 := by decide +kernel
theorem l3 : p3.ln.length ≤ 1000000 := by decide +kernel
theorem l4 : p4.ln.length ≤ 1000001 := by decide +kernel
theorem ln4 : p4.ln = [⟨2, 1, 4, 6⟩, ⟨2, 4, 5, 6⟩] := by decide +kernel
theorem b1 : p4.ac 1 = 3 := by decide +kernel
theorem b4 : p4.ac 4 = 0 := by decide +kernel
theorem b5 : p4.ac 5 = 6 := by decide +kernel
theorem e1 : p4.en 1 = Ent.gone := by decide +kernel
theorem e3 : p4.en 3 = Ent.gone := by decide +kernel
end T10

set_option maxRecDepth 100000 in
set_option maxHeartbeats 4000000 in
theorem told10 (w : World) : Calls Try.prog 14 #[] w fun e w' => e = .returned (.bool true) ∧ Chg (fun _ => False) w w' := by
  have hfd : ∀ w1, (Instr.field 31 (.agg #[.int .i64 3, .int .i64 0, .int .i64 0, .int .i64 0, .int .i64 0]) 0).run Try.prog w1 = .ok (.int .i64 3) w1 := fun w1 => by kernel_rfl
  go_enter Try.func14, Try.ntmps14
  go_wp2_with (go_at_call 12; refine (new_w w T10.f T10.f_ok).mono ?_; rintro e w0 ⟨b, rfl, hP0, hc0⟩)
  refine (do_w w.heap.size w0 b T10.p0 T10.o1 14 hP0 T10.g0 (by decide) T10.l0 _ T10.p1 T10.a1 rfl).mono ?_
  rintro e w1 ⟨rfl, hP1, hc1⟩
  go_wp2_with fail
  refine (do_w w.heap.size w1 b T10.p1 T10.o2 14 hP1 T10.g1 (by decide) T10.l1 _ T10.p2 T10.a2 rfl).mono ?_
  rintro e w2 ⟨rfl, hP2, hc2⟩
  go_wp2_with fail
  refine (do_w w.heap.size w2 b T10.p2 T10.o3 14 hP2 T10.g2 (by decide) T10.l2 _ T10.p3 T10.a3 rfl).mono ?_
  rintro e w3 ⟨rfl, hP3, hc3⟩
  go_wp2_with fail
  refine (do_w w.heap.size w3 b T10.p3 T10.o4 14 hP3 T10.g3 (by decide) T10.l3 _ T10.p4 T10.a4 rfl).mono ?_
  rintro e w4 ⟨rfl, hP4, hc4⟩
  have hcc : Chg (fun _ => False) w w4 := hc0.trans (((hc1.trans hc2 (fun _ _ h => h)).trans hc3 (fun _ _ h => h)).trans hc4 (fun _ _ h => h) |>.mono fun _ _ h => h) (fun i hi h => by omega)
  clear hc0 hc1 hc2 hc3 hc4 hP0 hP1 hP2 hP3
  go_wp2_with fail
  refine (lines_w hP4 T10.l4 _ T10.ln4).mono ?_
  rintro e w5 ⟨v2, rfl, hown, hc5, hnew⟩
  have hP5 := hP4.keep0 hc5
  obtain ⟨g, cap, rfl, hcap⟩ : ∃ g cap, v2 = .slice (some ⟨g, 0, none⟩) 2 cap ∧ 2 ≤ cap := by
    rcases hown.2 with ⟨_, h⟩ | ⟨g, cap, _, rfl, _, _, h, _⟩
    · simp at h
    · exact ⟨g, cap, rfl, h⟩
  have hcl := own_cells hown
  have q0 : w5.cell? ⟨g, 0, none⟩ = some (.int .i64 2) := by simpa [Addr.add] using hcl 0 _ rfl
  have q1 : w5.cell? ⟨g, 1, none⟩ = some (.int .i64 1) := by simpa [Addr.add] using hcl 1 _ rfl
  have q2 : w5.cell? ⟨g, 2, none⟩ = some (.int .i64 4) := by simpa [Addr.add] using hcl 2 _ rfl
  have q3 : w5.cell? ⟨g, 3, none⟩ = some (.int .i64 6) := by simpa [Addr.add] using hcl 3 _ rfl
  have q6 : w5.cell? ⟨g, 6, none⟩ = some (.int .i64 5) := by simpa [Addr.add] using hcl 6 _ rfl
  clear hcl
  have hgl : g < w5.heap.size := by
    rcases hown.2 with ⟨h, _⟩ | ⟨g', cap', cur, h, _, hh, _⟩
    · cases h
    · injection h with h1 _ _
      injection h1 with h1; injection h1 with h1
      subst h1
      exact (Array.getElem?_eq_some_iff.1 hh).1
  clear hown hnew
  go_wp2_with fail
  refine (balance_w hP5 1 (by decide)).mono ?_
  rintro e w' ⟨rfl, rfl⟩
  rw [show T10.p4.ac ((1 : Nat) : Int) = 3 from T10.b1]
  go_wp2_with fail
  refine (takings_w hP5).mono ?_
  rintro e w' ⟨rfl, rfl⟩
  rw [T10.b5]
  go_wp2_with fail
  refine (reserved_w hP5).mono ?_
  rintro e w' ⟨rfl, rfl⟩
  rw [T10.b4]
  go_wp2_with fail
  refine (entry_w hP5 T10.g4 1 (by decide) Ent.gone T10.e1).mono ?_
  rintro e w6 ⟨rfl, hc6⟩
  have hP6 := hP5.keep0 hc6
  clear q0 q1 q2 q3 q6 hgl hP5
  unfold Ent.val Ent.row Ent.gone
  go_wp2_with fail
  refine (entry_w hP6 T10.g4 3 (by decide) Ent.gone T10.e3).mono ?_
  rintro e w7 ⟨rfl, hc7⟩
  unfold Ent.val Ent.row Ent.gone
  go_wp2
  go_ret
  exact ⟨rfl, ((hcc.trans hc5 (fun _ _ h => h)).trans hc6 (fun _ _ h => h)).trans hc7 (fun _ _ h => h)⟩
end Go.Proofs.Ytjgnnefhnddecaa
