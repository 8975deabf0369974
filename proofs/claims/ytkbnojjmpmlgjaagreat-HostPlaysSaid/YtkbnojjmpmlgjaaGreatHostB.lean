/-
  host: Stock (a copy), Sweep, Answers by their contracts.
-/
import Derived.Test.YtkbnojjmpmlgjaaGreatZTabH
import Derived.Test.YtkbnojjmpmlgjaaGreatZStockF
import Derived.Test.YtkbnojjmpmlgjaaGreatStockK
import Derived.Test.YtkbnojjmpmlgjaaGreatTabE
namespace Go.Proofs.YtkbnojjmpmlgjaaGreat
open Go.RowKit Go.Maps

set_option maxRecDepth 100000 in
theorem host_stock {S : Nat → Prop} {w : World} {b : Nat} {s : Stk} {f : Tab} (hW : HostW S w b s f) :
    Calls Tryz.prog 12 #[.pointer (some ⟨b, 0, none⟩)] w fun e w' => ∃ b2 mb2, e = .returned (.pointer (some ⟨b2, 0, none⟩)) ∧ StkAt w' b2 mb2 s ∧ Chg (fun _ => False) w w' ∧ w.heap.size ≤ b2 ∧ w.heap.size ≤ mb2 := by
  obtain ⟨lb, mb, t, mt, hBk, hP, _⟩ := hW
  have b0 : w.cell? ⟨b, 0, none⟩ = some (.pointer (some ⟨lb, 0, none⟩)) := by rw [hBk.cell]; rfl
  go_enter Tryz.func12, Tryz.ntmps12
  go_wp2_with fail
  refine (stk_copy hP).mono ?_
  rintro e w2 ⟨b2, mb2, rfl, hP2, hc2, h1, h2⟩
  go_wp2_with fail
  go_ret
  exact ⟨_, mb2, rfl, hP2, hc2, h1, h2⟩

set_option maxRecDepth 100000 in
theorem host_sweep {S : Nat → Prop} {w : World} {b : Nat} {s : Stk} {f : Tab} (hW : HostW S w b s f) (hG : s.Good) (now : Int) :
    Calls Tryz.prog 7 #[.pointer (some ⟨b, 0, none⟩), .int .i64 now] w fun e w' => ∃ v, e = .returned v ∧
      w'.ownsRow w.heap.size 3 1 v (s.sweep now).1.length ((s.sweep now).1.map encI) ∧ HostW S w' b (s.sweep now).2 f ∧ Chg S w w' := by
  obtain ⟨lb, mb, t, mt, hBk, hP, hT, hne, a1, a2, a3, a4, a5⟩ := hW
  have b0 : w.cell? ⟨b, 0, none⟩ = some (.pointer (some ⟨lb, 0, none⟩)) := by rw [hBk.cell]; rfl
  have n1 : ¬ (b = lb ∨ b = mb) := by
    rintro (h | h)
    · exact (hBk.ne hP.blk (by decide)) h
    · exact (hP.map.ne hBk) h.symm
  have n2 : ¬ (t = lb ∨ t = mb) := by
    rintro (h | h)
    · exact (hT.blk.ne hP.blk (by decide)) h
    · exact (hP.map.ne hT.blk) h.symm
  have n3 : ¬ (mt = lb ∨ mt = mb) := by
    rintro (h | h)
    · exact (hT.map.ne hP.blk) h
    · exact hne h.symm
  go_enter Tryz.func7, Tryz.ntmps7
  go_wp2_with fail
  refine (sweep_any hP hG now).mono ?_
  rintro e w2 ⟨v, rfl, hown, hP2, hc2⟩
  go_wp2_with fail
  go_ret
  exact ⟨v, rfl, hown, ⟨lb, mb, t, mt, hBk.chg hc2 n1, hP2, hT.chg hc2 n2 n3, hne, a1, a2, a3, a4, a5⟩, hc2.mono (fun i _ hi => by rcases hi with rfl | rfl; exact a2; exact a3)⟩

set_option maxRecDepth 100000 in
theorem host_answers {S : Nat → Prop} {w : World} {b : Nat} {s : Stk} {f : Tab} (hW : HostW S w b s f) (l : List (Int × Int)) (hn : l.Nodup) (hl : ∀ p, p ∈ l ↔ f p ≠ 0) :
    Calls Tryz.prog 11 #[.pointer (some ⟨b, 0, none⟩)] w fun e w' => e = .returned (.int .i64 l.length) ∧ w' = w := by
  obtain ⟨lb, mb, t, mt, hBk, hP, hT, _⟩ := hW
  have b0 : w.cell? ⟨b, 1, none⟩ = some (.pointer (some ⟨t, 0, none⟩)) := by rw [hBk.cell]; rfl
  go_enter Tryz.func11, Tryz.ntmps11
  go_wp2_with (go_at_call 29; refine (len_any _ t mt f hT l hn hl).mono ?_; rintro e w' ⟨rfl, rfl⟩)
  go_ret
  exact ⟨rfl, rfl⟩
end Go.Proofs.YtkbnojjmpmlgjaaGreat
