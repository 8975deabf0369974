/-
  pack: the Writer's Bytes; bytes as a string.
-/
import Derived.Test.YtpbjompopgdbjaaPackW
import Derived.Laws.IdiomStrings
namespace Go.Proofs.Ytpbjompopgdbjaa
open Go.RowKit

theorem bytes_cells {w : World} {base : Nat} {v : Value} {xs : List UInt8} (h : w.ownsRow base 5 1 v xs.length (xs.map encB)) (hne : xs ≠ []) :
    ∃ g cap, v = .slice (some ⟨g, 0, none⟩) xs.length cap ∧ base ≤ g ∧ g < w.heap.size ∧ ∀ j u, (xs.map encB)[j]? = some u → w.cell? ((⟨g, 0, none⟩ : Addr).add j) = some u := by
  rcases h.2 with ⟨_, h0⟩ | ⟨g, cap, cur, rfl, hb, hh, _, _, _, ht⟩
  · exact absurd (List.length_eq_zero_iff.1 h0) hne
  · refine ⟨g, cap, rfl, hb, (Array.getElem?_eq_some_iff.1 hh).1, fun j u hj => ?_⟩
    rw [← ht, List.getElem?_take] at hj
    split at hj
    · have hc := cell_of_row w g j cur _ (0, 0) hh
      have he : (⟨g, 0, none⟩ : Addr).add j = ⟨g, j, none⟩ := by unfold Addr.add; split <;> simp_all
      rw [he, hc, ← hj]; simp
    · cases hj

/-- 'string(b)'. -/
theorem bytes_str {w : World} {g cap : Nat} {xs : List UInt8} (h : ∀ j u, (xs.map encB)[j]? = some u → w.cell? ((⟨g, 0, none⟩ : Addr).add j) = some u) :
    (convert 31 9 (.slice (some ⟨g, 0, none⟩) xs.length cap)).run Try.prog w = .ok (.string ⟨xs.toArray⟩) w :=
  run_convert_bytes_back w 31 9 5 ⟨g, 0, none⟩ cap xs Try.underlying31 Try.underlying5 Try.underlying9 (fun j hj => by
    refine h j _ ?_
    rw [List.getElem?_map, List.getElem?_eq_getElem hj]
    rfl)

set_option maxRecDepth 100000 in
set_option maxHeartbeats 4000000 in
theorem wrBytes_any {w : World} {g base : Nat} {lv : Value} {xs : List UInt8} (h : WrAt w g base lv xs) (hne : xs ≠ []) (hlen : xs.length ≤ 1000000000) :
    Calls Try.prog 55 #[.pointer (some ⟨g, 0, none⟩)] w fun e w' => ∃ v, e = .returned v ∧ w'.ownsRow w.heap.size 5 1 v xs.length (xs.map encB) ∧ Chg (fun _ => False) w w' := by
  obtain ⟨gb, cap, rfl, hbb, hbl, hcell⟩ := bytes_cells h.own hne
  have hcA := (Chg.refl (fun _ => False) w).alloc (.cells #[] 5)
  have hA := h.chg hcA id (fun _ _ => id)
  have cA : (w.alloc (.cells #[] 5)).cell? ⟨g, 0, none⟩ = some (.slice (some ⟨gb, 0, none⟩) xs.length cap) := by rw [hA.blk.cell]; rfl
  have hown0 : (w.alloc (.cells #[] 5)).ownsRow w.heap.size 5 1 (.slice (some ⟨w.heap.size, 0, none⟩) 0 0) 0 [] := World.ownsRow_made w #[] 0 (Nat.le_refl _) (by unfold maxLen; omega) rfl
  have hnews : ∀ j u, (xs.map encB)[j]? = some u → (w.alloc (.cells #[] 5)).cell? ((⟨gb, 0, none⟩ : Addr).add j) = some u := fun j u hj => by
    have hb : ((⟨gb, 0, none⟩ : Addr).add j).block = gb := by unfold Addr.add; split <;> rfl
    rw [hcA.cell (by rw [hb]; exact hbl) id]
    exact hcell j u hj
  have hone : ∀ u ∈ xs.map encB, u.oneCell' = true := by
    intro u hu
    obtain ⟨b, _, rfl⟩ := List.mem_map.1 hu
    rfl
  have hnh := Lib.hid hnews
  have hoh := Lib.hid hone
  obtain ⟨i0, hi, hz0, hz1, hz2⟩ := info_parts infoByte
  clear hcell hnews hone hA
  go_enter Try.func55, Try.ntmps55
  go_wp2_with (at_builtin; go_loud (refine wpList_append_own_at _ rfl _ _ 31 rfl w.heap.size 5 i0 (.int .u8 0) 1 1 Try.underlying31 hi hz0 hz1 hz2 rfl (by decide) (.slice (some ⟨w.heap.size, 0, none⟩) 0 0) 0 [] rfl (by exact hown0) ⟨gb, 0, none⟩ xs.length cap (xs.map encB) rfl (by simp) (by exact hnh.out) (by exact hoh.out) (by unfold maxLen; omega) (by omega) (by rw [alloc_size]; omega) ?_; intro v' w5 hown5 hgr5 _ hloc5))
  go_ret
  have hc5 := own_grown hgr5
  rw [Nat.zero_add, List.nil_append] at hown5
  refine ⟨v', rfl, hown5, hcA.trans hc5 (fun i hi h => ?_)⟩
  simp [Value.ownBlock] at h
  omega
end Go.Proofs.Ytpbjompopgdbjaa
