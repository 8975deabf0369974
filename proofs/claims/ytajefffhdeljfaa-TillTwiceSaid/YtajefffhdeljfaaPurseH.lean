/-
  purse: Lines, a copy of the moves.
-/
import Derived.Test.YtajefffhdeljfaaPurseG
import Derived.WalkSpells
namespace Go.Proofs.Ytajefffhdeljfaa
open Go.RowKit Go.Maps

theorem own_cells {w : World} {base : Nat} {e : TypeId} {size n g cap : Nat} {xs : List Value} (h : w.ownsRow base e size (.slice (some ⟨g, 0, none⟩) n cap) n xs) :
    ∀ j u, xs[j]? = some u → w.cell? ((⟨g, 0, none⟩ : Addr).add j) = some u := by
  rcases h.2 with ⟨h, _⟩ | ⟨g', cap', cur, h, _, hh, _, _, _, ht⟩
  · cases h
  · injection h with h1 _ _
    injection h1 with h1; injection h1 with h1
    subst h1
    intro j u hj
    rw [← ht, List.getElem?_take] at hj
    split at hj
    · have hc := cell_of_row w g j cur e (0, 0) hh
      have he : (⟨g, 0, none⟩ : Addr).add j = ⟨g, j, none⟩ := by unfold Addr.add; split <;> simp_all
      rw [he, hc, ← hj]; simp
    · cases hj

set_option maxRecDepth 100000 in
theorem clone_any (w : World) (lv : Value) (n : Nat) (xs : List Value) (hown : w.ownsRow 0 58 4 lv n xs) (h1 : ∀ u ∈ xs, u.oneCell' = true) (hn : n ≤ 1000001) :
    Calls Try.prog 42 #[lv] w fun e w' => ∃ v2, e = .returned v2 ∧ w'.ownsRow 0 58 4 v2 n xs ∧ Chg (fun _ => False) w w' ∧ (∀ k, v2.ownBlock = some k → w.heap.size ≤ k) := by
  have hnl : ∀ w1 a n c, (binOp .eql 55 (.slice a n c) (.slice none 0 0)).run Try.prog w1 = .ok (.bool a.isNone) w1 := fun w1 a n c => Lib.run_eql_slice_nil w1 _ _ a n c 0 0 Try.underlying55
  rcases hown.2 with ⟨rfl, rfl⟩ | ⟨g, cap, cur, rfl, hbase, hh, hcap, hmx, hsz, htk⟩
  · go_enter Try.func42, Try.ntmps42
    go_wp2
    go_ret
    exact ⟨_, rfl, hown, Chg.refl _ _, fun k h => by cases h⟩
  · go_enter Try.func42, Try.ntmps42
    obtain ⟨i0, hi, hz0, hz1, hz2⟩ := info_parts infoLine
    go_wp2_with (at_builtin; go_loud (refine wpList_append_own_at _ rfl _ _ 55 rfl 0 58 i0 (.agg #[.int .i64 0, .int .i64 0, .int .i64 0, .int .i64 0]) 4 32 Try.underlying55 hi hz0 hz1 hz2 rfl (by decide) (.slice (some ⟨w.heap.size, 0, none⟩) 0 0) 0 [] rfl ⟨rfl, .inr ⟨w.heap.size, 0, #[], rfl, Nat.zero_le _, Blk.new w _ #[], Nat.le_refl _, Nat.zero_le _, rfl, rfl⟩⟩ ⟨g, 0, none⟩ n cap xs rfl hown.1 (fun j u hj => ((own_cells (own_chg hown ((Chg.refl (fun _ => False) w).alloc _) (fun _ _ h => h))) j u hj)) h1 (by unfold maxLen; omega) (by omega) (Nat.zero_le _) ?_; intro v' w5 hown5 hgr5 _ hloc))
    go_ret
    refine ⟨v', rfl, by simpa using hown5, ((Chg.refl (fun _ => False) w).alloc _).grown hgr5 ?_, ?_⟩
    · intro k hk; right; simp [Value.ownBlock] at hk; omega
    · intro k hk; rcases hloc with h | h <;> rw [h] at hk <;> simp [Value.ownBlock] at hk <;> omega

theorem mv_cells_ints (l : List Mv) : ∀ u ∈ l.flatMap Mv.cells, u.oneCell' = true := by
  intro u hu
  obtain ⟨m, _, hm⟩ := List.mem_flatMap.1 hu
  simp [Mv.cells] at hm
  rcases hm with rfl | rfl | rfl | rfl <;> rfl

set_option maxRecDepth 100000 in
theorem lines_any (w : World) (b mb : Nat) (lv : Value) (p : Pur) (hP : PurAt w b mb lv p) (hlen : p.ln.length ≤ 1000001) :
    Calls Try.prog 17 #[.pointer (some ⟨b, 0, none⟩)] w fun e w' => ∃ v2, e = .returned v2 ∧ w'.ownsRow 0 58 4 v2 p.ln.length (p.ln.flatMap Mv.cells) ∧ Chg (fun _ => False) w w' ∧ (∀ k, v2.ownBlock = some k → w.heap.size ≤ k) := by
  have cB : w.cell? ⟨b, 7, none⟩ = some lv := by rw [hP.blk.cell]; rfl
  go_enter Try.func17, Try.ntmps17
  go_wp2_with (go_at_call 42; refine (clone_any _ lv _ _ hP.own (mv_cells_ints _) hlen).mono ?_; rintro e w' ⟨v2, rfl, h1, h2, h3⟩)
  go_ret
  exact ⟨v2, rfl, h1, h2, h3⟩
end Go.Proofs.Ytajefffhdeljfaa
