/-
  purse: Lines, a copy of the moves.
-/
import Derived.Test.YtddnpjlcmokbiaaZPurseCo
import Derived.WalkSpells
namespace Go.Proofs.Ytddnpjlcmokbiaa
open Go.RowKit Go.Maps

theorem own_cells {w : World} {base : Nat} {e : TypeId} {size n g cap : Nat} {xs : List Value} (h : w.ownsRow base e size (.slice (some ⟨g, 0, none⟩) n cap) n xs) :
    ∀ j u, xs[j]? = some u → w.cell? ((⟨g, 0, none⟩ : Addr).add j) = some u := by
  rcases h.2 with ⟨h, _⟩ | ⟨g', cap', cur, h, _, hh, _, _, _, ht⟩
  · cases h
  · injection h with h1 _ _
    injection h1 with h1; injection h1 with h1
    subst h1
    intro j u hj
    rw [← ht, List.getElem?_take] at hj
    split at hj
    · have hc := cell_of_row w g j cur e (0, 0) hh
      have he : (⟨g, 0, none⟩ : Addr).add j = ⟨g, j, none⟩ := by unfold Addr.add; split <;> simp_all
      rw [he, hc, ← hj]; simp
    · cases hj

set_option maxRecDepth 100000 in
theorem clone_any (w : World) (lv : Value) (n : Nat) (xs : List Value) (hown : w.ownsRow 0 70 4 lv n xs) (h1 : ∀ u ∈ xs, u.oneCell' = true) (hn : n ≤ 1000001) :
    Calls Try.prog 34 #[lv] w fun e w' => ∃ v2, e = .returned v2 ∧ w'.ownsRow 0 70 4 v2 n xs ∧ Chg (fun _ => False) w w' ∧ (∀ k, v2.ownBlock = some k → w.heap.size ≤ k) := by
  have hnl : ∀ w1 a n c, (binOp .eql 61 (.slice a n c) (.slice none 0 0)).run Try.prog w1 = .ok (.bool a.isNone) w1 := fun w1 a n c => Lib.run_eql_slice_nil w1 _ _ a n c 0 0 Try.underlying61
  rcases hown.2 with ⟨rfl, rfl⟩ | ⟨g, cap, cur, rfl, hbase, hh, hcap, hmx, hsz, htk⟩
  · go_enter Try.func34, Try.ntmps34
    go_wp2
    go_ret
    exact ⟨_, rfl, hown, Chg.refl _ _, fun k h => by cases h⟩
  · go_enter Try.func34, Try.ntmps34
    obtain ⟨i0, hi, hz0, hz1, hz2⟩ := info_parts infoLine
    go_wp2_with (at_builtin; go_loud (refine wpList_append_own_at _ rfl _ _ 61 rfl 0 70 i0 (.agg #[.int .i64 0, .int .i64 0, .int .i64 0, .int .i64 0]) 4 32 Try.underlying61 hi hz0 hz1 hz2 rfl (by decide) (.slice (some ⟨w.heap.size, 0, none⟩) 0 0) 0 [] rfl ⟨rfl, .inr ⟨w.heap.size, 0, #[], rfl, Nat.zero_le _, Blk.new w _ #[], Nat.le_refl _, Nat.zero_le _, rfl, rfl⟩⟩ ⟨g, 0, none⟩ n cap xs rfl hown.1 (fun j u hj => ((own_cells (own_chg hown ((Chg.refl (fun _ => False) w).alloc _) (fun _ _ h => h))) j u hj)) h1 (by unfold maxLen; omega) (by omega) (Nat.zero_le _) ?_; intro v' w5 hown5 hgr5 _ hloc))
    go_ret
    refine ⟨v', rfl, by simpa using hown5, ((Chg.refl (fun _ => False) w).alloc _).grown hgr5 ?_, ?_⟩
    · intro k hk; right; simp [Value.ownBlock] at hk; omega
    · intro k hk; rcases hloc with h | h <;> rw [h] at hk <;> simp [Value.ownBlock] at hk <;> omega

theorem mv_cells_ints (l : List Mv) : ∀ u ∈ l.flatMap Mv.cells, u.oneCell' = true := by
  intro u hu
  obtain ⟨m, _, hm⟩ := List.mem_flatMap.1 hu
  simp [Mv.cells] at hm
  rcases hm with rfl | rfl | rfl | rfl <;> rfl

set_option maxRecDepth 100000 in
theorem lines_any (w : World) (b mb : Nat) (lv : Value) (p : Pur) (hP : PurAt w b mb lv p) (hlen : p.ln.length ≤ 1000001) :
    Calls Try.prog 23 #[.pointer (some ⟨b, 0, none⟩)] w fun e w' => ∃ v2, e = .returned v2 ∧ w'.ownsRow 0 70 4 v2 p.ln.length (p.ln.flatMap Mv.cells) ∧ Chg (fun _ => False) w w' ∧ (∀ k, v2.ownBlock = some k → w.heap.size ≤ k) := by
  have cB : w.cell? ⟨b, 7, none⟩ = some lv := by rw [hP.blk.cell]; rfl
  go_enter Try.func23, Try.ntmps23
  go_wp2_with (go_at_call 34; refine (clone_any _ lv _ _ hP.own (mv_cells_ints _) hlen).mono ?_; rintro e w' ⟨v2, rfl, h1, h2, h3⟩)
  go_ret
  exact ⟨v2, rfl, h1, h2, h3⟩
end Go.Proofs.Ytddnpjlcmokbiaa

namespace Go.Proofs.Ytddnpjlcmokbiaa
open Go.RowKit Go.Maps

/-- A ledger that reads as p, with all that it has at or above block B. -/
def PurW (B : Nat) (w : World) (b : Nat) (p : Pur) : Prop := ∃ mb lv, PurAt w b mb lv p ∧ B ≤ b ∧ B ≤ mb ∧ ∀ k, lv.ownBlock = some k → B ≤ k

theorem PurW.keep {B : Nat} {w w' : World} {b : Nat} {p : Pur} {S : Nat → Prop} (h : PurW B w b p) (hc : Chg S w w') (hs : ∀ i, S i → i < B) : PurW B w' b p := by
  obtain ⟨mb, lv, hP, h1, h2, h3⟩ := h
  exact ⟨mb, lv, hP.chg hc (fun h => by have := hs _ h; omega) (fun h => by have := hs _ h; omega) (fun k hk h => by have := hs _ h; have := h3 k hk; omega), h1, h2, h3⟩
theorem PurW.keep0 {B : Nat} {w w' : World} {b : Nat} {p : Pur} (h : PurW B w b p) (hc : Chg (fun _ => False) w w') : PurW B w' b p := h.keep hc (fun _ h => h.elim)
theorem PurW.down {B B' : Nat} {w : World} {b : Nat} {p : Pur} (h : PurW B w b p) (hb : B' ≤ B) : PurW B' w b p := by
  obtain ⟨mb, lv, hP, h1, h2, h3⟩ := h
  exact ⟨mb, lv, hP, Nat.le_trans hb h1, Nat.le_trans hb h2, fun k hk => Nat.le_trans hb (h3 k hk)⟩
theorem PurW.lt {B : Nat} {w : World} {b : Nat} {p : Pur} (h : PurW B w b p) : B < w.heap.size := by
  obtain ⟨mb, lv, hP, h1, h2, h3⟩ := h
  exact Nat.lt_of_le_of_lt h1 hP.blk.lt

theorem new_w (w : World) (f : Int → Int) (hf : ∀ i, 0 ≤ i → i ≤ 3 → 0 ≤ f i ∧ f i ≤ 1099511627776) :
    Calls Try.prog 5 #[fundsVal f] w fun e w' => ∃ b, e = .returned (.tuple #[.pointer (some ⟨b, 0, none⟩), .int .i64 0]) ∧ PurW w.heap.size w' b (Pur.new f) ∧ Chg (fun _ => False) w w' := by
  refine (new_any w f hf).mono ?_
  rintro e w' ⟨b, mb, lv, rfl, hP, hc, h1, h2, h3⟩
  exact ⟨b, rfl, ⟨mb, lv, hP, h1, h2, fun k hk => by rw [h3] at hk; cases hk⟩, hc⟩

theorem do_w (B : Nat) (w : World) (b : Nat) (p : Pur) (o : POp) (T : Int) (hP : PurW B w b p) (hG : p.Good T) (hT : T ≤ 1125899906842624) (hlen : p.ln.length ≤ 1000000) (r : Int) (p' : Pur) (hr : (p.act o).1 = r) (hp : (p.act o).2 = p') :
    Calls Try.prog 9 #[.pointer (some ⟨b, 0, none⟩), o.val] w fun e w' => e = .returned (.int .i64 r) ∧ PurW B w' b p' ∧ Chg (fun i => B ≤ i) w w' := by
  have hlt := hP.lt
  obtain ⟨mb, lv, hP, h1, h2, h3⟩ := hP
  refine (do_any w b mb lv p o T hP hG hT hlen).mono ?_
  rintro e w' ⟨rfl, lv', hP', hc, hl⟩
  rw [hr, hp] at *
  refine ⟨rfl, ⟨mb, lv', hP', h1, h2, ?_⟩, hc.mono fun i _ hi => ?_⟩
  · intro k hk
    rcases hl with hl | ⟨k', hl, hle⟩
    · exact h3 k (hl ▸ hk)
    · rw [hl] at hk; injection hk with hk; omega
  · rcases hi with rfl | rfl | hi
    · exact h1
    · exact h2
    · exact h3 i hi

theorem takings_w {B : Nat} {w : World} {b : Nat} {p : Pur} (hP : PurW B w b p) : Calls Try.prog 25 #[.pointer (some ⟨b, 0, none⟩)] w fun e w' => e = .returned (.int .i64 (p.ac 5)) ∧ w' = w := by
  obtain ⟨mb, lv, hP, _⟩ := hP
  exact takings_any w b mb lv p hP
theorem balance_w {B : Nat} {w : World} {b : Nat} {p : Pur} (hP : PurW B w b p) (n : Nat) (hn : n < 4) : Calls Try.prog 24 #[.pointer (some ⟨b, 0, none⟩), .int .i64 n] w fun e w' => e = .returned (.int .i64 (p.ac n)) ∧ w' = w := by
  obtain ⟨mb, lv, hP, _⟩ := hP
  exact balance_any w b mb lv p n hn hP
theorem entry_w {B : Nat} {w : World} {b : Nat} {p : Pur} {T : Int} (hP : PurW B w b p) (hG : p.Good T) (k : Int) (hk : 1 ≤ k ∧ k ≤ 200) (x : Ent) (hx : p.en k = x) :
    Calls Try.prog 27 #[.pointer (some ⟨b, 0, none⟩), .int .i64 k] w fun e w' => e = .returned x.val ∧ Chg (fun _ => False) w w' := by
  obtain ⟨mb, lv, hP, _⟩ := hP
  rw [← hx]
  exact entry_any w b mb lv p k hk hG.non hP
theorem lines_w {B : Nat} {w : World} {b : Nat} {p : Pur} (hP : PurW B w b p) (hlen : p.ln.length ≤ 1000001) (l : List Mv) (hl : p.ln = l) :
    Calls Try.prog 23 #[.pointer (some ⟨b, 0, none⟩)] w fun e w' => ∃ v2, e = .returned v2 ∧ w'.ownsRow 0 70 4 v2 l.length (l.flatMap Mv.cells) ∧ Chg (fun _ => False) w w' ∧ (∀ k, v2.ownBlock = some k → w.heap.size ≤ k) := by
  obtain ⟨mb, lv, hP, _⟩ := hP
  subst hl
  exact lines_any w b mb lv p hP hlen
end Go.Proofs.Ytddnpjlcmokbiaa
