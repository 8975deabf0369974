/-
  stock: of, Held, Confirmed by their contracts.
-/
import Derived.Test.YtkbnojjmpmlgjaaGreatStockG
import Derived.Test.YtkbnojjmpmlgjaaGreatSortK
import Derived.Test.YtkbnojjmpmlgjaaGreatZStockB
namespace Go.Proofs.YtkbnojjmpmlgjaaGreat
open Go.RowKit Go.Maps Go.WideShapes

theorem map_small {w : World} {mb : Nat} {en : Int → Ent} (hM : MapOf encI w mb (entMap en)) (hkeys : ∀ k, (en k).st ≠ 0 → 1 ≤ k ∧ k ≤ 200) : ∃ es clock, w.heap[mb]? = some (.map es clock) ∧ es.size ≤ 200 := by
  obtain ⟨es, clock, hb, hst, hsz, _⟩ := hM.count encI_inj (bookings en) (bookings_nodup en) (fun a => by
    rw [bookings_mem en hkeys]
    unfold entMap
    by_cases h : (en a).st = 0 <;> simp [h])
  exact ⟨es, clock, hb, by rw [hsz]; exact bookings_len en⟩

def ofL (s : Stk) (st : Int) (left : Lit → Bool) : Int := sumU (fun b => if left (.int .i64 b) then 0 else if (s.en b).st = st then (s.en b).un else 0) 200
theorem ofL_step {s : Stk} (hG : s.Good) (st : Int) (left : Lit → Bool) (x : Int) (hx : (s.en x).st ≠ 0) (hl : left (.int .i64 x) = true) :
    ofL s st (fun z => left z && !z.sameKey (.int .i64 x)) = ofL s st left + (if (s.en x).st = st then (s.en x).un else 0) := by
  have hb := hG.key x hx
  have h := sumU_upd (fun b => if left (.int .i64 b) then 0 else if (s.en b).st = st then (s.en b).un else 0) x (if (s.en x).st = st then (s.en x).un else 0) 200 hb.1 hb.2
  rw [if_pos hl, Int.sub_zero] at h
  show sumU _ 200 = sumU _ 200 + _
  refine Eq.trans (congrArg (fun g => sumU g 200) (funext fun i => ?_)) h
  by_cases e : i = x
  · subst e
    have : (Lit.int .i64 i).sameKey (.int .i64 i) = true := by simp [Lit.sameKey]
    simp [this]
  · have : (Lit.int .i64 i).sameKey (.int .i64 x) = false := by simp [Lit.sameKey, e]
    simp [this, e]
theorem ofL_none (s : Stk) (st : Int) (left : Lit → Bool) (h : ∀ kl, left kl = false) : ofL s st left = s.of st := by
  refine congrArg (fun g => sumU g 200) (funext fun b => ?_)
  rw [h]; rfl

set_option maxRecDepth 100000 in
set_option maxHeartbeats 2000000 in
theorem stk_of {w : World} {b mb : Nat} {s : Stk} (h : StkAt w b mb s) (hG : s.Good) (st : Int) :
    Calls Tryz.prog 53 #[.pointer (some ⟨b, 0, none⟩), .int .i64 st] w fun e w' => e = .returned (.int .i64 (s.of st)) ∧ Chg (fun _ => False) w w' := by
  obtain ⟨n, D0, hown, hhas, hhas2⟩ := map_entries h.map h.keys (map_small h.map h.keys)
  have c3 : w.cell? ⟨b, 3, none⟩ = some (.map (some mb)) := by rw [h.blk.cell]; rfl
  go_enter Tryz.func53, Tryz.ntmps53
  go_wp2_with (first | (at_range; refine wpList_range_own _ rfl _ 81 rfl 3 32 law3 Tryz.underlying81 _ mb n D0 rfl hown ?_; intro w0 hrg0 hg0 hs0) | go_in)
  go_frame
  go_loopw [5] (fun v5 wr => ∃ left cnt, v5 = .int .i64 (ofL s st left) ∧ wr.ranges Tryz.prog 3 entR mb w.heap.size n D0 left cnt ∧ (∀ x : Int, left (.int .i64 x) = true → (s.en x).st ≠ 0) ∧ Chg (fun _ => False) w wr) (fun _ wr => wr.rangeLeft mb w.heap.size)
  case atStart =>
    refine ⟨_, _, ?_, hrg0, fun x hx => hhas2 x hx, (own_grown hg0).mono (fun i _ hi => by cases hi)⟩
    have : ofL s st (has D0) = 0 := by
      refine Eq.trans (congrArg (fun g => sumU g 200) (funext fun x => ?_)) (sumU_zero 200)
      by_cases h0 : (s.en x).st = 0
      · have : (s.en x).un = 0 := by rw [hG.non x h0]; rfl
        rw [this]; split
        · rfl
        split <;> rfl
      · rw [(hhas x h0).1]; rfl
    rw [this]
  case round =>
    obtain ⟨left, cnt, rfl, hrg, hleft, hck⟩ := hrel
    go_wp2_with (first
      | (at_next; refine wpList_next_ranges _ rfl _ rfl 3 law3 entR encI Ent.val (fun key kl hk => by obtain ⟨x, hx, _⟩ := Maps.keyOf_int_inv Tryz.underlying3 hk; exact ⟨x, hx⟩) (fun v y hv => entR_inv v y hv) mb w.heap.size n _ _ _ rfl hrg ?_ ?_)
      | go_in)
    · intro hc0 hl0
      go_wp2
      go_ret
      exact ⟨by rw [ofL_none s st left hl0]; rfl, hck⟩
    · intro x c kl yd yp w2 cnt2 hkey hlk hv hat hrg2 hlt hg2 hs2 hen
      obtain ⟨x', ex, rfl, _⟩ := Maps.keyOf_int_inv Tryz.underlying3 hkey
      obtain rfl : x = x' := by injection ex
      have hx0 := hleft x hlk
      have hce : c = s.en x := by
        have h1 := (hhas x hx0).2
        rw [entR_val] at hv
        injection hv with hv
        have h2 := hat .nil
        rw [h1 .nil] at h2
        injection hv with hv _
        rw [← hv] at h2
        injection h2 with h2
        exact h2.symm
      subst hce
      obtain ⟨y, hy⟩ : ∃ y, s.en x = y := ⟨_, rfl⟩
      have hst := ofL_step hG st left x hx0 hlk
      have hp := hG.part st (fun b => left (.int .i64 b))
      have hp2 := hG.part st (fun b => left (.int .i64 b) && !(Lit.int .i64 b).sameKey (.int .i64 x))
      change 0 ≤ ofL s st left ∧ ofL s st left ≤ 2000000 at hp
      change 0 ≤ ofL s st (fun z => left z && !z.sameKey (.int .i64 x)) ∧ ofL s st (fun z => left z && !z.sameKey (.int .i64 x)) ≤ 2000000 at hp2
      rw [hst] at hp2
      simp only [hy] at hen hst hp2
      have hck2 : Chg (fun _ => False) w w2 := hck.grown hg2 (fun k hk => by cases hk; exact .inr (Nat.le_refl _))
      have hleft2 : ∀ z : Int, (fun z : Lit => left z && !z.sameKey (.int .i64 x)) (.int .i64 z) = true → (s.en z).st ≠ 0 := fun z hz => hleft z (by simp at hz; exact hz.1)
      have hl2 := hrg.left_eq
      generalize hsum : ofL s st left = a at *
      unfold encI Ent.val Ent.row at hen
      have hrg3 := hrg2.alloc (.cells y.row 32)
      have hck3 := hck2.alloc (.cells y.row 32)
      unfold Ent.row at hrg3 hck3
      by_cases hs : y.st = st
      · rw [if_pos hs] at hst hp2
        have b1 : (y.st == st) = true := by simp [hs]
        clear hs
        go_wp2
        go_roundw
        case rel => exact ⟨_, _, by rw [hst], hrg3, hleft2, hck3⟩
        case measure => rw [hrg3.left_eq, hl2]; exact hlt
      · rw [if_neg hs, Int.add_zero] at hst
        have b1 : (y.st == st) = false := by simp [hs]
        clear hs
        go_wp2
        go_roundw
        case rel => exact ⟨_, _, by rw [hst], hrg3, hleft2, hck3⟩
        case measure => rw [hrg3.left_eq, hl2]; exact hlt
end Go.Proofs.YtkbnojjmpmlgjaaGreat

namespace Go.Proofs.YtkbnojjmpmlgjaaGreat
open Go.RowKit Go.Maps

set_option maxRecDepth 100000 in
theorem stk_held {w : World} {b mb : Nat} {s : Stk} (h : StkAt w b mb s) (hG : s.Good) : Calls Tryz.prog 39 #[.pointer (some ⟨b, 0, none⟩)] w fun e w' => e = .returned (.int .i64 (s.of 1)) ∧ Chg (fun _ => False) w w' := by
  go_enter Tryz.func39, Tryz.ntmps39
  go_wp2_with fail
  refine (stk_of h hG 1).mono ?_
  rintro e w1 ⟨rfl, hc⟩
  go_wp2
  go_ret
  exact ⟨rfl, hc⟩

set_option maxRecDepth 100000 in
theorem stk_conf {w : World} {b mb : Nat} {s : Stk} (h : StkAt w b mb s) (hG : s.Good) : Calls Tryz.prog 40 #[.pointer (some ⟨b, 0, none⟩)] w fun e w' => e = .returned (.int .i64 (s.of 2)) ∧ Chg (fun _ => False) w w' := by
  go_enter Tryz.func40, Tryz.ntmps40
  go_wp2_with fail
  refine (stk_of h hG 2).mono ?_
  rintro e w1 ⟨rfl, hc⟩
  go_wp2
  go_ret
  exact ⟨rfl, hc⟩

set_option maxRecDepth 100000 in
theorem of_nil (w : World) (st : Int) : Calls Tryz.prog 53 #[.pointer none, .int .i64 st] w fun e w' => e = .returned (.int .i64 0) ∧ w' = w := by
  go_enter Tryz.func53, Tryz.ntmps53
  go_wp2
  go_ret
  exact ⟨rfl, rfl⟩

set_option maxRecDepth 100000 in
theorem held_nil (w : World) : Calls Tryz.prog 39 #[.pointer none] w fun e w' => e = .returned (.int .i64 0) ∧ w' = w := by
  go_enter Tryz.func39, Tryz.ntmps39
  go_wp2_with fail
  refine (of_nil w 1).mono ?_
  rintro e w1 ⟨rfl, rfl⟩
  go_wp2
  go_ret
  exact ⟨rfl, rfl⟩

set_option maxRecDepth 100000 in
theorem conf_nil (w : World) : Calls Tryz.prog 40 #[.pointer none] w fun e w' => e = .returned (.int .i64 0) ∧ w' = w := by
  go_enter Tryz.func40, Tryz.ntmps40
  go_wp2_with fail
  refine (of_nil w 2).mono ?_
  rintro e w1 ⟨rfl, rfl⟩
  go_wp2
  go_ret
  exact ⟨rfl, rfl⟩

set_option maxRecDepth 100000 in
theorem free_nil (w : World) : Calls Tryz.prog 19 #[.pointer none] w fun e w' => e = .returned (.int .i64 0) ∧ w' = w := by
  go_enter Tryz.func19, Tryz.ntmps19
  go_wp2
  go_ret
  exact ⟨rfl, rfl⟩

set_option maxRecDepth 100000 in
theorem entry_nil (w : World) (k : Int) : Calls Tryz.prog 41 #[.pointer none, .int .i64 k] w fun e w' => e = .returned Ent.none.val ∧ Chg (fun _ => False) w w' := by
  go_enter Tryz.func41, Tryz.ntmps41
  go_wp2
  exact bodyPost_ret (v := .agg #[.int .i64 0, .int .i64 0, .int .i64 0, .int .i64 0, .int .i64 0]) (by simp [results, Tryz.results41, go_sem]) rfl ⟨rfl, (Chg.refl _ _).alloc _⟩

set_option maxRecDepth 100000 in
theorem bytes_nil (w : World) : Calls Tryz.prog 33 #[.pointer none] w fun e w' => e = .returned (.slice none 0 0) ∧ w' = w := by
  go_enter Tryz.func33, Tryz.ntmps33
  go_wp2
  go_ret
  exact ⟨rfl, rfl⟩

set_option maxRecDepth 100000 in
theorem copy_nil (w : World) : Calls Tryz.prog 30 #[.pointer none] w fun e w' => e = .returned (.pointer none) ∧ w' = w := by
  go_enter Tryz.func30, Tryz.ntmps30
  go_wp2
  go_ret
  exact ⟨rfl, rfl⟩

set_option maxRecDepth 100000 in
theorem sweep_nil (w : World) (now : Int) : Calls Tryz.prog 20 #[.pointer none, .int .i64 now] w fun e w' => e = .returned (.slice none 0 0) ∧ w' = w := by
  go_enter Tryz.func20, Tryz.ntmps20
  go_wp2
  go_ret
  exact ⟨rfl, rfl⟩

set_option maxRecDepth 100000 in
theorem do_nil (w : World) (o : POp) (now : Int) : Calls Tryz.prog 16 #[.pointer none, o.val, .int .i64 now] w fun e w' => e = .returned (.int .i64 2) ∧ Chg (fun _ => False) w w' := by
  go_enter Tryz.func16, Tryz.ntmps16
  unfold POp.val
  go_wp2
  go_ret
  exact ⟨rfl, (Chg.refl _ w).alloc _⟩
end Go.Proofs.YtkbnojjmpmlgjaaGreat
