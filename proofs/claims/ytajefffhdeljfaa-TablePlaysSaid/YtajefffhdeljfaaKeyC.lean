/-
  maps.Keys and slices.Collect at keys of two numbers: what comes, each once. (After the kit's own text on keys of one number.)
-/
import Derived.Test.YtajefffhdeljfaaTabA
import Derived.Test.YtajefffhdeljfaaKeyG
import Derived.Shelf.SlIterI.Collect
import Derived.Shelf.AbstractIn
namespace Go.Proofs.Ytajefffhdeljfaa
open Go.RowKit Go.Maps Go.Sort Go.Shelf Go.Proofs

/-- A key's cells. -/
def encL (p : Int × Int) : List Value := [.int .i64 p.1, .int .i64 p.2]
/-- Keys' cells, one behind the other. -/
def fl2 : List (Int × Int) → List Value
  | [] => []
  | p :: r => .int .i64 p.1 :: .int .i64 p.2 :: fl2 r
theorem fl2_len : ∀ l, (fl2 l).length = l.length * 2
  | [] => rfl
  | p :: r => by simp [fl2, fl2_len r]; omega
theorem fl2_snoc (p : Int × Int) : ∀ l, fl2 (l ++ [p]) = fl2 l ++ encL p
  | [] => rfl
  | q :: r => by simp [fl2, fl2_snoc p r]

set_option maxRecDepth 100000 in
set_option maxHeartbeats 1000000 in
theorem kkeys1 (F : Fence) (n : Nat) (h10 : F.fn 66) (hro : F.round = none) (hn : 1 ≤ n) (l Bm b nn : Nat) (D0 : DataW Unit) (f : Int × Int → Option Value) (hK : KeysAre Try.prog 70 encP f D0) (J : List (Int × Int) → World → Prop)
    (hY : ∀ pre x W, J pre W → pre.length < Maps.size D0 → YieldAt F (n - 1) Try.prog l #[encP x] W fun e W' => e = .returned (.bool true) ∧ J (pre ++ [x]) W' ∧ KeepsWalks W W')
    (W : World) (hJ : AbidesFrom W.heap.size J) (hm : W.cell? ⟨Bm, 0, none⟩ = some (.map (some b))) (hown : W.ownsMap Try.prog 70 anyE b nn D0) (h0 : J [] W) :
    CallsIn F n Try.prog 66 #[.func (.yield l) #[] #[], .pointer (some ⟨Bm, 0, none⟩)] W fun e W' => (∃ v, e = .returned v) ∧ ∃ ss left, CollK Try.prog 70 encP D0 left ss ∧ (∀ l, left l = false) ∧ J ss W' := by
  refine callsIn_of_wp Try.func66 rfl h10 ?_ hro
  simp only [Try.ntmps66, List.size_toArray, List.length_cons, List.length_nil, Nat.reduceAdd, Nat.reduceSub, Array.replicate_succ, Array.replicate_zero, List.push_toArray, List.append_toArray, List.nil_append, List.cons_append]
  gi_wp2_with (first
    | (gi_at_range; refine wpListIn_range_own _ rfl _ 92 rfl 70 3 law2 Try.underlying92 _ b nn _ rfl hown ?_; intro w0 hrg0 hg0 hs0)
    | fail)
  go_frame
  gi_loopw [3] (fun _ wr => ∃ (left : Lit → Bool) (cnt : Nat) (ss : List (Int × Int)), wr.ranges Try.prog 70 anyE b W.heap.size nn D0 left cnt ∧ ss.length + cnt ≤ Maps.size D0 ∧ CollK Try.prog 70 encP D0 left ss ∧ J ss wr)
    (fun _ wr => wr.rangeLeft b W.heap.size)
  case atStart =>
    exact ⟨_, _, [], hrg0, by simp, CollK.start, hJ [] W w0 none h0 hg0 (fun r e => by cases e)⟩
  case round =>
    obtain ⟨left, cnt, ss, hrg, hcs, hC, hJs⟩ := hrel
    gi_wp2_with (first
      | (gi_at_next; refine wpListIn_next_ranges (α := Value) (β := Value) _ rfl _ rfl 70 law2 anyE id id (fun key kl hk => ⟨key, rfl⟩) (fun v _ _ => ⟨v, rfl⟩) b W.heap.size nn _ _ _ rfl hrg ?_ ?_)
      | fail)
    · intro hc0 hl0
      gi_wp2_with fail
      go_end0
      exact ⟨⟨_, rfl⟩, ss, left, hC, hl0, hJs⟩
    · intro x c kl yd yp w2 cnt2 hkey hlk hv hat hrg2 hlt hg2 hs2 hen
      have hhas : has D0 kl = true := has_true_of_atKey hat
      obtain ⟨a, ha, hka⟩ := (hK kl).1 hhas
      obtain rfl : x = encP a := law2.inj hkey hka
      have hJ2 : J ss w2 := hJ ss wr w2 (some W.heap.size) hJs hg2 (fun r e => by cases e; exact ⟨Nat.le_refl _, hrg.iter_walk⟩)
      have hJ3 : J ss (w2.alloc (.cells #[.int .i64 a.1, .int .i64 a.2] 70)) := hJ ss w2 _ none hJ2 (World.grownBy_alloc _ _ _) (fun r e => by cases e)
      obtain ⟨fn, tmps, assign, body, hy, hR⟩ := hY ss a _ hJ3 (by omega)
      clear hs2
      unfold encP at hy hen
      gi_wp2_with fail
      refine hR.mono ?_
      rintro e W3 ⟨rfl, hJ4, hk4⟩
      gi_wp2_with fail
      have hrg3 := hrg2.of_walks ((KeepsWalks.alloc w2 _).trans hk4)
      go_roundw
      case rel => exact ⟨_, cnt2, ss ++ [a], hrg3, by simp; omega, hC.step law2 encP_inj hka hhas hlk, hJ4⟩
      case measure => rw [hrg3.left_eq, hrg.left_eq]; exact hlt
end Go.Proofs.Ytajefffhdeljfaa
