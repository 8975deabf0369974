/-
  The reference's purse: NewPurse.
-/
import Derived.Test.YtddnpjlcmokbiaaZRTabA
import Derived.Test.YtddnpjlcmokbiaaZPurseCo
namespace Go.Proofs.Ytddnpjlcmokbiaa
open Go.RowKit Go.Maps

def RP : QEnv := ⟨48, 1012, fun _ => .int .i64 0, by omega, by decide, by decide, by decide⟩
set_option maxRecDepth 100000 in
theorem rp_zero : Try.zeroCells48 = arrF 1012 (qovl RP.g (fun _ => 0) (fun _ => Ent.none) (.slice none 0 0)) := by kernel_rfl
theorem upto_upd (g : Int → Int) (k : Nat) : upd (fun i => if 0 ≤ i ∧ i < (k : Int) then g i else 0) (k : Int) (g k) = fun i => if 0 ≤ i ∧ i < ((k + 1 : Nat) : Int) then g i else 0 := by
  funext i
  unfold upd
  by_cases h : i = k
  · subst h; rw [if_pos rfl, if_pos (by omega)]
  · rw [if_neg h]
    dsimp only
    by_cases h2 : 0 ≤ i ∧ i < (k : Int)
    · rw [if_pos h2, if_pos (by omega)]
    · rw [if_neg h2, if_neg (by omega)]

set_option maxRecDepth 100000 in
set_option maxHeartbeats 1000000 in
theorem rq_new (w : World) (g : Int → Int) :
    Calls Try.prog 8 #[fundsVal g] w fun e w' => ∃ b, e = .returned (.pointer (some ⟨b, 0, none⟩)) ∧ QBlk RP w' b (Pur.new g).ac (Pur.new g).en (.slice none 0 0) ∧ Chg (fun _ => False) w w' ∧ w.heap.size ≤ b := by
  have hcA := ((Chg.refl (fun _ => False) w).alloc (.cells #[.int .i64 (g 0), .int .i64 (g 1), .int .i64 (g 2), .int .i64 (g 3)] 22))
  have hF0 := Blk.new w 22 #[.int .i64 (g 0), .int .i64 (g 1), .int .i64 (g 2), .int .i64 (g 3)]
  go_enter Try.func8, Try.ntmps8
  unfold fundsVal
  go_wp2_with fail
  rw [rp_zero]
  have hX0 : QBlk RP ((w.alloc (.cells #[.int .i64 (g 0), .int .i64 (g 1), .int .i64 (g 2), .int .i64 (g 3)] 22)).alloc (.cells (arrF 1012 (qovl RP.g (fun _ => 0) (fun _ => Ent.none) (.slice none 0 0))) 48)) (w.heap.size + 1) (fun _ => 0) (fun _ => Ent.none) (.slice none 0 0) := by
    have h := Blk.new (w.alloc (.cells #[.int .i64 (g 0), .int .i64 (g 1), .int .i64 (g 2), .int .i64 (g 3)] 22)) 48 (arrF 1012 (qovl RP.g (fun _ => 0) (fun _ => Ent.none) (.slice none 0 0)))
    have e : (w.alloc (.cells #[.int .i64 (g 0), .int .i64 (g 1), .int .i64 (g 2), .int .i64 (g 3)] 22)).heap.size = w.heap.size + 1 := by simp
    rw [e] at h
    exact h
  have hcB := hcA.alloc (.cells (arrF 1012 (qovl RP.g (fun _ => 0) (fun _ => Ent.none) (.slice none 0 0))) 48)
  have hF1 := hF0.alloc (.cells (arrF 1012 (qovl RP.g (fun _ => 0) (fun _ => Ent.none) (.slice none 0 0))) 48)
  have hk0 : (fun i : Int => if 0 ≤ i ∧ i < ((0 : Nat) : Int) then g i else 0) = fun _ => 0 := by funext i; rw [if_neg (by omega)]
  have hck0 := hcB.mono (T := fun i => w.heap.size ≤ i) (fun _ _ h => h.elim)
  clear hcA hF0 hcB
  generalize (w.alloc (.cells #[.int .i64 (g 0), .int .i64 (g 1), .int .i64 (g 2), .int .i64 (g 3)] 22)).alloc (.cells (arrF 1012 (qovl RP.g (fun _ => 0) (fun _ => Ent.none) (.slice none 0 0))) 48) = w1 at *
  generalize hXe : w.heap.size + 1 = X at *
  rw [← hk0] at hX0
  clear hk0
  go_loopw [4] (fun v4 wr => ∃ k : Nat, v4 = .int .i64 k ∧ k ≤ 4 ∧ QBlk RP wr X (fun i => if 0 ≤ i ∧ i < (k : Int) then g i else 0) (fun _ => Ent.none) (.slice none 0 0) ∧ Blk wr w.heap.size 22 #[.int .i64 (g 0), .int .i64 (g 1), .int .i64 (g 2), .int .i64 (g 3)] ∧ Chg (fun i => w.heap.size ≤ i) w wr) (fun v4 _ => 4 - (RowKit.intOf v4).toNat)
  case atStart => exact ⟨0, rfl, by omega, hX0, hF1, hck0⟩
  case round =>
    clear hX0 hF1 hck0
    obtain ⟨k, rfl, hk, hX, hF, hck⟩ := hrel
    by_cases hlt : k < 4
    · have c0 : wr.cell? ⟨w.heap.size, k, none⟩ = some (.int .i64 (g k)) := by
        rw [hF.cell]
        have : k = 0 ∨ k = 1 ∨ k = 2 ∨ k = 3 := by omega
        rcases this with rfl | rfl | rfl | rfl <;> rfl
      have c1 := hX.acc k (by omega)
      have f1 := hX.frozen k
      have hX2 := hX.setAc k (by omega) (g k)
      rw [upto_upd] at hX2
      have hXF : w.heap.size ≠ X := by omega
      have hF2 := hF.far (p := ⟨X, k, none⟩) hXF (.int .i64 (g k))
      have hck2 := hck.setCell (p := ⟨X, k, none⟩) (.inl (show w.heap.size ≤ X by omega)) (.int .i64 (g k))
      have bk0 : (0 : Int) ≤ (k : Int) := by omega
      have bk1 : (k : Int) < 6 := by omega
      have bk2 : (k : Int) < 4 := by omega
      go_wp2_with fail
      refine wp_region_plan (by kernel_rfl) [{ fl := [0, 1, 2, 3, 4, 5, 6, 7], ef := 8 }] [] (by kernel_rfl) (fun _ _ => True) ?_
      simp only [wpPlan, longOK, keepOK, opsAt_cons, opsAt_nil, consO_some, List.getElem?_toArray, List.getElem?_cons_succ, List.getElem?_cons_zero, true_and]
      go_wp2_with fail
      refine ⟨by kernel_rfl, ?_⟩
      go_wp2_with fail
      refine ⟨by kernel_rfl, ?_⟩
      go_wp2_with fail
      go_roundw
      case rel => exact ⟨k + 1, by go_num, by omega, hX2, hF2, hck2.drew⟩
      case measure => simp [RowKit.intOf]; omega
    · have hk4 : k = 4 := by omega
      subst hk4
      go_wp2_with fail
      go_ret
      refine ⟨X, rfl, ?_, hck.mono (fun i hi h => by omega), by omega⟩
      have e : (fun i : Int => if 0 ≤ i ∧ i < ((4 : Nat) : Int) then g i else 0) = (Pur.new g).ac := by
        funext i
        show _ = if 0 ≤ i ∧ i ≤ 3 then g i else 0
        by_cases h : 0 ≤ i ∧ i ≤ 3
        · rw [if_pos h, if_pos (by omega)]
        · rw [if_neg h, if_neg (by omega)]
      rw [← e]
      exact hX
end Go.Proofs.Ytddnpjlcmokbiaa
