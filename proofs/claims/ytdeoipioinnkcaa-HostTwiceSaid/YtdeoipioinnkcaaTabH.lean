/-
  table: Answer by its contract, over whatever the host's closure does.
-/
import Derived.Test.YtdeoipioinnkcaaTabC
namespace Go.Proofs.Ytdeoipioinnkcaa
open Go.RowKit Go.Maps

set_option maxRecDepth 100000 in
set_option maxHeartbeats 1000000 in
theorem answer_old (w : World) (t mt : Nat) (f : Tab) (o : POp) (cx co cn : Value) (hT : TabAt w t mt f) (hm : mayOp o = true) (hf : f (o.bk, o.kd) ≠ 0) :
    Calls Try.prog 18 #[.pointer (some ⟨t, 0, none⟩), o.val, .func (.func 19) #[] #[cx, co, cn]] w fun e w' => e = .returned (.tuple #[.int .i64 (f (o.bk, o.kd)), .bool false]) ∧ Chg (fun _ => False) w w' := by
  have hb := mayOp_bk hm
  have hk := mayOp_kd hm
  have hfh := Lib.hid (show (!(f (o.bk, o.kd) == 0)) = true by simp [hf])
  clear hm hf
  go_enter Try.func18, Try.ntmps18
  unfold POp.val
  go_wp2_with fail
  refine (find_any _ t mt f o (by exact hT.chg ((Chg.refl (fun _ => False) w).alloc _) id id) ⟨by omega, by omega⟩ ⟨by omega, by omega⟩).mono ?_
  rintro e w2 ⟨rfl, hc2⟩
  rw [hfh.out]
  have hcF : Chg (fun _ => False) w w2 := ((Chg.refl _ w).alloc _).trans hc2 (fun _ _ h => h)
  go_wp2_with fail
  go_ret2
  exact ⟨rfl, hcF⟩

set_option maxRecDepth 100000 in
set_option maxHeartbeats 1000000 in
theorem answer_new (w : World) (t mt : Nat) (f : Tab) (o : POp) (cx co cn : Value) (hT : TabAt w t mt f) (hm : mayOp o = true) (hf : f (o.bk, o.kd) = 0) (r : Int) (hr : r = 1 ∨ r = 2) (S : Nat → Prop) (Post : World → Prop) (hS : ¬ S t ∧ ¬ S mt)
    (hdo : ∀ w1, Chg (fun _ => False) w w1 → Calls Try.prog 19 #[cx, co, cn] w1 fun e w' => e = .returned (.int .i64 r) ∧ Post w' ∧ Chg S w1 w') (hSl : ∀ i, S i → i < w.heap.size) :
    Calls Try.prog 18 #[.pointer (some ⟨t, 0, none⟩), o.val, .func (.func 19) #[] #[cx, co, cn]] w fun e w' => e = .returned (.tuple #[.int .i64 r, .bool true]) ∧ TabAt w' t mt (upd f (o.bk, o.kd) r) ∧ Chg (fun i => S i ∨ i = mt) w w' ∧ ∃ w3, Post w3 ∧ Chg (fun i => i = mt) w3 w' := by
  have hb := mayOp_bk hm
  have hk := mayOp_kd hm
  have hfz := Lib.hid hf
  have hmh := Lib.hid hm
  have hfh := Lib.hid (show (!(f (o.bk, o.kd) == 0)) = false by simp [hf])
  have hdoh := Lib.hid hdo
  clear hm hf hdo
  go_enter Try.func18, Try.ntmps18
  unfold POp.val
  go_wp2_with fail
  refine (find_any _ t mt f o (by exact hT.chg ((Chg.refl (fun _ => False) w).alloc _) id id) ⟨by omega, by omega⟩ ⟨by omega, by omega⟩).mono ?_
  rintro e w2 ⟨rfl, hc2⟩
  rw [hfh.out]
  have hO := (Blk.new w 31 o.row).chg hc2 id
  have hcF : Chg (fun _ => False) w w2 := ((Chg.refl _ w).alloc _).trans hc2 (fun _ _ h => h)
  have hT2 := hT.chg hcF id id
  go_wp2_with fail
  refine (hdoh.out w2 hcF).mono ?_
  rintro e w3 ⟨rfl, hpost, hc3⟩
  have hnO : ¬ S w.heap.size := fun h => by have := hSl _ h; omega
  have hO3 := hO.chg hc3 hnO
  have hT3 := hT2.chg hc3 hS.1 hS.2
  have hcG : Chg S w w3 := (hcF.mono (fun _ _ h => h.elim)).trans hc3 (fun _ _ h => h)
  have o0 : w3.cell? ⟨w.heap.size, 0, none⟩ = some (.int .i64 o.kd) := by rw [hO3.cell]; rfl
  have o1 : w3.cell? ⟨w.heap.size, 1, none⟩ = some (.int .i64 o.bk) := by rw [hO3.cell]; rfl
  have o2 : w3.cell? ⟨w.heap.size, 2, none⟩ = some (.int .i64 o.un) := by rw [hO3.cell]; rfl
  have o3 : w3.cell? ⟨w.heap.size, 3, none⟩ = some (.int .i64 o.cu) := by rw [hO3.cell]; rfl
  have o4 : w3.cell? ⟨w.heap.size, 4, none⟩ = some (.int .i64 o.am) := by rw [hO3.cell]; rfl
  rcases hr with rfl | rfl
  · go_wp2_with fail
    refine (tput_new1 w3 t mt f o hT3 hmh.out hfz.out).mono ?_
    rintro e w4 ⟨rfl, hT4, hc4⟩
    go_wp2_with fail
    go_ret2
    exact ⟨rfl, hT4, (hcG.mono (fun _ _ h => .inl h)).trans hc4 (fun _ _ h => .inr h), w3, hpost, hc4⟩
  · go_wp2_with fail
    refine (tput_new2 w3 t mt f o hT3 hmh.out hfz.out).mono ?_
    rintro e w4 ⟨rfl, hT4, hc4⟩
    go_wp2_with fail
    go_ret2
    exact ⟨rfl, hT4, (hcG.mono (fun _ _ h => .inl h)).trans hc4 (fun _ _ h => .inr h), w3, hpost, hc4⟩
end Go.Proofs.Ytdeoipioinnkcaa
