/-
  stock: Do by its contract.
-/
import Derived.Test.YtdeoipioinnkcaaStockC
namespace Go.Proofs.Ytdeoipioinnkcaa
open Go.RowKit Go.Maps

set_option maxRecDepth 100000 in
set_option maxHeartbeats 1000000 in
theorem stk_do_no (w : World) (b : Nat) (o : POp) (now : Int) (hh : mayOp o = false ∨ now < 0 ∨ 1099511627776 < now) :
    Calls Try.prog 20 #[.pointer (some ⟨b, 0, none⟩), o.val, .int .i64 now] w fun e w' => e = .returned (.int .i64 2) ∧ Chg (fun _ => False) w w' := by
  have hhh := Lib.hid hh
  clear hh
  go_enter Try.func20, Try.ntmps20
  unfold POp.val
  go_wp2_with fail
  refine (mayOp_any o _).mono ?_
  rintro e w2 ⟨rfl, hc2⟩
  have hcF : Chg (fun _ => False) w w2 := ((Chg.refl _ w).alloc _).trans hc2 (fun _ _ h => h)
  have hO := (Blk.new w 31 o.row).chg hc2 id
  have o0 : w2.cell? ⟨w.heap.size, 0, none⟩ = some (.int .i64 o.kd) := by rw [hO.cell]; rfl
  have o1 : w2.cell? ⟨w.heap.size, 1, none⟩ = some (.int .i64 o.bk) := by rw [hO.cell]; rfl
  have o2 : w2.cell? ⟨w.heap.size, 2, none⟩ = some (.int .i64 o.un) := by rw [hO.cell]; rfl
  have o3 : w2.cell? ⟨w.heap.size, 3, none⟩ = some (.int .i64 o.cu) := by rw [hO.cell]; rfl
  have o4 : w2.cell? ⟨w.heap.size, 4, none⟩ = some (.int .i64 o.am) := by rw [hO.cell]; rfl
  clear o0 o1 o2 o3 o4
  cases hm : mayOp o with
  | false =>
    clear hm
    go_wp2_with fail
    go_ret
    exact ⟨rfl, hcF⟩
  | true =>
    have hn : now < 0 ∨ 1099511627776 < now := by
      rcases hhh.out with h | h | h
      · rw [hm] at h; cases h
      · exact .inl h
      · exact .inr h
    clear hm
    rcases hn with hn | hn
    · go_wp2_with fail
      go_ret
      exact ⟨rfl, hcF⟩
    · have hn2 : 0 ≤ now := by omega
      go_wp2_with fail
      go_ret
      exact ⟨rfl, hcF⟩

set_option maxRecDepth 100000 in
set_option maxHeartbeats 2000000 in
theorem stk_do_yes {w : World} {b mb : Nat} {s : Stk} (h : StkAt w b mb s) (hG : s.Good) (o : POp) (now : Int) (hh : mayOp o = true) (hn0 : 0 ≤ now) (hn1 : now ≤ 1099511627776) :
    Calls Try.prog 20 #[.pointer (some ⟨b, 0, none⟩), o.val, .int .i64 now] w fun e w' => e = .returned (.int .i64 (s.act o now).1) ∧ StkAt w' b mb (s.act o now).2 ∧ Chg (fun i => i = b ∨ i = mb) w w' := by
  have hk := mayOp_bkS hh
  have hu : o.kd = 1 → 1 ≤ o.un ∧ o.un ≤ 1000 := mayOp_1 hh
  have hact : Hid (s.act o now = if o.kd = 1 then s.hold o.bk o.un now else if o.kd = 2 then s.confirm o.bk now else if o.kd = 3 then (1, s.gone o.bk) else (2, s)) := by
    unfold Hid Stk.act
    rw [if_neg (by rw [hh]; simp; omega)]
  have huh := Lib.hid hu
  clear hu
  have hhh := Lib.hid hh
  clear hh
  go_enter Try.func20, Try.ntmps20
  unfold POp.val
  go_wp2_with fail
  refine (mayOp_any o _).mono ?_
  rintro e w2 ⟨rfl, hc2⟩
  have hcF : Chg (fun _ => False) w w2 := ((Chg.refl _ w).alloc _).trans hc2 (fun _ _ h => h)
  have hO := (Blk.new w 31 o.row).chg hc2 id
  have o0 : w2.cell? ⟨w.heap.size, 0, none⟩ = some (.int .i64 o.kd) := by rw [hO.cell]; rfl
  have o1 : w2.cell? ⟨w.heap.size, 1, none⟩ = some (.int .i64 o.bk) := by rw [hO.cell]; rfl
  have o2 : w2.cell? ⟨w.heap.size, 2, none⟩ = some (.int .i64 o.un) := by rw [hO.cell]; rfl
  have o3 : w2.cell? ⟨w.heap.size, 3, none⟩ = some (.int .i64 o.cu) := by rw [hO.cell]; rfl
  have o4 : w2.cell? ⟨w.heap.size, 4, none⟩ = some (.int .i64 o.am) := by rw [hO.cell]; rfl
  rw [hhh.out]
  have h2 := h.chg hcF id id
  have hcG : Chg (fun i => i = b ∨ i = mb) w w2 := hcF.mono (fun _ _ h => h.elim)
  by_cases k1 : o.kd = 1
  · have hu := huh.out k1
    have e : s.act o now = s.hold o.bk o.un now := by rw [hact.out, if_pos k1]
    have eh := Lib.hid e
    have b1 : (o.kd == 1) = true := by simp [k1]
    clear e k1
    go_wp2_with fail
    refine (stk_hold h2 hG o now hk hu ⟨hn0, hn1⟩).mono ?_
    rintro e w3 ⟨rfl, hS, hc⟩
    go_wp2_with fail
    go_ret
    rw [eh.out]
    exact ⟨rfl, hS, hcG.trans hc (fun _ _ h => h)⟩
  by_cases k2 : o.kd = 2
  · have e : s.act o now = s.confirm o.bk now := by rw [hact.out, if_neg k1, if_pos k2]
    have eh := Lib.hid e
    have b1 : (o.kd == 1) = false := by simp [k1]
    have b2 : (o.kd == 2) = true := by simp [k2]
    clear e k1 k2
    go_wp2_with fail
    refine (stk_confirm h2 hG o.bk now hk).mono ?_
    rintro e w3 ⟨rfl, hS, hc⟩
    go_wp2_with fail
    go_ret
    rw [eh.out]
    exact ⟨rfl, hS, hcG.trans hc (fun _ _ h => h)⟩
  by_cases k3 : o.kd = 3
  · have e : s.act o now = (1, s.gone o.bk) := by rw [hact.out, if_neg k1, if_neg k2, if_pos k3]
    have eh := Lib.hid e
    have b1 : (o.kd == 1) = false := by simp [k1]
    have b2 : (o.kd == 2) = false := by simp [k2]
    have b3 : (o.kd == 3) = true := by simp [k3]
    clear e k1 k2 k3
    go_wp2_with fail
    refine (stk_gone h2 hG o.bk hk).mono ?_
    rintro e w3 ⟨rfl, hS, hc⟩
    go_wp2_with fail
    go_ret
    rw [eh.out]
    exact ⟨rfl, hS, hcG.trans hc (fun _ _ h => h)⟩
  · have e : s.act o now = (2, s) := by rw [hact.out, if_neg k1, if_neg k2, if_neg k3]
    have eh := Lib.hid e
    have b1 : (o.kd == 1) = false := by simp [k1]
    have b2 : (o.kd == 2) = false := by simp [k2]
    have b3 : (o.kd == 3) = false := by simp [k3]
    clear e k1 k2 k3
    go_wp2_with fail
    go_ret
    rw [eh.out]
    exact ⟨rfl, h2, hcG⟩

theorem stk_do {w : World} {b mb : Nat} {s : Stk} (h : StkAt w b mb s) (hG : s.Good) (o : POp) (now : Int) :
    Calls Try.prog 20 #[.pointer (some ⟨b, 0, none⟩), o.val, .int .i64 now] w fun e w' => e = .returned (.int .i64 (s.act o now).1) ∧ StkAt w' b mb (s.act o now).2 ∧ Chg (fun i => i = b ∨ i = mb) w w' := by
  by_cases hh : mayOp o = false ∨ now < 0 ∨ 1099511627776 < now
  · have e : s.act o now = (2, s) := by unfold Stk.act; rw [if_pos hh]
    refine (stk_do_no w b o now hh).mono ?_
    rintro e' w' ⟨rfl, hc⟩
    rw [e]
    exact ⟨rfl, h.chg hc id id, hc.mono (fun _ _ h => h.elim)⟩
  · have hm : mayOp o = true := by
      cases hm : mayOp o with
      | true => rfl
      | false => exact absurd (.inl hm) hh
    exact stk_do_yes h hG o now hm (by omega) (by omega)
end Go.Proofs.Ytdeoipioinnkcaa
