/-
  layer 9: the reference's Sweep, whatever the time; two slices of ints compared; Same.
-/
import Derived.Test.YtihfcfpkffebiaaRefG
import Derived.Test.YtihfcfpkffebiaaRefF
import Derived.Test.YtihfcfpkffebiaaInts
namespace Go.Proofs.Ytihfcfpkffebiaa
open Go.RowKit Go.Maps

set_option maxRecDepth 100000 in
theorem ref_sweep_no {w : World} {x : Nat} {s : Stk} (h : RefAt w x s) (now : Int) (hn : timeB now = false) :
    Calls Try.prog 25 #[.pointer (some ⟨x, 0, none⟩), .int .i64 now] w fun e w' => e = .returned (.slice none 0 0) ∧ RefAt w' x s ∧ Chg (fun i => i = x) w w' := by
  have hth := Lib.hid hn
  clear hn
  go_enter Try.func25, Try.ntmps25
  go_wp2_with fail
  refine wp_loop_rounds 1 ?_
  rw [rounds_succ]
  go_wp2_with fail
  refine (time_any _ now).mono ?_
  rintro e w1 ⟨rfl, rfl⟩
  rw [hth.out]
  go_wp2_with fail
  go_ret
  exact ⟨rfl, h, Chg.refl _ _⟩

theorem ref_sweep {w : World} {x : Nat} {s : Stk} (h : RefAt w x s) (hG : s.Good) (now : Int) :
    Calls Try.prog 25 #[.pointer (some ⟨x, 0, none⟩), .int .i64 now] w fun e w' => ∃ v, e = .returned v ∧
      w'.ownsRow w.heap.size 3 1 v (s.sweep now).1.length ((s.sweep now).1.map encI) ∧ RefAt w' x (s.sweep now).2 ∧ Chg (fun i => i = x) w w' := by
  by_cases hn : now < 0 ∨ 1099511627776 < now
  · have e : s.sweep now = ([], s) := by unfold Stk.sweep; rw [if_pos hn]
    rw [e]
    refine (ref_sweep_no h now (by unfold timeB; simp; omega)).mono ?_
    rintro e w' ⟨rfl, h1, h2⟩
    exact ⟨_, rfl, ⟨rfl, .inl ⟨rfl, rfl⟩⟩, h1, h2⟩
  · have e : s.sweep now = s.sweepN now 200 := by unfold Stk.sweep; rw [if_neg hn, Stk.sweepN_all]
    rw [e]
    exact ref_sweep_yes h hG now (by omega) (by omega)

set_option maxRecDepth 100000 in
set_option maxHeartbeats 1000000 in
theorem ints_eq {w : World} {ad ad2 : Option Addr} {l : List Int} (cap cap2 : Nat) (h1 : IntsIn w ad l) (h2 : IntsIn w ad2 l) :
    Calls Try.prog 24 #[.slice ad l.length cap, .slice ad2 l.length cap2] w fun e w' => e = .returned (.bool true) ∧ Chg (fun _ => False) w w' := by
  have hmx := h1.len
  unfold maxLen at hmx
  go_enter Try.func24, Try.ntmps24
  go_wp2_with fail
  go_loopw [5] (fun v5 wr => ∃ k : Nat, v5 = .int .i64 k ∧ k ≤ l.length ∧ Chg (fun _ => False) w wr) (fun v5 _ => l.length - (RowKit.intOf v5).toNat)
  case atStart => exact ⟨0, rfl, Nat.zero_le _, Chg.refl _ _⟩
  case round =>
    obtain ⟨k, rfl, hk, hck⟩ := hrel
    by_cases hlt : k < l.length
    · obtain ⟨x, hx⟩ : ∃ x, l[k]? = some x := ⟨_, List.getElem?_eq_getElem hlt⟩
      obtain ⟨a, rfl, _, g1⟩ := (h1.chg hck (fun _ _ h => h)).at_ k x hx
      obtain ⟨b, rfl, _, g2⟩ := (h2.chg hck (fun _ _ h => h)).at_ k x hx
      have hxh := Lib.hid hx
      clear hx
      go_wp2_with fail
      refine wp_region_plan (by kernel_rfl) [] [0, 1, 2, 3, 4, 5, 6, 7, 8] (by kernel_rfl) (fun _ _ => True) ?_
      simp only [wpPlan, longOK, keepOK, opsAt_cons, opsAt_nil, consO_some, List.getElem?_toArray, List.getElem?_cons_succ, List.getElem?_cons_zero, and_true, true_and]
      go_wp2
      refine ⟨by kernel_rfl, ?_⟩
      go_wp2_with fail
      go_roundw
      case rel => exact ⟨k + 1, by go_num, by omega, hck.drew⟩
      case measure => simp [RowKit.intOf]; omega
    · have hk2 : k = l.length := by omega
      subst hk2
      go_wp2_with fail
      go_ret
      exact ⟨rfl, hck⟩

theorem keyW {k : Int} (h : -1000 ≤ k ∧ k ≤ 1000) : keyOf Try.prog 3 (encI k) = some (.int .i64 k) := keyOf_int_mk Try.underlying3 (WalkArith.wf_i64 (by omega))
theorem StkAt.lookW {w w1 : World} {b mb : Nat} {s : Stk} (h : StkAt w b mb s) (hG : s.Good) (hw : w1.heap[mb]? = w.heap[mb]?) (k : Int) (hk : -1000 ≤ k ∧ k ≤ 1000) (x : Ent) (hx : s.en k = x) :
    (Instr.lookup 59 (.map (some mb)) (.int .i64 k) false).run Try.prog w1 = .ok (.agg #[.int .i64 x.st, .int .i64 x.un, .int .i64 x.til, .int .i64 x.cu, .int .i64 x.am]) w1 := by
  have h := (h.map.keep hw).look law3 encI_inj (entMap_keys h.keys) (e := 40) (t := 59) Try.underlying59 (zeroEnt w1) (a := k) (keyW hk) false
  rw [entMap_getD _ _ hG.non, hx] at h
  exact h

set_option maxRecDepth 100000 in
theorem stk_entryW {w : World} {b mb : Nat} {s : Stk} (h : StkAt w b mb s) (hG : s.Good) (k : Int) (hk : -1000 ≤ k ∧ k ≤ 1000) (x : Ent) (hx : s.en k = x) :
    Calls Try.prog 19 #[.pointer (some ⟨b, 0, none⟩), .int .i64 k] w fun e w' => e = .returned x.val ∧ Chg (fun _ => False) w w' := by
  have h0 := h.lookW (w1 := w.alloc (.cells #[.int .i64 0, .int .i64 0, .int .i64 0, .int .i64 0, .int .i64 0] 40)) hG (Below.heap_alloc w _ mb h.map.lt) k hk x hx
  have cB : (w.alloc (.cells #[.int .i64 0, .int .i64 0, .int .i64 0, .int .i64 0, .int .i64 0] 40)).cell? ⟨b, 3, none⟩ = some (.map (some mb)) := by rw [(h.blk.alloc _).cell]; rfl
  have hxh := Lib.hid hx
  clear hx
  go_enter Try.func19, Try.ntmps19
  go_wp2
  refine bodyPost_ret (v := .agg #[.int .i64 x.st, .int .i64 x.un, .int .i64 x.til, .int .i64 x.cu, .int .i64 x.am]) (by simp [results, Try.results19, go_sem]) rfl ⟨rfl, (Chg.refl _ _).alloc _⟩
end Go.Proofs.Ytihfcfpkffebiaa
