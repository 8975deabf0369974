/-
  layer 9: the reference's Sweep; two slices of ints compared.
-/
import Derived.Test.YtkbnojjmpmlgjaaGreatZRefD
import Derived.Test.YtkbnojjmpmlgjaaGreatZStockF
import Derived.Test.YtkbnojjmpmlgjaaGreatZStockJ
import Derived.Test.YtkbnojjmpmlgjaaGreatInts
namespace Go.Proofs.YtkbnojjmpmlgjaaGreat
open Go.RowKit Go.Maps
variable {R : REnv}

/-- A sweep over the numbers 1..k. -/
def Stk.sweepN (s : Stk) (now : Int) (k : Nat) : List Int × Stk := ((List.range k).map fun (i : Nat) => (i : Int) + 1).foldl (Stk.swp now) ([], s)
theorem Stk.sweepN_succ (s : Stk) (now : Int) (k : Nat) : s.sweepN now (k + 1) = Stk.swp now (s.sweepN now k) ((k : Int) + 1) := by
  unfold Stk.sweepN
  rw [List.range_succ, List.map_append, List.foldl_append]
  rfl
theorem swp_filter (now : Int) (en : Int → Ent) : ∀ (l : List Int), l.Nodup → ∀ acc : List Int × Stk, (∀ b ∈ l, acc.2.en b = en b) → (l.filter fun b => decide ((en b).st ≠ 0)).foldl (Stk.swp now) acc = l.foldl (Stk.swp now) acc
  | [], _, acc, _ => rfl
  | b :: l, hn, acc, he => by
    obtain ⟨hb, hl⟩ := List.nodup_cons.1 hn
    have heb := he b (List.mem_cons_self ..)
    have hstep : ∀ c ∈ l, (Stk.swp now acc b).2.en c = en c := by
      intro c hc
      have hcb : c ≠ b := fun e => hb (e ▸ hc)
      rw [← he c (List.mem_cons_of_mem _ hc)]
      unfold Stk.swp
      split
      · simp [Stk.gone, Stk.set, hcb]
      · rfl
    by_cases h0 : (en b).st = 0
    · have hsame : Stk.swp now acc b = acc := by
        unfold Stk.swp
        rw [heb, if_neg (by omega)]
      rw [List.filter_cons, if_neg (by simp [h0]), List.foldl_cons, hsame]
      exact swp_filter now en l hl acc (fun c hc => he c (List.mem_cons_of_mem _ hc))
    · rw [List.filter_cons, if_pos (by simp [h0]), List.foldl_cons, List.foldl_cons]
      exact swp_filter now en l hl _ hstep
theorem Stk.sweepN_all (s : Stk) (now : Int) : s.sweepN now 200 = s.sweepL now (bookings s.en) := by
  unfold Stk.sweepN Stk.sweepL bookings
  refine (swp_filter now s.en _ ?_ ([], s) (fun _ _ => rfl)).symm
  exact (range_rising 200).imp (fun h e => by omega)
theorem Stk.sweepN_good {s : Stk} (hG : s.Good) (now : Int) (k : Nat) (hk : k ≤ 200) : (s.sweepN now k).2.Good :=
  sweepL_good hG now _ (fun b hb => by
    obtain ⟨i, hi, rfl⟩ := List.mem_map.1 hb
    have := List.mem_range.1 hi
    omega) _ hG
theorem Stk.sweepN_len (s : Stk) (now : Int) (k : Nat) : (s.sweepN now k).1.length ≤ k := by
  have := sweepL_len now ((List.range k).map fun (i : Nat) => (i : Int) + 1) ([], s)
  unfold Stk.sweepN
  simpa using this

set_option maxRecDepth 100000 in
set_option maxHeartbeats 1000000 in
theorem ref_sweep_yes {w : World} {x : Nat} {s : Stk} (h : RefAt R w x s) (hG : s.Good) (now : Int) (hn0 : 0 ≤ now) (hn1 : now ≤ 1099511627776) :
    Calls Tryz.prog 8 #[.pointer (some ⟨x, 0, none⟩), .int .i64 now] w fun e w' => ∃ v, e = .returned v ∧
      w'.ownsRow w.heap.size 3 1 v (s.sweepN now 200).1.length ((s.sweepN now 200).1.map encI) ∧ RefAt R w' x (s.sweepN now 200).2 ∧ Chg (fun i => i = x) w w' := by
  have htime : timeB now = true := by unfold timeB; simp [hn0, hn1]
  have hth := Lib.hid htime
  clear htime
  have hxz := h.lt
  go_enter Tryz.func8, Tryz.ntmps8
  go_wp2_with fail
  go_loopw [5, 6] (fun v5 v6 wr => ∃ k : Nat, k ≤ 200 ∧ v6 = .int .i64 ((k : Int) + 1) ∧ wr.ownsRow w.heap.size 3 1 v5 (s.sweepN now k).1.length ((s.sweepN now k).1.map encI) ∧ RefAt R wr x (s.sweepN now k).2 ∧ Chg (fun i => i = x) w wr) (fun _ v6 _ => 201 - (RowKit.intOf v6).toNat)
  case atStart => exact ⟨0, Nat.zero_le _, rfl, ⟨rfl, .inl ⟨rfl, rfl⟩⟩, h, Chg.refl _ _⟩
  case round =>
    obtain ⟨k, hk, rfl, hv, hX, hck⟩ := hrel
    have hGk := Stk.sweepN_good hG now k hk
    have hlen := s.sweepN_len now k
    have hvb : ∀ j, u5.ownBlock = some j → w.heap.size ≤ j := fun j hj => (hv.lt j hj).1
    by_cases hlt : k < 200
    · have hss := Lib.hid (s.sweepN_succ now k)
      obtain ⟨acc, hacc⟩ : ∃ acc, s.sweepN now k = acc := ⟨_, rfl⟩
      obtain ⟨out, sk⟩ := acc
      rw [hacc] at hv hX hGk hlen hss
      dsimp only at *
      obtain ⟨y, hy⟩ : ∃ y, sk.en ((k : Int) + 1) = y := ⟨_, rfl⟩
      obtain ⟨c0, c1, c2, c3, c4⟩ := hX.cells (k + 1) (by omega) (b := (k : Int) + 1) (by omega) hy
      have f0 := hX.frozen (2 + (k + 1) * 5)
      have f1 := hX.frozen (2 + (k + 1) * 5 + 1)
      have f2 := hX.frozen (2 + (k + 1) * 5 + 2)
      have f3 := hX.frozen (2 + (k + 1) * 5 + 3)
      have f4 := hX.frozen (2 + (k + 1) * 5 + 4)
      have hyh := Lib.hid hy
      have hacch := Lib.hid hacc
      have hz := hck.size
      clear hy hacc
      have hownh := Lib.hid hv
      clear hv
      by_cases hs : y.st = 1 ∧ y.til ≤ now
      · have hsw : Hid (Stk.swp now (out, sk) ((k : Int) + 1) = (out ++ [(k : Int) + 1], sk.gone ((k : Int) + 1))) := by unfold Hid Stk.swp; dsimp only; rw [hyh.out, if_pos hs]
        have b1 : (y.st == 1) = true := by simp [hs.1]
        have b2 : decide (y.til ≤ now) = true := by simp [hs.2]
        clear hs
        obtain ⟨w5, hw5⟩ : ∃ w5, (((((wr.setCell ⟨x, 2 + (k + 1) * 5, none⟩ (.int .i64 3)).setCell ⟨x, 2 + (k + 1) * 5 + 1, none⟩ (.int .i64 0)).setCell ⟨x, 2 + (k + 1) * 5 + 2, none⟩ (.int .i64 0)).setCell ⟨x, 2 + (k + 1) * 5 + 3, none⟩ (.int .i64 0)).setCell ⟨x, 2 + (k + 1) * 5 + 4, none⟩ (.int .i64 0)) = w5 := ⟨_, rfl⟩
        have hX5 : RefAt R w5 x (sk.gone ((k : Int) + 1)) := by
          rw [← hw5]
          exact hX.put (k + 1) (by omega) (sk.free + (sk.en ((k : Int) + 1)).un) Ent.gone
        have hcw5 : Chg (fun i => i = x) wr w5 := by
          rw [← hw5]
          exact (((((Chg.refl (fun i => i = x) wr).setCell (.inl rfl) _).setCell (.inl rfl) _).setCell (.inl rfl) _).setCell (.inl rfl) _).setCell (.inl rfl) _
        have hcA := (Chg.refl (fun _ => False) w5).alloc (.cells #[.int .i64 ((k : Int) + 1)] 3)
        have hownA := own_chg (own_chg hownh.out hcw5 (fun j hj h => by have := hvb j hj; omega)) hcA (fun _ _ h => h)
        have hXA := hX5.chg hcA id
        have hckA := (hck.trans hcw5 (fun _ _ h => h)).trans hcA (fun _ _ h => h.elim)
        have hnews := row_cells w5 3 [.int .i64 ((k : Int) + 1)]
        have hzA := hckA.size
        have hsz5 : w5.heap.size = wr.heap.size := by rw [← hw5]; simp
        rw [hsz5] at hnews
        obtain ⟨i0, hi, hz0, hz1, hz2⟩ := info_parts infoInt
        have hw5h := Lib.hid hw5
        clear hw5 hcA hX5 hcw5 hX hck hsz5
        go_wp2_with fail
        refine (time_any _ now).mono ?_
        rintro e w1 ⟨rfl, rfl⟩
        rw [hth.out]
        go_wp2_with (at_builtin; rw [hw5h.out]; go_loud (refine wpList_append_own_at _ rfl _ _ 47 rfl w.heap.size 3 i0 (.int .i64 0) 1 8 Tryz.underlying47 hi hz0 hz1 hz2 rfl (by decide) u5 out.length (out.map encI) rfl (by exact hownA) ⟨w1.heap.size, 0, none⟩ 1 1 [.int .i64 ((k : Int) + 1)] rfl rfl (by exact hnews) (by intro u hu; simp at hu; subst hu; rfl) (by unfold maxLen; omega) (by omega) (by omega) ?_; intro v' w6 hown6 hgr6 _ hloc))
        have hc6 := own_grown hgr6
        have hX6 := hXA.chg hc6 (fun h => by have := hvb x h; omega)
        have hck6 := hckA.trans hc6 (fun i hi h => by have := hvb i h; omega)
        go_roundw
        case rel =>
          refine ⟨k + 1, by omega, by go_num, ?_, ?_, hck6⟩
          · rw [hss.out, hsw.out, List.length_append, List.map_append]
            exact hown6
          · rw [hss.out, hsw.out]
            exact hX6
        case measure => simp [RowKit.intOf]; omega
      · have hsw : Hid (Stk.swp now (out, sk) ((k : Int) + 1) = (out, sk)) := by unfold Hid Stk.swp; dsimp only; rw [hyh.out, if_neg hs]
        by_cases hs1 : y.st = 1
        · have b1 : (y.st == 1) = true := by simp [hs1]
          have b2 : decide (y.til ≤ now) = false := by simp; omega
          clear hs hs1
          go_wp2_with fail
          refine (time_any _ now).mono ?_
          rintro e w1 ⟨rfl, rfl⟩
          rw [hth.out]
          go_wp2_with fail
          go_roundw
          case rel => exact ⟨k + 1, by omega, by go_num, by rw [hss.out, hsw.out]; exact hownh.out, by rw [hss.out, hsw.out]; exact hX, hck⟩
          case measure => simp [RowKit.intOf]; omega
        · have b1 : (y.st == 1) = false := by simp [hs1]
          clear hs hs1
          go_wp2_with fail
          refine (time_any _ now).mono ?_
          rintro e w1 ⟨rfl, rfl⟩
          rw [hth.out]
          go_wp2_with fail
          go_roundw
          case rel => exact ⟨k + 1, by omega, by go_num, by rw [hss.out, hsw.out]; exact hownh.out, by rw [hss.out, hsw.out]; exact hX, hck⟩
          case measure => simp [RowKit.intOf]; omega
    · have hk2 : k = 200 := by omega
      subst hk2
      go_wp2_with fail
      go_ret
      exact ⟨_, rfl, hv, hX, hck⟩
end Go.Proofs.YtkbnojjmpmlgjaaGreat

namespace Go.Proofs.YtkbnojjmpmlgjaaGreat
open Go.RowKit Go.Maps
variable {R : REnv}

set_option maxRecDepth 100000 in
theorem ref_sweep_no {w : World} {x : Nat} {s : Stk} (h : RefAt R w x s) (now : Int) (hn : timeB now = false) :
    Calls Tryz.prog 8 #[.pointer (some ⟨x, 0, none⟩), .int .i64 now] w fun e w' => e = .returned (.slice none 0 0) ∧ RefAt R w' x s ∧ Chg (fun i => i = x) w w' := by
  have hth := Lib.hid hn
  clear hn
  go_enter Tryz.func8, Tryz.ntmps8
  go_wp2_with fail
  refine wp_loop_rounds 1 ?_
  rw [rounds_succ]
  go_wp2_with fail
  refine (time_any _ now).mono ?_
  rintro e w1 ⟨rfl, rfl⟩
  rw [hth.out]
  go_wp2_with fail
  go_ret
  exact ⟨rfl, h, Chg.refl _ _⟩

theorem ref_sweep {w : World} {x : Nat} {s : Stk} (h : RefAt R w x s) (hG : s.Good) (now : Int) :
    Calls Tryz.prog 8 #[.pointer (some ⟨x, 0, none⟩), .int .i64 now] w fun e w' => ∃ v, e = .returned v ∧
      w'.ownsRow w.heap.size 3 1 v (s.sweep now).1.length ((s.sweep now).1.map encI) ∧ RefAt R w' x (s.sweep now).2 ∧ Chg (fun i => i = x) w w' := by
  by_cases hn : now < 0 ∨ 1099511627776 < now
  · have e : s.sweep now = ([], s) := by unfold Stk.sweep; rw [if_pos hn]
    rw [e]
    refine (ref_sweep_no h now (by unfold timeB; simp; omega)).mono ?_
    rintro e w' ⟨rfl, h1, h2⟩
    exact ⟨_, rfl, ⟨rfl, .inl ⟨rfl, rfl⟩⟩, h1, h2⟩
  · have e : s.sweep now = s.sweepN now 200 := by unfold Stk.sweep; rw [if_neg hn, Stk.sweepN_all]
    rw [e]
    exact ref_sweep_yes h hG now (by omega) (by omega)

theorem keyW {k : Int} (h : -1000 ≤ k ∧ k ≤ 1000) : keyOf Tryz.prog 3 (encI k) = some (.int .i64 k) := keyOf_int_mk Tryz.underlying3 (WalkArith.wf_i64 (by omega))
theorem StkAt.lookW {w w1 : World} {b mb : Nat} {s : Stk} (h : StkAt w b mb s) (hG : s.Good) (hw : w1.heap[mb]? = w.heap[mb]?) (k : Int) (hk : -1000 ≤ k ∧ k ≤ 1000) (x : Ent) (hx : s.en k = x) :
    (Instr.lookup 81 (.map (some mb)) (.int .i64 k) false).run Tryz.prog w1 = .ok (.agg #[.int .i64 x.st, .int .i64 x.un, .int .i64 x.til, .int .i64 x.cu, .int .i64 x.am]) w1 := by
  have h := (h.map.keep hw).look law3 encI_inj (entMap_keys h.keys) (e := 32) (t := 81) Tryz.underlying81 (zeroEnt w1) (a := k) (keyW hk) false
  rw [entMap_getD _ _ hG.non, hx] at h
  exact h

set_option maxRecDepth 100000 in
theorem stk_entryW {w : World} {b mb : Nat} {s : Stk} (h : StkAt w b mb s) (hG : s.Good) (k : Int) (hk : -1000 ≤ k ∧ k ≤ 1000) (x : Ent) (hx : s.en k = x) :
    Calls Tryz.prog 41 #[.pointer (some ⟨b, 0, none⟩), .int .i64 k] w fun e w' => e = .returned x.val ∧ Chg (fun _ => False) w w' := by
  have h0 := h.lookW (w1 := w.alloc (.cells #[.int .i64 0, .int .i64 0, .int .i64 0, .int .i64 0, .int .i64 0] 32)) hG (Below.heap_alloc w _ mb h.map.lt) k hk x hx
  have cB : (w.alloc (.cells #[.int .i64 0, .int .i64 0, .int .i64 0, .int .i64 0, .int .i64 0] 32)).cell? ⟨b, 3, none⟩ = some (.map (some mb)) := by rw [(h.blk.alloc _).cell]; rfl
  have hxh := Lib.hid hx
  clear hx
  go_enter Tryz.func41, Tryz.ntmps41
  go_wp2
  refine bodyPost_ret (v := .agg #[.int .i64 x.st, .int .i64 x.un, .int .i64 x.til, .int .i64 x.cu, .int .i64 x.am]) (by simp [results, Tryz.results41, go_sem]) rfl ⟨rfl, (Chg.refl _ _).alloc _⟩
end Go.Proofs.YtkbnojjmpmlgjaaGreat
