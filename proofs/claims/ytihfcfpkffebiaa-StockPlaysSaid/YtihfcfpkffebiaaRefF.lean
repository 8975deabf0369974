/-
  layer 9: the reference's Bytes.
-/
import Derived.Test.YtihfcfpkffebiaaRefA
import Derived.Test.YtihfcfpkffebiaaRefI
import Derived.Test.YtihfcfpkffebiaaStockJ
namespace Go.Proofs.Ytihfcfpkffebiaa
open Go.RowKit Go.Maps

/-- The bookings 1..k that there are. -/
def bookN (en : Int → Ent) (k : Nat) : List Int := ((List.range k).map fun (i : Nat) => (i : Int) + 1).filter fun b => decide ((en b).st ≠ 0)
theorem bookN_succ (en : Int → Ent) (k : Nat) : bookN en (k + 1) = bookN en k ++ (if (en ((k : Int) + 1)).st = 0 then [] else [(k : Int) + 1]) := by
  unfold bookN
  rw [List.range_succ, List.map_append, List.filter_append]
  congr 1
  by_cases h : (en ((k : Int) + 1)).st = 0
  · simp [h]
  · simp [h]

theorem RefAt.bk {w : World} {x : Nat} {s : Stk} (_h : RefAt w x s) (hG : s.Good) {b : Int} (hb : (s.en b).st ≠ 0) : 1 ≤ b ∧ b ≤ 200 := hG.key b hb
theorem bstr_append (a b : List UInt8) : bstr a ++ bstr b = bstr (a ++ b) := by
  unfold bstr
  apply ByteArray.ext
  simp

theorem bstr_size (a : List UInt8) : (bstr a).size = a.length := by unfold bstr; simp [ByteArray.size]
theorem bsize (a b : ByteArray) : (a ++ b).size = a.size + b.size := by simp

set_option maxRecDepth 100000 in
set_option maxHeartbeats 4000000 in
theorem ref_bytes {w : World} {x : Nat} {s : Stk} (h : RefAt w x s) (hG : s.Good) :
    Calls Try.prog 39 #[.pointer (some ⟨x, 0, none⟩)] w fun e w' => e = .returned (.string (bstr s.bytes)) ∧ Chg (fun _ => False) w w' := by
  have c0 : ∀ w9 : World, w9.heap[x]? = w.heap[x]? → w9.cell? ⟨x, 0, none⟩ = some (.int .i64 s.cap) ∧ w9.cell? ⟨x, 1, none⟩ = some (.int .i64 s.over) := fun w9 h9 => by
    have h2 := Blk.keep h h9
    exact ⟨by rw [Blk.cell h2, arrF_get _ _ _ (by omega)]; rfl, by rw [Blk.cell h2, arrF_get _ _ _ (by omega)]; rfl⟩
  obtain ⟨cap0, cap1⟩ := hG.cap
  obtain ⟨over0, over1⟩ := hG.over
  have c0h := Lib.hid c0
  obtain ⟨d0, d1⟩ := c0 w rfl
  clear c0
  go_enter Try.func39, Try.ntmps39
  go_wp2_with fail
  refine wp_region_plan (by kernel_rfl) [{ fl := [0, 1, 2, 3, 4, 6, 7, 8, 9, 10], long := [10], ef := 5, keep := [10] }, { fl := [], ef := 11 }] [12, 13] (by kernel_rfl) (fun _ w9 => w9.heap[x]? = w.heap[x]?) ?_
  simp only [wpPlan, longOK, keepOK, opsAt_cons, opsAt_nil, consO_some, List.getElem?_toArray, List.getElem?_cons_succ, List.getElem?_cons_zero, and_true, true_and]
  refine ⟨rfl, ?_⟩
  go_wp2_with fail
  refine ⟨by kernel_rfl, ?_, ?_⟩
  · intro _ w9 h9
    obtain ⟨d0, d1⟩ := c0h.out w9 h9
    clear h9
    go_simp
  go_wp2_with fail
  refine (refInt_any _ s.cap (by omega) (by omega)).mono ?_
  rintro e w1 ⟨rfl, hc1⟩
  have hc1 := ((Chg.refl (fun _ => False) w).drew).trans hc1 (fun _ _ h => h)
  go_wp2_with fail
  refine ⟨hc1.block x h.lt id, ?_⟩
  go_wp2_with fail
  refine ⟨by kernel_rfl, ?_⟩
  go_wp2_with fail
  refine (refInt_any _ s.over (by omega) (by omega)).mono ?_
  rintro e w2 ⟨rfl, hc2⟩
  have hc2 := hc1.trans hc2 (fun _ _ h => h)
  clear hc1 d0 d1
  have z1 := nb_len (v := s.cap) (by omega)
  have z2 := nb_len (v := s.over) (by omega)
  have zc : (bstr (nb s.cap)).size ≤ 10 := by rw [bstr_size]; exact z1
  have zo : (bstr (nb s.over)).size ≤ 10 := by rw [bstr_size]; exact z2
  go_wp2_with fail
  refine ⟨by kernel_rfl, ?_⟩
  go_wp2_with fail
  rw [bstr_append]
  have hen := fun k => entB_len hG (b := k)
  obtain ⟨pre, hpre⟩ : ∃ pre, nb s.cap ++ nb s.over = pre := ⟨_, rfl⟩
  have hpl : pre.length ≤ 20 := by rw [← hpre, List.length_append]; omega
  rw [hpre]
  have hpreh := Lib.hid hpre
  clear hpre z1 z2 zc zo
  go_loopw [3, 4] (fun v3 v4 wr => ∃ k : Nat, k ≤ 200 ∧ v3 = .string (bstr (pre ++ (bookN s.en k).flatMap s.entB)) ∧ v4 = .int .i64 ((k : Int) + 1) ∧ Chg (fun _ => False) w wr) (fun _ v4 _ => 201 - (RowKit.intOf v4).toNat)
  case atStart => exact ⟨0, Nat.zero_le _, by simp [bookN], rfl, hc2⟩
  case round =>
    clear hc2
    obtain ⟨k, hk, rfl, rfl, hck⟩ := hrel
    have hX := h.chg hck id
    have hbl : (bookN s.en k).length ≤ k := by unfold bookN; refine Nat.le_trans (List.length_filter_le _ _) ?_; simp
    have hfl := flat_len (f := s.entB) (c := 40) (bookN s.en k) (fun b hb => hen b (h.bk hG (by
      unfold bookN at hb
      simpa using (List.mem_filter.1 hb).2)))
    have hzP : (bstr (pre ++ (bookN s.en k).flatMap s.entB)).size ≤ 10000 := by rw [bstr_size, List.length_append]; omega
    by_cases hlt : k < 200
    · have hbs := Lib.hid (bookN_succ s.en k)
      obtain ⟨y, hy⟩ : ∃ y, s.en ((k : Int) + 1) = y := ⟨_, rfl⟩
      obtain ⟨c0, c1, c2, c3, c4⟩ := hX.cells (k + 1) (by omega) (b := (k : Int) + 1) (by omega) hy
      have hyb : 0 ≤ y.st ∧ y.st ≤ 3 ∧ 0 ≤ y.til ∧ y.til ≤ 1099511627836 ∧ 0 ≤ y.un ∧ y.un ≤ 1000 := by
        have hun := hG.un ((k : Int) + 1)
        have hst := hG.sts ((k : Int) + 1)
        rw [hy] at hun hst
        rcases hst with e | e | e | e
        · have := hG.non ((k : Int) + 1) (by rw [hy]; exact e); rw [hy] at this; rw [this]; decide
        · rw [e]; decide
        · omega
        · omega
      obtain ⟨y0, y1, y2, y3, y4, y5⟩ := hyb
      have hentB : s.entB ((k : Int) + 1) = nb ((k : Int) + 1) ++ nb y.st ++ nb y.un ++ nb y.til := by unfold Stk.entB; rw [hy]
      have hentBh := Lib.hid hentB
      have hyh := Lib.hid hy
      obtain ⟨Q, hQ⟩ : ∃ Q, pre ++ (bookN s.en k).flatMap s.entB = Q := ⟨_, rfl⟩
      rw [hQ] at hzP ⊢
      have hQh := Lib.hid hQ
      clear hentB hy hQ hfl
      by_cases hst : y.st = 0
      · have b0 : (y.st != 0) = false := by simp [hst]
        have hsth := Lib.hid hst
        clear hst
        go_wp2_with fail
        have hck2 := hck.alloc (.cells y.row 40)
        unfold Ent.row at hck2
        go_roundw
        case rel => exact ⟨k + 1, by omega, by rw [hbs.out, hyh.out, if_pos hsth.out, List.append_nil, hQh.out], by go_num, hck2⟩
        case measure => simp [RowKit.intOf]; omega
      · have b0 : (y.st != 0) = true := by simp [hst]
        have hsth := Lib.hid hst
        clear hst
        have hY := Blk.new wr 40 y.row
        have hckA := hck.alloc (.cells y.row 40)
        unfold Ent.row at hY hckA
        go_wp2_with fail
        clear c0 c1 c2 c3 c4 hck
        generalize wr.alloc (.cells #[.int .i64 y.st, .int .i64 y.un, .int .i64 y.til, .int .i64 y.cu, .int .i64 y.am] 40) = wa at *
        generalize hYe : wr.heap.size = Y at *
        clear hYe
        have ycell : ∀ w9 : World, w9.heap[Y]? = wa.heap[Y]? → w9.cell? ⟨Y, 0, none⟩ = some (.int .i64 y.st) ∧ w9.cell? ⟨Y, 1, none⟩ = some (.int .i64 y.un) ∧ w9.cell? ⟨Y, 2, none⟩ = some (.int .i64 y.til) := fun w9 h9 => by
          have h2 := Blk.keep hY h9
          exact ⟨by rw [h2.cell]; rfl, by rw [h2.cell]; rfl, by rw [h2.cell]; rfl⟩
        obtain ⟨y0', y1', y2'⟩ := ycell wa rfl
        have ych := Lib.hid ycell
        clear ycell
        have z1 := nb_len (v := (k : Int) + 1) (by omega)
        have z2 := nb_len (v := y.st) (by omega)
        have z3 := nb_len (v := y.un) (by omega)
        have z4 := nb_len (v := y.til) (by omega)
        have s1 : (bstr (nb ((k : Int) + 1))).size ≤ 10 := by rw [bstr_size]; exact z1
        have s2 : (bstr (nb y.st)).size ≤ 10 := by rw [bstr_size]; exact z2
        have s3 : (bstr (nb y.un)).size ≤ 10 := by rw [bstr_size]; exact z3
        have s4 : (bstr (nb y.til)).size ≤ 10 := by rw [bstr_size]; exact z4
        have t1 : (bstr Q ++ bstr (nb ((k : Int) + 1))).size ≤ 11000 := by rw [bsize]; omega
        have t2 : (bstr Q ++ bstr (nb ((k : Int) + 1)) ++ bstr (nb y.st)).size ≤ 12000 := by rw [bsize]; omega
        have t3 : (bstr Q ++ bstr (nb ((k : Int) + 1)) ++ bstr (nb y.st) ++ bstr (nb y.un)).size ≤ 13000 := by rw [bsize]; omega
        clear z1 z2 z3 z4
        refine wp_region_plan (by kernel_rfl) [{ fl := [0, 1, 4, 5, 8, 9, 12, 13], long := [5, 9, 13], ef := 2, keep := [5, 9, 13] }, { fl := [3], ef := 6, keep := [9, 13] }, { fl := [7], ef := 10, keep := [13] }, { fl := [11], ef := 14 }] [15, 16] (by kernel_rfl) (fun _ w9 => w9.heap[Y]? = wa.heap[Y]?) ?_
        simp only [wpPlan, longOK, keepOK, opsAt_cons, opsAt_nil, consO_some, List.getElem?_toArray, List.getElem?_cons_succ, List.getElem?_cons_zero, and_true, true_and]
        refine ⟨⟨rfl, rfl, rfl⟩, ?_⟩
        go_wp2_with fail
        refine ⟨by kernel_rfl, ⟨?_, ?_, ?_⟩, ?_⟩
        · intro _ w9 h9
          obtain ⟨d0, d1, d2⟩ := ych.out w9 h9
          clear h9
          go_simp
        · intro _ w9 h9
          obtain ⟨d0, d1, d2⟩ := ych.out w9 h9
          clear h9
          go_simp
        · intro _ w9 h9
          obtain ⟨d0, d1, d2⟩ := ych.out w9 h9
          clear h9
          go_simp
        go_wp2_with fail
        refine (refInt_any _ ((k : Int) + 1) (by omega) (by omega)).mono ?_
        rintro e wb1 ⟨rfl, hd1⟩
        have hd1 := ((Chg.refl (fun _ => False) wa).drew).trans hd1 (fun _ _ h => h)
        go_wp2_with fail
        refine ⟨⟨hd1.block Y hY.lt id, hd1.block Y hY.lt id, hd1.block Y hY.lt id⟩, ?_⟩
        go_wp2_with fail
        refine ⟨by kernel_rfl, ?_⟩
        go_wp2_with fail
        refine (refInt_any _ y.st (by omega) (by omega)).mono ?_
        rintro e wb2 ⟨rfl, hd2⟩
        have hd2 := hd1.trans hd2 (fun _ _ h => h)
        go_wp2_with fail
        refine ⟨⟨hd2.block Y hY.lt id, hd2.block Y hY.lt id⟩, ?_⟩
        go_wp2_with fail
        refine ⟨by kernel_rfl, ?_⟩
        go_wp2_with fail
        refine (refInt_any _ y.un (by omega) (by omega)).mono ?_
        rintro e wb3 ⟨rfl, hd3⟩
        have hd3 := hd2.trans hd3 (fun _ _ h => h)
        go_wp2_with fail
        refine ⟨hd3.block Y hY.lt id, ?_⟩
        go_wp2_with fail
        refine ⟨by kernel_rfl, ?_⟩
        go_wp2_with fail
        refine (refInt_any _ y.til (by omega) (by omega)).mono ?_
        rintro e wb4 ⟨rfl, hd4⟩
        have hd4 := hd3.trans hd4 (fun _ _ h => h)
        go_wp2_with fail
        refine ⟨by kernel_rfl, ?_⟩
        go_wp2_with fail
        go_roundw
        case rel => exact ⟨k + 1, by omega, by rw [hbs.out, hyh.out, if_neg hsth.out, List.flatMap_append, ← List.append_assoc, hQh.out, List.flatMap_cons, List.flatMap_nil, List.append_nil, hentBh.out]; simp only [bstr_append, List.append_assoc], by go_num, hckA.trans hd4 (fun _ _ h => h)⟩
        case measure => simp [RowKit.intOf]; omega
    · have hk2 : k = 200 := by omega
      subst hk2
      have he : pre ++ (bookN s.en 200).flatMap s.entB = s.bytes := by unfold Stk.bytes; rw [← hpreh.out]; rfl
      rw [he]
      go_wp2_with fail
      go_ret
      exact ⟨rfl, hck⟩
end Go.Proofs.Ytihfcfpkffebiaa
