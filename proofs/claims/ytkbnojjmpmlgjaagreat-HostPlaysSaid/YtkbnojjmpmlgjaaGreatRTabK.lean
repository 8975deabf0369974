/-
  The reference's table: Bytes.
-/
import Derived.Test.YtkbnojjmpmlgjaaGreatRTabA
import Derived.Test.YtkbnojjmpmlgjaaGreatTPlyP
import Derived.Test.YtkbnojjmpmlgjaaGreatTabG
import Derived.Test.YtkbnojjmpmlgjaaGreatRefI
import Derived.Test.YtkbnojjmpmlgjaaGreatRegionB
namespace Go.Proofs.YtkbnojjmpmlgjaaGreat
open Go.RowKit Go.Maps
variable {R : TEnv}

theorem bstrT_append (a b : List UInt8) : bstr a ++ bstr b = bstr (a ++ b) := by
  unfold bstr
  apply ByteArray.ext
  simp
theorem bstrT_size (a : List UInt8) : (bstr a).size = a.length := by unfold bstr; simp [ByteArray.size]
theorem bsizeT (a b : ByteArray) : (a ++ b).size = a.size + b.size := by simp

/-- The bytes of the answers among the first m keys. -/
def tkB (f : Tab) (m : Nat) : List UInt8 := ((keyL.take m).filter fun p => decide (f p ≠ 0)).flatMap (entT f)
theorem tkB_zero (f : Tab) : tkB f 0 = [] := rfl
theorem tkB_all (f : Tab) : tkB f 1200 = (tkeys f).flatMap (entT f) := by
  unfold tkB
  rw [tkeys_eq, List.take_of_length_le (by rw [keyL_len]; exact Nat.le_refl _)]
theorem tkB_miss (f : Tab) (m : Nat) (h : m < 1200) (hf : f (keyG m) = 0) : tkB f (m + 1) = tkB f m := by
  unfold tkB
  rw [keyL_take m h, List.filter_append]
  simp [hf]
theorem tkB_hit (f : Tab) (m : Nat) (h : m < 1200) (hf : f (keyG m) ≠ 0) : tkB f (m + 1) = tkB f m ++ entT f (keyG m) := by
  unfold tkB
  rw [keyL_take m h, List.filter_append]
  simp [hf]
theorem entT_len3 {f : Tab} (hA : Ans f) (m : Nat) (hm : m < 1200) : (entT f (keyG m)).length ≤ 30 := by
  unfold entT keyG
  simp only [List.length_append]
  have h1 := nb_len (v := ((m / 6 : Nat) : Int) + 1) (by omega)
  have h2 := nb_len (v := ((m % 6 : Nat) : Int) + 1) (by omega)
  have h3 := nb_len (v := f (((m / 6 : Nat) : Int) + 1, ((m % 6 : Nat) : Int) + 1)) (by
    rcases hA (((m / 6 : Nat) : Int) + 1, ((m % 6 : Nat) : Int) + 1) with h | h | h <;> omega)
  omega
theorem tkB_len {f : Tab} (hA : Ans f) : ∀ m : Nat, m ≤ 1200 → (tkB f m).length ≤ 30 * m
  | 0, _ => by rw [tkB_zero]; exact Nat.le_refl _
  | m + 1, h => by
    have h0 := tkB_len hA m (by omega)
    by_cases hf : f (keyG m) = 0
    · rw [tkB_miss f m (by omega) hf]; omega
    · rw [tkB_hit f m (by omega) hf, List.length_append]
      have := entT_len3 hA m (by omega)
      omega

set_option maxRecDepth 100000 in
set_option maxHeartbeats 2000000 in
theorem rt_bytes {w : World} {x : Nat} {f : Tab} {c : Int} (h : RTabAt R w x f c) (hA : Ans f) (hc : c = (tkeys f).length) :
    Calls Tryz.prog 36 #[.pointer (some ⟨x, R.off, none⟩)] w fun e w' => e = .returned (.string (bstr (tabB f))) ∧ Chg (fun _ => False) w w' := by
  have hlen := tkeys_len f
  have hn := h.cnt
  rw [hc] at hn
  have hz0 := nb_len (v := ((tkeys f).length : Int)) (by omega)
  obtain ⟨pre, hpre⟩ : ∃ pre, nb ((tkeys f).length : Int) = pre := ⟨_, rfl⟩
  have hpreh := Lib.hid hpre
  rw [hpre] at hz0
  have hzl : ∀ m : Nat, m ≤ 1200 → (bstr (pre ++ tkB f m)).size ≤ 40000 := fun m hm => by
    rw [bstrT_size, List.length_append]
    have := tkB_len hA m hm
    omega
  have hzh := Lib.hid hzl
  have htab : tabB f = pre ++ tkB f 1200 := by unfold tabB; rw [hpre, tkB_all]
  have htabh := Lib.hid htab
  have hcall := refInt_any w ((tkeys f).length : Int) (by omega) (by omega)
  rw [hpre] at hcall
  have hcallh := Lib.hid hcall
  clear hzl htab hpre hcall hc hz0
  go_enter Tryz.func36, Tryz.ntmps36
  go_wp2_with fail
  refine hcallh.out.mono ?_
  rintro e w1 ⟨rfl, hc1⟩
  clear hn hcallh
  go_wp2_with fail
  go_loopw [3, 4] (fun v3 v4 wr => ∃ b : Nat, v4 = .int .i64 (b + 1) ∧ v3 = .string (bstr (pre ++ tkB f (b * 6))) ∧ b ≤ 200 ∧ Chg (fun _ => False) w wr) (fun _ v4 _ => 400 - (RowKit.intOf v4).toNat)
  case atStart => exact ⟨0, rfl, by rw [Nat.zero_mul, tkB_zero, List.append_nil], by omega, hc1⟩
  case round =>
    clear hc1
    obtain ⟨b, rfl, rfl, hb, hck⟩ := hrel
    by_cases hbl : b < 200
    · have hb94 : decide ((b : Int) + 1 ≤ 200) = true := by simp; omega
      obtain ⟨wq, hwq⟩ : ∃ wq : World, wq = wr := ⟨wr, rfl⟩
      subst hwq
      go_wp2_with fail
      clear hb94
      go_loopw [3, 5] (fun v3 v5 wx => ∃ j : Nat, v5 = .int .i64 (j + 1) ∧ v3 = .string (bstr (pre ++ tkB f (b * 6 + j))) ∧ j ≤ 6 ∧ Chg (fun _ => False) w wx) (fun _ v5 _ => 400 - (RowKit.intOf v5).toNat)
      case atStart => exact ⟨0, rfl, rfl, by omega, hck⟩
      case round =>
        clear hck
        obtain ⟨j, rfl, rfl, hj, hck⟩ := hrel
        by_cases hjl : j < 6
        · have hX := h.chg hck id
          have hc := hX.cell (b + 1) (j + 1) (by omega) (by omega)
          have hkg : (((b + 1 : Nat) : Int), ((j + 1 : Nat) : Int)) = keyG (b * 6 + j) := by
            unfold keyG
            rw [show (b * 6 + j) / 6 = b by omega, show (b * 6 + j) % 6 = j by omega]
            simp
          rw [hkg] at hc
          have hm : b * 6 + j < 1200 := by omega
          have hzz := hzh.out (b * 6 + j) (by omega)
          by_cases hf : f (keyG (b * 6 + j)) = 0
          · have hmiss := tkB_miss f (b * 6 + j) hm hf
            rw [hf] at hc
            have hmissh := Lib.hid hmiss
            clear hmiss hf hX hzz
            go_wp2_with fail
            go_roundw
            case rel => exact ⟨j + 1, by go_num, by rw [← Nat.add_assoc, hmissh.out], by omega, hck⟩
            case measure => simp [RowKit.intOf]; omega
          · have hhit := tkB_hit f (b * 6 + j) hm hf
            have hb01 : f (keyG (b * 6 + j)) = 1 ∨ f (keyG (b * 6 + j)) = 2 := by
              rcases hA (keyG (b * 6 + j)) with h | h | h
              · exact absurd h hf
              · exact .inl h
              · exact .inr h
            have hkg1 : (keyG (b * 6 + j)).1 = (b : Int) + 1 := by rw [← hkg]; simp
            have hkg2 : (keyG (b * 6 + j)).2 = (j : Int) + 1 := by rw [← hkg]; simp
            unfold entT at hhit
            rw [hkg1, hkg2] at hhit
            have hf0 : (f (keyG (b * 6 + j)) != 0) = true := by simp [hf]
            have hxl := hX.lt
            have hcell : ∀ w9 : World, w9.heap[x]? = wr.heap[x]? → w9.cell? ⟨x, R.off + (b + 1) * 7 + (j + 1), none⟩ = some (.int .i64 (f (keyG (b * 6 + j)))) := fun w9 h9 => by
              rw [← hc]
              exact World.cell?_of_block (a := ⟨x, R.off + (b + 1) * 7 + (j + 1), none⟩) h9
            obtain ⟨A, hAe⟩ : ∃ A, f (keyG (b * 6 + j)) = A := ⟨_, rfl⟩
            rw [hAe] at hb01 hhit hf0 hc hcell
            have hch := Lib.hid hcell
            obtain ⟨Q, hQ⟩ : ∃ Q, pre ++ tkB f (b * 6 + j) = Q := ⟨_, rfl⟩
            rw [hQ] at hzz ⊢
            have hQh := Lib.hid hQ
            have hhith := Lib.hid hhit
            have s1 : (bstr (nb ((b : Int) + 1))).size ≤ 10 := by rw [bstrT_size]; exact nb_len (by omega)
            have s2 : (bstr (nb ((j : Int) + 1))).size ≤ 10 := by rw [bstrT_size]; exact nb_len (by omega)
            have s3 : (bstr (nb A)).size ≤ 10 := by rw [bstrT_size]; exact nb_len (by omega)
            have t1 : (bstr Q ++ bstr (nb ((b : Int) + 1))).size ≤ 41000 := by rw [bsizeT]; omega
            have t2 : (bstr Q ++ bstr (nb ((b : Int) + 1)) ++ bstr (nb ((j : Int) + 1))).size ≤ 42000 := by rw [bsizeT]; omega
            clear hkg hkg1 hkg2 hf hcell hQ hhit hAe hX
            go_wp2_with fail
            obtain ⟨wa, hwa⟩ : ∃ wa : World, wa = wr := ⟨wr, rfl⟩
            subst hwa
            refine wp_region_plan (by kernel_rfl) [{ fl := [0, 1, 4, 7, 8, 9, 10, 11, 12, 13, 14], long := [14], ef := 2, keep := [14] }, { fl := [3], ef := 5, keep := [14] }, { fl := [6], ef := 15 }] [16, 17] (by kernel_rfl) (fun _ w9 => w9.heap[x]? = wa.heap[x]?) ?_
            simp only [wpPlan, longOK, keepOK, opsAt_cons, opsAt_nil, consO_some, List.getElem?_toArray, List.getElem?_cons_succ, List.getElem?_cons_zero, and_true, true_and]
            refine ⟨rfl, ?_⟩
            go_wp2_with fail
            refine ⟨by kernel_rfl, ?_, ?_⟩
            · intro _ w9 h9
              have hc9 := hch.out w9 h9
              clear h9
              go_simp
            go_wp2_with fail
            refine (refInt_any _ ((b : Int) + 1) (by omega) (by omega)).mono ?_
            rintro e wb1 ⟨rfl, hd1⟩
            have hd1 := ((Chg.refl (fun _ => False) wa).drew).trans hd1 (fun _ _ h => h)
            go_wp2_with fail
            refine ⟨hd1.block x hxl id, ?_⟩
            go_wp2_with fail
            refine ⟨by kernel_rfl, ?_⟩
            go_wp2_with fail
            refine (refInt_any _ ((j : Int) + 1) (by omega) (by omega)).mono ?_
            rintro e wb2 ⟨rfl, hd2⟩
            have hd2 := hd1.trans hd2 (fun _ _ h => h)
            go_wp2_with fail
            refine ⟨hd2.block x hxl id, ?_⟩
            go_wp2_with fail
            refine ⟨by kernel_rfl, ?_⟩
            go_wp2_with fail
            refine (refInt_any _ A (by omega) (by omega)).mono ?_
            rintro e wb3 ⟨rfl, hd3⟩
            have hd3 := hd2.trans hd3 (fun _ _ h => h)
            go_wp2_with fail
            refine ⟨by kernel_rfl, ?_⟩
            go_wp2_with fail
            go_roundw
            case rel => exact ⟨j + 1, by go_num, by rw [← Nat.add_assoc, hhith.out, ← List.append_assoc, hQh.out]; simp only [bstrT_append, List.append_assoc], by omega, hck.trans hd3 (fun _ _ h => h)⟩
            case measure => simp [RowKit.intOf]; omega
        · have hj6 : j = 6 := by omega
          subst hj6
          go_wp2_with fail
          go_roundw
          case rel => exact ⟨b + 1, by go_num, by rw [show (b + 1) * 6 = b * 6 + 6 by omega], by omega, hck⟩
          case measure => simp [RowKit.intOf]; omega
    · have hb2 : b = 200 := by omega
      subst hb2
      rw [show (200 * 6) = 1200 from rfl]
      go_wp2_with fail
      go_ret
      rw [htabh.out]
      exact ⟨rfl, hck⟩
end Go.Proofs.YtkbnojjmpmlgjaaGreat
