/-
  DiskStays: its plain part and its walk.
-/
import Derived.Test.YtgcmagoecapgoaaDCutW
import Derived.Test.YtgcmagoecapgoaaRegionG
namespace Go.Proofs.Ytgcmagoecapgoaa
open Go.RowKit Go.Maps

namespace Sta
def nx : Nam := [120]
def ny : Nam := [121]
def E0 : Dsk := Dsk.new 1000
def E1 (a : List UInt8) : Dsk := E0.put nx ⟨a, 0⟩
def E2 (a b : List UInt8) : Dsk := (E1 a).put ny ⟨b, 0⟩
def E3 (a b : List UInt8) : Dsk := (E2 a b).put nx ⟨a, a.length⟩
def E4 (a b : List UInt8) : Dsk := (E3 a b).put ny ⟨b, b.length⟩
def E5 (a b c : List UInt8) : Dsk := (E4 a b).put nx ⟨a ++ c, a.length⟩
def E6 (a b c e : List UInt8) : Dsk := (E5 a b c).put ny ⟨b ++ e, b.length⟩
theorem used2 (D : Dsk) (h : D.ks = [ny, nx]) : D.used = lenF (D.fl ny) + lenF (D.fl nx) := by
  unfold Dsk.used
  rw [h]
  simp
theorem u1 (a : List UInt8) : (E1 a).used = a.length := by
  show ([nx].map fun n => lenF ((E1 a).fl n)).sum = _
  simp only [List.map_cons, List.map_nil, List.sum_cons, List.sum_nil]
  rfl
theorem u4 (a b : List UInt8) : (E4 a b).used = b.length + a.length := used2 _ rfl
theorem u5 (a b c : List UInt8) : (E5 a b c).used = b.length + (a ++ c).length := used2 _ rfl
theorem app {D : Dsk} {n : Nam} {b : List UInt8} (hm : may n = true) (hu : ¬ D.room - D.used < b.length) : D.append n b = (0, D.put n ⟨bsF (D.fl n) ++ b, syF (D.fl n)⟩) := by
  unfold Dsk.append
  rw [if_neg (by rw [hm]; decide), if_neg hu]
theorem a1 {a : List UInt8} (h : a.length ≤ 100) : E0.append nx a = (0, E1 a) := by
  rw [app (by decide) (by show ¬ (1000 : Int) - ((0 : Nat) : Int) < a.length; omega)]
  rfl
theorem a2 {a b : List UInt8} (h : a.length ≤ 100) (hb : b.length ≤ 100) : (E1 a).append ny b = (0, E2 a b) := by
  rw [app (by decide) (by rw [u1]; show ¬ (1000 : Int) - _ < b.length; omega)]
  rfl
theorem a3 (a b : List UInt8) : (E2 a b).sync nx = (0, E3 a b) := rfl
theorem a4 (a b : List UInt8) : (E3 a b).sync ny = (0, E4 a b) := rfl
theorem a5 {a b c : List UInt8} (h : a.length ≤ 100) (hb : b.length ≤ 100) (hc : c.length ≤ 100) : (E4 a b).append nx c = (0, E5 a b c) := by
  rw [app (by decide) (by rw [u4]; show ¬ (1000 : Int) - _ < c.length; omega)]
  rfl
theorem a6 {a b c e : List UInt8} (h : a.length ≤ 100) (hb : b.length ≤ 100) (hc : c.length ≤ 100) (he : e.length ≤ 100) : (E5 a b c).append ny e = (0, E6 a b c e) := by
  rw [app (by decide) (by rw [u5, List.length_append]; show ¬ (1000 : Int) - _ < e.length; omega)]
  rfl
theorem stay_app (a c : List UInt8) (keep : Int) : crashF keep ⟨a ++ c, a.length⟩ = ⟨a ++ c.take (max 0 (min keep c.length)).toNat, a.length + (max 0 (min keep c.length)).toNat⟩ := by
  have hs : stay keep ⟨a ++ c, a.length⟩ = a.length + (max 0 (min keep c.length)).toNat := by
    unfold stay
    simp only [List.length_append]
    omega
  show (⟨(a ++ c).take (stay keep ⟨a ++ c, a.length⟩), stay keep ⟨a ++ c, a.length⟩⟩ : Fil) = _
  rw [hs]
  congr 1
  rw [List.take_append]
  congr 1
  · rw [List.take_of_length_le (by omega)]
  · congr 1
    omega
theorem fx (a b c e : List UInt8) (keep : Int) : ((E6 a b c e).crash keep).fl nx = some ⟨a ++ c.take (max 0 (min keep c.length)).toNat, a.length + (max 0 (min keep c.length)).toNat⟩ := congrArg some (stay_app a c keep)
theorem fy (a b c e : List UInt8) (keep : Int) : ((E6 a b c e).crash keep).fl ny = some ⟨b ++ e.take (max 0 (min keep e.length)).toNat, b.length + (max 0 (min keep e.length)).toNat⟩ := congrArg some (stay_app b e keep)
theorem ux {D : Dsk} {f g : Fil} (h : D.ks = [ny, nx]) (hx : D.fl nx = some f) (hy : D.fl ny = some g) : D.used = f.bs.length + g.bs.length := by
  rw [used2 D h, hx, hy]
  show g.bs.length + f.bs.length = _
  omega
theorem k1 (a : List UInt8) : (E1 a).ks.length ≤ 1000000 := Nat.le_trans (Nat.le_of_eq (show (E1 a).ks.length = 1 from rfl)) (by decide)
theorem k4 (a b : List UInt8) : (E4 a b).ks.length ≤ 1000000 := Nat.le_trans (Nat.le_of_eq (show (E4 a b).ks.length = 2 from rfl)) (by decide)
theorem k5 (a b c : List UInt8) : (E5 a b c).ks.length ≤ 1000000 := Nat.le_trans (Nat.le_of_eq (show (E5 a b c).ks.length = 2 from rfl)) (by decide)
theorem k6 (a b c e : List UInt8) : (E6 a b c e).ks.length ≤ 1000000 := Nat.le_trans (Nat.le_of_eq (show (E6 a b c e).ks.length = 2 from rfl)) (by decide)
theorem kc (a b c e : List UInt8) (keep : Int) : ((E6 a b c e).crash keep).ks = [ny, nx] := rfl
end Sta

set_option maxRecDepth 100000 in
set_option maxHeartbeats 4000000 in
theorem dsta_walk (w : World) (a0 : Option Addr) (c0 : Nat) (l0 : List UInt8) (h0 : BytIn w a0 l0) (a1 : Option Addr) (c1 : Nat) (l1 : List UInt8) (h1 : BytIn w a1 l1) (a2 : Option Addr) (c2 : Nat) (l2 : List UInt8) (h2 : BytIn w a2 l2) (a3 : Option Addr) (c3 : Nat) (l3 : List UInt8) (h3 : BytIn w a3 l3) (keep : Int) (hkp : -9223372036854775808 ≤ keep ∧ keep ≤ 9223372036854775807) (hc22 : l2.length ≤ c2) (hc33 : l3.length ≤ c3) :
    Calls Try.prog 3 #[.slice a0 l0.length c0, .slice a1 l1.length c1, .slice a2 l2.length c2, .slice a3 l3.length c3, .int .i64 keep] w fun e w' => e = .returned (.bool true) ∧ Chg (fun _ => False) w w' := by
  have same : ∀ wq, Chg (fun i => ¬ i < w.heap.size) w wq → ∀ i, i < w.heap.size → wq.heap[i]? = w.heap[i]? := fun wq hc i hi => hc.block i hi (fun h => h hi)
  go_enter Try.func3, Try.ntmps3
  go_wp2_with fail
  refine (x_new w 1000 (by omega)).mono ?_
  rintro e w0 ⟨d, rfl, hD, hc0⟩
  by_cases hl0 : 100 < l0.length
  · go_wp2_with fail
    refine (told5 w0).mono ?_
    rintro e w1 ⟨rfl, hc1⟩
    go_wp2_with fail
    go_ret
    exact ⟨rfl, hc0.trans hc1 (fun _ _ h => h)⟩
  by_cases hl1 : 100 < l1.length
  · go_wp2_with fail
    refine (told5 w0).mono ?_
    rintro e w1 ⟨rfl, hc1⟩
    go_wp2_with fail
    go_ret
    exact ⟨rfl, hc0.trans hc1 (fun _ _ h => h)⟩
  by_cases hl2 : 100 < l2.length
  · go_wp2_with fail
    refine (told5 w0).mono ?_
    rintro e w1 ⟨rfl, hc1⟩
    go_wp2_with fail
    go_ret
    exact ⟨rfl, hc0.trans hc1 (fun _ _ h => h)⟩
  by_cases hl3 : 100 < l3.length
  · go_wp2_with fail
    refine (told5 w0).mono ?_
    rintro e w1 ⟨rfl, hc1⟩
    go_wp2_with fail
    go_ret
    exact ⟨rfl, hc0.trans hc1 (fun _ _ h => h)⟩
  go_wp2_with fail
  have hw0 : Chg (fun i => ¬ i < w.heap.size) w w0 := hc0.mono (fun _ _ h => h.elim)
  clear hc0
  refine (x_append hD (Nat.zero_le _) [120] a0 l0 c0 (fun w' hc => h0.src c0 (same w' (hw0.trans hc (fun _ _ h => h))))).mono ?_
  rw [show (Dsk.new 1000).append [120] l0 = (0, Sta.E1 l0) from Sta.a1 (by omega)]
  rintro e w1 ⟨rfl, hD1, hc⟩
  have hw1 := hw0.trans hc (fun _ _ h => h)
  clear hc hw0 hD
  go_wp2_with fail
  refine (x_append hD1 (Sta.k1 l0) [121] a1 l1 c1 (fun w' hc => h1.src c1 (same w' (hw1.trans hc (fun _ _ h => h))))).mono ?_
  rw [show (Sta.E1 l0).append [121] l1 = (0, Sta.E2 l0 l1) from Sta.a2 (by omega) (by omega)]
  rintro e w2 ⟨rfl, hD2, hc⟩
  have hw2 := hw1.trans hc (fun _ _ h => h)
  clear hc hw1 hD1
  go_wp2_with fail
  refine (x_sync hD2 [120] (by decide)).mono ?_
  rw [show (Sta.E2 l0 l1).sync [120] = (0, Sta.E3 l0 l1) from Sta.a3 l0 l1]
  rintro e w3 ⟨rfl, hD3, hc⟩
  have hw3 := hw2.trans hc (fun _ _ h => h)
  clear hc hw2 hD2
  go_wp2_with fail
  refine (x_sync hD3 [121] (by decide)).mono ?_
  rw [show (Sta.E3 l0 l1).sync [121] = (0, Sta.E4 l0 l1) from Sta.a4 l0 l1]
  rintro e w4 ⟨rfl, hD4, hc⟩
  have hw4 := hw3.trans hc (fun _ _ h => h)
  clear hc hw3 hD3
  go_wp2_with fail
  refine (x_append hD4 (Sta.k4 l0 l1) [120] a2 l2 c2 (fun w' hc => h2.src c2 (same w' (hw4.trans hc (fun _ _ h => h))))).mono ?_
  rw [show (Sta.E4 l0 l1).append [120] l2 = (0, Sta.E5 l0 l1 l2) from Sta.a5 (by omega) (by omega) (by omega)]
  rintro e w5 ⟨rfl, hD5, hc⟩
  have hw5 := hw4.trans hc (fun _ _ h => h)
  clear hc hw4 hD4
  go_wp2_with fail
  refine (x_append hD5 (Sta.k5 l0 l1 l2) [121] a3 l3 c3 (fun w' hc => h3.src c3 (same w' (hw5.trans hc (fun _ _ h => h))))).mono ?_
  rw [show (Sta.E5 l0 l1 l2).append [121] l3 = (0, Sta.E6 l0 l1 l2 l3) from Sta.a6 (by omega) (by omega) (by omega) (by omega)]
  rintro e w6 ⟨rfl, hD6, hc⟩
  have hw6 := hw5.trans hc (fun _ _ h => h)
  clear hc hw5 hD5
  go_wp2_with fail
  refine (x_crash hD6 (Sta.k6 l0 l1 l2 l3) keep hkp).mono ?_
  rintro e w7 ⟨rfl, hD7, hc⟩
  have hw7 := hw6.trans hc (fun _ _ h => h)
  clear hc hw6 hD6
  go_wp2_with fail
  obtain ⟨m, hm⟩ : ∃ m : Nat, max 0 (min keep (l2.length : Int)) = (m : Int) := ⟨(max 0 (min keep (l2.length : Int))).toNat, by omega⟩
  have hml : m ≤ l2.length := by omega
  obtain ⟨n, hn⟩ : ∃ n : Nat, max 0 (min keep (l3.length : Int)) = (n : Int) := ⟨(max 0 (min keep (l3.length : Int))).toNat, by omega⟩
  have hnl : n ≤ l3.length := by omega
  have hfx := Sta.fx l0 l1 l2 l3 keep
  rw [hm, Int.toNat_natCast] at hfx
  have hfy := Sta.fy l0 l1 l2 l3 keep
  rw [hn, Int.toNat_natCast] at hfy
  have hXl : l0.length + m = (l0 ++ l2.take m).length := by simp only [List.length_append, List.length_take]; omega
  have hYl : l1.length + n = (l1 ++ l3.take n).length := by simp only [List.length_append, List.length_take]; omega
  rw [hXl] at hfx
  rw [hYl] at hfy
  have hXm : (l0 ++ l2.take m).length ≤ 200 := by omega
  have hYm : (l1 ++ l3.take n).length ≤ 200 := by omega
  clear hXl hYl
  have hkc := Sta.kc l0 l1 l2 l3 keep
  obtain ⟨D7, hE7⟩ : ∃ D, (Sta.E6 l0 l1 l2 l3).crash keep = D := ⟨_, rfl⟩
  rw [hE7] at hD7 hfx hfy hkc
  clear hE7
  obtain ⟨X, hX⟩ : ∃ X, l0 ++ l2.take m = X := ⟨_, rfl⟩
  obtain ⟨Y, hY⟩ : ∃ Y, l1 ++ l3.take n = Y := ⟨_, rfl⟩
  rw [hX] at hfx hXm
  rw [hY] at hfy hYm
  have hus := Sta.ux hkc hfx hfy
  have hmx : D7.ks.length ≤ 1000000 := by rw [hkc]; decide
  have Hf := Lib.hid (And.intro hfx hfy)
  clear hfx hfy hkc
  have Hus := Lib.hid hus
  clear hus
  have HX := Lib.hid hX
  have HY := Lib.hid hY
  clear hX hY
  refine (x_read hD7 [120] Hf.out.1).mono ?_
  rintro e w8 ⟨ao, off, cp, rb, rfl, hR, _, hD8, hc⟩
  have hw8 := hw7.trans hc (fun _ _ h => h.elim)
  clear hc hw7 hD7
  go_wp2_with fail
  refine (x_read hD8 [121] Hf.out.2).mono ?_
  rintro e w9 ⟨ap, of2, cq, rb2, rfl, hR2, _, hD9, hc⟩
  have hw9 := hw8.trans hc (fun _ _ h => h.elim)
  have hR := hR.keep hc.size (fun h0 => hc.block rb (hR.came.lt h0) id)
  clear hc hw8 hD8
  go_wp2_with fail
  refine wp_region_planN (by kernel_rfl) [0, 1, 3, 7, 15, 31, 63, 127, 255, 511, 1023, 2047, 1023, 5119, 1023, 1023, 50175, 115711, 259071, 524287, 1048575, 2097151, 4194303, 8388607, 4194303, 20971519, 4194303, 4194303, 205520895, 473956351, 1061158911, 2147483647, 4294967295, 8589934591, 17179869183, 34359738367, 17179869183, 85899345919, 274877906943, 549755813887, 1099511627775, 2199023255551, 4398046511103, 2199023255551, 10995116277759, 2199023255551, 37383395344383, 134140418588671, 281474976710655, 562949953421311, 1125899906842623] [{ fl := [], ef := 0 }] [{ fl := [1, 2, 3, 4, 5, 6, 7, 8, 9, 10, 11, 12, 13, 14, 15, 16, 17, 18, 19, 20, 21, 22, 23, 24, 25, 26, 27, 28, 29, 30, 31, 32, 33, 34, 36, 37], long := [11, 13, 16, 17, 18, 19, 23, 25, 28, 29, 30, 31, 37], ef := 35, keep := [37] }, { fl := [38, 39, 40, 41, 43, 44, 45, 46, 47], long := [44, 46], ef := 42, keep := [44, 46] }] [48, 49, 50] (by kernel_rfl) (by simp) ?_
  intro opsF hF
  refine wpPlanTN_cons ?_
  simp only [opsAt_cons, opsAt_nil, consO_some, List.getElem?_toArray, List.getElem?_cons_zero]
  go_wp2_with fail
  refine ⟨by rw [hF.out]; kernel_rfl, ?_⟩
  go_wp2_with fail
  refine (told5 w9.drew).mono ?_
  rintro e w10 ⟨rfl, hc10⟩
  have hc10 : Chg (fun _ => False) w9 w10 := ((Chg.refl (fun _ => False) w9).drew).trans hc10 (fun _ _ h => h)
  have hwA : Chg (fun i => ¬ i < w.heap.size) w w10 := hw9.trans hc10 (fun _ _ h => h.elim)
  have hDA := hD9.keep hc10
  have hR7 := hR.keep hc10.size (fun h0 => hc10.block rb (hR.came.lt h0) id)
  have hR8 := hR2.keep hc10.size (fun h0 => hc10.block rb2 (hR2.came.lt h0) id)
  have hzA := hwA.size
  clear hc10 hw9 hD9 hR hR2
  have cells : ∀ w9 : World, (w10.heap.size ≤ w9.heap.size ∧ ∀ i, i < w10.heap.size → w9.heap[i]? = w10.heap[i]?) →
      (convert 22 9 (.slice ao X.length cp)).run Try.prog w9 = .ok (.string ⟨X.toArray⟩) w9 ∧
      (convert 22 9 (.slice ap Y.length cq)).run Try.prog w9 = .ok (.string ⟨Y.toArray⟩) w9 ∧
      (convert 22 9 (.slice a0 l0.length c0)).run Try.prog w9 = .ok (.string ⟨l0.toArray⟩) w9 ∧
      (convert 22 9 (.slice a1 l1.length c1)).run Try.prog w9 = .ok (.string ⟨l1.toArray⟩) w9 ∧
      (convert 22 9 (.slice a2 m c2)).run Try.prog w9 = .ok (.string ⟨(l2.take m).toArray⟩) w9 ∧
      (convert 22 9 (.slice a3 n c3)).run Try.prog w9 = .ok (.string ⟨(l3.take n).toArray⟩) w9 := by
    intro w9 h9
    have hsm : ∀ i, i < w.heap.size → w9.heap[i]? = w.heap[i]? := fun i hi => (h9.2 i (by omega)).trans (same w10 hwA i hi)
    have e0 := h0.conv l0.length (Nat.le_refl _) c0 hsm
    have e1 := h1.conv l1.length (Nat.le_refl _) c1 hsm
    rw [List.take_length] at e0 e1
    exact ⟨conv_str (hR7.keep h9.1 (fun h0 => h9.2 rb (hR7.came.lt h0))), conv_str (hR8.keep h9.1 (fun h0 => h9.2 rb2 (hR8.came.lt h0))), e0, e1, h2.conv m hml c2 hsm, h3.conv n hnl c3 hsm⟩
  have hadd : ∀ w9 : World, (Op.stringOp .add ⟨l0.toArray⟩ ⟨(l2.take m).toArray⟩).run Try.prog w9 = .ok (.string ⟨X.toArray⟩) w9 := fun w9 => by
    rw [add_str w9 _ _ (by simp only [List.length_take]; omega), HX.out]
  have hadd2 : ∀ w9 : World, (Op.stringOp .add ⟨l1.toArray⟩ ⟨(l3.take n).toArray⟩).run Try.prog w9 = .ok (.string ⟨Y.toArray⟩) w9 := fun w9 => by
    rw [add_str w9 _ _ (by simp only [List.length_take]; omega), HY.out]
  have hch := Lib.hid cells
  obtain ⟨v1, v2, v3, v4, v5, v6⟩ := cells w10 ⟨Nat.le_refl _, fun _ _ => rfl⟩
  clear cells
  go_wp2_with fail
  refine wpPlanTN_nil (fun _ (w9 : World) => w10.heap.size ≤ w9.heap.size ∧ ∀ i, i < w10.heap.size → w9.heap[i]? = w10.heap[i]?) ?_
  refine wpPlanN_cons (by simp [keepOK]) ?_
  simp only [longOKN, keepOK, opsAt_cons, opsAt_nil, consO_some, List.getElem?_toArray, List.getElem?_cons_succ, List.getElem?_cons_zero, and_true]
  go_wp2_with fail
  refine ⟨by rw [hF.out]; kernel_rfl, ⟨?_, ?_, ?_, ?_, ?_, ?_, ?_, ?_, ?_, ?_, ?_, ?_, ?_⟩, ?_⟩
  · intro _ w9 h9
    obtain ⟨b1, b2, b3, b4, b5, b6⟩ := hch.out w9 h9
    clear h9
    go_simp
  · intro _ w9 h9
    obtain ⟨b1, b2, b3, b4, b5, b6⟩ := hch.out w9 h9
    clear h9
    go_simp
  · intro _ w9 h9
    obtain ⟨b1, b2, b3, b4, b5, b6⟩ := hch.out w9 h9
    clear h9
    go_simp
    intro hlt
    omega
  · intro _ w9 h9
    obtain ⟨b1, b2, b3, b4, b5, b6⟩ := hch.out w9 h9
    clear h9
    go_simp
  · intro _ w9 h9
    obtain ⟨b1, b2, b3, b4, b5, b6⟩ := hch.out w9 h9
    clear h9
    go_simp
  · intro _ w9 h9
    obtain ⟨b1, b2, b3, b4, b5, b6⟩ := hch.out w9 h9
    clear h9
    go_simp
  · intro _ w9 h9
    obtain ⟨b1, b2, b3, b4, b5, b6⟩ := hch.out w9 h9
    clear h9
    go_simp
  · intro _ w9 h9
    obtain ⟨b1, b2, b3, b4, b5, b6⟩ := hch.out w9 h9
    clear h9
    go_simp
  · intro _ w9 h9
    obtain ⟨b1, b2, b3, b4, b5, b6⟩ := hch.out w9 h9
    clear h9
    go_simp
    intro hlt
    omega
  · intro _ w9 h9
    obtain ⟨b1, b2, b3, b4, b5, b6⟩ := hch.out w9 h9
    clear h9
    go_simp
  · intro _ w9 h9
    obtain ⟨b1, b2, b3, b4, b5, b6⟩ := hch.out w9 h9
    clear h9
    go_simp
  · intro _ w9 h9
    obtain ⟨b1, b2, b3, b4, b5, b6⟩ := hch.out w9 h9
    clear h9
    go_simp
  · intro _ w9 h9
    obtain ⟨b1, b2, b3, b4, b5, b6⟩ := hch.out w9 h9
    clear h9
    go_simp
  go_wp2_with fail
  refine (x_synced hDA [120] (by decide)).mono ?_
  rw [show D7.fl [120] = _ from Hf.out.1]
  rintro e w8 ⟨rfl, rfl⟩
  unfold syF
  go_wp2_with fail
  refine ⟨by simp, ?_⟩
  refine wpPlanN_cons (by simp [keepOK]) ?_
  simp only [longOKN, keepOK, opsAt_cons, opsAt_nil, consO_some, List.getElem?_toArray, List.getElem?_cons_succ, List.getElem?_cons_zero, and_true]
  go_wp2_with fail
  refine ⟨by rw [hF.out]; kernel_rfl, ⟨?_, ?_⟩, ?_⟩
  · intro _ w9 h9
    clear h9
    go_simp
  · intro _ w9 h9
    clear h9
    go_simp
  go_wp2_with fail
  refine (x_used hDA hmx).mono ?_
  rw [Hus.out]
  rintro e wB ⟨rfl, hDB, hc⟩
  have hwB := hwA.trans hc (fun _ _ h => h.elim)
  have hI : w8.heap.size ≤ wB.heap.size ∧ ∀ i, i < w8.heap.size → wB.heap[i]? = w8.heap[i]? := ⟨hc.size, fun i hi => hc.block i hi id⟩
  go_wp2_with fail
  refine ⟨⟨hI, hI⟩, ?_⟩
  refine wpPlanN_nil ?_
  simp only [longOKN, keepOK, opsAt_cons, opsAt_nil, consO_some, List.getElem?_toArray, List.getElem?_cons_succ, List.getElem?_cons_zero, and_true]
  go_wp2_with fail
  refine ⟨by rw [hF.out]; kernel_rfl, ?_⟩
  go_wp2_with fail
  go_ret
  exact ⟨rfl, hwB.mono (fun i hi h => h hi)⟩
end Go.Proofs.Ytgcmagoecapgoaa
