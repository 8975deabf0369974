/-
  DiskCuts: its plain part and its walk.
-/
import Derived.Test.YtgcmagoecapgoaaDskT
import Derived.Test.YtgcmagoecapgoaaRowX
import Derived.Test.YtgcmagoecapgoaaRegionE
import Derived.Laws.Concat
namespace Go.Proofs.Ytgcmagoecapgoaa
open Go.RowKit Go.Maps

theorem BytIn.conv {w : World} {ad : Option Addr} {l : List UInt8} (h : BytIn w ad l) (k : Nat) (hk : k ≤ l.length) (c : Nat) {w' : World} (hc : ∀ i, i < w.heap.size → w'.heap[i]? = w.heap[i]?) :
    (convert 22 9 (.slice ad k c)).run Try.prog w' = .ok (.string ⟨(l.take k).toArray⟩) w' := by
  have hlen : (l.take k).length = k := by rw [List.length_take]; omega
  cases ad with
  | none =>
    have : l = [] := by
      cases l with
      | nil => rfl
      | cons b l =>
        obtain ⟨a', h1, _⟩ := h 0 b rfl
        cases h1
    subst this
    have hk0 : k = 0 := by simpa using hk
    subst hk0
    rw [run_convert_bytes_string w' 22 9 5 _ 0 c Try.underlying22 Try.underlying5 Try.underlying9]
    simp [Conv.bytesToString]
    rfl
  | some a =>
    have := run_convert_bytes_back (P := Try.prog) w' 22 9 5 a c (l.take k) Try.underlying22 Try.underlying5 Try.underlying9 (fun j hj => by
      have hjk : j < k := by omega
      have hb : l[j]? = some (l.take k)[j] := by
        rw [← List.getElem?_take_of_lt hjk, List.getElem?_eq_getElem hj]
      obtain ⟨a', h1, h2, h3⟩ := h j _ hb
      cases h1
      have hblk : (a.add j).block = a.block := by unfold Addr.add; split <;> rfl
      rw [World.cell?_of_block (hc _ (by rw [hblk]; exact h2))]
      exact h3)
    rw [hlen] at this
    exact this

theorem put_same (D : Dsk) (n : Nam) (f : Fil) : (D.put n f).fl n = some f := upd_same D.fl n (some f)
namespace Cut
def nf : Nam := [102]
def E0 : Dsk := Dsk.new 1000
def E1 (a : List UInt8) : Dsk := E0.put nf ⟨a, 0⟩
def E2 (a : List UInt8) (k : Nat) : Dsk := (E1 a).put nf ⟨a.take k, k⟩
def E3 (a : List UInt8) (k : Nat) (b : List UInt8) : Dsk := (E2 a k).put nf ⟨a.take k ++ b, k⟩
theorem g0 : E0.Good := Dsk.Good.new (by decide) (by decide)
theorem u1 (a : List UInt8) : (E1 a).used = a.length := by
  have := Dsk.used_put g0 nf ⟨a, 0⟩
  have h : (E1 a).used + 0 = 0 + a.length := this
  omega
theorem g1 {a : List UInt8} (h : a.length ≤ 100) : (E1 a).Good := g0.put (by decide) (Nat.zero_le _) (by have := u1 a; unfold E1 at this; show ((E0.put nf ⟨a, 0⟩).used : Int) ≤ 1000; omega)
theorem a1 {a : List UInt8} (h : a.length ≤ 100) : E0.append nf a = (0, E1 a) := by
  unfold Dsk.append
  rw [if_neg (by decide), if_neg (by show ¬ (1000 : Int) - ((0 : Nat) : Int) < a.length; omega)]
  rfl
theorem f1 (a : List UInt8) : (E1 a).fl nf = some ⟨a, 0⟩ := put_same _ _ _
theorem c1 (a : List UInt8) {k : Int} (h : k < 0 ∨ (a.length : Int) < k) : (E1 a).cut nf k = (3, E1 a) := by
  unfold Dsk.cut
  rw [f1]
  simp only
  rw [if_pos h]
theorem c2 (a : List UInt8) {k : Nat} (h : k ≤ a.length) : (E1 a).cut nf k = (0, E2 a k) := by
  unfold Dsk.cut
  rw [f1]
  simp only
  rw [if_neg (by omega)]
  rfl
theorem f2 (a : List UInt8) (k : Nat) : (E2 a k).fl nf = some ⟨a.take k, k⟩ := put_same _ _ _
theorem u2 {a : List UInt8} (h : a.length ≤ 100) {k : Nat} (hk : k ≤ a.length) : (E2 a k).used = k := by
  have := Dsk.used_put (g1 h) nf ⟨a.take k, k⟩
  rw [f1] at this
  have h2 : (E2 a k).used + a.length = (E1 a).used + (a.take k).length := this
  rw [u1, List.length_take] at h2
  omega
theorem a3 {a : List UInt8} (h : a.length ≤ 100) {k : Nat} (hk : k ≤ a.length) {b : List UInt8} (hb : b.length ≤ 100) : (E2 a k).append nf b = (0, E3 a k b) := by
  unfold Dsk.append
  rw [if_neg (by decide), if_neg (by rw [u2 h hk]; show ¬ (1000 : Int) - (k : Int) < b.length; omega), f2]
  rfl
theorem f3 (a : List UInt8) (k : Nat) (b : List UInt8) : (E3 a k b).fl nf = some ⟨a.take k ++ b, k⟩ := put_same _ _ _
theorem f4 {a : List UInt8} {k : Nat} (hk : k ≤ a.length) (b : List UInt8) (keep : Int) : ((E3 a k b).crash keep).fl nf = some ⟨a.take k ++ b.take (max 0 (min keep b.length)).toNat, k + (max 0 (min keep b.length)).toNat⟩ := by
  show ((E3 a k b).fl nf).map (crashF keep) = _
  rw [f3]
  have hs : stay keep ⟨a.take k ++ b, k⟩ = k + (max 0 (min keep b.length)).toNat := by
    unfold stay
    simp only [List.length_append, List.length_take]
    omega
  show some (⟨(a.take k ++ b).take (stay keep ⟨a.take k ++ b, k⟩), stay keep ⟨a.take k ++ b, k⟩⟩ : Fil) = _
  rw [hs]
  have hl : (a.take k).length = k := by rw [List.length_take]; omega
  congr 2
  rw [List.take_append, hl]
  congr 1
  · rw [List.take_of_length_le (by omega)]
  · congr 1
    omega
theorem k1 (a : List UInt8) : (E1 a).ks.length ≤ 1000000 := Nat.le_trans (Nat.le_of_eq (show (E1 a).ks.length = 1 from rfl)) (by decide)
theorem k2 (a : List UInt8) (k : Nat) : (E2 a k).ks.length ≤ 1000000 := Nat.le_trans (Nat.le_of_eq (show (E2 a k).ks.length = 1 from rfl)) (by decide)
theorem k3 (a : List UInt8) (k : Nat) (b : List UInt8) : (E3 a k b).ks.length ≤ 1000000 := Nat.le_trans (Nat.le_of_eq (show (E3 a k b).ks.length = 1 from rfl)) (by decide)
theorem c5 (D : Dsk) (h : D.fl [103] = none) : D.cut [103] 0 = (5, D) := by unfold Dsk.cut; rw [h]
end Cut

set_option maxRecDepth 100000 in
theorem x_cut_none {P : Nat → Prop} {w : World} {d : Nat} {D : Dsk} (h : DiskX P w d D) (n : Nam) (hn : n.length ≤ maxLen) (hf : D.fl n = none) (k : Int) :
    Calls Try.prog 21 #[.pointer (some ⟨d, 0, none⟩), encStr n, .int .i64 k] w fun e w' => e = .returned (.int .i64 5) ∧ w' = w := by
  obtain ⟨S, ⟨md, pl, hD⟩, hP⟩ := h
  go_enter Try.func21, Try.ntmps21
  go_wp2_with fail
  refine (dsk_of hD n hn).mono ?_
  rintro e w' ⟨rfl, rfl⟩
  rw [hf]
  unfold adrF
  go_wp2_with fail
  go_ret
  exact ⟨rfl, rfl⟩
theorem add_str (w : World) (a b : List UInt8) (h : a.length + b.length ≤ 1000000) : (Op.stringOp .add ⟨a.toArray⟩ ⟨b.toArray⟩).run Try.prog w = .ok (.string ⟨(a ++ b).toArray⟩) w := by
  have ha : (⟨a.toArray⟩ : ByteArray).size = a.length := by show a.toArray.size = _; simp
  have hb : (⟨b.toArray⟩ : ByteArray).size = b.length := by show b.toArray.size = _; simp
  rw [run_string_add_sum w _ _ (by rw [ha, hb]; omega)]
  have e : (⟨a.toArray⟩ : ByteArray) ++ ⟨b.toArray⟩ = ⟨(a ++ b).toArray⟩ := by
    apply ByteArray.ext
    simp
  rw [e]

set_option maxRecDepth 100000 in
set_option maxHeartbeats 4000000 in
theorem dcut_walk (w : World) (a0 : Option Addr) (c0 : Nat) (l0 : List UInt8) (h0 : BytIn w a0 l0) (n1 : Int) (a2 : Option Addr) (c2 : Nat) (l2 : List UInt8) (h2 : BytIn w a2 l2) (keep : Int) (hkp : -9223372036854775808 ≤ keep ∧ keep ≤ 9223372036854775807) (hc00 : l0.length ≤ c0) (hc22 : l2.length ≤ c2) :
    Calls Try.prog 8 #[.slice a0 l0.length c0, .int .i64 n1, .slice a2 l2.length c2, .int .i64 keep] w fun e w' => e = .returned (.bool true) ∧ Chg (fun _ => False) w w' := by
  have same : ∀ wq, Chg (fun i => ¬ i < w.heap.size) w wq → ∀ i, i < w.heap.size → wq.heap[i]? = w.heap[i]? := fun wq hc i hi => hc.block i hi (fun h => h hi)
  go_enter Try.func8, Try.ntmps8
  go_wp2_with fail
  refine (x_new w 1000 (by omega)).mono ?_
  rintro e w0 ⟨d, rfl, hD, hc0⟩
  by_cases hl : 100 < l0.length ∨ 100 < l2.length
  · by_cases hl1 : 100 < l0.length
    · go_wp2_with fail
      refine (told5 w0).mono ?_
      rintro e w1 ⟨rfl, hc1⟩
      go_wp2_with fail
      go_ret
      exact ⟨rfl, hc0.trans hc1 (fun _ _ h => h)⟩
    · have hl2 : 100 < l2.length := by omega
      go_wp2_with fail
      refine (told5 w0).mono ?_
      rintro e w1 ⟨rfl, hc1⟩
      go_wp2_with fail
      go_ret
      exact ⟨rfl, hc0.trans hc1 (fun _ _ h => h)⟩
  · have hl1 : ¬ 100 < l0.length := fun h => hl (.inl h)
    have hl2 : ¬ 100 < l2.length := fun h => hl (.inr h)
    go_wp2_with fail
    refine (x_append hD (Nat.zero_le _) [102] a0 l0 c0 (fun w' hc => h0.src c0 (same w' ((hc0.mono (fun _ _ h => h.elim) : Chg (fun i => ¬ i < w.heap.size) w w0).trans hc (fun _ _ h => h))))).mono ?_
    rw [show (Dsk.new 1000).append [102] l0 = (0, Cut.E1 l0) from Cut.a1 (by omega)]
    rintro e w1 ⟨rfl, hD1, hc1⟩
    have hc01 : Chg (fun i => ¬ i < w.heap.size) w w1 := (hc0.mono (fun _ _ h => h.elim) : Chg (fun i => ¬ i < w.heap.size) w w0).trans hc1 (fun _ _ h => h)
    clear hc1 hc0 hD
    go_wp2_with fail
    refine (x_cut hD1 [102] (by decide) n1).mono ?_
    by_cases hn : n1 < 0 ∨ (l0.length : Int) < n1
    · rw [show (Cut.E1 l0).cut [102] n1 = (3, Cut.E1 l0) from Cut.c1 l0 hn]
      rintro e w2 ⟨rfl, hD2, hc2⟩
      have hc02 : Chg (fun i => ¬ i < w.heap.size) w w2 := hc01.trans hc2 (fun _ _ h => h)
      clear hc2 hc01 hD1
      have main : ∀ {a : Act} {K : Act → World → Prop} {Q : Exit → Act → World → Prop}, True := fun {_ _ _} => trivial
      clear main
      by_cases hn0 : n1 < 0
      · go_wp2_with fail
        refine (told5 w2).mono ?_
        rintro e w3 ⟨rfl, hc3⟩
        have hc03 : Chg (fun i => ¬ i < w.heap.size) w w3 := hc02.trans hc3 (fun _ _ h => h.elim)
        have hD3 := hD2.keep hc3
        clear hc3 hc02 hD2
        go_wp2_with fail
        refine (x_used hD3 (Cut.k1 l0)).mono ?_
        rw [Cut.u1]
        rintro e w4 ⟨rfl, hD4, hc4⟩
        have hc04 : Chg (fun i => ¬ i < w.heap.size) w w4 := hc03.trans hc4 (fun _ _ h => h.elim)
        go_wp2_with fail
        refine (x_synced hD4 [102] (by decide)).mono ?_
        rw [show (Cut.E1 l0).fl [102] = _ from Cut.f1 l0]
        rintro e w5 ⟨rfl, rfl⟩
        unfold syF
        go_wp2_with fail
        go_ret
        exact ⟨rfl, hc04.mono (fun i hi h => h hi)⟩
      · have hn2 : (l0.length : Int) < n1 := by omega
        go_wp2_with fail
        refine (told5 w2).mono ?_
        rintro e w3 ⟨rfl, hc3⟩
        have hc03 : Chg (fun i => ¬ i < w.heap.size) w w3 := hc02.trans hc3 (fun _ _ h => h.elim)
        have hD3 := hD2.keep hc3
        clear hc3 hc02 hD2
        go_wp2_with fail
        refine (x_used hD3 (Cut.k1 l0)).mono ?_
        rw [Cut.u1]
        rintro e w4 ⟨rfl, hD4, hc4⟩
        have hc04 : Chg (fun i => ¬ i < w.heap.size) w w4 := hc03.trans hc4 (fun _ _ h => h.elim)
        go_wp2_with fail
        refine (x_synced hD4 [102] (by decide)).mono ?_
        rw [show (Cut.E1 l0).fl [102] = _ from Cut.f1 l0]
        rintro e w5 ⟨rfl, rfl⟩
        unfold syF
        go_wp2_with fail
        go_ret
        exact ⟨rfl, hc04.mono (fun i hi h => h hi)⟩
    · obtain ⟨k, rfl⟩ : ∃ k : Nat, n1 = k := ⟨n1.toNat, by omega⟩
      have hk : k ≤ l0.length := by omega
      rw [show (Cut.E1 l0).cut [102] (k : Int) = (0, Cut.E2 l0 k) from Cut.c2 l0 hk]
      rintro e w2 ⟨rfl, hD2, hc2⟩
      have hc02 : Chg (fun i => ¬ i < w.heap.size) w w2 := hc01.trans hc2 (fun _ _ h => h)
      clear hc2 hc01 hD1 hn
      go_wp2_with fail
      refine (x_synced hD2 [102] (by decide)).mono ?_
      rw [show (Cut.E2 l0 k).fl [102] = _ from Cut.f2 l0 k]
      rintro e w3 ⟨rfl, rfl⟩
      unfold syF
      go_wp2_with fail
      refine (x_append hD2 (Cut.k2 l0 k) [102] a2 l2 c2 (fun w' hc => h2.src c2 (same w' (hc02.trans hc (fun _ _ h => h))))).mono ?_
      rw [show (Cut.E2 l0 k).append [102] l2 = (0, Cut.E3 l0 k l2) from Cut.a3 (by omega) hk (by omega)]
      rintro e w4 ⟨rfl, hD4, hc4⟩
      have hc04 : Chg (fun i => ¬ i < w.heap.size) w w4 := hc02.trans hc4 (fun _ _ h => h)
      clear hc4 hc02 hD2
      go_wp2_with fail
      refine (x_crash hD4 (Cut.k3 l0 k l2) keep hkp).mono ?_
      rintro e w5 ⟨rfl, hD5, hc5⟩
      have hc05 : Chg (fun i => ¬ i < w.heap.size) w w5 := hc04.trans hc5 (fun _ _ h => h)
      clear hc5 hc04 hD4
      go_wp2_with fail
      obtain ⟨m, hm⟩ : ∃ m : Nat, max 0 (min keep (l2.length : Int)) = (m : Int) := ⟨(max 0 (min keep (l2.length : Int))).toNat, by omega⟩
      have hml : m ≤ l2.length := by omega
      have hf4 := Cut.f4 hk l2 keep
      rw [hm, Int.toNat_natCast] at hf4
      have hg4 : ((Cut.E3 l0 k l2).crash keep).fl [103] = none := rfl
      obtain ⟨X, hX⟩ : ∃ X, l0.take k ++ l2.take m = X := ⟨_, rfl⟩
      rw [hX] at hf4
      refine (x_read hD5 [102] hf4).mono ?_
      rintro e w6 ⟨ao, off, cp, rb, rfl, hR, hrb, hD6, hc6⟩
      have hc06 : Chg (fun i => ¬ i < w.heap.size) w w6 := hc05.trans hc6 (fun _ _ h => h.elim)
      clear hc6 hc05 hD5
      go_wp2_with fail
      refine wp_region_plan2 (by kernel_rfl) [{ fl := [], ef := 0 }] [{ fl := [1, 2, 3, 4, 5, 6, 7, 8, 9, 10, 11, 12, 13, 14, 15, 16], long := [3, 6, 7, 10, 11, 12, 13], ef := 17, keep := [3, 6, 7, 10, 11, 12, 13] }] [18, 19, 20] (by kernel_rfl) (by simp) ?_
      simp only [wpPlanT, opsAt_cons, opsAt_nil, consO_some, List.getElem?_toArray, List.getElem?_cons_zero]
      go_wp2_with fail
      refine ⟨by kernel_rfl, ?_⟩
      go_wp2_with fail
      refine (told5 w6.drew).mono ?_
      rintro e w7 ⟨rfl, hc7⟩
      have hc7 : Chg (fun _ => False) w6 w7 := ((Chg.refl (fun _ => False) w6).drew).trans hc7 (fun _ _ h => h)
      have hc07 : Chg (fun i => ¬ i < w.heap.size) w w7 := hc06.trans hc7 (fun _ _ h => h.elim)
      have hD7 := hD6.keep hc7
      have hR7 := hR.keep hc7.size (fun h0 => hc7.block rb (hR.came.lt h0) id)
      have hz7 := hc07.size
      clear hc7 hc06 hD6 hR
      have cells : ∀ w9 : World, (w7.heap.size ≤ w9.heap.size ∧ ∀ i, i < w7.heap.size → w9.heap[i]? = w7.heap[i]?) →
          (convert 22 9 (.slice ao X.length cp)).run Try.prog w9 = .ok (.string ⟨X.toArray⟩) w9 ∧
          (convert 22 9 (.slice a0 k c0)).run Try.prog w9 = .ok (.string ⟨(l0.take k).toArray⟩) w9 ∧
          (convert 22 9 (.slice a2 m c2)).run Try.prog w9 = .ok (.string ⟨(l2.take m).toArray⟩) w9 := by
        intro w9 h9
        refine ⟨conv_str (hR7.keep h9.1 (fun h0 => h9.2 rb (hR7.came.lt h0))), h0.conv k hk c0 (fun i hi => ?_), h2.conv m hml c2 (fun i hi => ?_)⟩ <;> exact (h9.2 i (by omega)).trans (same w7 hc07 i hi)
      have hadd : ∀ w9 : World, (Op.stringOp .add ⟨(l0.take k).toArray⟩ ⟨(l2.take m).toArray⟩).run Try.prog w9 = .ok (.string ⟨X.toArray⟩) w9 := fun w9 => by
        rw [add_str w9 _ _ (by simp only [List.length_take]; omega), hX]
      have hch := Lib.hid cells
      obtain ⟨v1, v2, v3⟩ := cells w7 ⟨Nat.le_refl _, fun _ _ => rfl⟩
      clear cells
      go_wp2_with fail
      refine ⟨fun _ (w9 : World) => w7.heap.size ≤ w9.heap.size ∧ ∀ i, i < w7.heap.size → w9.heap[i]? = w7.heap[i]?, ?_⟩
      simp only [wpPlan, longOK, keepOK, opsAt_cons, opsAt_nil, consO_some, List.getElem?_toArray, List.getElem?_cons_succ, List.getElem?_cons_zero, and_true]
      go_wp2_with fail
      refine ⟨⟨⟨Nat.le_refl _, fun _ _ => trivial⟩, ⟨Nat.le_refl _, fun _ _ => trivial⟩, ⟨Nat.le_refl _, fun _ _ => trivial⟩, ⟨Nat.le_refl _, fun _ _ => trivial⟩, ⟨Nat.le_refl _, fun _ _ => trivial⟩, ⟨Nat.le_refl _, fun _ _ => trivial⟩, ⟨Nat.le_refl _, fun _ _ => trivial⟩⟩, ?_⟩
      go_wp2_with fail
      refine ⟨by kernel_rfl, ⟨?_, ?_, ?_, ?_, ?_, ?_, ?_⟩, ?_⟩
      · intro _ w9 h9
        obtain ⟨b1, b2, b3⟩ := hch.out w9 h9
        clear h9
        go_simp
      · intro _ w9 h9
        obtain ⟨b1, b2, b3⟩ := hch.out w9 h9
        clear h9
        go_simp
        intro hlt
        omega
      · intro _ w9 h9
        obtain ⟨b1, b2, b3⟩ := hch.out w9 h9
        clear h9
        go_simp
      · intro _ w9 h9
        obtain ⟨b1, b2, b3⟩ := hch.out w9 h9
        clear h9
        go_simp
        intro hlt
        omega
      · intro _ w9 h9
        obtain ⟨b1, b2, b3⟩ := hch.out w9 h9
        clear h9
        go_simp
      · intro _ w9 h9
        obtain ⟨b1, b2, b3⟩ := hch.out w9 h9
        clear h9
        go_simp
      · intro _ w9 h9
        obtain ⟨b1, b2, b3⟩ := hch.out w9 h9
        clear h9
        go_simp
      go_wp2_with fail
      refine (x_cut_none hD7 [103] (by decide) hg4 0).mono ?_
      rintro e w8 ⟨rfl, rfl⟩
      go_wp2_with fail
      refine ⟨⟨⟨Nat.le_refl _, fun _ _ => trivial⟩, ⟨Nat.le_refl _, fun _ _ => trivial⟩, ⟨Nat.le_refl _, fun _ _ => trivial⟩, ⟨Nat.le_refl _, fun _ _ => trivial⟩, ⟨Nat.le_refl _, fun _ _ => trivial⟩, ⟨Nat.le_refl _, fun _ _ => trivial⟩, ⟨Nat.le_refl _, fun _ _ => trivial⟩⟩, ?_⟩
      go_wp2_with fail
      refine ⟨by kernel_rfl, ?_⟩
      go_wp2_with fail
      go_ret
      exact ⟨rfl, hc07.mono (fun i hi h => h hi)⟩
end Go.Proofs.Ytgcmagoecapgoaa
