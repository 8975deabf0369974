/-
  DiskFull: its plain part and its walk.
-/
import Derived.Test.YtgcmagoecapgoaaDskT
import Derived.Test.YtgcmagoecapgoaaRowX
import Derived.Test.YtgcmagoecapgoaaInts
namespace Go.Proofs.Ytgcmagoecapgoaa
open Go.RowKit Go.Maps

theorem full_one (r : Int) (h0 : 0 ≤ r) (h1 : r ≤ 300) (a : List UInt8) : ∃ (f : Int) (D1 : Dsk) (u : Nat), (Dsk.new r).append [97] a = (f, D1) ∧ D1.used = u ∧ D1.Good ∧ D1.room = r ∧ D1.ks.length ≤ 1 ∧ D1.fl [98] = none ∧
    ((f = 0 ∧ (a.length : Int) ≤ r ∧ u = a.length) ∨ (f = 4 ∧ r < a.length ∧ u = 0)) := by
  have hG := Dsk.Good.new h0 (show r ≤ 1000000 by omega)
  have e0 : (Dsk.new r).used = 0 := rfl
  by_cases h : (a.length : Int) ≤ r
  · have hu := Dsk.used_put hG [97] ⟨a, 0⟩
    have hu : ((Dsk.new r).put [97] ⟨a, 0⟩).used + 0 = 0 + a.length := hu
    have hr : (Dsk.new r).room = r := rfl
    refine ⟨0, (Dsk.new r).put [97] ⟨a, 0⟩, a.length, ?_, by omega, hG.put (by decide) (Nat.zero_le _) (by rw [hr]; omega), rfl, Nat.le_refl _, rfl, .inl ⟨rfl, h, rfl⟩⟩
    unfold Dsk.append
    rw [if_neg (by decide), if_neg (by rw [e0, hr]; omega)]
    rfl
  · have hr : (Dsk.new r).room = r := rfl
    refine ⟨4, Dsk.new r, 0, ?_, rfl, hG, rfl, Nat.zero_le _, rfl, .inr ⟨rfl, by omega, rfl⟩⟩
    unfold Dsk.append
    rw [if_neg (by decide), if_pos (by rw [e0, hr]; omega)]
theorem full_two {D : Dsk} (hG : D.Good) (hk : D.ks.length ≤ 1) (hn : D.fl [98] = none) (b : List UInt8) : ∃ (g : Int) (D2 : Dsk) (u : Nat), D.append [98] b = (g, D2) ∧ D2.used = u ∧ D2.ks.length ≤ 2 ∧ (u : Int) ≤ D.room ∧
    ((g = 0 ∧ (b.length : Int) ≤ D.room - D.used ∧ ∃ f, D2.fl [98] = some f) ∨ (g = 4 ∧ D.room - D.used < b.length ∧ u = D.used ∧ D2.fl [98] = none)) := by
  have hfit := hG.fit
  by_cases h : (b.length : Int) ≤ D.room - D.used
  · have hu := Dsk.used_put hG [98] ⟨b, 0⟩
    rw [hn] at hu
    have hu : (D.put [98] ⟨b, 0⟩).used + 0 = D.used + b.length := hu
    refine ⟨0, D.put [98] ⟨b, 0⟩, D.used + b.length, ?_, by omega, ?_, by omega, .inl ⟨rfl, h, ⟨b, 0⟩, upd_same D.fl [98] (some ⟨b, 0⟩)⟩⟩
    · unfold Dsk.append
      rw [if_neg (by decide), if_neg (by omega), hn]
      rfl
    · unfold Dsk.put
      simp only [hn]
      simp
      exact hk
  · refine ⟨4, D, D.used, ?_, rfl, by omega, hfit, .inr ⟨rfl, by omega, rfl, hn⟩⟩
    unfold Dsk.append
    rw [if_neg (by decide), if_pos (by omega)]

set_option maxRecDepth 100000 in
set_option maxHeartbeats 4000000 in
theorem dful_walk (w : World) (n0 : Int) (a1 : Option Addr) (c1 : Nat) (l1 : List UInt8) (h1 : BytIn w a1 l1) (a2 : Option Addr) (c2 : Nat) (l2 : List UInt8) (h2 : BytIn w a2 l2) :
    Calls Try.prog 4 #[.int .i64 n0, .slice a1 l1.length c1, .slice a2 l2.length c2] w fun e w' => e = .returned (.bool true) ∧ Chg (fun _ => False) w w' := by
  obtain ⟨r, hr⟩ : ∃ r, wrap64 ((IntKind.u64.wrap n0).tmod 301) = r := ⟨_, rfl⟩
  have hrb := modK n0 301 (by omega)
  rw [hr] at hrb
  obtain ⟨hr1, hr2⟩ := hrb
  go_enter Try.func4, Try.ntmps4
  go_wp2_with fail
  rw [hr]
  refine (x_new w r (by omega)).mono ?_
  rintro e w0 ⟨d, rfl, hD, hc0⟩
  by_cases hl : 200 < l1.length ∨ 200 < l2.length
  · have hg : (decide (200 < l1.length) || decide (200 < l2.length)) = true := by simpa using hl
    by_cases hl1 : 200 < l1.length
    · go_wp2_with fail
      refine (told5 w0).mono ?_
      rintro e w1 ⟨rfl, hc1⟩
      go_wp2_with fail
      go_ret
      exact ⟨rfl, hc0.trans hc1 (fun _ _ h => h)⟩
    · have hl2 : 200 < l2.length := by omega
      go_wp2_with fail
      refine (told5 w0).mono ?_
      rintro e w1 ⟨rfl, hc1⟩
      go_wp2_with fail
      go_ret
      exact ⟨rfl, hc0.trans hc1 (fun _ _ h => h)⟩
  · have hl1 : ¬ 200 < l1.length := fun h => hl (.inl h)
    have hl2 : ¬ 200 < l2.length := fun h => hl (.inr h)
    obtain ⟨f, D1, u1, e1, hu1, hG1, hr1', hk1, hf1, hcase1⟩ := full_one r hr1 (by omega) l1
    obtain ⟨g, D2, u2, e2, hu2, hk2, hle2, hcase2⟩ := full_two hG1 hk1 hf1 l2
    rw [hr1', hu1] at hcase2
    rw [hr1'] at hle2
    have same : ∀ wq, Chg (fun i => ¬ i < w.heap.size) w wq → ∀ i, i < w.heap.size → wq.heap[i]? = w.heap[i]? := fun wq hc i hi => hc.block i hi (fun h => h hi)
    rcases hcase2 with ⟨rfl, hB, ff, hff⟩ | ⟨rfl, hB, rfl, hff⟩
    · rcases hcase1 with ⟨rfl, hA, rfl⟩ | ⟨rfl, hA, rfl⟩
      · skip
        go_wp2_with fail
        refine (x_append hD (Nat.zero_le _) [97] a1 l1 c1 (fun w' hc => h1.src c1 (same w' ((hc0.mono (fun _ _ h => h.elim) : Chg (fun i => ¬ i < w.heap.size) w w0).trans hc (fun _ _ h => h))))).mono ?_
        rw [e1]
        rintro e w1 ⟨rfl, hD1, hc1⟩
        have hc01 : Chg (fun i => ¬ i < w.heap.size) w w1 := (hc0.mono (fun _ _ h => h.elim) : Chg (fun i => ¬ i < w.heap.size) w w0).trans hc1 (fun _ _ h => h)
        clear hc1 hc0 hD
        go_wp2_with fail
        refine (x_used hD1 (by omega)).mono ?_
        rw [hu1]
        rintro e w2 ⟨rfl, hD2, hc2⟩
        have hc02 : Chg (fun i => ¬ i < w.heap.size) w w2 := hc01.trans hc2 (fun _ _ h => h.elim)
        clear hc2 hc01 hD1
        go_wp2_with fail
        refine (x_append hD2 (by omega) [98] a2 l2 c2 (fun w' hc => h2.src c2 (same w' (hc02.trans hc (fun _ _ h => h))))).mono ?_
        rw [e2]
        rintro e w3 ⟨rfl, hD3, hc3⟩
        have hc03 : Chg (fun i => ¬ i < w.heap.size) w w3 := hc02.trans hc3 (fun _ _ h => h)
        clear hc3 hc02 hD2
        go_wp2_with fail
        refine (x_read hD3 [98] hff).mono ?_
        rintro e w4 ⟨ao, off, cp, rb, rfl, _, _, hD4, hc4⟩
        have hc04 : Chg (fun i => ¬ i < w.heap.size) w w4 := hc03.trans hc4 (fun _ _ h => h.elim)
        clear hc4 hc03 hD3
        go_wp2_with fail
        refine (told5 w4).mono ?_
        rintro e w5 ⟨rfl, hc5⟩
        have hc05 : Chg (fun i => ¬ i < w.heap.size) w w5 := hc04.trans hc5 (fun _ _ h => h.elim)
        have hD5 := hD4.keep hc5
        clear hc5 hc04 hD4
        go_wp2_with fail
        refine (x_used hD5 (by omega)).mono ?_
        rw [hu2]
        rintro e w6 ⟨rfl, _, hc6⟩
        have hc06 : Chg (fun i => ¬ i < w.heap.size) w w6 := hc05.trans hc6 (fun _ _ h => h.elim)
        go_wp2_with fail
        go_ret
        exact ⟨by simp, hc06.mono (fun i hi h => h hi)⟩
      · skip
        go_wp2_with fail
        refine (x_append hD (Nat.zero_le _) [97] a1 l1 c1 (fun w' hc => h1.src c1 (same w' ((hc0.mono (fun _ _ h => h.elim) : Chg (fun i => ¬ i < w.heap.size) w w0).trans hc (fun _ _ h => h))))).mono ?_
        rw [e1]
        rintro e w1 ⟨rfl, hD1, hc1⟩
        have hc01 : Chg (fun i => ¬ i < w.heap.size) w w1 := (hc0.mono (fun _ _ h => h.elim) : Chg (fun i => ¬ i < w.heap.size) w w0).trans hc1 (fun _ _ h => h)
        clear hc1 hc0 hD
        go_wp2_with fail
        refine (x_used hD1 (by omega)).mono ?_
        rw [hu1]
        rintro e w2 ⟨rfl, hD2, hc2⟩
        have hc02 : Chg (fun i => ¬ i < w.heap.size) w w2 := hc01.trans hc2 (fun _ _ h => h.elim)
        clear hc2 hc01 hD1
        go_wp2_with fail
        refine (x_append hD2 (by omega) [98] a2 l2 c2 (fun w' hc => h2.src c2 (same w' (hc02.trans hc (fun _ _ h => h))))).mono ?_
        rw [e2]
        rintro e w3 ⟨rfl, hD3, hc3⟩
        have hc03 : Chg (fun i => ¬ i < w.heap.size) w w3 := hc02.trans hc3 (fun _ _ h => h)
        clear hc3 hc02 hD2
        go_wp2_with fail
        refine (x_read hD3 [98] hff).mono ?_
        rintro e w4 ⟨ao, off, cp, rb, rfl, _, _, hD4, hc4⟩
        have hc04 : Chg (fun i => ¬ i < w.heap.size) w w4 := hc03.trans hc4 (fun _ _ h => h.elim)
        clear hc4 hc03 hD3
        go_wp2_with fail
        refine (told5 w4).mono ?_
        rintro e w5 ⟨rfl, hc5⟩
        have hc05 : Chg (fun i => ¬ i < w.heap.size) w w5 := hc04.trans hc5 (fun _ _ h => h.elim)
        have hD5 := hD4.keep hc5
        clear hc5 hc04 hD4
        go_wp2_with fail
        refine (x_used hD5 (by omega)).mono ?_
        rw [hu2]
        rintro e w6 ⟨rfl, _, hc6⟩
        have hc06 : Chg (fun i => ¬ i < w.heap.size) w w6 := hc05.trans hc6 (fun _ _ h => h.elim)
        go_wp2_with fail
        go_ret
        exact ⟨by simp, hc06.mono (fun i hi h => h hi)⟩
    · rcases hcase1 with ⟨rfl, hA, rfl⟩ | ⟨rfl, hA, rfl⟩
      · skip
        go_wp2_with fail
        refine (x_append hD (Nat.zero_le _) [97] a1 l1 c1 (fun w' hc => h1.src c1 (same w' ((hc0.mono (fun _ _ h => h.elim) : Chg (fun i => ¬ i < w.heap.size) w w0).trans hc (fun _ _ h => h))))).mono ?_
        rw [e1]
        rintro e w1 ⟨rfl, hD1, hc1⟩
        have hc01 : Chg (fun i => ¬ i < w.heap.size) w w1 := (hc0.mono (fun _ _ h => h.elim) : Chg (fun i => ¬ i < w.heap.size) w w0).trans hc1 (fun _ _ h => h)
        clear hc1 hc0 hD
        go_wp2_with fail
        refine (x_used hD1 (by omega)).mono ?_
        rw [hu1]
        rintro e w2 ⟨rfl, hD2, hc2⟩
        have hc02 : Chg (fun i => ¬ i < w.heap.size) w w2 := hc01.trans hc2 (fun _ _ h => h.elim)
        clear hc2 hc01 hD1
        go_wp2_with fail
        refine (x_append hD2 (by omega) [98] a2 l2 c2 (fun w' hc => h2.src c2 (same w' (hc02.trans hc (fun _ _ h => h))))).mono ?_
        rw [e2]
        rintro e w3 ⟨rfl, hD3, hc3⟩
        have hc03 : Chg (fun i => ¬ i < w.heap.size) w w3 := hc02.trans hc3 (fun _ _ h => h)
        clear hc3 hc02 hD2
        go_wp2_with fail
        refine (x_used hD3 (by omega)).mono ?_
        rw [hu2]
        rintro e w4 ⟨rfl, hD4, hc4⟩
        have hc04 : Chg (fun i => ¬ i < w.heap.size) w w4 := hc03.trans hc4 (fun _ _ h => h.elim)
        clear hc4 hc03 hD3
        go_wp2_with fail
        refine (x_read_none hD4 [98] (by decide) hff).mono ?_
        rintro e w4 ⟨rfl, rfl⟩
        go_wp2_with fail
        refine (told5 w4).mono ?_
        rintro e w5 ⟨rfl, hc5⟩
        have hc05 : Chg (fun i => ¬ i < w.heap.size) w w5 := hc04.trans hc5 (fun _ _ h => h.elim)
        have hD5 := hD4.keep hc5
        clear hc5 hc04 hD4
        go_wp2_with fail
        refine (x_used hD5 (by omega)).mono ?_
        rw [hu2]
        rintro e w6 ⟨rfl, _, hc6⟩
        have hc06 : Chg (fun i => ¬ i < w.heap.size) w w6 := hc05.trans hc6 (fun _ _ h => h.elim)
        go_wp2_with fail
        go_ret
        exact ⟨by simp, hc06.mono (fun i hi h => h hi)⟩
      · skip
        go_wp2_with fail
        refine (x_append hD (Nat.zero_le _) [97] a1 l1 c1 (fun w' hc => h1.src c1 (same w' ((hc0.mono (fun _ _ h => h.elim) : Chg (fun i => ¬ i < w.heap.size) w w0).trans hc (fun _ _ h => h))))).mono ?_
        rw [e1]
        rintro e w1 ⟨rfl, hD1, hc1⟩
        have hc01 : Chg (fun i => ¬ i < w.heap.size) w w1 := (hc0.mono (fun _ _ h => h.elim) : Chg (fun i => ¬ i < w.heap.size) w w0).trans hc1 (fun _ _ h => h)
        clear hc1 hc0 hD
        go_wp2_with fail
        refine (x_used hD1 (by omega)).mono ?_
        rw [hu1]
        rintro e w2 ⟨rfl, hD2, hc2⟩
        have hc02 : Chg (fun i => ¬ i < w.heap.size) w w2 := hc01.trans hc2 (fun _ _ h => h.elim)
        clear hc2 hc01 hD1
        go_wp2_with fail
        refine (x_append hD2 (by omega) [98] a2 l2 c2 (fun w' hc => h2.src c2 (same w' (hc02.trans hc (fun _ _ h => h))))).mono ?_
        rw [e2]
        rintro e w3 ⟨rfl, hD3, hc3⟩
        have hc03 : Chg (fun i => ¬ i < w.heap.size) w w3 := hc02.trans hc3 (fun _ _ h => h)
        clear hc3 hc02 hD2
        go_wp2_with fail
        refine (x_used hD3 (by omega)).mono ?_
        rw [hu2]
        rintro e w4 ⟨rfl, hD4, hc4⟩
        have hc04 : Chg (fun i => ¬ i < w.heap.size) w w4 := hc03.trans hc4 (fun _ _ h => h.elim)
        clear hc4 hc03 hD3
        go_wp2_with fail
        refine (x_read_none hD4 [98] (by decide) hff).mono ?_
        rintro e w4 ⟨rfl, rfl⟩
        go_wp2_with fail
        refine (told5 w4).mono ?_
        rintro e w5 ⟨rfl, hc5⟩
        have hc05 : Chg (fun i => ¬ i < w.heap.size) w w5 := hc04.trans hc5 (fun _ _ h => h.elim)
        have hD5 := hD4.keep hc5
        clear hc5 hc04 hD4
        go_wp2_with fail
        refine (x_used hD5 (by omega)).mono ?_
        rw [hu2]
        rintro e w6 ⟨rfl, _, hc6⟩
        have hc06 : Chg (fun i => ¬ i < w.heap.size) w w6 := hc05.trans hc6 (fun _ _ h => h.elim)
        go_wp2_with fail
        go_ret
        exact ⟨by simp, hc06.mono (fun i hi h => h hi)⟩
end Go.Proofs.Ytgcmagoecapgoaa
