/-
  DiskNames: its walk.
-/
import Derived.Test.YtgcmagoecapgoaaDskT
import Derived.Test.YtgcmagoecapgoaaDNamP
import Derived.Test.YtgcmagoecapgoaaRowN
import Derived.Test.YtgcmagoecapgoaaInts
namespace Go.Proofs.Ytgcmagoecapgoaa
open Go.RowKit Go.Maps

theorem StrIn.at {w wr : World} {ad : Option Addr} {l : List Nam} (h : StrIn w ad l) {S : Nat → Prop} (hc : Chg S w wr) (hS : ∀ i, i < w.heap.size → ¬ S i) {k : Nat} {n : Nam} (hk : l[k]? = some n) : n.length ≤ maxLen ∧ ∃ a', ad = some a' ∧ wr.cell? (a'.add k) = some (encStr n) := by
  obtain ⟨h1, a', rfl, hlt, h2⟩ := h k n hk
  have hblk : (a'.add k).block = a'.block := by unfold Addr.add; split <;> rfl
  exact ⟨h1, a', rfl, (World.cell?_of_block (by rw [hblk]; exact hc.block _ hlt (hS _ hlt))).trans h2⟩

set_option maxRecDepth 100000 in
set_option maxHeartbeats 4000000 in
theorem dnam_walk (w : World) (a0 : Option Addr) (c0 : Nat) (l0 : List Nam) (h0 : StrIn w a0 l0) (n1 n2 : Int) :
    Calls Try.prog 5 #[.slice a0 l0.length c0, .int .i64 n1, .int .i64 n2] w fun e w' => e = .returned (.bool true) ∧ Chg (fun _ => False) w w' := by
  have fin : ∀ wq, Chg (fun i => ¬ i < w.heap.size) w wq → Chg (fun _ => False) w wq := fun wq hc => hc.mono (fun i hi h => h hi)
  go_enter Try.func5, Try.ntmps5
  go_wp2_with fail
  refine (x_new w 1000 (by omega)).mono ?_
  rintro e w0 ⟨d, rfl, hD, hc0⟩
  have told : ∀ wq, Chg (fun i => ¬ i < w.heap.size) w wq → Calls Try.prog 10 #[] wq fun e w' => e = .returned (.bool true) ∧ Chg (fun _ => False) w w' := fun wq hq => (told5 wq).mono (by
    rintro e w' ⟨rfl, hc⟩
    exact ⟨rfl, fin _ (hq.trans hc (fun _ _ h => h.elim))⟩)
  have htold := Lib.hid told
  clear told
  have hc0 : Chg (fun i => ¬ i < w.heap.size) w w0 := hc0.mono (fun _ _ h => h.elim)
  by_cases hl1 : l0.length < 1
  · go_wp2_with fail
    refine (htold.out _ hc0).mono ?_
    rintro e w1 ⟨rfl, hc1⟩
    go_wp2_with fail
    go_ret
    exact ⟨rfl, hc1⟩
  by_cases hl2 : 12 < l0.length
  · go_wp2_with fail
    refine (htold.out _ hc0).mono ?_
    rintro e w1 ⟨rfl, hc1⟩
    go_wp2_with fail
    go_ret
    exact ⟨rfl, hc1⟩
  go_wp2_with fail
  go_loopw [9] (fun v9 wr => ∃ k : Nat, v9 = .int .i64 k ∧ k ≤ l0.length ∧ DiskX (fun i => i < w.heap.size) wr d (Nms.fill l0 k) ∧ Nms.Ok l0 k ∧ Chg (fun i => ¬ i < w.heap.size) w wr) (fun v9 _ => 100 - (RowKit.intOf v9).toNat)
  case atStart => exact ⟨0, rfl, Nat.zero_le _, hD, Nms.ok0 _, hc0⟩
  case round =>
    obtain ⟨k, rfl, hk, hDr, hok, hcr⟩ := hrel
    by_cases hkl : k < l0.length
    · obtain ⟨n, hx⟩ : ∃ p, l0[k]? = some p := ⟨_, List.getElem?_eq_getElem hkl⟩
      obtain ⟨hnm, a', rfl, k0⟩ := h0.at hcr (fun i hi h => h hi) hx
      have Hx := Lib.hid hx
      clear hx
      by_cases hn1 : n.length < 1
      · go_wp2_with fail
        refine (htold.out _ hcr).mono ?_
        rintro e w1 ⟨rfl, hc1⟩
        go_wp2_with fail
        go_ret
        exact ⟨rfl, hc1⟩
      by_cases hn2 : 20 < n.length
      · go_wp2_with fail
        refine (htold.out _ hcr).mono ?_
        rintro e w1 ⟨rfl, hc1⟩
        go_wp2_with fail
        go_ret
        exact ⟨rfl, hc1⟩
      have hRA := rowB_const wr [UInt8.ofNat k] (by simp) #[.int .u8 k] (0, 0) (by simp [bcells, Nat.mod_eq_of_lt (show k < 256 by omega)])
      have hcA : Chg (fun _ => False) wr (wr.alloc (.cells #[.int .u8 k] 5)) := (Chg.refl _ wr).alloc _
      have hDA : DiskX (fun i => i < w.heap.size ∨ i = wr.heap.size) _ d (Nms.fill l0 k) := hDr.more hcA (fun i hi => hi.imp id (fun h => by rw [size_al]; omega))
      obtain ⟨hok2, happ⟩ := hok.step (by omega) Hx.out (by omega) (by omega)
      have Happ := Lib.hid happ
      clear happ
      go_wp2_with fail
      refine (x_append hDA (by have := hok.ks; omega) n _ [UInt8.ofNat k] _ (rowB_src hRA (fun _ => .inr rfl))).mono ?_
      rw [Happ.out]
      rintro e w1 ⟨rfl, hD1, hc1⟩
      have hcr1 : Chg (fun i => ¬ i < w.heap.size) w w1 := (hcr.trans hcA (fun _ _ h => h.elim)).trans hc1 (fun i _ h1 h2 => h1 (.inl h2))
      have hD1 : DiskX (fun i => i < w.heap.size) w1 d (Nms.fill l0 (k + 1)) := hD1.more (Chg.refl _ _) (fun i hi => .inl (.inl hi))
      go_wp2_with fail
      go_roundw
      case rel => exact ⟨k + 1, by go_num, by omega, hD1, hok2, hcr1⟩
      case measure => simp [RowKit.intOf]; omega
    · have hke : k = l0.length := by omega
      subst hke
      go_wp2_with fail
      obtain ⟨a', rfl⟩ : ∃ a', a0 = some a' := by
        obtain ⟨f0, hf0⟩ : ∃ p, l0[0]? = some p := ⟨_, List.getElem?_eq_getElem (by omega)⟩
        obtain ⟨_, a', rfl, _⟩ := h0.at hcr (fun i hi h => h hi) hf0
        exact ⟨a', rfl⟩
      obtain ⟨x, hx⟩ : ∃ x : Nat, wrap64 ((IntKind.u64.wrap n1).tmod l0.length) = x := ⟨(wrap64 ((IntKind.u64.wrap n1).tmod l0.length)).toNat, by have := modK n1 l0.length (by omega); omega⟩
      obtain ⟨y, hy⟩ : ∃ y : Nat, wrap64 ((IntKind.u64.wrap n2).tmod l0.length) = y := ⟨(wrap64 ((IntKind.u64.wrap n2).tmod l0.length)).toNat, by have := modK n2 l0.length (by omega); omega⟩
      have hxl : x < l0.length := by have := modK n1 l0.length (by omega); omega
      have hyl : y < l0.length := by have := modK n2 l0.length (by omega); omega
      obtain ⟨f, hf⟩ : ∃ p, l0[x]? = some p := ⟨_, List.getElem?_eq_getElem hxl⟩
      obtain ⟨t, ht⟩ : ∃ p, l0[y]? = some p := ⟨_, List.getElem?_eq_getElem hyl⟩
      obtain ⟨hfm, a1, ha1, k0⟩ := h0.at hcr (fun i hi h => h hi) hf
      obtain ⟨htm, a2, ha2, k1⟩ := h0.at hcr (fun i hi h => h hi) ht
      cases ha1
      cases ha2
      obtain ⟨F, hF⟩ := hok.has x f hxl hf
      obtain ⟨T, hT⟩ := hok.has y t hyl ht
      have hE : Nms.End (Nms.fill l0 l0.length) f t F := ⟨hok.good, by have := hok.ks; omega, hok.room, by have := hok.used; omega, hF, T, hT⟩
      obtain ⟨D, hDe⟩ : ∃ D, Nms.fill l0 l0.length = D := ⟨_, rfl⟩
      rw [hDe] at hE hDr
      clear hf ht hF hT hok hDe
      have hu : IntKind.u64.wrap (l0.length : Int) = l0.length := by rw [IntKind.wrap_u64]; omega
      have hne : ¬ l0 = [] := fun h => by subst h; exact hl1 (by decide)
      refine wp_region_plan (by kernel_rfl) [{ fl := [0, 1, 2, 3, 4, 5, 6, 7, 8, 9, 10, 11, 12, 13, 14, 15, 16, 17, 18, 19, 20], long := [2, 4, 5, 6, 7, 12, 14, 15, 16, 17], ef := 21 }] [] (by kernel_rfl) (fun _ _ => True) ?_
      simp only [wpPlan, longOK, keepOK, opsAt_cons, opsAt_nil, consO_some, List.getElem?_toArray, List.getElem?_cons_succ, List.getElem?_cons_zero, and_true, true_and]
      go_wp2_with fail
      refine ⟨by kernel_rfl, ⟨?_, ?_, ?_, ?_, ?_, ?_, ?_, ?_, ?_, ?_⟩, ?_⟩
      iterate 10
        · intro _ w9 _
          go_simp
          try first
            | exact hu
            | exact hne
            | (rw [IntWalk.i64_left]; exact hx)
            | (rw [IntWalk.i64_left]; exact hy)
      go_wp2_with fail
      refine ⟨by kernel_rfl, ?_⟩
      obtain ⟨D1, D2, D3, X, s, T2, u, k, hA⟩ := hE.all
      clear hx hy hxl hyl k0 k1 hE T hu hne
      go_wp2_with fail
      refine (x_sync (w := wr.drew) (hDr.keep ((Chg.refl _ wr).drew)) f hfm).mono ?_
      rw [hA.sync]
      rintro e w1 ⟨rfl, hD1, hc⟩
      have hw1 : Chg (fun i => ¬ i < w.heap.size) w w1 := (hcr.drew).trans hc (fun _ _ h => h)
      clear hc hcr hDr
      have hcv : (convert 22 22 (.slice (some ⟨w1.heap.size, 0, none⟩) 4 4)).run Try.prog (w1.alloc (.cells #[.int .u8 116, .int .u8 97, .int .u8 105, .int .u8 108] 5)) = .ok (.slice (some ⟨w1.heap.size, 0, none⟩) 4 4) (w1.alloc (.cells #[.int .u8 116, .int .u8 97, .int .u8 105, .int .u8 108] 5 (4, 5))) :=
        Lib.run_convert_bytes_const w1 _ _ _ 4 4 Try.underlying22 Try.underlying5
      have hcA : Chg (fun _ => False) w1 (w1.alloc (.cells #[.int .u8 116, .int .u8 97, .int .u8 105, .int .u8 108] 5 (4, 5))) := (Chg.refl _ w1).alloc _
      have hRA := rowB_const w1 [116, 97, 105, 108] (by decide) #[.int .u8 116, .int .u8 97, .int .u8 105, .int .u8 108] (4, 5) rfl
      have hDA : DiskX (fun i => i < w.heap.size ∨ i = w1.heap.size) _ d D1 := hD1.more hcA (fun i hi => by
        rcases hi with h | h
        · exact .inl h
        · right; rw [size_al]; omega)
      go_wp2_with fail
      generalize w1.alloc (.cells #[.int .u8 116, .int .u8 97, .int .u8 105, .int .u8 108] 5 (4, 5)) = wA at *
      have hwA : Chg (fun i => ¬ i < w.heap.size) w wA := hw1.trans hcA (fun _ _ h => h.elim)
      clear hcA hD1 hcv hw1
      refine (x_append hDA (by have := hA.k1; omega) f _ [116, 97, 105, 108] _ (rowB_src hRA (fun _ => .inr rfl))).mono ?_
      rw [hA.app]
      rintro e w2 ⟨rfl, hD2, hc⟩
      have hw2 : Chg (fun i => ¬ i < w.heap.size) w w2 := hwA.trans hc (fun i _ h1 h2 => h1 (.inl h2))
      have hD2 : DiskX (fun i => i < w.heap.size) w2 d D2 := hD2.more (Chg.refl _ _) (fun i hi => .inl (.inl hi))
      clear hDA hRA hc hwA
      have hXl := hA.hX
      have hXm := hA.xl
      have hkm := hA.kk
      have hum := hA.uu
      have htm2 := hA.tl
      go_wp2_with fail
      refine (x_read hD2 f hA.f2).mono ?_
      rintro e w3 ⟨ao, off, cp, rb, rfl, hR, hrb, _, hc⟩
      have hD3 : DiskX (fun i => i < w.heap.size ∨ (i = rb ∧ 0 < cp)) w3 d D2 := hD2.more hc (fun i hi => by
        rcases hi with h | ⟨rfl, h⟩
        · exact .inl h
        · right; omega)
      clear hrb
      have hw3 := hw2.trans hc (fun _ _ h => h.elim)
      clear hc hw2 hD2
      go_wp2_with fail
      refine (x_names hD3 (by rw [hA.k2]; omega)).mono ?_
      rw [hA.k2]
      rintro e w4 ⟨ad4, cap4, rfl, _, _, hD4, hc⟩
      have hw4 := hw3.trans hc (fun _ _ h => h.elim)
      have hR4 := hR.keep hc.size (fun h0 => hc.block rb (hR.came.lt h0) id)
      clear hc hw3 hD3 hR
      go_wp2_with fail
      refine (x_used hD4 (by rw [hA.k2]; omega)).mono ?_
      rw [hA.u2]
      rintro e w5 ⟨rfl, hD5, hc⟩
      have hw5 := hw4.trans hc (fun _ _ h => h.elim)
      have hR5 := hR4.keep hc.size (fun h0 => hc.block rb (hR4.came.lt h0) id)
      clear hc hw4 hD4 hR4
      go_wp2_with fail
      refine (x_read hD5 t hA.t2).mono ?_
      rintro e w6 ⟨aq, ofq, cq, rbq, rfl, _, _, hD6, hc⟩
      have hw6 := hw5.trans hc (fun _ _ h => h.elim)
      have hR6 := hR5.keep hc.size (fun h0 => hc.block rb (hR5.came.lt h0) id)
      clear hc hw5 hD5 hR5
      go_wp2_with fail
      refine (x_rename hD6 f t hfm htm).mono ?_
      rw [hA.ren]
      rintro e w7 ⟨rfl, hD7, hc⟩
      have hw7 : Chg (fun i => ¬ i < w.heap.size) w w7 := hw6.trans hc (fun _ _ h hn => h (.inl hn))
      have hR7 := hR6.keep hc.size (fun h0 => hc.block rb (hR6.came.lt h0) (fun hn => hn (.inr ⟨rfl, h0⟩)))
      have hD7 : DiskX (fun i => i < w.heap.size ∨ (i = rb ∧ 0 < cp)) w7 d D3 := hD7
      clear hc hw6 hD6 hR6
      go_wp2_with fail
      refine (x_read hD7 t hA.f3).mono ?_
      rintro e w8 ⟨az, ofz, cz, rbz, rfl, hZ, _, hD8, hc⟩
      have hw8 := hw7.trans hc (fun _ _ h => h.elim)
      have hR8 := hR7.keep hc.size (fun h0 => hc.block rb (hR7.came.lt h0) id)
      clear hc hw7 hD7 hR7
      go_wp2_with fail
      obtain ⟨k3, hk3⟩ : ∃ k3, D3.ks.length = k3 := ⟨_, rfl⟩
      have hk3m := hA.k3
      rw [hk3] at hk3m
      refine (x_names hD8 (by omega)).mono ?_
      rw [hk3]
      rintro e w9 ⟨ad9, cap9, rfl, hN, _, hD9, hc⟩
      have hw9 := hw8.trans hc (fun _ _ h => h.elim)
      have hR9 := hR8.keep hc.size (fun h0 => hc.block rb (hR8.came.lt h0) id)
      have hZ9 := hZ.keep hc.size (fun h0 => hc.block rbz (hZ.came.lt h0) id)
      clear hc hw8 hD8 hR8 hZ
      have hnl : D3.names.length = k3 := (names_len D3).trans hk3
      have Hnl := Lib.hid hnl
      have Hk3 := Lib.hid hk3
      clear hnl hk3
      go_wp2_with fail
      go_loopw [21] (fun v21 wr => ∃ j : Nat, v21 = .int .i64 ((j : Int) + 1) ∧ j ≤ 12 ∧ Chg (fun _ => False) w9 wr) (fun v21 _ => 100 - (RowKit.intOf v21).toNat)
      case atStart => exact ⟨0, by simp, by omega, Chg.refl _ _⟩
      case round =>
        obtain ⟨j, rfl, hj, hcj⟩ := hrel
        by_cases hjk : j + 1 < k3
        · obtain ⟨na, hna⟩ : ∃ p, D3.names[j]? = some p := ⟨_, List.getElem?_eq_getElem (by rw [Hnl.out]; omega)⟩
          obtain ⟨nb, hnb⟩ : ∃ p, D3.names[j + 1]? = some p := ⟨_, List.getElem?_eq_getElem (by rw [Hnl.out]; omega)⟩
          have hlt := names_lt hA.good hna hnb
          obtain ⟨G, rfl, q0⟩ := hN j _ hna
          obtain ⟨G2, hG2, q1⟩ := hN (j + 1) _ hnb
          cases hG2
          have hGz : G < w9.heap.size := World.block_lt_of_cell? _ _ q0
          have q0 : wr.cell? ⟨G, j, none⟩ = some (encStr na) := (World.cell?_of_block (a := ⟨G, j, none⟩) (hcj.block G hGz id)).trans q0
          have q1 : wr.cell? ⟨G, j + 1, none⟩ = some (encStr nb) := (World.cell?_of_block (a := ⟨G, j + 1, none⟩) (hcj.block G hGz id)).trans q1
          clear hna hnb
          have hcj2 : Chg (fun _ => False) w9 wr.drew := hcj.drew
          go_wp2_with fail
          refine wp_region_plan (by kernel_rfl) [{ fl := [0, 1, 2, 3, 4, 5, 6, 7, 8], ef := 9 }] [] (by kernel_rfl) (fun _ _ => True) ?_
          simp only [wpPlan, longOK, keepOK, opsAt_cons, opsAt_nil, consO_some, List.getElem?_toArray, List.getElem?_cons_succ, List.getElem?_cons_zero, and_true, true_and]
          go_wp2_with fail
          refine ⟨by kernel_rfl, ?_⟩
          go_wp2_with fail
          refine ⟨by kernel_rfl, ?_⟩
          go_wp2_with fail
          go_roundw
          case rel => exact ⟨j + 1, by go_num, by omega, hcj2⟩
          case measure => simp [RowKit.intOf]; omega
        · have hjk2 : ¬ (j : Int) + 1 < k3 := by omega
          have hwj := hw9.trans hcj (fun _ _ h => h.elim)
          have hDj := hD9.keep hcj
          have hRj := hR9.keep hcj.size (fun h0 => hcj.block rb (hR9.came.lt h0) id)
          have hZj := hZ9.keep hcj.size (fun h0 => hcj.block rbz (hZ9.came.lt h0) id)
          have v1 := conv_str hRj
          have v2 := conv_str hZj
          have hXl := hA.hX
          rw [hXl] at v1 v2
          clear hw9 hD9 hR9 hZ9 hcj hN
          go_wp2_with fail
          refine (x_synced hDj t htm).mono ?_
          rw [hA.f3]
          rintro e w10 ⟨rfl, rfl⟩
          unfold syF
          by_cases hft : f = t
          · subst hft
            obtain ⟨hs1, hs2⟩ := hA.same rfl
            rw [Hk3.out] at hs2
            subst hs2
            go_wp2_with fail
            refine (told5 _).mono ?_
            rintro e w11 ⟨rfl, hc⟩
            have hw11 := hwj.trans hc (fun _ _ h => h.elim)
            have hD11 := hDj.keep hc
            clear hc hwj hDj
            go_wp2_with fail
            refine (x_used hD11 (by rw [Hk3.out]; omega)).mono ?_
            rw [hs1]
            rintro e w12 ⟨rfl, _, hc⟩
            have hw12 := hw11.trans hc (fun _ _ h => h.elim)
            go_wp2_with fail
            go_ret
            exact ⟨rfl, fin _ hw12⟩
          · obtain ⟨ho1, ho2, ho3, ho4⟩ := hA.other hft
            have hb : (f == t) = false := beq_eq_false_iff_ne.2 hft
            go_wp2_with fail
            refine (x_read_none hDj f hfm ho1).mono ?_
            rintro e w11 ⟨rfl, rfl⟩
            go_wp2_with fail
            refine (told5 _).mono ?_
            rintro e w11 ⟨rfl, hc⟩
            have hw11 := hwj.trans hc (fun _ _ h => h.elim)
            have hD11 := hDj.keep hc
            clear hc hwj hDj
            rw [Hk3.out] at ho3
            go_wp2_with fail
            refine (x_used hD11 (by rw [Hk3.out]; omega)).mono ?_
            rintro e w12 ⟨rfl, hD12, hc⟩
            have hw12 := hw11.trans hc (fun _ _ h => h.elim)
            clear hc hw11 hD11
            go_wp2_with fail
            refine (x_rename hD12 f t hfm htm).mono ?_
            rw [ho4]
            rintro e w13 ⟨rfl, hD13, hc⟩
            have hw13 : Chg (fun i => ¬ i < w.heap.size) w w13 := hw12.trans hc (fun _ _ h hn => h (.inl hn))
            clear hc hw12 hD12
            go_wp2_with fail
            refine (x_rename hD13 t [] htm (by decide)).mono ?_
            rw [show ((5 : Int), D3).2.rename t [] = (1, D3) from hA.nil]
            rintro e w14 ⟨rfl, hD14, hc⟩
            have hw14 : Chg (fun i => ¬ i < w.heap.size) w w14 := hw13.trans hc (fun _ _ h hn => h (.inl hn))
            go_wp2_with fail
            go_ret
            exact ⟨rfl, fin _ hw14⟩
end Go.Proofs.Ytgcmagoecapgoaa
