/-
  the reference's disk and the disk: same.
-/
import Derived.Test.YtgcmagoecapgoaaRDskC
import Derived.Test.YtgcmagoecapgoaaByt
namespace Go.Proofs.Ytgcmagoecapgoaa
open Go.RowKit Go.Maps Go.Sort

theorem RD.chg {w w' : World} {base X : Nat} {v : Value} {D : Dsk} (h : RD w base X v D) {S : Nat → Prop} (hc : Chg S w w') (hX : ¬ S X) (hv : ∀ k, v.ownBlock = some k → ¬ S k) : RD w' base X v D := by
  obtain ⟨l, h1, h2⟩ := h
  exact ⟨l, h1.chg hc hX hv, h2⟩
theorem RD.keep {w w' : World} {base X : Nat} {v : Value} {D : Dsk} (h : RD w base X v D) (hc : Chg (fun _ => False) w w') : RD w' base X v D := h.chg hc id (fun _ _ => id)

set_option maxRecDepth 100000 in
set_option maxHeartbeats 4000000 in
theorem same_any {P : Nat → Prop} {w : World} {d : Nat} {D : Dsk} {base X : Nat} {v : Value} (h : DiskX P w d D) (hR : RD w base X v D) (hmx : D.ks.length ≤ 1000000) :
    Calls Try.prog 28 #[.pointer (some ⟨d, 0, none⟩), .pointer (some ⟨X, 0, none⟩)] w fun e w' => e = .returned (.bool true) ∧ Chg (fun _ => False) w w' := by
  have hG := h.good
  go_enter Try.func28, Try.ntmps28
  go_wp2_with fail
  refine (x_names h hmx).mono ?_
  rintro e w1 ⟨ad, cap, rfl, hN, _, hD1, hc1⟩
  have hR1 := hR.keep hc1
  obtain ⟨l, hA, hI⟩ := id hR1
  have hlen : l.length = D.ks.length := hI.len hG
  obtain ⟨ao, cp, hv⟩ := hA.slice
  rw [hlen] at hv
  subst hv
  have c1 := hA.c1
  have hnm := hI.names hG
  clear hR h
  go_wp2_with fail
  refine (x_used hD1 hmx).mono ?_
  rintro e w2 ⟨rfl, hD2, hc2⟩
  have hR2 := hR1.keep hc2
  go_wp2_with fail
  refine (rd_used hR2 hG hmx).mono ?_
  rintro e wy ⟨rfl, rfl⟩
  have hcw2 := hc1.trans hc2 (fun _ _ h => h)
  clear hR2 hR1 hD1 c1
  go_wp2_with fail
  go_loopw [6, 7, 8] (fun v6 _ _ wr => ∃ k : Nat, v6 = .int .i64 k ∧ k ≤ D.ks.length ∧ Chg (fun _ => False) wy wr) (fun v6 _ _ _ => 2000000 - (RowKit.intOf v6).toNat)
  case atStart => exact ⟨0, rfl, Nat.zero_le _, Chg.refl _ _⟩
  case round =>
    obtain ⟨k, rfl, hk, hcr⟩ := hrel
    have hc1r := hc2.trans hcr (fun _ _ h => h)
    by_cases hkl : k < D.ks.length
    · obtain ⟨f, hf⟩ : ∃ f, l[k]? = some f := ⟨_, List.getElem?_eq_getElem (by omega)⟩
      have hn : D.names[k]? = some f.nm := by rw [hnm, List.getElem?_map, hf]; rfl
      obtain ⟨F, hF, q1, q2⟩ := (hI.mem f).1 (List.mem_of_getElem? hf)
      obtain ⟨gn, ead, n0⟩ := hN k f.nm hn
      subst ead
      have hgn : gn < w1.heap.size := World.block_lt_of_cell? _ _ n0
      have n1 : ∀ w9, Chg (fun _ => False) w1 w9 → w9.cell? ⟨gn, k, none⟩ = some (encStr f.nm) := fun w9 h9 => (h9.cell hgn id).trans n0
      have hnl : f.nm.length ≤ maxLen := by
        have := hG.nam f.nm (by rw [hF]; rfl)
        unfold maxLen
        omega
      have nr := n1 wr hc1r
      have hDr := hD2.keep hcr
      have N1 := Lib.hid n1
      clear n1 n0 hn
      go_wp2_with fail
      refine (x_read hDr f.nm hF).mono ?_
      rintro e w3 ⟨ab, off, cb, rb, rfl, hRow, _, hD3, hc3⟩
      have hc13 := hc1r.trans hc3 (fun _ _ h => h)
      have hc23 := hcr.trans hc3 (fun _ _ h => h)
      have hA3 := hA.keep hc13
      obtain ⟨g, cp2, e, hg, k0, k1, k2⟩ := hA3.file hf
      rw [hlen] at e
      cases e
      have c1 := hA3.c1
      have n3 := N1.out w3 hc13
      have hcv := conv_str (hRow.keep (Chg.refl (fun _ => False) w3).drew.size (fun _ => rfl))
      rw [← q1] at hcv ⊢
      have hsy : syF (D.fl f.nm) = f.sy := by rw [hF, q2]; rfl
      obtain ⟨NM, hNM⟩ : ∃ NM, f.nm = NM := ⟨_, rfl⟩
      obtain ⟨SS, hSS⟩ : ∃ SS, f.s = SS := ⟨_, rfl⟩
      rw [hNM] at k0 n3 hsy hnl
      rw [hSS] at k1 hcv ⊢
      have Hsy := Lib.hid hsy
      clear hDr hcr hc3 hc1r hA3 hRow hsy nr hf hF q1 q2
      have c1 : w3.drew.cell? ⟨X, 1, none⟩ = some (.slice (some ⟨g, 0, none⟩) D.ks.length cp) := c1
      have n3 : w3.drew.cell? ⟨gn, k, none⟩ = some (encStr NM) := n3
      have k0 : w3.drew.cell? ⟨g, k * 3, none⟩ = some (encStr NM) := k0
      have k1 : w3.drew.cell? ⟨g, k * 3 + 1, none⟩ = some (encStr SS) := k1
      have k2 : w3.drew.cell? ⟨g, k * 3 + 2, none⟩ = some (.int .i64 f.sy) := k2
      have hcv : (convert 22 9 (.slice ab SS.length cb)).run Try.prog w3.drew = .ok (encStr SS) w3.drew := hcv
      have hD4 := hD3.keep ((Chg.refl _ w3).drew)
      have hc24 := hc23.drew
      go_wp2_with fail
      refine wp_region_planN (by kernel_rfl) [0, 0, 3, 7, 0, 16, 48, 112, 0, 496, 1008, 2032, 4095, 8191, 16383, 32767, 65535, 131071, 262143, 524287, 262143, 1310719, 3407871, 7602175, 262143, 32767999, 66322431, 133431295, 268435455, 536870911, 1073741823, 2147483647, 2147483647, 2147483647, 15032385535, 32212254719, 68719476735, 2147483647, 139586437119, 414464344063, 964220157951, 2147483647, 4262755041279, 8660801552383, 17456894574591, 35184372088831, 70368744177663] [] [{ fl := [0, 1, 2, 3, 4, 5, 6, 7, 8, 9, 10, 11, 12, 13, 14, 15, 16, 17, 18, 19, 20, 21, 22, 23, 24, 25, 26, 27, 28, 29, 30, 31, 32, 33, 34, 35, 37, 38, 39, 40, 41, 42, 43, 44], long := [12, 19, 28, 40, 44], ef := 36, keep := [40, 44] }] [45, 46] (by kernel_rfl) (by simp) ?_
      intro opsF hF
      generalize w3.drew = w4 at *
      refine wpPlanTN_nil (fun _ (w9 : World) => w9 = w4) ?_
      refine wpPlanN_cons (by simp [keepOK]) ?_
      simp only [longOKN, keepOK, opsAt_cons, opsAt_nil, consO_some, List.getElem?_toArray, List.getElem?_cons_succ, List.getElem?_cons_zero, and_true]
      go_wp2_with fail
      refine ⟨by rw [hF.out]; kernel_rfl, ⟨?_, ?_, ?_, ?_, ?_⟩, ?_⟩
      iterate 5
        · intro _ w9 h9
          rw [h9]
          clear h9 hF
          go_simp
      go_wp2_with fail
      refine (x_synced hD4 NM hnl).mono ?_
      rw [Hsy.out]
      rintro e wz ⟨rfl, hwz⟩
      rw [hwz]
      go_wp2_with fail
      trace_state
      refine ⟨by simp [keepOK], ?_⟩
      refine wpPlanN_nil ?_
      simp only [opsAt_cons, opsAt_nil, consO_some, List.getElem?_toArray, List.getElem?_cons_succ, List.getElem?_cons_zero, and_true]
      go_wp2_with fail
      refine ⟨by rw [hF.out]; kernel_rfl, ?_⟩
      go_wp2_with fail
      go_roundw
      case rel => exact ⟨k + 1, by go_num, by omega, hc24⟩
      case measure => simp [RowKit.intOf]; omega
    · have hke : k = D.ks.length := by omega
      subst hke
      go_wp2_with fail
      go_ret
      exact ⟨rfl, hcw2.trans hcr (fun _ _ h => h)⟩
end Go.Proofs.Ytgcmagoecapgoaa
