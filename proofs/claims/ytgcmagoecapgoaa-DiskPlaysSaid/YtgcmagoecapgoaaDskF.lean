/-
  disk: Rename, Cut by their contracts.
-/
import Derived.Test.YtgcmagoecapgoaaDskE
namespace Go.Proofs.Ytgcmagoecapgoaa
open Go.RowKit Go.Maps

theorem map_put {S : Nat → Prop} {w : World} {d md : Nat} {pl : Nam → Nat × Nat} {D : Dsk} (h : DiskAt S w d md pl D) (n : Nam) (hn : n.length ≤ maxLen) (fb : Nat) :
    ∃ w3, (Instr.mapUpdate 55 (.map (some md)) (encStr n) (.pointer (some ⟨fb, 0, none⟩))).run Try.prog w = .ok () w3 ∧
      MapOf encStr w3 md (upd (fun m => ptrF (D.fl m) (pl m).1) n (some (.pointer (some ⟨fb, 0, none⟩)))) ∧ Chg (fun i => i = md) w w3 := by
  obtain ⟨es', clock', hrun, hM3⟩ := h.map.store (e := 59) (t := 55) lawS encS_inj h.keys Try.underlying55 (keyS hn) (.pointer (some ⟨fb, 0, none⟩))
  exact ⟨_, hrun, hM3, (Chg.refl (fun i => i = md) w).setBlock (.inl rfl) _⟩

theorem ren_good {D : Dsk} (hG : D.Good) {a b : Nam} {f : Fil} (hf : D.fl a = some f) (hb : 1 ≤ b.length ∧ b.length ≤ 20) : ((D.del a).put b f).Good := by
  have h1 := Dsk.used_del hG a
  rw [hf] at h1
  have h1 : (D.del a).used + f.bs.length = D.used := h1
  have h2 := Dsk.used_put (hG.del a) b f
  have h3 := hG.fit
  exact (hG.del a).put hb (hG.syn a f hf) (by show _ ≤ D.room; omega)

set_option maxRecDepth 100000 in
theorem dsk_rename {S : Nat → Prop} {w : World} {d md : Nat} {pl : Nam → Nat × Nat} {D : Dsk} (h : DiskAt S w d md pl D) (a b : Nam) (hn : a.length ≤ maxLen) (hn2 : b.length ≤ maxLen) :
    Calls Try.prog 18 #[.pointer (some ⟨d, 0, none⟩), encStr a, encStr b] w fun e w' => e = .returned (.int .i64 (D.rename a b).1) ∧ DiskW S w' d (D.rename a b).2 ∧ Chg S w w' := by
  cases hf : D.fl a with
  | none =>
    have e1 : D.rename a b = (5, D) := by unfold Dsk.rename; rw [hf]
    rw [e1]
    go_enter Try.func18, Try.ntmps18
    go_wp2_with fail
    refine (dsk_of h a hn).mono ?_
    rintro e w' ⟨rfl, rfl⟩
    rw [hf]
    unfold adrF
    go_wp2_with fail
    go_ret
    exact ⟨rfl, ⟨md, pl, h⟩, Chg.refl _ _⟩
  | some f =>
    cases hm : may b with
    | false =>
      have e1 : D.rename a b = (1, D) := by unfold Dsk.rename; rw [hf]; simp [hm]
      rw [e1]
      go_enter Try.func18, Try.ntmps18
      go_wp2_with fail
      refine (dsk_of h a hn).mono ?_
      rintro e w' ⟨rfl, rfl⟩
      rw [hf]
      unfold adrF
      go_wp2_with fail
      refine (dsk_may _ b).mono ?_
      rintro e w' ⟨rfl, rfl⟩
      rw [hm]
      go_wp2_with fail
      go_ret
      exact ⟨rfl, ⟨md, pl, h⟩, Chg.refl _ _⟩
    | true =>
      have e1 : D.rename a b = (0, (D.del a).put b f) := by unfold Dsk.rename; rw [hf]; simp [hm]
      rw [e1]
      have hb : 1 ≤ b.length ∧ b.length ≤ 20 := by simpa [may] using hm
      have hG' := ren_good h.good hf hb
      have hs := some_isSome hf
      have hfne := h.fne hs
      have hlo := h.lo a hs
      have c0 : w.cell? ⟨d, 0, none⟩ = some (.map (some md)) := by rw [h.blk.cell]; rfl
      obtain ⟨w3, hrun, hD, hc⟩ := map_drop h a hn
      have c3 : w3.cell? ⟨d, 0, none⟩ = some (.map (some md)) := by rw [hD.blk.cell]; rfl
      obtain ⟨w4, hrun4, hM4, hc4⟩ := map_put hD b hn2 (pl a).1
      have hcS : Chg S w w4 := (hc.trans hc4 (fun _ _ e => e)).mono (fun i _ e => e ▸ h.sm)
      have hz := (hc.trans hc4 (fun _ _ e => e)).size
      have hF : FilAt w4 (pl a).1 (pl a).2 f := (h.fil a f hf).chg (hc.trans hc4 (fun _ _ e => e)) hfne.2.1 hlo.2.1
      have hD4 := hD.add hc4 hM4 hF (h.sf a hs) (fun m hm hmb => by
        have hma : m ≠ a := fun e => by
          subst e
          unfold Dsk.del at hm
          simp only [upd_same] at hm
          cases hm
        have hmD : (D.fl m).isSome = true := by
          unfold Dsk.del at hm
          simp only [upd_other _ _ _ _ hma] at hm
          exact hm
        have h1 := h.ap a m hs hmD (fun e => hma e.symm)
        have h2 := h.ap m a hmD hs hma
        exact ⟨h1.1, h1.2.1, h1.2.2, fun e => h2.2.2 e.symm⟩) ⟨hlo.1, hlo.2.1, by omega⟩ hG'
      clear hc hc4 hF hM4 hD hG'
      go_enter Try.func18, Try.ntmps18
      go_wp2_with fail
      refine (dsk_of h a hn).mono ?_
      rintro e w' ⟨rfl, rfl⟩
      rw [hf]
      unfold adrF
      go_wp2_with fail
      refine (dsk_may _ b).mono ?_
      rintro e w' ⟨rfl, rfl⟩
      rw [hm]
      go_wp2_with fail
      go_ret
      exact ⟨rfl, ⟨md, _, hD4⟩, hcS⟩
set_option maxRecDepth 100000 in
theorem dsk_rename_nil (w : World) (a b : Nam) :
    Calls Try.prog 18 #[.pointer none, encStr a, encStr b] w fun e w' => e = .returned (.int .i64 5) ∧ w' = w := by
  go_enter Try.func18, Try.ntmps18
  go_wp2_with fail
  refine (dsk_of_nil w a).mono ?_
  rintro e w' ⟨rfl, rfl⟩
  go_wp2_with fail
  go_ret
  exact ⟨rfl, rfl⟩

theorem rowB_take {w : World} {ao : Option Addr} {off cap rb : Nat} {bs : List UInt8} (h : RowB w ao off cap rb bs) (k : Nat) (hk : k ≤ bs.length) : RowB w ao off k rb (bs.take k) := by
  have hle := h.came.le
  have hl : (bs.take k).length = k := by rw [List.length_take]; omega
  refine ⟨⟨by omega, fun h0 => h.came.addr (by omega), fun h0 => h.came.lt (by omega), by rw [bcells_len]; simp, fun j u hj => ?_, fun j hj => by rw [hl] at hj; omega⟩, by have := h.mx; omega⟩
  have hjl := (List.getElem?_eq_some_iff.1 hj).1
  rw [bcells_len, hl] at hjl
  unfold bcells at hj
  rw [List.map_take, List.getElem?_take_of_lt hjl] at hj
  exact h.came.olds j u hj

set_option maxRecDepth 100000 in
theorem dsk_cut {S : Nat → Prop} {w : World} {d md : Nat} {pl : Nam → Nat × Nat} {D : Dsk} (h : DiskAt S w d md pl D) (n : Nam) (hn : n.length ≤ maxLen) (k : Int) :
    Calls Try.prog 21 #[.pointer (some ⟨d, 0, none⟩), encStr n, .int .i64 k] w fun e w' => e = .returned (.int .i64 (D.cut n k).1) ∧ DiskW S w' d (D.cut n k).2 ∧ Chg S w w' := by
  cases hf : D.fl n with
  | none =>
    have e1 : D.cut n k = (5, D) := by unfold Dsk.cut; rw [hf]
    rw [e1]
    go_enter Try.func21, Try.ntmps21
    go_wp2_with fail
    refine (dsk_of h n hn).mono ?_
    rintro e w' ⟨rfl, rfl⟩
    rw [hf]
    unfold adrF
    go_wp2_with fail
    go_ret
    exact ⟨rfl, ⟨md, pl, h⟩, Chg.refl _ _⟩
  | some f =>
    have hG := h.good
    have hs := some_isSome hf
    obtain ⟨ao, off, cp, hB, hR, hne⟩ := h.fil n f hf
    have c1 : w.cell? ⟨(pl n).1, 0, none⟩ = some (.slice ao f.bs.length cp) := by rw [hB.cell]; rfl
    have c2 : w.cell? ⟨(pl n).1, 1, none⟩ = some (.int .i64 f.sy) := by rw [hB.cell]; rfl
    by_cases hk0 : k < 0
    · have e1 : D.cut n k = (3, D) := by unfold Dsk.cut; rw [hf]; simp [hk0]
      rw [e1]
      go_enter Try.func21, Try.ntmps21
      go_wp2_with fail
      refine (dsk_of h n hn).mono ?_
      rintro e w' ⟨rfl, rfl⟩
      rw [hf]
      unfold adrF
      go_wp2_with fail
      go_ret
      exact ⟨rfl, ⟨md, pl, h⟩, Chg.refl _ _⟩
    · by_cases hk1 : (f.bs.length : Int) < k
      · have e1 : D.cut n k = (3, D) := by unfold Dsk.cut; rw [hf]; simp [hk1]
        rw [e1]
        go_enter Try.func21, Try.ntmps21
        go_wp2_with fail
        refine (dsk_of h n hn).mono ?_
        rintro e w' ⟨rfl, rfl⟩
        rw [hf]
        unfold adrF
        go_wp2_with fail
        go_ret
        exact ⟨rfl, ⟨md, pl, h⟩, Chg.refl _ _⟩
      · obtain ⟨k, rfl⟩ : ∃ j : Nat, k = j := ⟨k.toNat, by omega⟩
        have hk : k ≤ f.bs.length := by omega
        have hle := hR.came.le
        have hl : (f.bs.take k).length = k := by rw [List.length_take]; omega
        have e1 : D.cut n k = (0, D.put n ⟨f.bs.take k, k⟩) := by
          unfold Dsk.cut
          rw [hf]
          simp only
          rw [if_neg (by omega)]
          simp
        rw [e1]
        have f0 : w.frozen? ⟨(pl n).1, 0, none⟩ = false := hB.frozen 0
        have f1 : w.frozen? ⟨(pl n).1, 1, none⟩ = false := hB.frozen 1
        have hfne := h.fne hs
        have hc : Chg (fun i => i = (pl n).1) w ((w.setCell ⟨(pl n).1, 0, none⟩ (.slice ao k k)).setCell ⟨(pl n).1, 1, none⟩ (.int .i64 k)) := ((Chg.refl (fun i => i = (pl n).1) w).setCell (.inl rfl) _).setCell (.inl rfl) _
        have hF : FilAt ((w.setCell ⟨(pl n).1, 0, none⟩ (.slice ao k k)).setCell ⟨(pl n).1, 1, none⟩ (.int .i64 k)) (pl n).1 (pl n).2 ⟨f.bs.take k, k⟩ := by
          refine ⟨ao, off, k, ?_, (rowB_take hR k hk).keep hc.size (fun h0 => hc.block _ (hR.came.lt (by omega)) (hne (by omega))), fun h0 => hne (by omega)⟩
          show Blk _ _ _ #[.slice ao (f.bs.take k).length k, .int .i64 k]
          rw [hl]
          exact (hB.set 0 _).set 1 _
        have hu := Dsk.used_put hG n ⟨f.bs.take k, k⟩
        rw [hf] at hu
        have hu : (D.put n ⟨f.bs.take k, k⟩).used + f.bs.length = D.used + (f.bs.take k).length := hu
        have hfit := hG.fit
        have hG' : (D.put n ⟨f.bs.take k, k⟩).Good := hG.put (hG.nam n hs) (by show k ≤ (f.bs.take k).length; omega) (by omega)
        have hD := h.turn hf hc (fun i hi => .inl hi) (fun e => hfne.1 e.symm) (fun e => hfne.2.1 e.symm) hF (.inl rfl) hG'
        have hcS : Chg S w ((w.setCell ⟨(pl n).1, 0, none⟩ (.slice ao k k)).setCell ⟨(pl n).1, 1, none⟩ (.int .i64 k)) := hc.mono (fun i _ e => e ▸ (h.sf n hs).1)
        clear hF hu hG' hc
        go_enter Try.func21, Try.ntmps21
        go_wp2_with fail
        refine (dsk_of h n hn).mono ?_
        rintro e w' ⟨rfl, rfl⟩
        rw [hf]
        unfold adrF
        go_wp2_with fail
        go_ret
        exact ⟨rfl, ⟨md, _, hD⟩, hcS⟩
set_option maxRecDepth 100000 in
theorem dsk_cut_nil (w : World) (n : Nam) (k : Int) :
    Calls Try.prog 21 #[.pointer none, encStr n, .int .i64 k] w fun e w' => e = .returned (.int .i64 5) ∧ w' = w := by
  go_enter Try.func21, Try.ntmps21
  go_wp2_with fail
  refine (dsk_of_nil w n).mono ?_
  rintro e w' ⟨rfl, rfl⟩
  go_wp2_with fail
  go_ret
  exact ⟨rfl, rfl⟩
end Go.Proofs.Ytgcmagoecapgoaa
