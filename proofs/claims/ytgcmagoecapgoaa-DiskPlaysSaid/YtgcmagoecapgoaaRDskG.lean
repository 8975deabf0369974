/-
  the reference's disk: Cut.
-/
import Derived.Test.YtgcmagoecapgoaaRDskE
namespace Go.Proofs.Ytgcmagoecapgoaa
open Go.RowKit Go.Maps Go.Sort

theorem str_take (l : List UInt8) (k : Nat) : (⟨l.toArray⟩ : ByteArray).extract 0 k = ⟨(l.take k).toArray⟩ := by
  apply ByteArray.ext
  simp [ByteArray.data_extract]

set_option maxRecDepth 100000 in
set_option maxHeartbeats 2000000 in
theorem rd_cut {w : World} {base X : Nat} {v : Value} {D : Dsk} (h : RD w base X v D) (hG : D.Good) (hmx : D.ks.length ≤ 1000000) (n : Nam) (k : Int) :
    Calls Try.prog 22 #[.pointer (some ⟨X, 0, none⟩), encStr n, .int .i64 k] w fun e w' => e = .returned (.int .i64 (D.cut n k).1) ∧ RDPost w w' base X v (D.cut n k).2 := by
  obtain ⟨l, hA, hI⟩ := h
  have hl : l.length ≤ 1000000 := by rw [hI.len hG]; exact hmx
  obtain ⟨a, m, b, ha⟩ := hI.around n
  have hfind := Lib.hid (rd_find hA ha hl)
  have hAd := hA.keep ((Chg.refl (fun _ => False) w).drew)
  have hAdd := hA.keep ((Chg.refl (fun _ => False) w).drew.drew)
  rcases ha.mid with ⟨hf, rfl⟩ | ⟨F, hf, rfl⟩
  · rw [hf] at hfind
    rw [show (none : Option Fil).isSome = false from rfl] at hfind
    have e : D.cut n k = (5, D) := by unfold Dsk.cut; rw [hf]
    rw [e]
    have fin : RDPost w w.drew base X v D := ⟨v, ⟨l, hAd, hI⟩, (Chg.refl _ w).drew, fun k hk => .inl hk⟩
    clear hf ha hA hAd hAdd hI e
    go_enter Try.func22, Try.ntmps22
    go_wp2_with fail
    refine hfind.out.mono ?_
    rintro e w1 ⟨rfl, rfl⟩
    go_wp2_with fail
    go_ret
    exact ⟨rfl, fin⟩
  · rw [hf] at hfind
    rw [show (some F).isSome = true from rfl] at hfind
    have hm := get_mid a b (RF.of n F)
    have hle : l = a ++ (RF.of n F :: b) := ha.eq
    rw [← hle] at hm
    obtain ⟨g, cp, hv, hg, k0, k1, k2⟩ := hAdd.file hm
    have c1 := hAdd.c1
    subst hv
    replace k1 : w.drew.drew.cell? ⟨g, a.length * 3 + 1, none⟩ = some (encStr F.bs) := k1
    replace k2 : w.drew.drew.cell? ⟨g, a.length * 3 + 2, none⟩ = some (.int .i64 F.sy) := k2
    have e1 : w.drew.cell? ⟨g, a.length * 3 + 1, none⟩ = some (encStr F.bs) := k1
    have d1 : w.drew.cell? ⟨X, 1, none⟩ = some (.slice (some ⟨g, 0, none⟩) l.length cp) := c1
    have kz1 := hAdd.frozen (g := g) rfl (a.length * 3 + 1)
    have kz2 := hAdd.frozen (g := g) rfl (a.length * 3 + 2)
    have hal := (List.getElem?_eq_some_iff.1 hm).1
    by_cases hbad : k < 0 ∨ (F.bs.length : Int) < k
    · have e : D.cut n k = (3, D) := by unfold Dsk.cut; rw [hf]; show (if _ then _ else _) = _; rw [if_pos hbad]
      rw [e]
      have fin : RDPost w w.drew base X (.slice (some ⟨g, 0, none⟩) l.length cp) D := ⟨_, ⟨l, hAd, hI⟩, (Chg.refl _ w).drew, fun k hk => .inl hk⟩
      clear hf hm ha hA hAd hAdd hI k0 e hle c1 k1 k2 kz1 kz2
      go_enter Try.func22, Try.ntmps22
      go_wp2_with fail
      refine hfind.out.mono ?_
      rintro e w1 ⟨rfl, rfl⟩
      by_cases hk0 : k < 0
      · go_wp2_with fail
        go_ret
        exact ⟨rfl, fin⟩
      · have hk1 : (F.bs.length : Int) < k := by omega
        go_wp2_with fail
        go_ret
        exact ⟨rfl, fin⟩
    · obtain ⟨kn, rfl⟩ : ∃ kn : Nat, k = kn := ⟨k.toNat, by omega⟩
      have hkn : kn ≤ F.bs.length := by omega
      have e : D.cut n kn = (0, D.put n ⟨F.bs.take kn, kn⟩) := by unfold Dsk.cut; rw [hf]; show (if _ then _ else _) = _; rw [if_neg hbad]; rfl
      rw [e]
      have hS1 := hAdd.set (j := 1) (u := encStr (F.bs.take kn)) (f' := ⟨n, F.bs.take kn, F.sy⟩) hm (by decide) rfl
      have hl2 : l.set a.length (⟨n, F.bs.take kn, F.sy⟩ : RF) = a ++ (⟨n, F.bs.take kn, F.sy⟩ : RF) :: b := by rw [hle, set_mid]
      have hln : l.length = (a ++ (⟨n, F.bs.take kn, F.sy⟩ : RF) :: b).length := by rw [hle]; simp
      rw [hl2] at hS1
      have hS2 := (hln ▸ hS1 : RDAt _ base X (.slice (some ⟨g, 0, none⟩) (a ++ (⟨n, F.bs.take kn, F.sy⟩ : RF) :: b).length cp) D.room _).set (j := 2) (u := .int .i64 kn) (f' := RF.of n ⟨F.bs.take kn, kn⟩) (get_mid _ _ _) (by decide) rfl
      rw [set_mid, ← hln] at hS2
      have fin : RDPost w ((w.drew.drew.setCell ⟨g, a.length * 3 + 1, none⟩ (encStr (F.bs.take kn))).setCell ⟨g, a.length * 3 + 2, none⟩ (.int .i64 kn)) base X (.slice (some ⟨g, 0, none⟩) l.length cp) (D.put n ⟨F.bs.take kn, kn⟩) :=
        ⟨_, ⟨_, hS2, hI.put ha ⟨F.bs.take kn, kn⟩⟩, Chg.setCell (Chg.setCell ((Chg.refl _ w).drew.drew) (.inl (.inr rfl)) _) (.inl (.inr rfl)) _, fun k hk => .inl hk⟩
      have kz3 : w.frozen? ⟨g, a.length * 3 + 2, none⟩ = false := kz2
      have k3 : w.cell? ⟨g, a.length * 3 + 2, none⟩ = some (.int .i64 F.sy) := k2
      clear hf hm ha hA hAd hAdd hI k0 e hle hS1 hS2 hl2 hln hbad
      go_enter Try.func22, Try.ntmps22
      go_wp2_with fail
      refine hfind.out.mono ?_
      rintro e w1 ⟨rfl, rfl⟩
      go_wp2_with fail
      refine wp_region_plan (by kernel_rfl) [{ fl := [0, 1, 2, 3, 4, 5, 6, 7, 8, 9, 10, 11, 12, 13, 14, 15, 16, 17, 18, 19, 20, 21, 22], long := [19], ef := 23 }, { fl := [24, 25], ef := 26 }] [] (by kernel_rfl) (fun _ _ => True) ?_
      simp only [wpPlan, longOK, keepOK, opsAt_cons, opsAt_nil, consO_some, List.getElem?_toArray, List.getElem?_cons_succ, List.getElem?_cons_zero, and_true, true_and]
      go_wp2_with fail
      refine ⟨by kernel_rfl, ?_, ?_⟩
      · intro _ w9 _
        go_simp
      go_wp2_with fail
      refine ⟨by kernel_rfl, ?_⟩
      go_wp2_with fail
      refine ⟨by kernel_rfl, ?_⟩
      go_wp2_with fail
      go_ret
      exact ⟨rfl, by rw [str_take]; exact fin⟩
end Go.Proofs.Ytgcmagoecapgoaa
