/-
  table.Keys: the keys by booking, then by kind, each once.
-/
import Derived.Test.YtajefffhdeljfaaLay
import Derived.Test.YtajefffhdeljfaaKeyD
import Derived.Test.YtajefffhdeljfaaKeyE
import Derived.Test.YtajefffhdeljfaaKeyS
import Derived.Shelf.SlSortCmp.NoneTotal
namespace Go.Proofs.Ytajefffhdeljfaa
open Go.RowKit Go.Maps Go.Sort Go.Shelf Go.Proofs

theorem ksort_any (blk cap : Nat) (d : Array (Int × Int)) (w : World) (hH : HoldsK encL 2 w blk 0 d) (hblk : blk < w.heap.size) (hsz : d.size < 4611686018427387904) :
    Calls Try.prog 65 #[.slice (some ⟨blk, 0, none⟩) d.size cap, .func (.func 47) #[] #[]] w fun e w' =>
      e = .returned (.tuple #[]) ∧ ∃ d' n os, PermIn 0 d.size d d' ∧ SortedIn (ltOf cfP) 0 d.size d' ∧ w' = sortWorldK encL 2 w blk 0 n d' os :=
  AnyQ.slices_SortFunc ksort 2 Try.isAgg70 Try.sizeOf70 encL (fun _ => rfl) (fun x v hv => by simp [encL] at hv; rcases hv with rfl | rfl <;> rfl) cfP swoP 47 #[] blk 0 cap d w
    (enters_of Try.func47 (by kernel_rfl) rfl) (fun _ _ _ _ x y => keycmp_any _ x y) hH hblk hsz

theorem permIn_all {d d' : Array (Int × Int)} (h : PermIn 0 d.size d d') : d'.toList.Perm d.toList := by
  obtain ⟨h1, _, h2⟩ := h
  have e1 : d.extract 0 d.size = d := by simp
  have e2 : d'.extract 0 d.size = d' := by rw [← h1]; simp
  rwa [e1, e2] at h2

set_option maxRecDepth 100000 in
set_option maxHeartbeats 1000000 in
theorem sortedFunc_any {w : World} {Bm mb : Nat} {f : Tab} (hBm : Bm < w.heap.size) (hm : w.cell? ⟨Bm, 0, none⟩ = some (.map (some mb))) (hM : MapOf encP w mb (tabMap f)) (hk : ∀ p, f p ≠ 0 → (1 ≤ p.1 ∧ p.1 ≤ 200) ∧ (1 ≤ p.2 ∧ p.2 ≤ 6)) :
    Calls Try.prog 45 #[.func (.func 66) #[] #[.pointer (some ⟨Bm, 0, none⟩)], .func (.func 47) #[] #[]] w fun e w' => ∃ v : Value, e = .returned v ∧
      w'.ownsRow w.heap.size 70 2 v (tkeys f).length (fl2 (tkeys f)) ∧ Below w.heap.size w w' := by
  obtain ⟨nn, D0, hown, hD, hK⟩ := hM.owned law2 encP_inj (tabMap_keys hk) (tkeys f) (tkeys_nodup f) (tkeys_mem hk) (by have := tkeys_len f; unfold maxLen; omega)
  have hbl := hown.lt
  have hDl : Maps.size D0 ≤ 1200 := Nat.le_trans hD (tkeys_len f)
  have hseq : SeqGives Fence.wide 2 Try.prog 66 #[.pointer (some ⟨Bm, 0, none⟩)] encP (fun ss => ss.Perm (tkeys f)) (Maps.size D0) w := fun l J W hW hJ hY h0 => by
    have hown' : W.ownsMap Try.prog 70 anyE mb nn D0 := by
      obtain ⟨es, clock, hb, Ft, hs, hD⟩ := hown
      exact ⟨es, clock, (hW.block mb hbl).trans hb, Ft, hs, hD⟩
    refine (kkeys1 Fence.wide 2 trivial rfl (by omega) l Bm mb nn D0 (tabMap f) hK J hY W hJ ((hW.cell (p := ⟨Bm, 0, none⟩) hBm).trans hm) hown' h0).mono ?_
    rintro e W' ⟨hv, ss, left, hC, hl, hJs⟩
    exact ⟨hv, ss, hC.done hK (tabMap_keys hk) law2 encP_inj hl (tkeys f) (tkeys_nodup f) (tkeys_mem hk), hJs⟩
  have cC := callsIn_wide.1 (kc_collect Fence.wide 4 trivial trivial rfl (by omega) 66 #[.pointer (some ⟨Bm, 0, none⟩)] trivial (enters_of Try.func66 (by kernel_rfl) rfl) _ (Maps.size D0) (by unfold maxLen; omega) (by omega) w hseq)
  clear hown hbl hseq hM hm hBm hK
  go_enter Try.func45, Try.ntmps45
  go_wp2_with fail
  refine cC.mono ?_
  rintro e w1 ⟨v, ss, rfl, hS, hrow, hnil, hb⟩
  have hsl := hS.length_eq
  have htl := tkeys_len f
  go_wp2_with fail
  rcases hrow.2 with ⟨rfl, hz⟩ | ⟨gb, cap, cur, rfl, hbase, hgb, r1, r2, r3, r4⟩
  · have hss : ss = [] := List.eq_nil_of_length_eq_zero hz
    subst hss
    have hnone := AnyF.slices_SortFunc_none ksort none 0 (.func (.func 47) #[] #[]) w1
    change Calls Try.prog 65 _ _ _ at hnone
    refine hnone.mono ?_
    rintro e w2 ⟨rfl, rfl⟩
    go_wp2_with fail
    go_ret
    have h0 : tkeys f = [] := List.eq_nil_of_length_eq_zero (by simpa using hsl.symm)
    rw [h0]
    exact ⟨_, rfl, hrow, hb⟩
  · have hH : HoldsK encL 2 w1 gb 0 ss.toArray := holdsP hgb r4
    have hgl : gb < w1.heap.size := (Array.getElem?_eq_some_iff.1 hgb).1
    have cS := ksort_any gb cap ss.toArray w1 hH hgl (by simp; omega)
    simp only [List.size_toArray] at cS
    refine cS.mono ?_
    rintro e w2 ⟨rfl, d', m, os, hp, hs, rfl⟩
    have hds : d'.size = ss.length := by simpa using hp.1
    have hp' := permIn_all (d := ss.toArray) (by simpa using hp)
    have hl : d'.toList = tkeys f := sorted_eqP (hp'.trans (by simpa using hS)) (by rw [hds]; exact hs) (tkeys_rising f)
    have ho := ownsP_sorted (w := w1) (m := m) (os := os) hds hbase hgb r1 r2 r3
    have hB := below_sorted (m := m) (os := os) (d := d') hb hbase
    rw [hl, hsl] at ho
    generalize sortWorldK encL 2 w1 gb 0 m d' os = w2 at *
    go_wp2_with fail
    go_ret
    exact ⟨_, rfl, ho, hB⟩

theorem mkeys_any (w : World) (mb : Option Nat) :
    Calls Try.prog 46 #[.map mb] w fun e w' => e = .returned (.func (.func 66) #[] #[.pointer (some ⟨w.heap.size, 0, none⟩)]) ∧ w' = w.alloc (.cells #[.map mb] 92) := by
  go_enter Try.func46, Try.ntmps46
  go_wp2
  go_ret
  exact ⟨rfl, rfl⟩

set_option maxRecDepth 100000 in
theorem keys_nil_any (w : World) : Calls Try.prog 24 #[.pointer none] w fun e w' => e = .returned (.slice none 0 0) ∧ w' = w := by
  go_enter Try.func24, Try.ntmps24
  go_wp2
  go_ret
  exact ⟨rfl, rfl⟩

set_option maxRecDepth 100000 in
set_option maxHeartbeats 1000000 in
theorem keys_own {w : World} {t mt : Nat} {f : Tab} (h : TabAt w t mt f) :
    Calls Try.prog 24 #[.pointer (some ⟨t, 0, none⟩)] w fun e w' => ∃ v : Value, e = .returned v ∧
      w'.ownsRow w.heap.size 70 2 v (tkeys f).length (fl2 (tkeys f)) ∧ Below w.heap.size w w' := by
  have hc0 : w.cell? ⟨t, 0, none⟩ = some (.map (some mt)) := by rw [h.blk.cell]; rfl
  have hM := h.map
  have hk := h.keys
  go_enter Try.func24, Try.ntmps24
  go_wp2_with fail
  refine (mkeys_any w (some mt)).mono ?_
  rintro e w1 ⟨rfl, hw1⟩
  have hm1 : w1.cell? ⟨w.heap.size, 0, none⟩ = some (.map (some mt)) := by rw [hw1]; simp
  have hM1 : MapOf encP w1 mt (tabMap f) := hM.keep (by rw [hw1]; exact Below.heap_alloc w _ mt hM.lt)
  have hs1 : w1.heap.size = w.heap.size + 1 := by rw [hw1]; simp
  have hb1 : Below w.heap.size w w1 := by rw [hw1]; exact (Below.refl _ w).alloc (Nat.le_refl _) _
  clear hw1 hc0
  go_wp2_with fail
  refine (sortedFunc_any (by omega) hm1 hM1 hk).mono ?_
  rintro e w2 ⟨v, rfl, hrow, hb2⟩
  go_wp2_with fail
  go_ret
  exact ⟨_, rfl, ownsRow_base_a hrow (by omega), hb1.trans (hb2.mono (by omega))⟩

/-- A slice of keys. -/
def KeysIn (w : World) (ad : Option Addr) (ks : List (Int × Int)) : Prop :=
  ∀ (i : Nat) (p : Int × Int), ks[i]? = some p → ∃ g, ad = some ⟨g, 0, none⟩ ∧ w.cell? ⟨g, i * 2, none⟩ = some (.int .i64 p.1) ∧ w.cell? ⟨g, i * 2 + 1, none⟩ = some (.int .i64 p.2)

theorem keysIn_own {w : World} {base : Nat} {v : Value} {ks : List (Int × Int)} (h : w.ownsRow base 70 2 v ks.length (fl2 ks)) :
    ∃ ad cap, v = .slice ad ks.length cap ∧ KeysIn w ad ks ∧ ∀ a, ad = some a → base ≤ a.block ∧ a.block < w.heap.size := by
  rcases h.2 with ⟨rfl, hz⟩ | ⟨g, cap, cur, rfl, hbase, hgb, r1, r2, r3, r4⟩
  · refine ⟨none, 0, by rw [hz], ?_, fun a ha => by cases ha⟩
    intro i p hi
    have : ks = [] := List.eq_nil_of_length_eq_zero hz
    subst this
    simp at hi
  · have hgl : g < w.heap.size := (Array.getElem?_eq_some_iff.1 hgb).1
    refine ⟨some ⟨g, 0, none⟩, cap, rfl, ?_, fun a ha => by cases ha; exact ⟨hbase, hgl⟩⟩
    intro i p hi
    have hlt : i < ks.length := (List.getElem?_eq_some_iff.1 hi).1
    have hv : ks[i] = p := (List.getElem?_eq_some_iff.1 hi).2
    have key : ∀ j, j < 2 → w.cell? ⟨g, i * 2 + j, none⟩ = some (encL ks[i])[j]! := by
      intro j hj
      have h1 : (cur.toList.take (ks.length * 2))[i * 2 + j]? = (fl2 ks)[i * 2 + j]? := by rw [r4]
      rw [List.getElem?_take_of_lt (by omega), fl2_get ks _ (by omega), show (i * 2 + j) / 2 = i by omega, show (i * 2 + j) % 2 = j by omega, getElem!_pos ks i hlt] at h1
      simp only [World.cell?, hgb]
      simp only [Option.isSome_none, Bool.false_eq_true, if_false]
      rw [← Array.getElem?_toList, h1]
    refine ⟨g, rfl, ?_, ?_⟩
    · have := key 0 (by omega)
      rw [hv] at this
      simpa [encL] using this
    · have := key 1 (by omega)
      rw [hv] at this
      simpa [encL] using this

theorem keys_any {w : World} {t mt : Nat} {f : Tab} (h : TabAt w t mt f) :
    Calls Try.prog 24 #[.pointer (some ⟨t, 0, none⟩)] w fun e w' => ∃ ad cap, e = .returned (.slice ad (tkeys f).length cap) ∧
      KeysIn w' ad (tkeys f) ∧ (∀ a, ad = some a → w.heap.size ≤ a.block ∧ a.block < w'.heap.size) ∧ Chg (fun _ => False) w w' := by
  refine (keys_own h).mono ?_
  rintro e w' ⟨v, rfl, hrow, hb⟩
  obtain ⟨ad, cap, rfl, h1, h2⟩ := keysIn_own hrow
  exact ⟨ad, cap, rfl, h1, h2, Chg.ofBelow hb (fun i hi hb => by omega)⟩
end Go.Proofs.Ytajefffhdeljfaa
