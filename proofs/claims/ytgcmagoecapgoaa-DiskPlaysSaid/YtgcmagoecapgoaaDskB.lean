/-
  disk: Names, Used by their contracts.
-/
import Derived.Test.YtgcmagoecapgoaaLay
import Derived.Test.YtgcmagoecapgoaaDskA
import Derived.Shelf.AbstractIn
namespace Go.Proofs.Ytgcmagoecapgoaa
open Go.RowKit Go.Maps Go.Sort Go.Shelf Go.Proofs

def Dsk.names (D : Dsk) : List Nam := D.ks.mergeSort leB
theorem names_perm (D : Dsk) : D.names.Perm D.ks := List.mergeSort_perm _ _
theorem names_len (D : Dsk) : D.names.length = D.ks.length := (names_perm D).length_eq

theorem sortsS (m : Nat) : AnyZ.SortsIn Try.prog ssorted_ren Fence.wide m :=
  ⟨fun blk off cap ss W hH hblk hsz => callsIn_wide.2 (AnyM.slices_Sort_string ssort blk off cap ss W hH hblk hsz),
   fun p cap W => callsIn_wide.2 (AnyM.slices_Sort_string_none ssort p cap W)⟩

set_option maxHeartbeats 1000000 in
theorem sortedS_any {w : World} {Bm mb : Nat} {f : Nam → Option Value} (hBm : Bm < w.heap.size) (hm : w.cell? ⟨Bm, 0, none⟩ = some (.map (some mb))) (hM : MapOf encStr w mb f) (hk : ∀ n v, f n = some v → n.length ≤ maxLen)
    (ks : List Nam) (hn : ks.Nodup) (hmm : ∀ a, a ∈ ks ↔ (f a).isSome = true) (hmx : ks.length ≤ 1000000) :
    Calls Try.prog 33 #[.func (.func 40) #[] #[.pointer (some ⟨Bm, 0, none⟩)]] w fun e w' => ∃ v : Value, e = .returned v ∧
      w'.ownsRow w.heap.size 9 1 v ks.length ((ks.mergeSort leB).map encStr) ∧ Below w.heap.size w w' := by
  obtain ⟨nn, D0, hown, hD, hperm⟩ := hM.strs (P := Try.prog) Try.underlying9 hk ks hn hmm (by unfold maxLen; omega)
  have hseq : SeqGives Fence.wide 2 Try.prog 40 #[.pointer (some ⟨Bm, 0, none⟩)] encStr (fun ss => ss.Perm (strKeys D0)) (Maps.size D0) w :=
    AnyZ.keys_gives (ρ := skeys34_ren) { skeys34 with } Fence.wide _ trivial rfl (by omega) Bm mb nn D0 _ hBm hm hown
  have cS := AnyZ.sorted_in ssorted Fence.wide 5 trivial trivial trivial trivial rfl (by omega) (sortsS _) (enters_of Try.func39 (by kernel_rfl) rfl) 40 #[.pointer (some ⟨Bm, 0, none⟩)] trivial (enters_of Try.func40 (by kernel_rfl) rfl) _ _ (by unfold maxLen; omega) (by omega) _ hseq
  refine (callsIn_wide.1 cS).mono ?_
  rintro e w' ⟨v, ss, rfl, hS, hrow, hnil, hb⟩
  have hss : ss.Perm ks := hS.trans hperm
  have hlen : ss.length = ks.length := hss.length_eq
  have hsort : ss.mergeSort (fun x y => decide (x ≤ y)) = ks.mergeSort leB := mergeSort_of_perm hss
  rw [hsort, hlen] at hrow
  exact ⟨v, rfl, hrow, hb⟩

theorem mkeysS_any (w : World) (mb : Option Nat) :
    Calls Try.prog 34 #[.map mb] w fun e w' => e = .returned (.func (.func 40) #[] #[.pointer (some ⟨w.heap.size, 0, none⟩)]) ∧ w' = w.alloc (.cells #[.map mb] 55) := by
  go_enter Try.func34, Try.ntmps34
  go_wp2
  go_ret
  exact ⟨rfl, rfl⟩

/-- A slice of names. -/
def NamIn (w : World) (ad : Option Addr) (ks : List Nam) : Prop :=
  ∀ (i : Nat) (p : Nam), ks[i]? = some p → ∃ g, ad = some ⟨g, 0, none⟩ ∧ w.cell? ⟨g, i, none⟩ = some (encStr p)
theorem namIn_own {w : World} {base n : Nat} {v : Value} {ks : List Nam} (hn : ks.length = n) (h : w.ownsRow base 9 1 v n (ks.map encStr)) :
    ∃ ad cap, v = .slice ad n cap ∧ NamIn w ad ks ∧ ∀ a, ad = some a → base ≤ a.block ∧ a.block < w.heap.size := by
  subst hn
  have h0 := h
  rcases h.2 with ⟨rfl, hz⟩ | ⟨g, cap, cur, rfl, hbase, hgb, r1, r2, r3, r4⟩
  · refine ⟨none, 0, by rw [hz], ?_, fun a ha => by cases ha⟩
    intro i p hi
    have : ks = [] := List.eq_nil_of_length_eq_zero hz
    subst this
    simp at hi
  · have hgl : g < w.heap.size := (Array.getElem?_eq_some_iff.1 hgb).1
    refine ⟨some ⟨g, 0, none⟩, cap, rfl, ?_, fun a ha => by cases ha; exact ⟨hbase, hgl⟩⟩
    intro i p hi
    have hlt : i < ks.length := (List.getElem?_eq_some_iff.1 hi).1
    refine ⟨g, rfl, ?_⟩
    have := h0.cellAt i (by omega)
    rw [this, List.getElem?_map, hi]
    rfl

set_option maxRecDepth 100000 in
set_option maxHeartbeats 1000000 in
theorem dsk_names {S : Nat → Prop} {w : World} {d md : Nat} {pl : Nam → Nat × Nat} {D : Dsk} (h : DiskAt S w d md pl D) (hmx : D.ks.length ≤ 1000000) :
    Calls Try.prog 17 #[.pointer (some ⟨d, 0, none⟩)] w fun e w' => ∃ ad cap, e = .returned (.slice ad D.ks.length cap) ∧
      NamIn w' ad D.names ∧ (∀ a, ad = some a → w.heap.size ≤ a.block ∧ a.block < w'.heap.size) ∧ Chg (fun _ => False) w w' := by
  have hc0 : w.cell? ⟨d, 0, none⟩ = some (.map (some md)) := by rw [h.blk.cell]; rfl
  have hM := h.map
  have hG := h.good
  go_enter Try.func17, Try.ntmps17
  go_wp2_with fail
  refine (mkeysS_any w (some md)).mono ?_
  rintro e w1 ⟨rfl, hw1⟩
  have hm1 : w1.cell? ⟨w.heap.size, 0, none⟩ = some (.map (some md)) := by rw [hw1]; simp
  have hM1 := hM.keep (w' := w1) (by rw [hw1]; exact Below.heap_alloc w _ md hM.lt)
  have hs1 : w1.heap.size = w.heap.size + 1 := by rw [hw1]; simp
  have hb1 : Below w.heap.size w w1 := by rw [hw1]; exact (Below.refl _ w).alloc (Nat.le_refl _) _
  clear hw1 hc0
  go_wp2_with fail
  have hsom : ∀ a, (ptrF (D.fl a) (pl a).1).isSome = (D.fl a).isSome := fun a => by cases D.fl a <;> rfl
  refine (sortedS_any (by omega) hm1 hM1 (fun n v hv => ?_) D.ks hG.nod (fun a => by rw [hG.mem a, hsom]) hmx).mono ?_
  · have : (D.fl n).isSome = true := by rw [← hsom, hv]; rfl
    have := (hG.nam n this).2
    unfold maxLen
    omega
  rintro e w2 ⟨v, rfl, hrow, hb2⟩
  obtain ⟨ad, cap, rfl, hN, hfr⟩ := namIn_own (names_len D) hrow
  go_wp2_with fail
  go_ret
  exact ⟨ad, cap, rfl, hN, fun a ha => ⟨by have := (hfr a ha).1; omega, (hfr a ha).2⟩, Chg.ofBelow (hb1.trans (hb2.mono (by omega))) (fun i hi hb => by omega)⟩

set_option maxRecDepth 100000 in
theorem dsk_names_nil (w : World) : Calls Try.prog 17 #[.pointer none] w fun e w' => e = .returned (.slice none 0 0) ∧ w' = w := by
  go_enter Try.func17, Try.ntmps17
  go_wp2
  go_ret
  exact ⟨rfl, rfl⟩

theorem sum_snoc (g : Nam → Nat) {l : List Nam} {k : Nat} {n : Nam} (h : l[k]? = some n) : ((l.take (k + 1)).map g).sum = ((l.take k).map g).sum + g n := by
  rw [List.take_add_one, h]
  simp
theorem names_sum (D : Dsk) : (D.names.map fun n => lenF (D.fl n)).sum = D.used := ((names_perm D).map _).sum_nat
theorem sum_take_le (g : Nam → Nat) : ∀ (l : List Nam) (k : Nat), ((l.take k).map g).sum ≤ (l.map g).sum := by
  intro l
  induction l with
  | nil => intro k; simp
  | cons a l ih =>
    intro k
    cases k with
    | zero => simp
    | succ k =>
      have := ih k
      simp only [List.take_succ_cons, List.map_cons, List.sum_cons]
      omega

set_option maxRecDepth 100000 in
set_option maxHeartbeats 1000000 in
theorem dsk_used {S : Nat → Prop} {w : World} {d md : Nat} {pl : Nam → Nat × Nat} {D : Dsk} (h : DiskAt S w d md pl D) (hmx : D.ks.length ≤ 1000000) :
    Calls Try.prog 16 #[.pointer (some ⟨d, 0, none⟩)] w fun e w' => e = .returned (.int .i64 D.used) ∧ Chg (fun _ => False) w w' := by
  have hG := h.good
  have hfit := hG.fit
  have hrm := hG.rm
  have hnl := names_len D
  go_enter Try.func16, Try.ntmps16
  go_wp2_with fail
  refine (dsk_names h hmx).mono ?_
  rintro e w3 ⟨ad, cap, rfl, hN, hfr, hc3⟩
  have hz3 := hc3.size
  have h3 := h.chg hc3 (fun _ _ => id)
  clear h hfr
  go_wp2_with fail
  go_loopw [3, 9] (fun v3 v9 wr => ∃ k : Nat, v9 = .int .i64 k ∧ k ≤ D.names.length ∧ v3 = .int .i64 (((D.names.take k).map fun n => lenF (D.fl n)).sum : Nat) ∧ Chg (fun _ => False) w3 wr) (fun _ v9 _ => 2000000 - (RowKit.intOf v9).toNat)
  case atStart => exact ⟨0, rfl, Nat.zero_le _, by simp, Chg.refl _ _⟩
  case round =>
    obtain ⟨k, rfl, hk, rfl, hck⟩ := hrel
    have hr := h3.chg hck (fun _ _ => id)
    by_cases hkl2 : k < D.names.length
    · obtain ⟨n, hx⟩ : ∃ p, D.names[k]? = some p := ⟨_, List.getElem?_eq_getElem hkl2⟩
      have hmem : n ∈ D.ks := (names_perm D).mem_iff.1 (List.mem_of_getElem? hx)
      have hsm := (hG.mem n).1 hmem
      have hnm := (hG.nam n hsm).2
      obtain ⟨f, hf⟩ := Option.isSome_iff_exists.1 hsm
      obtain ⟨G, rfl, k0⟩ := hN k _ hx
      have hGz : G < w3.heap.size := World.block_lt_of_cell? _ _ k0
      have k0 : wr.cell? ⟨G, k, none⟩ = some (encStr n) := (World.cell?_of_block (a := ⟨G, k, none⟩) (hck.block G hGz id)).trans k0
      have hsn := sum_snoc (fun n => lenF (D.fl n)) hx
      have hle := sum_take_le (fun n => lenF (D.fl n)) D.names (k + 1)
      rw [names_sum] at hle
      have hfl : lenF (D.fl n) = f.bs.length := by rw [hf]; rfl
      simp only [hfl] at hsn
      have hlk := hr.look (w1 := wr) rfl n (by unfold maxLen; omega) (some ⟨(pl n).1, 0, none⟩) (by rw [hf]; rfl)
      have c0 : wr.cell? ⟨d, 0, none⟩ = some (.map (some md)) := by rw [hr.blk.cell]; rfl
      obtain ⟨ao, off, cp, hB, hR, _⟩ := hr.fil n f hf
      have c1 : wr.cell? ⟨(pl n).1, 0, none⟩ = some (.slice ao f.bs.length cp) := by rw [hB.cell]; rfl
      generalize ((D.names.take k).map fun n => lenF (D.fl n)).sum = s at *
      have hle2 : s + f.bs.length ≤ D.used := by omega
      have hsnh := Lib.hid hsn
      clear hsn hf hx hfl hle
      go_wp2_with fail
      go_roundw
      case rel => exact ⟨k + 1, by go_num, by omega, by rw [hsnh.out]; go_num, hck⟩
      case measure => simp [RowKit.intOf]; omega
    · have hke : k = D.names.length := by omega
      subst hke
      rw [List.take_length, names_sum]
      go_wp2_with fail
      go_ret
      exact ⟨rfl, hc3.trans hck (fun _ _ h => h)⟩
end Go.Proofs.Ytgcmagoecapgoaa
