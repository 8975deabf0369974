/-
  disk: Names, Used by their contracts.
-/
import Derived.Test.YtpbjompopgdbjaaLay
import Derived.Test.YtpbjompopgdbjaaDskA
import Derived.Shelf.AbstractIn
namespace Go.Proofs.Ytpbjompopgdbjaa
open Go.RowKit Go.Maps Go.Sort Go.Shelf Go.Proofs

def Dsk.names (D : Dsk) : List Nam := D.ks.mergeSort leB
theorem names_perm (D : Dsk) : D.names.Perm D.ks := List.mergeSort_perm _ _
theorem names_len (D : Dsk) : D.names.length = D.ks.length := (names_perm D).length_eq

theorem sortsS (m : Nat) : AnyZ.SortsIn Try.prog ssorted_ren Fence.wide m :=
  ⟨fun blk off cap ss W hH hblk hsz => callsIn_wide.2 (AnyM.slices_Sort_string ssort blk off cap ss W hH hblk hsz),
   fun p cap W => callsIn_wide.2 (AnyM.slices_Sort_string_none ssort p cap W)⟩

set_option maxHeartbeats 1000000 in
theorem sortedS_any {w : World} {Bm mb : Nat} {f : Nam → Option Value} (hBm : Bm < w.heap.size) (hm : w.cell? ⟨Bm, 0, none⟩ = some (.map (some mb))) (hM : MapOf encStr w mb f) (hk : ∀ n v, f n = some v → n.length ≤ maxLen)
    (ks : List Nam) (hn : ks.Nodup) (hmm : ∀ a, a ∈ ks ↔ (f a).isSome = true) (hmx : ks.length ≤ 1000000) :
    Calls Try.prog 56 #[.func (.func 71) #[] #[.pointer (some ⟨Bm, 0, none⟩)]] w fun e w' => ∃ v : Value, e = .returned v ∧
      w'.ownsRow w.heap.size 9 1 v ks.length ((ks.mergeSort leB).map encStr) ∧ Below w.heap.size w w' := by
  obtain ⟨nn, D0, hown, hD, hperm⟩ := hM.strs (P := Try.prog) Try.underlying9 hk ks hn hmm (by unfold maxLen; omega)
  have hseq : SeqGives Fence.wide 2 Try.prog 71 #[.pointer (some ⟨Bm, 0, none⟩)] encStr (fun ss => ss.Perm (strKeys D0)) (Maps.size D0) w :=
    AnyZ.keys_gives (ρ := skeys57_ren) { skeys57 with } Fence.wide _ trivial rfl (by omega) Bm mb nn D0 _ hBm hm hown
  have cS := AnyZ.sorted_in ssorted Fence.wide 5 trivial trivial trivial trivial rfl (by omega) (sortsS _) (enters_of Try.func70 (by kernel_rfl) rfl) 71 #[.pointer (some ⟨Bm, 0, none⟩)] trivial (enters_of Try.func71 (by kernel_rfl) rfl) _ _ (by unfold maxLen; omega) (by omega) _ hseq
  refine (callsIn_wide.1 cS).mono ?_
  rintro e w' ⟨v, ss, rfl, hS, hrow, hnil, hb⟩
  have hss : ss.Perm ks := hS.trans hperm
  have hlen : ss.length = ks.length := hss.length_eq
  have hsort : ss.mergeSort (fun x y => decide (x ≤ y)) = ks.mergeSort leB := mergeSort_of_perm hss
  rw [hsort, hlen] at hrow
  exact ⟨v, rfl, hrow, hb⟩

theorem mkeysS_any (w : World) (mb : Option Nat) :
    Calls Try.prog 57 #[.map mb] w fun e w' => e = .returned (.func (.func 71) #[] #[.pointer (some ⟨w.heap.size, 0, none⟩)]) ∧ w' = w.alloc (.cells #[.map mb] 68) := by
  go_enter Try.func57, Try.ntmps57
  go_wp2
  go_ret
  exact ⟨rfl, rfl⟩

/-- A slice of names. -/
def NamIn (w : World) (ad : Option Addr) (ks : List Nam) : Prop :=
  ∀ (i : Nat) (p : Nam), ks[i]? = some p → ∃ g, ad = some ⟨g, 0, none⟩ ∧ w.cell? ⟨g, i, none⟩ = some (encStr p)
theorem namIn_own {w : World} {base n : Nat} {v : Value} {ks : List Nam} (hn : ks.length = n) (h : w.ownsRow base 9 1 v n (ks.map encStr)) :
    ∃ ad cap, v = .slice ad n cap ∧ NamIn w ad ks ∧ ∀ a, ad = some a → base ≤ a.block ∧ a.block < w.heap.size := by
  subst hn
  have h0 := h
  rcases h.2 with ⟨rfl, hz⟩ | ⟨g, cap, cur, rfl, hbase, hgb, r1, r2, r3, r4⟩
  · refine ⟨none, 0, by rw [hz], ?_, fun a ha => by cases ha⟩
    intro i p hi
    have : ks = [] := List.eq_nil_of_length_eq_zero hz
    subst this
    simp at hi
  · have hgl : g < w.heap.size := (Array.getElem?_eq_some_iff.1 hgb).1
    refine ⟨some ⟨g, 0, none⟩, cap, rfl, ?_, fun a ha => by cases ha; exact ⟨hbase, hgl⟩⟩
    intro i p hi
    have hlt : i < ks.length := (List.getElem?_eq_some_iff.1 hi).1
    refine ⟨g, rfl, ?_⟩
    have := h0.cellAt i (by omega)
    rw [this, List.getElem?_map, hi]
    rfl

set_option maxRecDepth 100000 in
set_option maxHeartbeats 1000000 in
theorem dsk_names {S : Nat → Prop} {w : World} {d md : Nat} {pl : Nam → Nat × Nat} {D : Dsk} (h : DiskAt S w d md pl D) (hmx : D.ks.length ≤ 1000000) :
    Calls Try.prog 37 #[.pointer (some ⟨d, 0, none⟩)] w fun e w' => ∃ ad cap, e = .returned (.slice ad D.ks.length cap) ∧
      NamIn w' ad D.names ∧ (∀ a, ad = some a → w.heap.size ≤ a.block ∧ a.block < w'.heap.size) ∧ Chg (fun _ => False) w w' := by
  have hc0 : w.cell? ⟨d, 0, none⟩ = some (.map (some md)) := by rw [h.blk.cell]; rfl
  have hM := h.map
  have hG := h.good
  go_enter Try.func37, Try.ntmps37
  go_wp2_with fail
  refine (mkeysS_any w (some md)).mono ?_
  rintro e w1 ⟨rfl, hw1⟩
  have hm1 : w1.cell? ⟨w.heap.size, 0, none⟩ = some (.map (some md)) := by rw [hw1]; simp
  have hM1 := hM.keep (w' := w1) (by rw [hw1]; exact Below.heap_alloc w _ md hM.lt)
  have hs1 : w1.heap.size = w.heap.size + 1 := by rw [hw1]; simp
  have hb1 : Below w.heap.size w w1 := by rw [hw1]; exact (Below.refl _ w).alloc (Nat.le_refl _) _
  clear hw1 hc0
  go_wp2_with fail
  have hsom : ∀ a, (ptrF (D.fl a) (pl a).1).isSome = (D.fl a).isSome := fun a => by cases D.fl a <;> rfl
  refine (sortedS_any (by omega) hm1 hM1 (fun n v hv => ?_) D.ks hG.nod (fun a => by rw [hG.mem a, hsom]) hmx).mono ?_
  · have : (D.fl n).isSome = true := by rw [← hsom, hv]; rfl
    have := (hG.nam n this).2
    unfold maxLen
    omega
  rintro e w2 ⟨v, rfl, hrow, hb2⟩
  obtain ⟨ad, cap, rfl, hN, hfr⟩ := namIn_own (names_len D) hrow
  go_wp2_with fail
  go_ret
  exact ⟨ad, cap, rfl, hN, fun a ha => ⟨by have := (hfr a ha).1; omega, (hfr a ha).2⟩, Chg.ofBelow (hb1.trans (hb2.mono (by omega))) (fun i hi hb => by omega)⟩

set_option maxRecDepth 100000 in
theorem dsk_names_nil (w : World) : Calls Try.prog 37 #[.pointer none] w fun e w' => e = .returned (.slice none 0 0) ∧ w' = w := by
  go_enter Try.func37, Try.ntmps37
  go_wp2
  go_ret
  exact ⟨rfl, rfl⟩

theorem sum_snoc (g : Nam → Nat) {l : List Nam} {k : Nat} {n : Nam} (h : l[k]? = some n) : ((l.take (k + 1)).map g).sum = ((l.take k).map g).sum + g n := by
  rw [List.take_add_one, h]
  simp
theorem names_sum (D : Dsk) : (D.names.map fun n => lenF (D.fl n)).sum = D.used := ((names_perm D).map _).sum_nat
theorem sum_take_le (g : Nam → Nat) : ∀ (l : List Nam) (k : Nat), ((l.take k).map g).sum ≤ (l.map g).sum := by
  intro l
  induction l with
  | nil => intro k; simp
  | cons a l ih =>
    intro k
    cases k with
    | zero => simp
    | succ k =>
      have := ih k
      simp only [List.take_succ_cons, List.map_cons, List.sum_cons]
      omega

set_option maxRecDepth 100000 in
set_option maxHeartbeats 1000000 in
theorem dsk_used {S : Nat → Prop} {w : World} {d md : Nat} {pl : Nam → Nat × Nat} {D : Dsk} (h : DiskAt S w d md pl D) (hmx : D.ks.length ≤ 1000000) :
    Calls Try.prog 21 #[.pointer (some ⟨d, 0, none⟩)] w fun e w' => e = .returned (.int .i64 D.used) ∧ Chg (fun _ => False) w w' := by
  have hG := h.good
  have hfit := hG.fit
  have hrm := hG.rm
  have hnl := names_len D
  go_enter Try.func21, Try.ntmps21
  go_wp2_with fail
  refine (dsk_names h hmx).mono ?_
  rintro e w3 ⟨ad, cap, rfl, hN, hfr, hc3⟩
  have hz3 := hc3.size
  have h3 := h.chg hc3 (fun _ _ => id)
  clear h hfr
  go_wp2_with fail
  go_loopw [3, 9] (fun v3 v9 wr => ∃ k : Nat, v9 = .int .i64 k ∧ k ≤ D.names.length ∧ v3 = .int .i64 (((D.names.take k).map fun n => lenF (D.fl n)).sum : Nat) ∧ Chg (fun _ => False) w3 wr) (fun _ v9 _ => 2000000 - (RowKit.intOf v9).toNat)
  case atStart => exact ⟨0, rfl, Nat.zero_le _, by simp, Chg.refl _ _⟩
  case round =>
    obtain ⟨k, rfl, hk, rfl, hck⟩ := hrel
    have hr := h3.chg hck (fun _ _ => id)
    by_cases hkl2 : k < D.names.length
    · obtain ⟨n, hx⟩ : ∃ p, D.names[k]? = some p := ⟨_, List.getElem?_eq_getElem hkl2⟩
      have hmem : n ∈ D.ks := (names_perm D).mem_iff.1 (List.mem_of_getElem? hx)
      have hsm := (hG.mem n).1 hmem
      have hnm := (hG.nam n hsm).2
      obtain ⟨f, hf⟩ := Option.isSome_iff_exists.1 hsm
      obtain ⟨G, rfl, k0⟩ := hN k _ hx
      have hGz : G < w3.heap.size := World.block_lt_of_cell? _ _ k0
      have k0 : wr.cell? ⟨G, k, none⟩ = some (encStr n) := (World.cell?_of_block (a := ⟨G, k, none⟩) (hck.block G hGz id)).trans k0
      have hsn := sum_snoc (fun n => lenF (D.fl n)) hx
      have hle := sum_take_le (fun n => lenF (D.fl n)) D.names (k + 1)
      rw [names_sum] at hle
      have hfl : lenF (D.fl n) = f.bs.length := by rw [hf]; rfl
      simp only [hfl] at hsn
      have hlk := hr.look (w1 := wr) rfl n (by unfold maxLen; omega) (some ⟨(pl n).1, 0, none⟩) (by rw [hf]; rfl)
      have c0 : wr.cell? ⟨d, 0, none⟩ = some (.map (some md)) := by rw [hr.blk.cell]; rfl
      obtain ⟨ao, off, cp, hB, hR, _⟩ := hr.fil n f hf
      have c1 : wr.cell? ⟨(pl n).1, 0, none⟩ = some (.slice ao f.bs.length cp) := by rw [hB.cell]; rfl
      generalize ((D.names.take k).map fun n => lenF (D.fl n)).sum = s at *
      have hle2 : s + f.bs.length ≤ D.used := by omega
      have hsnh := Lib.hid hsn
      clear hsn hf hx hfl hle
      go_wp2_with fail
      go_roundw
      case rel => exact ⟨k + 1, by go_num, by omega, by rw [hsnh.out]; go_num, hck⟩
      case measure => simp [RowKit.intOf]; omega
    · have hke : k = D.names.length := by omega
      subst hke
      rw [List.take_length, names_sum]
      go_wp2_with fail
      go_ret
      exact ⟨rfl, hc3.trans hck (fun _ _ h => h)⟩
end Go.Proofs.Ytpbjompopgdbjaa

namespace Go.Proofs.Ytpbjompopgdbjaa
open Go.RowKit Go.Maps

theorem infoB : (Try.prog.info? 5).map (fun i => (i.zero, i.size, i.bytes)) = some (some (.int .u8 0), 1, 1) := by kernel_rfl
theorem infoB_parts : ∃ i, Try.prog.info? 5 = some i ∧ i.zero = some (.int .u8 0) ∧ i.size = 1 ∧ i.bytes = 1 := by
  have h := infoB
  cases hi : Try.prog.info? 5 with
  | none => rw [hi] at h; cases h
  | some i =>
    rw [hi] at h
    simp only [Option.map_some, Option.some.injEq, Prod.mk.injEq] at h
    exact ⟨i, rfl, h.1, h.2.1, h.2.2⟩

theorem bcells_one (l : List UInt8) : ∀ u ∈ bcells l, u.oneCell' = true := by
  intro u hu
  unfold bcells at hu
  obtain ⟨b, _, rfl⟩ := List.mem_map.1 hu
  rfl
theorem RowB.bare {w : World} {ao : Option Addr} {off cap rb : Nat} {bs : List UInt8} (h : RowB w ao off cap rb bs) (h0 : cap = 0) : bs = [] := by
  have := h.came.le
  exact List.eq_nil_of_length_eq_zero (by omega)
theorem addr_at (b o j : Nat) : (⟨b, o, none⟩ : Addr).add j = ⟨b, o + j, none⟩ := by
  unfold Addr.add
  split
  · rename_i h0; subst h0; rfl
  · rfl
theorem src_row {w : World} {ao : Option Addr} {off cap rb : Nat} {bs : List UInt8} (h : RowB w ao off cap rb bs) : Src Try.prog 1 31 (.slice ao bs.length cap) bs.length (bcells bs) w := by
  rcases Nat.eq_zero_or_pos cap with h0 | h0
  · have hb := h.bare h0
    subst hb
    cases ao with
    | none => exact Src.ofNil w Try.underlying31 cap
    | some a => exact Src.ofSlice w Try.underlying31 a 0 cap [] rfl (fun j u hj => by simp at hj) (fun u hu => by cases hu)
  · rw [h.came.addr h0]
    refine Src.ofSlice w Try.underlying31 _ _ cap _ (by rw [bcells_len]; simp) (fun j u hj => ?_) (bcells_one bs)
    rw [addr_at]
    exact h.came.olds j u hj

theorem cells_there (w : World) (cs : Array Value) (e : TypeId) (j : Nat) (hj : j < cs.size) : ((w.alloc (.cells cs e)).cell? ⟨w.heap.size, j, none⟩).isSome = true ∧ (w.alloc (.cells cs e)).frozen? ⟨w.heap.size, j, none⟩ = false := by
  have hB := Blk.new w e cs
  refine ⟨?_, hB.frozen j⟩
  rw [hB.cell, Array.getElem?_eq_getElem hj]
  rfl

/-- 'append(b, x...)': whatever x yields. -/
theorem row_append {w : World} {ao : Option Addr} {off cap rb : Nat} {bs : List UInt8} (h : RowB w ao off cap rb bs) (ty : TypeId) (x : Value) (b : List UInt8) (hs : Src Try.prog 1 31 x b.length (bcells b) w) (hl : bs.length + b.length ≤ 1000000000) :
    ∃ ao' off' cap' rb' w', (Builtin.append_ #[31, 31] ty #[.slice ao bs.length cap, x]).run Try.prog w = .ok (.slice ao' (bs ++ b).length cap') w' ∧ RowB w' ao' off' cap' rb' (bs ++ b) ∧
      Chg (fun i => i = rb ∧ 0 < cap) w w' ∧ ((rb' = rb ∧ cap' = cap) ∨ (w.heap.size ≤ rb' ∧ rb' < w'.heap.size)) := by
  obtain ⟨i, hi, hz, h1, h2⟩ := infoB_parts
  have hle := h.came.le
  have hu := Try.underlying31
  have hs' : Src Try.prog i.size 31 x b.length (bcells b) w := by rw [h1]; exact hs
  by_cases hfit : bs.length + b.length ≤ cap
  · rcases Nat.eq_zero_or_pos cap with h0 | h0
    · have hb := h.bare h0
      have hb2 : b = [] := List.eq_nil_of_length_eq_zero (by omega)
      subst hb hb2
      exact ⟨ao, off, cap, rb, w, run_append_nothing (P := Try.prog) w _ _ ty _ i hu hi ao 0 cap (Nat.zero_le _) x hs', h, Chg.refl _ w, .inl ⟨rfl, rfl⟩⟩
    · have hao := h.came.addr h0
      have hlt := h.came.lt h0
      subst hao
      have hsp := fun j (hj : j < b.length) => h.came.spare j (by omega)
      have e1 : ∀ j, off + bs.length * i.size + j = off + bs.length * 1 + j := fun j => by rw [h1]
      have hrun := run_append_room_src (P := Try.prog) w _ _ ty _ i hu hi rb off bs.length cap x b.length _ hs' hfit
        (fun j hj => by rw [e1]; exact (hsp j (by rwa [bcells_len] at hj)).1) (fun j hj => by rw [e1]; exact (hsp j (by rwa [bcells_len] at hj)).2)
      rw [h1] at hrun
      have hk := World.keptBut_setCells rb (may := fun p => p.block = rb) (bcells b) (off + bs.length * 1) w (fun _ _ => rfl)
      have hsz := hk.size
      have hc : Chg (fun i => i = rb ∧ 0 < cap) w (w.setCells rb (off + bs.length * 1) (bcells b)) := by
        refine ⟨hk.1, ?_, hk.2.1, hsz, fun k hk1 hk2 => World.heap_setCells_other w rb _ _ hk1 (fun e => hk2 ⟨e, h0⟩)⟩
        generalize off + bs.length * 1 = o
        generalize bcells b = vs
        clear hrun hk hsz hsp hs hs' hfit e1 hl hle h hlt
        induction vs generalizing o w with
        | nil => rfl
        | cons v vs ih => exact (ih (w := w.setCell ⟨rb, o, none⟩ v) (o + 1)).trans rfl
      refine ⟨_, off, cap, rb, _, by rw [List.length_append]; exact hrun, ⟨⟨by rw [List.length_append]; exact hfit, fun _ => rfl, fun _ => Nat.lt_of_lt_of_le hlt hsz, by rw [bcells_len]; simp, ?_, ?_⟩, h.mx⟩, hc, .inl ⟨rfl, rfl⟩⟩
      · intro j u hj
        rw [bcells_app] at hj
        by_cases hj2 : j < bs.length
        · rw [List.getElem?_append_left (by rw [bcells_len]; exact hj2)] at hj
          rw [World.cell?_setCells_out rb _ _ _ _ (fun _ _ => .inl (by show off + j < _; omega))]
          exact h.came.olds j u hj
        · rw [List.getElem?_append_right (by rw [bcells_len]; omega), bcells_len] at hj
          have hjl := (List.getElem?_eq_some_iff.1 hj).1
          have := World.cell?_setCells_in rb (bcells b) (off + bs.length * 1) w (fun j hj => (hsp j (by rwa [bcells_len] at hj)).1) (j - bs.length) hjl
          rw [show off + bs.length * 1 + (j - bs.length) = off + j by omega] at this
          rw [this, ← List.getElem?_eq_getElem hjl]
          exact hj
      · intro j hj
        rw [List.length_append] at hj ⊢
        have hs1 := h.came.spare (b.length + j) (by omega)
        rw [show off + bs.length * 1 + (b.length + j) = off + (bs.length + b.length) * 1 + j by omega] at hs1
        rw [World.cell?_setCells_out rb _ _ _ _ (fun _ _ => .inr (by show _ ≤ off + (bs.length + b.length) * 1 + j; rw [bcells_len]; omega)), World.frozen?_setCells]
        exact hs1
  · have hold : (Builtin.firstCells i.size bs.length (.slice ao bs.length cap)).run Try.prog w.drew = .ok (bcells bs).toArray w.drew := by
      rcases Nat.eq_zero_or_pos cap with h0 | h0
      · have hb := h.bare h0
        subst hb
        cases ao with
        | none => exact run_firstCells_none _ _ _ _ _
        | some a => exact run_firstCells_some _ _ _ a _ _ [] (by simp) (fun j v hj => by simp at hj)
      · rw [h.came.addr h0]
        refine run_firstCells_some _ _ _ _ _ _ _ (by rw [bcells_len, h1]; simp) (fun j v hj => ?_)
        rw [addr_at]
        exact h.came.olds j v hj
    have hg : cap < bs.length + b.length := by omega
    have hrun := run_append_grow_src (P := Try.prog) w _ _ ty _ i _ hu hi hz ao bs.length cap (bcells bs) hold x b.length _ hs' hg (by omega) (growslice_fits hg (by rw [h2]; omega))
    have hge := grownCap_ge w (bs.length + b.length) cap 5
    have hcm := grownCap_le_maxLen w (bs.length + b.length) cap 5 (by unfold maxLen; omega)
    generalize grownCap w (bs.length + b.length) cap 5 = C at *
    have hsz : ((bcells bs ++ bcells b).toArray ++ Builtin.zeroCells (Value.int .u8 0).cells (C - (bs.length + b.length))).size = C := by
      rw [Array.size_append, List.size_toArray, List.length_append, bcells_len, bcells_len, size_zeroCells]
      show _ + _ * 1 = C
      omega
    have hcell : ∀ j u, (bcells (bs ++ b))[j]? = some u → (w.drew.alloc (.cells ((bcells bs ++ bcells b).toArray ++ Builtin.zeroCells (Value.int .u8 0).cells (C - (bs.length + b.length))) 5)).cell? ⟨w.heap.size, 0 + j, none⟩ = some u := by
      intro j u hj
      have hjl := (List.getElem?_eq_some_iff.1 hj).1
      rw [Nat.zero_add]
      have := (Blk.new w.drew 5 ((bcells bs ++ bcells b).toArray ++ Builtin.zeroCells (Value.int .u8 0).cells (C - (bs.length + b.length)))).cell j
      refine Eq.trans this ?_
      rw [bcells_app] at hj hjl
      rw [Array.getElem?_append_left (by simpa using hjl), List.getElem?_toArray]
      exact hj
    have hthere := fun j hj => cells_there w.drew ((bcells bs ++ bcells b).toArray ++ Builtin.zeroCells (Value.int .u8 0).cells (C - (bs.length + b.length))) 5 j hj
    rw [hsz] at hthere
    refine ⟨_, 0, C, w.heap.size, _, by rw [List.length_append]; exact hrun, ⟨⟨by rw [List.length_append]; exact hge, fun _ => rfl, fun _ => by simp, by rw [bcells_len]; simp, hcell, ?_⟩, hcm⟩, ((Chg.refl _ w).drew).alloc _, .inr ⟨Nat.le_refl _, by simp⟩⟩
    intro j hj
    have := hthere ((bs ++ b).length * 1 + j) (by omega)
    rw [Nat.zero_add]
    exact this
/-- 'append' at the operation. -/
theorem wpList_append_row {w : World} {ops : Array Oper} {rest : List Oper} {o : Oper} {a : Act} {Q : Exit → Act → World → Prop} (hgd : o.guard = none) (s x : Operand)
    (ho : o.op = .call { callee := .builtin .append, args := #[s, x], argTypes := #[31, 31] })
    {ao : Option Addr} {off cap rb : Nat} {bs : List UInt8} (h : RowB w ao off cap rb bs) (hv : a.eval s = .slice ao bs.length cap) (xv : Value) (b : List UInt8) (hx : a.eval x = xv) (hs : Src Try.prog 1 31 xv b.length (bcells b) w)
    (hl : bs.length + b.length ≤ 1000000000)
    (hK : ∀ ao' off' cap' rb' w', RowB w' ao' off' cap' rb' (bs ++ b) → Chg (fun i => i = rb ∧ 0 < cap) w w' → ((rb' = rb ∧ cap' = cap) ∨ (w.heap.size ≤ rb' ∧ rb' < w'.heap.size)) →
      wpList Try.prog ops Q rest (a.put o.dst (.slice ao' (bs ++ b).length cap')) w') : wpList Try.prog ops Q (o :: rest) a w := by
  refine wpList_plain hgd fun K hK' => ?_
  obtain ⟨ao', off', cap', rb', w', hrun, r1, r2, r3⟩ := row_append h o.type xv b hs hl
  unfold Oper.wp
  simp [execOp, ho, resolve, invoke, builtin, hv, hx, hrun, Result.andThen]
  have := hK' _ _ (hK ao' off' cap' rb' w' r1 r2 r3)
  rw [List.length_append] at this
  exact this
end Go.Proofs.Ytpbjompopgdbjaa
