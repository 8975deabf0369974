/-
  disk: Copy by its contract.
-/
import Derived.Test.YtgcmagoecapgoaaDskH
import Derived.Maps.RangeWalk
namespace Go.Proofs.Ytgcmagoecapgoaa
open Go.RowKit Go.Maps

/-- The datum holds the value itself. -/
def holdS : Value → Option (DataW Value × List MemPlace) := fun v => some (.held v, [])
theorem MapOf.held {P : Program} {k : TypeId} (hu : P.underlying k = some .string) {w : World} {b : Nat} {f : List UInt8 → Option Value} (h : MapOf encStr w b f) (hk : ∀ n v, f n = some v → n.length ≤ maxLen)
    (ks : List (List UInt8)) (hn : ks.Nodup) (hm : ∀ a, a ∈ ks ↔ (f a).isSome = true) (hmx : ks.length ≤ maxLen) :
    ∃ (n : Nat) (D0 : DataW Value), w.ownsMap P k holdS b n D0 ∧ Maps.size D0 ≤ ks.length ∧ (strKeys D0).Perm ks := by
  obtain ⟨es, clock, hb, hst, hsz, hp, he⟩ := h.count encS_inj ks hn hm
  have hrd : ∀ e ∈ es.toList, ∃ a : List UInt8, e.key = encStr a ∧ WideElems.rd P k holdS e = some (.string a, .held e.val) := by
    intro e hee
    obtain ⟨a, h1, h2⟩ := he e hee
    refine ⟨a, h1, ?_⟩
    unfold WideElems.rd
    rw [h1, WideMaps.keyOf_string_mk hu (s := ⟨a.toArray⟩) (hk a _ h2)]
    rfl
  have F : WideElems.Fit P k holdS es clock := ⟨by rw [hsz]; exact hmx, hst, fun x hx => by
    obtain ⟨a, _, h⟩ := hrd x hx
    exact ⟨_, h⟩⟩
  refine ⟨es.size, _, World.ownsMap_of_fit hb F (fun _ _ _ h => h), ?_, ?_⟩
  · show ((es.toList.map (WideElems.rg P k holdS)).foldr DataW.insert []).length ≤ ks.length
    rw [length_sorted]
    simp
    omega
  · show (((es.toList.map (WideElems.rg P k holdS)).foldr DataW.insert []).map fun p => strOf p.1).Perm ks
    refine ((WideShapes.sorted_perm _).map _).trans ?_
    rw [List.map_map]
    have h1 : (es.toList.map ((fun p : Lit × DataW Value => strOf p.1) ∘ WideElems.rg P k holdS)).map encStr = es.toList.map (·.key) := by
      rw [List.map_map]
      apply List.map_congr_left
      intro e hee
      obtain ⟨a, ha, hr⟩ := hrd e hee
      simp only [Function.comp]
      unfold WideElems.rg
      rw [hr, ha]
      rfl
    have h2 := h1 ▸ hp
    exact perm_of_map_inj encS_inj h2

theorem sum_sub (g : Nam → Nat) : ∀ {ks ks' : List Nam}, ks.Nodup → (∀ m ∈ ks, m ∈ ks') → (ks.map g).sum ≤ (ks'.map g).sum := by
  intro ks
  induction ks with
  | nil => intro ks' _ _; simp
  | cons a l ih =>
    intro ks' hn hs
    rw [List.nodup_cons] at hn
    have hp := (List.perm_cons_erase (hs a (by simp))).map g
    rw [hp.sum_nat]
    simp only [List.map_cons, List.sum_cons]
    have := ih (ks' := ks'.erase a) hn.2 (fun m hm => by
      have : m ≠ a := fun e => hn.1 (e ▸ hm)
      rw [List.mem_erase_of_ne this]
      exact hs m (by simp [hm]))
    omega
/-- A part of a disk, with one file more of it. -/
theorem sub_good {D E : Dsk} (hD : D.Good) (hE : E.Good) (hr : E.room = D.room) (hs : ∀ m, (E.fl m).isSome = true → E.fl m = D.fl m) {n : Nam} {f : Fil} (hf : D.fl n = some f) (hn : E.fl n = none) : (E.put n f).Good := by
  have hu := Dsk.used_put hE n f
  rw [hn] at hu
  have hu : (E.put n f).used + 0 = E.used + f.bs.length := hu
  have h1 : E.used = (E.ks.map fun m => lenF (D.fl m)).sum := by
    unfold Dsk.used
    congr 1
    apply List.map_congr_left
    intro m hm
    rw [hs m ((hE.mem m).1 hm)]
  have h2 := sum_sub (fun m => lenF (D.fl m)) (ks := n :: E.ks) (ks' := D.ks) (List.nodup_cons.2 ⟨hE.none_mem hn, hE.nod⟩) (fun m hm => by
    rcases List.mem_cons.1 hm with e | hm
    · rw [e]; exact (hD.mem n).2 (some_isSome hf)
    · have h3 := (hE.mem m).1 hm
      rw [hs m h3] at h3
      exact (hD.mem m).2 h3)
  simp only [List.map_cons, List.sum_cons, hf] at h2
  have h2 : f.bs.length + (E.ks.map fun m => lenF (D.fl m)).sum ≤ D.used := h2
  have h3 := hD.fit
  exact hE.put (hD.nam n (some_isSome hf)) (hD.syn n f hf) (by rw [hr]; omega)

theorem ranges_keep {H : Type} {P : Program} {k : TypeId} {R : Value → Option (DataW H × List MemPlace)} {w w' : World} {b r n : Nat} {D : DataW H} {left : Lit → Bool} {cnt : Nat} (h : w.ranges P k R b r n D left cnt) (hb : w'.heap[b]? = w.heap[b]?) (hr : w'.heap[r]? = w.heap[r]?) : w'.ranges P k R b r n D left cnt := by
  obtain ⟨es, clock, since, seen, c0, h1, h2, h3, h4, h5, h6⟩ := h
  exact ⟨es, clock, since, seen, c0, hb.trans h1, h2, h3, h4, hr.trans h5, h6⟩
theorem mem_strKeys {P : Program} {k : TypeId} {R : Value → Option (DataW Value × List MemPlace)} {w : World} {b n : Nat} {D0 : DataW Value} (hown : w.ownsMap P k R b n D0) (K : Keyed P k) {x : Nam} (h : has D0 (.string x) = true) : x ∈ strKeys D0 := by
  obtain ⟨es, rfl, _⟩ := hown.entries K
  rw [has_eq, List.any_eq_true] at h
  obtain ⟨p, hp, hs⟩ := h
  have := WideAt.sameKey_eq hs
  show x ∈ es.map fun p => strOf p.1
  exact List.mem_map.2 ⟨p, hp, by rw [this]; rfl⟩
set_option maxRecDepth 100000 in
theorem dsk_copy_nil (w : World) : Calls Try.prog 27 #[.pointer none] w fun e w' => e = .returned (.pointer none) ∧ w' = w := by
  go_enter Try.func27, Try.ntmps27
  go_wp2_with fail
  go_ret
  exact ⟨rfl, rfl⟩

set_option maxRecDepth 100000 in
set_option maxHeartbeats 1000000 in
theorem dsk_copy0 {S : Nat → Prop} {w : World} {d md : Nat} {pl : Nam → Nat × Nat} {D : Dsk} (h : DiskAt S w d md pl D) (hmx : D.ks.length ≤ 1000000) :
    Calls Try.prog 27 #[.pointer (some ⟨d, 0, none⟩)] w fun e w' => ∃ c mc pc E, e = .returned (.pointer (some ⟨c, 0, none⟩)) ∧ DiskAt (fun i => w.heap.size ≤ i) w' c mc pc E ∧ E.room = D.room ∧ E.fl = D.fl ∧ Chg (fun _ => False) w w' := by
  have hmm := @run_makeMap Try.prog
  have hG := h.good
  have hfit := hG.fit
  have hrm := hG.rm
  have c0 : w.cell? ⟨d, 0, none⟩ = some (.map (some md)) := by rw [h.blk.cell]; rfl
  have c1 : w.cell? ⟨d, 1, none⟩ = some (.int .i64 D.room) := by rw [h.blk.cell]; rfl
  have c1A : ∀ o, (w.alloc o).cell? ⟨d, 1, none⟩ = some (.int .i64 D.room) := fun o => by rw [(h.blk.alloc o).cell]; rfl
  have c0B : ∀ o o', ((w.alloc o).alloc o').cell? ⟨d, 0, none⟩ = some (.map (some md)) := fun o o' => by rw [((h.blk.alloc o).alloc o').cell]; rfl
  have hsom : ∀ a, (ptrF (D.fl a) (pl a).1).isSome = (D.fl a).isSome := fun a => by cases D.fl a <;> rfl
  have hcA : Chg (fun _ => False) w ((w.alloc (.map #[] 0)).alloc (.cells #[.map (some w.heap.size), .int .i64 D.room] 57)) := ((Chg.refl _ w).alloc _).alloc _
  have hm0 := (MapOf.made (enc := encStr) w).keep (Below.heap_alloc (w.alloc (.map #[] 0)) (.cells #[.map (some w.heap.size), .int .i64 D.room] 57) w.heap.size (by simp))
  have hb0 := Blk.new (w.alloc (.map #[] 0)) 57 #[.map (some w.heap.size), .int .i64 D.room]
  have hA := h.chg hcA (fun _ _ => id)
  simp only [size_al] at hb0
  obtain ⟨nn, D0, hown, hD0, hperm⟩ := hA.map.held (P := Try.prog) Try.underlying9 (fun n v hv => by
    have h1 : (D.fl n).isSome = true := by rw [← hsom, hv]; rfl
    have h2 := (hG.nam n h1).2
    unfold maxLen
    omega) D.ks hG.nod (fun a => by rw [hG.mem a, hsom]) (by unfold maxLen; omega)
  go_enter Try.func27, Try.ntmps27
  go_wp2_with (at_range; refine wpList_range_own _ rfl _ 55 rfl 9 59 lawS Try.underlying55 _ md nn _ rfl hown ?_; intro w0 hrg0 hg0 hs0)
  go_frame
  have hA2 := h.inside.chg hcA (fun _ _ => id)
  have e1 : ((w.alloc (.map #[] 0)).alloc (.cells #[.map (some w.heap.size), .int .i64 D.room] 57)).heap.size = w.heap.size + 2 := by simp
  generalize hwA : (w.alloc (.map #[] 0)).alloc (.cells #[.map (some w.heap.size), .int .i64 D.room] 57) = wA at *
  rw [e1] at hrg0 hs0 ⊢
  obtain ⟨Sc, hSc⟩ : ∃ Sc : Nat → Prop, ∀ i, Sc i ↔ (w.heap.size ≤ i ∧ i ≠ w.heap.size + 2) := ⟨_, fun i => Iff.rfl⟩
  have hc0 : Chg (fun _ => False) wA w0 := (own_grown hg0).mono (fun i _ e => by cases e)
  have hE0 : DiskAt Sc w0 (w.heap.size + 1) w.heap.size (fun _ => (0, 0)) (Dsk.new D.room) :=
    { blk := hb0.chg hc0 id, map := mapS_chg hm0 hc0 id, fil := fun n f h => (nomatch h), good := Dsk.Good.new (by omega) hrm, sd := (hSc _).2 ⟨by omega, by omega⟩, sm := (hSc _).2 ⟨by omega, by omega⟩, sf := fun n h => (nomatch h), ap := fun n m h => (nomatch h), lo := fun n h => (nomatch h) }
  clear hwA c1A c0B hb0 hm0
  go_loopw [4] (fun _ wr => ∃ (left : Lit → Bool) (cnt : Nat) (ss : List Nam) (E : Dsk) (pc : Nam → Nat × Nat), wr.ranges Try.prog 9 holdS md (w.heap.size + 2) nn D0 left cnt ∧ Collected D0 left ss ∧
      E.room = D.room ∧ (∀ m, E.fl m = if m ∈ ss then D.fl m else none) ∧ DiskAt Sc wr (w.heap.size + 1) w.heap.size pc E ∧ Chg (fun i => w.heap.size ≤ i) wA wr) (fun _ wr => wr.rangeLeft md (w.heap.size + 2))
  case atStart => exact ⟨_, _, [], Dsk.new D.room, _, hrg0, Collected.start D0, rfl, fun m => by simp [Dsk.new], hE0, hc0.mono (fun _ _ h => h.elim)⟩
  case round =>
    obtain ⟨left, cnt, ss, E, pc, hrg, hC, hEr, hEf, hE, hck⟩ := hrel
    clear hrg0 hE0 hg0 hs0
    go_wp2_with (at_next; refine wpList_next_ranges (α := Nam) (β := Value) _ rfl _ rfl 9 lawS holdS encStr id (fun key kl hk => by obtain ⟨x, hx, _⟩ := Maps.keyOf_str Try.underlying9 hk; exact ⟨x, hx⟩) (fun v _ _ => ⟨v, rfl⟩) md (w.heap.size + 2) nn _ _ _ rfl hrg ?_ ?_)
    · intro hc0 hl0
      go_wp2_with fail
      go_ret
      have hp : ss.Perm D.ks := (hC.perm hown lawS Try.underlying9 hl0).trans hperm
      refine ⟨_, _, _, E, rfl, hE.wider (fun i hi => ((hSc i).1 hi).1), hEr, ?_, hcA.trans (hck) (fun i hi hle => by omega)⟩
      funext m
      rw [hEf m]
      by_cases hm : m ∈ ss
      · rw [if_pos hm]
      · rw [if_neg hm]
        cases hf : D.fl m with
        | none => rfl
        | some f => exact absurd (hp.mem_iff.2 ((hG.mem m).2 (some_isSome hf))) hm
    · intro x c kl y yp w2 cnt2 hkey hlk hv hat hrg2 hlt hg2 hs2 hen
      obtain ⟨x', ex, rfl, hxl⟩ := Maps.keyOf_str Try.underlying9 hkey
      obtain rfl : x = x' := encStr_inj ex
      obtain rfl : y = .held c := by
        have hv : some ((.held c, []) : DataW Value × List MemPlace) = some (y, yp) := hv
        exact (congrArg Prod.fst (Option.some.inj hv)).symm
      have hxs : x ∈ D.ks := hperm.mem_iff.1 (mem_strKeys hown lawS (has_true_of_atKey hat))
      obtain ⟨f, hf⟩ := Option.isSome_iff_exists.1 ((hG.mem x).1 hxs)
      obtain rfl : c = .pointer (some ⟨(pl x).1, 0, none⟩) := by
        obtain ⟨v, ps, hrun, hR⟩ := hown.lookup (t := 55) (e := 59) lawS Try.underlying55 (z := .pointer none) (by kernel_rfl) (zd := .held (.pointer none)) (zp := []) rfl hkey
        have h2 := hA2.look (w1 := wA) rfl x hxl _ rfl
        rw [hf] at h2
        rw [hrun] at h2
        rw [hat] at hR
        have hR : some ((.held v, []) : DataW Value × List MemPlace) = some (.held c, ps) := hR
        simp only [Option.some.injEq, Prod.mk.injEq, DataW.held.injEq] at hR
        injection h2 with h2
        rw [← hR.1]
        exact h2
      have hcn : Chg (fun i => i = w.heap.size + 2) wr w2 := (own_grown hg2).mono (fun i _ e => (Option.some.inj e).symm)
      have hE2 := hE.chg hcn (fun i hi e => ((hSc i).1 hi).2 e)
      have hck2 : Chg (fun i => w.heap.size ≤ i) wA w2 := hck.trans hcn (fun i _ e => by omega)
      have hD2 := hA2.chg hck2 (fun i hi hle => by have := hi.2; omega)
      obtain ⟨ao, off, cp, hB, hR, hne⟩ := hD2.fil x f hf
      have hxn : E.fl x = none := by
        rw [hEf x, if_neg]
        intro hm
        have := ((hC.2 x).1 hm).2
        rw [hlk] at this
        cases this
      have hlen := Dsk.len_le hG x
      rw [hf] at hlen
      have hlen : f.bs.length ≤ D.used := hlen
      have hit := hrg2.lt
      have hmd := hA2.sm.2
      have hcB := hE2.blk
      have cells : ∀ w9 : World, (w9.heap[w.heap.size + 1]? = w2.heap[w.heap.size + 1]? ∧ w9.heap[(pl x).1]? = w2.heap[(pl x).1]?) → w9.cell? ⟨w.heap.size + 1, 0, none⟩ = some (.map (some w.heap.size)) ∧ w9.cell? ⟨(pl x).1, 0, none⟩ = some (.slice ao f.bs.length cp) ∧ w9.cell? ⟨(pl x).1, 1, none⟩ = some (.int .i64 f.sy) := by
        intro w9 h9
        refine ⟨?_, ?_, ?_⟩
        · rw [(hcB.keep h9.1).cell]; rfl
        · rw [(hB.keep h9.2).cell]; rfl
        · rw [(hB.keep h9.2).cell]; rfl
      have hch := Lib.hid cells
      obtain ⟨a0, a1, a2⟩ := cells w2 ⟨rfl, rfl⟩
      have hath := Lib.hid hat
      clear cells c0 c1 hat hg2 hown hv hkey
      go_wp2_with fail
      refine wp_region_plan (by kernel_rfl) [{ fl := [0, 1, 2, 3, 4, 5, 6, 7, 8, 10, 11, 12, 13], long := [3, 13], ef := 9, keep := [3, 13] }, { fl := [14], ef := 15, keep := [3] }, { fl := [], ef := 16 }] [] (by kernel_rfl) (fun _ w9 => w9.heap[w.heap.size + 1]? = w2.heap[w.heap.size + 1]? ∧ w9.heap[(pl x).1]? = w2.heap[(pl x).1]?) ?_
      simp only [wpPlan, longOK, keepOK, opsAt_cons, opsAt_nil, consO_some, List.getElem?_toArray, List.getElem?_cons_succ, List.getElem?_cons_zero, and_true, true_and]
      refine ⟨⟨⟨rfl, rfl⟩, rfl, rfl⟩, ?_⟩
      go_wp2_with fail
      refine ⟨by kernel_rfl, ⟨?_, ?_⟩, ?_⟩
      · intro _ w9 h9
        obtain ⟨b0, b1, b2⟩ := hch.out w9 h9
        clear h9
        go_simp
      · intro _ w9 h9
        obtain ⟨b0, b1, b2⟩ := hch.out w9 h9
        clear h9
        go_simp
      go_wp2_with fail
      refine (clone_any (w := w2.drew) (hR.keep (w' := w2.drew) (Nat.le_refl _) (fun _ => rfl)) (by omega)).mono ?_
      rintro e w4 ⟨ao', off', cap', rb', rfl, hR4, hc4, hrb4⟩
      have hc4 : Chg (fun _ => False) w2 w4 := ((Chg.refl (fun _ => False) w2).drew).trans hc4 (fun _ _ h => h)
      have hrb4 : cap' = 0 ∨ (w2.heap.size ≤ rb' ∧ rb' < w4.heap.size) := hrb4
      have hz4 := hc4.size
      have hE4 := hE2.chg hc4 (fun _ _ => id)
      have hc5 : Chg (fun _ => False) w4 (w4.alloc (.cells #[.slice ao' f.bs.length cap', .int .i64 f.sy] 61)) := (Chg.refl _ w4).alloc _
      have hE5 := hE4.chg hc5 (fun _ _ => id)
      have hB5 := Blk.new w4 61 #[.slice ao' f.bs.length cap', .int .i64 f.sy]
      have hz5 : (w4.alloc (.cells #[.slice ao' f.bs.length cap', .int .i64 f.sy] 61)).heap.size = w4.heap.size + 1 := by simp
      obtain ⟨w6, hrun6, hM6, hc6⟩ := map_put hE5 x hxl w4.heap.size
      have hz6 := hc6.size
      have hz2 := hs2
      have hsA := hck2.size
      obtain ⟨rb2, hR4, hrb2, hrb3⟩ : ∃ rb2, RowB w4 ao' off' cap' rb2 f.bs ∧ (0 < cap' → rb2 ≠ w4.heap.size) ∧ (w2.heap.size ≤ rb2 ∧ rb2 < w4.heap.size + 1) := by
        rcases hrb4 with h0 | h0
        · have hb := hR4.bare h0
          subst h0
          rw [hb]
          exact ⟨w4.heap.size, rowB_nil _ _ _ _, fun h => by omega, by omega, by omega⟩
        · exact ⟨rb', hR4, fun _ => by omega, by omega, by omega⟩
      have hF6 : FilAt w6 w4.heap.size rb2 f := by
        refine ⟨ao', off', cap', hB5.chg hc6 (fun e => by omega), (hR4.keep (by omega) (fun h0 => ?_)), hrb2⟩
        have hlt := hR4.came.lt h0
        rw [hc6.block rb2 (by omega) (by omega)]
        exact Below.heap_alloc w4 _ rb2 hlt
      have hE6 := hE5.add hc6 hM6 hF6 ⟨(hSc _).2 ⟨by omega, by omega⟩, (hSc _).2 ⟨by omega, by omega⟩⟩ (fun m hm _ => by
        have h1 := hE2.fne hm
        have h3 := hE2.lo m hm
        refine ⟨?_, ?_, ?_, ?_⟩ <;> omega) ⟨by omega, by omega, by omega⟩ (sub_good hG hE.good hEr (fun m hm => by
          rw [hEf m] at hm ⊢
          split
          · rfl
          · rename_i h0
            rw [if_neg h0] at hm
            cases hm) hf hxn)
      have hc26 : Chg (fun i => i = w.heap.size) w2 w6 := ((hc4.trans hc5 (fun _ _ h => h)).mono (fun _ _ h => h.elim) : Chg (fun i => i = w.heap.size) w2 _).trans hc6 (fun _ _ h => h)
      have hrg6 := ranges_keep hrg2 (hc26.block md (by omega) (by omega)) (hc26.block (w.heap.size + 2) (by omega) (by omega))
      have hI4 : w4.heap[w.heap.size + 1]? = w2.heap[w.heap.size + 1]? ∧ w4.heap[(pl x).1]? = w2.heap[(pl x).1]? := ⟨hc4.block _ (by omega) id, hc4.block _ hB.lt id⟩
      have hI5 : (w4.alloc (.cells #[.slice ao' f.bs.length cap', .int .i64 f.sy] 61)).heap[w.heap.size + 1]? = w2.heap[w.heap.size + 1]? ∧ (w4.alloc (.cells #[.slice ao' f.bs.length cap', .int .i64 f.sy] 61)).heap[(pl x).1]? = w2.heap[(pl x).1]? :=
        ⟨(hc5.block _ (by omega) id).trans hI4.1, (hc5.block _ (by have := hB.lt; omega) id).trans hI4.2⟩
      have hI4h := Lib.hid hI4
      have hI5h := Lib.hid hI5
      have hck6 : Chg (fun i => w.heap.size ≤ i) wA w6 := hck2.trans hc26 (fun i _ e => by omega)
      clear hI4 hI5 hM6 hF6 hE5 hE4 hB5 hc5 hR4 hc26 a0 a1 a2
      go_wp2_with fail
      refine ⟨⟨hI4h.out, hI4h.out⟩, ?_⟩
      go_wp2_with fail
      refine ⟨by kernel_rfl, ?_⟩
      go_wp2_with fail
      refine ⟨hI5h.out, ?_⟩
      go_wp2_with fail
      refine ⟨by kernel_rfl, ?_⟩
      go_wp2_with fail
      refine ⟨by kernel_rfl, ?_⟩
      go_wp2_with fail
      go_roundw
      case rel =>
        refine ⟨_, cnt2, ss ++ [x], E.put x f, _, hrg6, hC.step hlk hath.out, hEr, fun m => ?_, hE6, hck6⟩
        unfold Dsk.put
        simp only
        by_cases e : m = x
        · subst e
          rw [upd_same, if_pos (by simp), hf]
        · rw [upd_other _ _ _ _ e, hEf m]
          simp [e]
      case measure => rw [hrg6.left_eq, hrg.left_eq]; exact hlt

theorem dsk_copy {S : Nat → Prop} {w : World} {d md : Nat} {pl : Nam → Nat × Nat} {D : Dsk} (h : DiskAt S w d md pl D) (hmx : D.ks.length ≤ 1000000) :
    Calls Try.prog 27 #[.pointer (some ⟨d, 0, none⟩)] w fun e w' => ∃ c, e = .returned (.pointer (some ⟨c, 0, none⟩)) ∧ DiskW (fun i => w.heap.size ≤ i ∧ i < w'.heap.size) w' c D ∧ Chg (fun _ => False) w w' := by
  refine (dsk_copy0 h hmx).mono ?_
  rintro e w' ⟨c, mc, pc, E, rfl, hE, hr, hf, hc⟩
  have hE := hE.inside
  refine ⟨c, rfl, ⟨mc, pc, ?_⟩, hc⟩
  refine ⟨?_, ?_, ?_, h.good, hE.sd, hE.sm, ?_, ?_, ?_⟩
  · rw [← hr]; exact hE.blk
  · rw [← hf]; exact hE.map
  · rw [← hf]; exact hE.fil
  · rw [← hf]; exact hE.sf
  · rw [← hf]; exact hE.ap
  · rw [← hf]; exact hE.lo
end Go.Proofs.Ytgcmagoecapgoaa
