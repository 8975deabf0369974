/-
  The bookings of a map of entries, sorted: slices.Sorted(maps.Keys(m)) over the library's contracts.
-/
import Derived.Test.YtddnpjlcmokbiaaLay
import Derived.Test.YtddnpjlcmokbiaaZEntM
import Derived.Test.YtddnpjlcmokbiaaArrG
import Derived.Shelf.AbstractIn
import Derived.Test.YtddnpjlcmokbiaaZPurseP
import Derived.Test.YtddnpjlcmokbiaaPurseN
import Derived.Test.YtddnpjlcmokbiaaZPackW
namespace Go.Proofs.Ytddnpjlcmokbiaa
open Go.RowKit Go.Maps Go.Sort Go.Shelf Go.Proofs

/-- The bookings that are there, rising. -/
def bookings (en : Int → Ent) : List Int := ((List.range 200).map fun (i : Nat) => (i : Int) + 1).filter fun b => decide ((en b).st ≠ 0)
theorem bookings_mem (en : Int → Ent) (hk : ∀ k, (en k).st ≠ 0 → 1 ≤ k ∧ k ≤ 200) (b : Int) : b ∈ bookings en ↔ (en b).st ≠ 0 := by
  unfold bookings
  simp only [List.mem_filter, List.mem_map, List.mem_range, decide_eq_true_eq]
  constructor
  · exact fun h => h.2
  · intro h
    have := hk b h
    exact ⟨⟨(b - 1).toNat, by omega, by omega⟩, h⟩
theorem range_rising : ∀ n : Nat, ((List.range n).map fun (i : Nat) => (i : Int) + 1).Pairwise (· < ·) := by
  intro n
  rw [List.pairwise_map]
  exact List.pairwise_lt_range.imp (fun h => by omega)
theorem bookings_rising (en : Int → Ent) : (bookings en).Pairwise (· < ·) := (range_rising 200).filter _
theorem bookings_nodup (en : Int → Ent) : (bookings en).Nodup := (bookings_rising en).imp (fun h e => by omega)
theorem bookings_len (en : Int → Ent) : (bookings en).length ≤ 200 := by
  unfold bookings
  refine Nat.le_trans (List.length_filter_le _ _) ?_
  simp
theorem bookings_sorted (en : Int → Ent) : (bookings en).mergeSort (fun x y => decide (x ≤ y)) = bookings en :=
  List.mergeSort_of_pairwise ((bookings_rising en).imp (fun h => by simp; omega))

def decI : Value → Int
  | .int _ n => n
  | _ => 0
def anyR : Value → Option (DataW Unit × List MemPlace) := fun _ => some (.nil, [])

theorem map_owned {w : World} {mb : Nat} {en : Int → Ent} (hM : MapOf encI w mb (entMap en)) (hkeys : ∀ k, (en k).st ≠ 0 → 1 ≤ k ∧ k ≤ 200) :
    ∃ (n : Nat) (D0 : DataW Unit), w.ownsMap Try.prog 3 anyR mb n D0 ∧ Maps.size D0 ≤ 200 ∧ (intKeys D0).Perm (bookings en) := by
  obtain ⟨es, clock, hb, hst, hsz, hp, he⟩ := hM.count encI_inj (bookings en) (bookings_nodup en) (fun a => by
    rw [bookings_mem en hkeys]
    unfold entMap
    by_cases h : (en a).st = 0 <;> simp [h])
  have hlen := bookings_len en
  have hrd : ∀ e ∈ es.toList, ∃ a : Int, e.key = encI a ∧ WideElems.rd Try.prog 3 anyR e = some (.int .i64 a, .nil) := by
    intro e hee
    obtain ⟨a, h1, h2⟩ := he e hee
    refine ⟨a, h1, ?_⟩
    have ha : 1 ≤ a ∧ a ≤ 200 := by
      apply hkeys
      intro h0
      unfold entMap at h2
      rw [if_pos h0] at h2
      cases h2
    unfold WideElems.rd
    rw [h1, keyI ha]
    rfl
  have F : WideElems.Fit Try.prog 3 anyR es clock := ⟨by rw [hsz]; unfold maxLen; omega, hst, fun x hx => by
    obtain ⟨a, _, h⟩ := hrd x hx
    exact ⟨_, h⟩⟩
  refine ⟨es.size, _, World.ownsMap_of_fit hb F (fun _ _ _ h => h), ?_, ?_⟩
  · show ((es.toList.map (WideElems.rg Try.prog 3 anyR)).foldr DataW.insert []).length ≤ 200
    rw [length_sorted]
    simp
    omega
  · show (((es.toList.map (WideElems.rg Try.prog 3 anyR)).foldr DataW.insert []).map fun p => Go.intOf p.1).Perm (bookings en)
    refine ((WideShapes.sorted_perm _).map _).trans ?_
    rw [List.map_map]
    have h1 : es.toList.map ((fun p : Lit × DataW Unit => Go.intOf p.1) ∘ WideElems.rg Try.prog 3 anyR) = (es.toList.map (·.key)).map decI := by
      rw [List.map_map]
      apply List.map_congr_left
      intro e hee
      obtain ⟨a, ha, hr⟩ := hrd e hee
      simp only [Function.comp]
      unfold WideElems.rg
      rw [hr, ha]
      rfl
    rw [h1]
    refine (hp.map decI).trans ?_
    rw [List.map_map]
    have h2 : (bookings en).map (decI ∘ encI) = bookings en := by
      have : (decI ∘ encI) = id := rfl
      rw [this, List.map_id]
    rw [h2]
end Go.Proofs.Ytddnpjlcmokbiaa

namespace Go.Proofs.Ytddnpjlcmokbiaa
open Go.RowKit Go.Maps Go.Sort Go.Shelf Go.Proofs

theorem sortsP (m : Nat) : AnyZI.SortsIn Try.prog isorted_ren Fence.wide m :=
  ⟨fun blk off cap ss W hH hblk hsz => callsIn_wide.2 (AnyM.slices_Sort_int isort blk off cap ss W hH hblk hsz),
   fun p cap W => callsIn_wide.2 (AnyM.slices_Sort_int_none isort p cap W)⟩

theorem keys_call (w : World) (mb : Nat) :
    Calls Try.prog 46 #[.map (some mb)] w fun e w' => e = .returned (.func (.func 57) #[] #[.pointer (some ⟨w.heap.size, 0, none⟩)]) ∧ w' = w.alloc (.cells #[.map (some mb)] 64) :=
  (callsIn_wide (n := 5)).1 (AnyZI.keys_in ikeys46 Fence.wide 5 trivial rfl (some mb) w)

set_option maxRecDepth 100000 in
set_option maxHeartbeats 1000000 in
theorem sorted_call {w1 : World} {mb : Nat} {en : Int → Ent} (hM1 : MapOf encI w1 mb (entMap en)) (hkeys : ∀ k, (en k).st ≠ 0 → 1 ≤ k ∧ k ≤ 200) :
    Calls Try.prog 45 #[.func (.func 57) #[] #[.pointer (some ⟨w1.heap.size, 0, none⟩)]] (w1.alloc (.cells #[.map (some mb)] 64)) fun e w' => ∃ v : Value, e = .returned v ∧
      w'.ownsRow w1.heap.size 3 1 v (bookings en).length ((bookings en).map encZ) ∧ Below w1.heap.size w1 w' := by
  refine (callsIn_wide (n := 5)).1 ?_
  obtain ⟨nn, D0, hown, hD, hperm⟩ := map_owned hM1 hkeys
  have hbl := hown.lt
  have hseq : SeqGives Fence.wide 2 Try.prog 57 #[.pointer (some ⟨w1.heap.size, 0, none⟩)] encZ (fun ss => ss.Perm (intKeys D0)) (Maps.size D0) (w1.alloc (.cells #[.map (some mb)] 64)) :=
    AnyZI.keys_gives (ρ := ikeys46_ren) { ikeys46 with } Fence.wide _ trivial rfl (by omega) w1.heap.size mb nn D0 _ (by simp) (by simp) (by
      obtain ⟨es, clock, hb, Ft, hs, hD⟩ := hown
      exact ⟨es, clock, (Below.heap_alloc _ _ mb hbl).trans hb, Ft, hs, hD⟩)
  have cS := AnyZI.sorted_in isorted Fence.wide 5 trivial trivial trivial trivial rfl (by omega) (sortsP _) (enters_of Try.func56 (by kernel_rfl) rfl) 57 #[.pointer (some ⟨w1.heap.size, 0, none⟩)] trivial (enters_of Try.func57 (by kernel_rfl) rfl) _ _ (by unfold maxLen; omega) (by omega) _ hseq
  change CallsIn _ _ Try.prog 45 _ _ _ at cS
  refine cS.mono ?_
  rintro e w' ⟨v, ss, rfl, hS, hrow, hnil, hb⟩
  have hss : ss.Perm (bookings en) := hS.trans hperm
  have hlen : ss.length = (bookings en).length := hss.length_eq
  have hsort : ss.mergeSort (fun x y => decide (x ≤ y)) = bookings en := by
    rw [← bookings_sorted en]
    exact mergeSort_of_perm_i hss
  rw [hsort, hlen] at hrow
  exact ⟨v, rfl, ownsRow_base_a hrow (by simp), ((Below.refl _ w1).alloc (Nat.le_refl _) _).trans (hb.mono (by simp))⟩
end Go.Proofs.Ytddnpjlcmokbiaa

namespace Go.Proofs.Ytddnpjlcmokbiaa
open Go.RowKit Go.Maps

/-- A booking's bytes. -/
def Pur.entB (p : Pur) (b : Int) : List UInt8 := nb b ++ nb (p.en b).st ++ nb (p.en b).cu ++ nb (p.en b).am
def Pur.hdB (p : Pur) : List UInt8 := nb (p.ac 0) ++ nb (p.ac 1) ++ nb (p.ac 2) ++ nb (p.ac 3) ++ nb (p.ac 4) ++ nb (p.ac 5)
/-- A purse's bytes. -/
def Pur.bytes (p : Pur) : List UInt8 := p.hdB ++ (bookings p.en).flatMap p.entB
theorem Pur.Good.ent {p : Pur} {T : Int} (h : p.Good T) (b : Int) : 0 ≤ (p.en b).st ∧ (p.en b).st ≤ 5 ∧ 0 ≤ (p.en b).cu ∧ (p.en b).cu ≤ 3 ∧ 0 ≤ (p.en b).am ∧ (p.en b).am ≤ 1099511627776 := by
  rcases h.sts b with e | e | e | e
  · rw [h.non b e]; decide
  · rw [h.gon b e]; decide
  · have := h.amt b (.inl e); omega
  · have := h.amt b (.inr e); omega
theorem Pur.entB_len {p : Pur} {T : Int} (h : p.Good T) {b : Int} (hb : 1 ≤ b ∧ b ≤ 200) : (p.entB b).length ≤ 40 := by
  have hst := h.ent b
  have h1 := nb_len (v := b) (by omega)
  have h2 := nb_len (v := (p.en b).st) (by omega)
  have h3 := nb_len (v := (p.en b).cu) (by omega)
  have h4 := nb_len (v := (p.en b).am) (by omega)
  unfold Pur.entB
  simp only [List.length_append]
  omega
theorem PurAt.look {w : World} {b mb : Nat} {lv : Value} {p : Pur} {T : Int} (h : PurAt w b mb lv p) (hG : p.Good T) (k : Int) (hk : 1 ≤ k ∧ k ≤ 200) (x : Ent) (hx : p.en k = x) :
    (Instr.lookup 64 (.map (some mb)) (.int .i64 k) false).run Try.prog w = .ok (.agg #[.int .i64 x.st, .int .i64 x.un, .int .i64 x.til, .int .i64 x.cu, .int .i64 x.am]) w := by
  have h := h.map.look law3 encI_inj (entMap_keys h.keys) (e := 44) (t := 64) Try.underlying64 (zeroEnt w) (a := k) (keyI hk) false
  rw [entMap_getD _ _ hG.non, hx] at h
  exact h
theorem own_cells_i {w : World} {base : Nat} {e : TypeId} {size n g cap : Nat} {xs : List Value} (h : w.ownsRow base e size (.slice (some ⟨g, 0, none⟩) n cap) n xs) :
    ∀ j u, xs[j]? = some u → w.cell? ((⟨g, 0, none⟩ : Addr).add j) = some u := by
  rcases h.2 with ⟨h, _⟩ | ⟨g', cap', cur, h, _, hh, _, _, _, ht⟩
  · cases h
  · injection h with h1 _ _
    injection h1 with h1; injection h1 with h1
    subst h1
    intro j u hj
    rw [← ht, List.getElem?_take] at hj
    split at hj
    · have hc := cell_of_row w g j cur e (0, 0) hh
      have he : (⟨g, 0, none⟩ : Addr).add j = ⟨g, j, none⟩ := by unfold Addr.add; split <;> simp_all
      rw [he, hc, ← hj]; simp
    · cases hj

theorem own_ltP {w : World} {base : Nat} {e : TypeId} {size n : Nat} {v : Value} {xs : List Value} (h : w.ownsRow base e size v n xs) (k : Nat) (hk : v.ownBlock = some k) : k < w.heap.size := by
  rcases h.2 with ⟨h0, _⟩ | ⟨g', c', cur, h0, _, hh, _⟩
  · rw [h0] at hk; cases hk
  · rw [h0] at hk
    simp [Value.ownBlock] at hk
    subst hk
    exact (Array.getElem?_eq_some_iff.1 hh).1

set_option maxRecDepth 100000 in
set_option maxHeartbeats 1000000 in
theorem pur_bytes {w : World} {b mb : Nat} {lv : Value} {p : Pur} {T : Int} (h : PurAt w b mb lv p) (hG : p.Good T) (hT : T ≤ 1125899906842624) :
    Calls Try.prog 21 #[.pointer (some ⟨b, 0, none⟩)] w fun e w' => ∃ v, e = .returned v ∧ w'.ownsRow w.heap.size 5 1 v p.bytes.length (p.bytes.map encB) ∧ Chg (fun _ => False) w w' := by
  have hbl := bookings_len p.en
  have hbm : ∀ x ∈ bookings p.en, 1 ≤ x ∧ x ≤ 200 := fun x hx => h.keys x ((bookings_mem p.en h.keys x).1 hx)
  have hW0 := Wr.new (w := w) (P := fun _ => False) (fun _ h => h.elim)
  have hck0 := (Chg.refl (fun i => w.heap.size ≤ i) w).alloc (.cells #[.slice none 0 0] 86)
  have hbz := h.blk.lt
  have hmz := h.map.lt
  have hlz : ∀ k, lv.ownBlock = some k → k < w.heap.size := own_ltP h.own
  have hA := h.chg hck0 (by omega) (by omega) (fun k hk h => by have := hlz k hk; omega)
  obtain ⟨A0, hA0⟩ : ∃ A, p.ac 0 = A := ⟨_, rfl⟩
  have hA0b := hG.bounds 0 (by omega) (by omega)
  rw [hA0] at hA0b
  have hn0 := nb_len (v := A0) (by omega)
  obtain ⟨hA0l, hA0u⟩ := hA0b
  obtain ⟨A1, hA1⟩ : ∃ A, p.ac 1 = A := ⟨_, rfl⟩
  have hA1b := hG.bounds 1 (by omega) (by omega)
  rw [hA1] at hA1b
  have hn1 := nb_len (v := A1) (by omega)
  obtain ⟨hA1l, hA1u⟩ := hA1b
  obtain ⟨A2, hA2⟩ : ∃ A, p.ac 2 = A := ⟨_, rfl⟩
  have hA2b := hG.bounds 2 (by omega) (by omega)
  rw [hA2] at hA2b
  have hn2 := nb_len (v := A2) (by omega)
  obtain ⟨hA2l, hA2u⟩ := hA2b
  obtain ⟨A3, hA3⟩ : ∃ A, p.ac 3 = A := ⟨_, rfl⟩
  have hA3b := hG.bounds 3 (by omega) (by omega)
  rw [hA3] at hA3b
  have hn3 := nb_len (v := A3) (by omega)
  obtain ⟨hA3l, hA3u⟩ := hA3b
  obtain ⟨A4, hA4⟩ : ∃ A, p.ac 4 = A := ⟨_, rfl⟩
  have hA4b := hG.bounds 4 (by omega) (by omega)
  rw [hA4] at hA4b
  have hn4 := nb_len (v := A4) (by omega)
  obtain ⟨hA4l, hA4u⟩ := hA4b
  obtain ⟨A5, hA5⟩ : ∃ A, p.ac 5 = A := ⟨_, rfl⟩
  have hA5b := hG.bounds 5 (by omega) (by omega)
  rw [hA5] at hA5b
  have hn5 := nb_len (v := A5) (by omega)
  obtain ⟨hA5l, hA5u⟩ := hA5b
  have c0 : (w.alloc (.cells #[.slice none 0 0] 86)).cell? ⟨b, 0, none⟩ = some (.int .i64 A0) := by rw [hA.blk.cell, ← hA0]; rfl
  have c1 : (w.alloc (.cells #[.slice none 0 0] 86)).cell? ⟨b, 1, none⟩ = some (.int .i64 A1) := by rw [hA.blk.cell, ← hA1]; rfl
  have c2 : (w.alloc (.cells #[.slice none 0 0] 86)).cell? ⟨b, 2, none⟩ = some (.int .i64 A2) := by rw [hA.blk.cell, ← hA2]; rfl
  have c3 : (w.alloc (.cells #[.slice none 0 0] 86)).cell? ⟨b, 3, none⟩ = some (.int .i64 A3) := by rw [hA.blk.cell, ← hA3]; rfl
  have c4 : (w.alloc (.cells #[.slice none 0 0] 86)).cell? ⟨b, 4, none⟩ = some (.int .i64 A4) := by rw [hA.blk.cell, ← hA4]; rfl
  have c5 : (w.alloc (.cells #[.slice none 0 0] 86)).cell? ⟨b, 5, none⟩ = some (.int .i64 A5) := by rw [hA.blk.cell, ← hA5]; rfl
  have i0 : ∀ w1, (Instr.index 42 (.agg #[.int .i64 A0, .int .i64 A1, .int .i64 A2, .int .i64 A3, .int .i64 A4, .int .i64 A5]) (.int .i64 0)).run Try.prog w1 = .ok (.int .i64 A0) w1 := fun w1 => by kernel_rfl
  have i1 : ∀ w1, (Instr.index 42 (.agg #[.int .i64 A0, .int .i64 A1, .int .i64 A2, .int .i64 A3, .int .i64 A4, .int .i64 A5]) (.int .i64 1)).run Try.prog w1 = .ok (.int .i64 A1) w1 := fun w1 => by kernel_rfl
  have i2 : ∀ w1, (Instr.index 42 (.agg #[.int .i64 A0, .int .i64 A1, .int .i64 A2, .int .i64 A3, .int .i64 A4, .int .i64 A5]) (.int .i64 2)).run Try.prog w1 = .ok (.int .i64 A2) w1 := fun w1 => by kernel_rfl
  have i3 : ∀ w1, (Instr.index 42 (.agg #[.int .i64 A0, .int .i64 A1, .int .i64 A2, .int .i64 A3, .int .i64 A4, .int .i64 A5]) (.int .i64 3)).run Try.prog w1 = .ok (.int .i64 A3) w1 := fun w1 => by kernel_rfl
  have i4 : ∀ w1, (Instr.index 42 (.agg #[.int .i64 A0, .int .i64 A1, .int .i64 A2, .int .i64 A3, .int .i64 A4, .int .i64 A5]) (.int .i64 4)).run Try.prog w1 = .ok (.int .i64 A4) w1 := fun w1 => by kernel_rfl
  have i5 : ∀ w1, (Instr.index 42 (.agg #[.int .i64 A0, .int .i64 A1, .int .i64 A2, .int .i64 A3, .int .i64 A4, .int .i64 A5]) (.int .i64 5)).run Try.prog w1 = .ok (.int .i64 A5) w1 := fun w1 => by kernel_rfl
  have hhd : p.hdB = nb A0 ++ nb A1 ++ nb A2 ++ nb A3 ++ nb A4 ++ nb A5 := by unfold Pur.hdB; rw [hA0, hA1, hA2, hA3, hA4, hA5]
  have hhdh := Lib.hid hhd
  clear hhd hA0 hA1 hA2 hA3 hA4 hA5 hA
  go_enter Try.func21, Try.ntmps21
  go_wp2_with fail
  clear c0 c1 c2 c3 c4 c5
  refine wp_loop_rounds 7 ?_
  rw [rounds_succ]
  go_wp2_with fail
  refine (hW0.int (fun _ h => h.elim) (by simp) A0 (by omega) (by omega) (by simp)).mono ?_
  rintro e w1 ⟨rfl, hW1, hc1⟩
  have hck1 := hck0.trans hc1 (fun i _ h => h.1)
  clear hW0 hck0 hc1 i0
  go_wp2_with fail
  rw [rounds_succ]
  go_wp2_with fail
  refine (hW1.int (fun _ h => h.elim) hck1.size A1 (by omega) (by omega) (by (try simp only [List.length_append, List.length_nil]); omega)).mono ?_
  rintro e w2 ⟨rfl, hW2, hc2⟩
  have hck2 := hck1.trans hc2 (fun i _ h => h.1)
  clear hW1 hck1 hc2 i1
  go_wp2_with fail
  rw [rounds_succ]
  go_wp2_with fail
  refine (hW2.int (fun _ h => h.elim) hck2.size A2 (by omega) (by omega) (by (try simp only [List.length_append, List.length_nil]); omega)).mono ?_
  rintro e w3 ⟨rfl, hW3, hc3⟩
  have hck3 := hck2.trans hc3 (fun i _ h => h.1)
  clear hW2 hck2 hc3 i2
  go_wp2_with fail
  rw [rounds_succ]
  go_wp2_with fail
  refine (hW3.int (fun _ h => h.elim) hck3.size A3 (by omega) (by omega) (by (try simp only [List.length_append, List.length_nil]); omega)).mono ?_
  rintro e w4 ⟨rfl, hW4, hc4⟩
  have hck4 := hck3.trans hc4 (fun i _ h => h.1)
  clear hW3 hck3 hc4 i3
  go_wp2_with fail
  rw [rounds_succ]
  go_wp2_with fail
  refine (hW4.int (fun _ h => h.elim) hck4.size A4 (by omega) (by omega) (by (try simp only [List.length_append, List.length_nil]); omega)).mono ?_
  rintro e w5 ⟨rfl, hW5, hc5⟩
  have hck5 := hck4.trans hc5 (fun i _ h => h.1)
  clear hW4 hck4 hc5 i4
  go_wp2_with fail
  rw [rounds_succ]
  go_wp2_with fail
  refine (hW5.int (fun _ h => h.elim) hck5.size A5 (by omega) (by omega) (by (try simp only [List.length_append, List.length_nil]); omega)).mono ?_
  rintro e w6 ⟨rfl, hW6, hc6⟩
  have hck6 := hck5.trans hc6 (fun i _ h => h.1)
  clear hW5 hck5 hc6 i5
  go_wp2_with fail
  rw [rounds_succ]
  have h6 := h.chg hck6 (by omega) (by omega) (fun k hk h => by have := hlz k hk; omega)
  have m0 : w6.cell? ⟨b, 6, none⟩ = some (.map (some mb)) := by rw [h6.blk.cell]; rfl
  go_wp2_with fail
  refine (keys_call w6 mb).mono ?_
  rintro e w7 ⟨rfl, rfl⟩
  go_wp2_with fail
  refine (sorted_call h6.map h6.keys).mono ?_
  rintro e w3 ⟨v3, rfl, hrow, hb3⟩
  have hc3 : Chg (fun _ => False) w6 w3 := ⟨hb3.os, hb3.tape, hb3.output, hb3.size, fun i hi _ => hb3.block i hi⟩
  have hck3 := hck6.trans hc3 (fun _ _ h => h.elim)
  obtain ⟨l, hle⟩ : ∃ l, l = bookings p.en := ⟨_, rfl⟩
  rw [← hle] at hbl hbm hrow
  have hleh := Lib.hid hle
  clear hle
  have hgl : ∀ k, v3.ownBlock = some k → k < w3.heap.size ∧ w6.heap.size ≤ k := fun k hk => ⟨(hrow.lt k hk).2, (hrow.lt k hk).1⟩
  have hW3 : Wr w3 w.heap.size w.heap.size (fun i => v3.ownBlock = some i) ([] ++ nb A0 ++ nb A1 ++ nb A2 ++ nb A3 ++ nb A4 ++ nb A5) := (hW6.mono (fun i hi => .inr (hgl i hi).2)).keep hc3
  have hz23 := hck6.size
  obtain ⟨ad, cap, rfl⟩ : ∃ ad cap, v3 = .slice ad l.length cap := by
    rcases hrow.2 with ⟨rfl, h⟩ | ⟨g, cp, _, rfl, _⟩
    · exact ⟨_, _, by rw [h]⟩
    · exact ⟨_, _, rfl⟩
  clear m0 hb3 h6 hW6 hck6 hc3
  have hstart : Wr w3 w.heap.size w.heap.size (fun i => (Value.slice ad l.length cap).ownBlock = some i) (p.hdB ++ (l.take 0).flatMap p.entB) := by rw [hhdh.out]; simpa using hW3
  have hhl : p.hdB.length ≤ 60 := by rw [hhdh.out]; simp only [List.length_append]; omega
  have hhn : p.hdB ≠ [] := by rw [hhdh.out]; have := nb_ne A0; simp [this]
  clear hW3
  obtain ⟨P, hPe⟩ : ∃ P : Nat → Prop, P = fun i => (Value.slice ad l.length cap).ownBlock = some i := ⟨_, rfl⟩
  rw [← hPe] at hstart
  have hPlt : ∀ i, P i → i < w3.heap.size := fun i hi => (hgl i (by rw [hPe] at hi; exact hi)).1
  have hPh := Lib.hid hPe
  have hhnh := Lib.hid hhn
  clear hPe hhn hn0 hn1 hn2 hn3 hn4 hn5
  generalize hHD : p.hdB = HD at *
  have hHDh := Lib.hid hHD
  clear hHD
  go_wp2_with fail
  go_loopw [28] (fun v28 wr => ∃ k : Nat, v28 = .int .i64 k ∧ k ≤ l.length ∧ Wr wr w.heap.size w.heap.size P (HD ++ (l.take k).flatMap p.entB) ∧ Chg (fun i => w.heap.size ≤ i ∧ ¬ P i) w3 wr) (fun v28 _ => 200 - (RowKit.intOf v28).toNat)
  case atStart => exact ⟨0, rfl, Nat.zero_le _, hstart, Chg.refl _ _⟩
  case round =>
    clear hstart
    obtain ⟨k, rfl, hk, hW, hck⟩ := hrel
    have hckw := hck3.trans hck (fun i _ h => h.1)
    have hS := h.chg hckw (by omega) (by omega) (fun k hk h => by have := hlz k hk; omega)
    have hPr : ∀ i, P i → i < wr.heap.size := fun i hi => Nat.lt_of_lt_of_le (hPlt i hi) hck.size
    have hfl := flat_len (f := p.entB) (c := 40) (l.take k) (fun x hx => Pur.entB_len hG (hbm x (List.mem_of_mem_take hx)))
    have htl : (l.take k).length ≤ k := List.length_take_le _ _
    have hpl : (HD ++ (l.take k).flatMap p.entB).length ≤ 20000 := by simp only [List.length_append]; omega
    have hzr := hckw.size
    by_cases hkl : k < l.length
    · obtain ⟨x, hx⟩ : ∃ x, l[k]? = some x := ⟨_, List.getElem?_eq_getElem hkl⟩
      have hxb := hbm x (List.mem_of_getElem? hx)
      have hft := flat_take (f := p.entB) hx
      rcases hrow.2 with ⟨_, h0⟩ | ⟨g, cp, _, hv0, _⟩
      · omega
      injection hv0 with hv0 _ hv2
      subst hv0
      subst hv2
      have hPg : P g := by rw [hPh.out]; rfl
      have hgz := hPlt g hPg
      have l0 : wr.cell? ⟨g, k, none⟩ = some (.int .i64 x) := by
        have h := own_cells_i hrow k _ (by rw [List.getElem?_map, hx]; rfl)
        rw [addr_add0] at h
        rw [hck.cell hgz (fun h => h.2 hPg)]
        exact h
      obtain ⟨y, hy⟩ : ∃ y, p.en x = y := ⟨_, rfl⟩
      have hyb := hG.ent x
      rw [hy] at hyb
      have hentB : p.entB x = nb x ++ nb y.st ++ nb y.cu ++ nb y.am := by unfold Pur.entB; rw [hy]
      have hm0 := nb_len (v := x) (by omega)
      have hm1 := nb_len (v := y.st) (by omega)
      have hm2 := nb_len (v := y.cu) (by omega)
      have m6 : wr.cell? ⟨b, 6, none⟩ = some (.map (some mb)) := by rw [hS.blk.cell]; rfl
      have k0 := hS.look hG x hxb y hy
      have hft2 := Lib.hid (hft.trans (by rw [hentB]))
      obtain ⟨pre, hpre⟩ : ∃ pre, pre = HD ++ (l.take k).flatMap p.entB := ⟨_, rfl⟩
      rw [← hpre] at hW hpl
      have hpreh := Lib.hid hpre
      clear hpre hft hentB hy hfl hx
      have hQ : ∀ i, (P i ∨ i = wr.heap.size) → i < wr.heap.size + 1 := by
        intro i hi
        rcases hi with hi | rfl
        · have := hPr i hi; omega
        · omega
      have hcB : Chg (fun _ => False) wr (wr.alloc (.cells y.row 44)) := ((Chg.refl _ wr).alloc _)
      have hB4 : Blk (wr.alloc (.cells y.row 44)) wr.heap.size 44 y.row := Blk.new wr _ _
      have hW4 := (hW.mono (Q := fun i => P i ∨ i = wr.heap.size) (fun i hi => hi.imp id (fun h => by omega))).keep hcB
      have hz4 : wr.heap.size + 1 = (wr.alloc (.cells y.row 44)).heap.size := by rw [alloc_size]
      unfold Ent.row at hcB hB4 hW4 hz4
      go_wp2_with fail
      generalize (wr.alloc (.cells #[.int .i64 y.st, .int .i64 y.un, .int .i64 y.til, .int .i64 y.cu, .int .i64 y.am] 44)) = wa0 at *
      have hca0 : Chg (fun i => w.heap.size ≤ i ∧ ¬ P i) wr wa0 := hcB.mono (fun _ _ h => h.elim)
      clear hcB m6 k0 l0
      obtain ⟨yst, yun, ytil, ycu, yam⟩ := y
      dsimp only at *
      refine (hW4.int (fun i hi => by have := hQ i hi; omega) (by omega) x (by omega) (by omega) (by (try simp only [List.length_append]); omega)).mono ?_
      rintro e wa1 ⟨rfl, hW5, hd0⟩
      replace hB4 := hB4.chg hd0 (fun h => h.2 (.inr rfl))
      have hca1 : Chg (fun i => w.heap.size ≤ i ∧ ¬ P i) wr wa1 := hca0.trans hd0 (fun i _ h => ⟨h.1, fun hp => h.2 (.inl hp)⟩)
      have hzz0 := hd0.size
      replace hQ : ∀ i, (P i ∨ i = wr.heap.size) → i < wa1.heap.size := fun i hi => Nat.lt_of_lt_of_le (hQ i hi) (by omega)
      clear hW4 hd0
      have hW4 := hW5
      clear hW5
      have q1 : wa1.cell? ⟨wr.heap.size, 0, none⟩ = some (.int .i64 yst) := by rw [hB4.cell]; rfl
      go_wp2_with fail
      refine (hW4.int hQ (by omega) yst (by omega) (by omega) (by (try simp only [List.length_append]); omega)).mono ?_
      rintro e wa2 ⟨rfl, hW5, hd1⟩
      replace hB4 := hB4.chg hd1 (fun h => h.2 (.inr rfl))
      have hca2 : Chg (fun i => w.heap.size ≤ i ∧ ¬ P i) wr wa2 := hca1.trans hd1 (fun i _ h => ⟨h.1, fun hp => h.2 (.inl hp)⟩)
      have hzz1 := hd1.size
      replace hQ : ∀ i, (P i ∨ i = wr.heap.size) → i < wa2.heap.size := fun i hi => Nat.lt_of_lt_of_le (hQ i hi) (by omega)
      clear hW4 hd1 q1
      have hW4 := hW5
      clear hW5
      have q2 : wa2.cell? ⟨wr.heap.size, 3, none⟩ = some (.int .i64 ycu) := by rw [hB4.cell]; rfl
      go_wp2_with fail
      refine (hW4.int hQ (by omega) ycu (by omega) (by omega) (by (try simp only [List.length_append]); omega)).mono ?_
      rintro e wa3 ⟨rfl, hW5, hd2⟩
      replace hB4 := hB4.chg hd2 (fun h => h.2 (.inr rfl))
      have hca3 : Chg (fun i => w.heap.size ≤ i ∧ ¬ P i) wr wa3 := hca2.trans hd2 (fun i _ h => ⟨h.1, fun hp => h.2 (.inl hp)⟩)
      have hzz2 := hd2.size
      replace hQ : ∀ i, (P i ∨ i = wr.heap.size) → i < wa3.heap.size := fun i hi => Nat.lt_of_lt_of_le (hQ i hi) (by omega)
      clear hW4 hd2 q2
      have hW4 := hW5
      clear hW5
      have q3 : wa3.cell? ⟨wr.heap.size, 4, none⟩ = some (.int .i64 yam) := by rw [hB4.cell]; rfl
      go_wp2_with fail
      refine (hW4.int hQ (by omega) yam (by omega) (by omega) (by (try simp only [List.length_append]); omega)).mono ?_
      rintro e wa4 ⟨rfl, hW5, hd3⟩
      replace hB4 := hB4.chg hd3 (fun h => h.2 (.inr rfl))
      have hca4 : Chg (fun i => w.heap.size ≤ i ∧ ¬ P i) wr wa4 := hca3.trans hd3 (fun i _ h => ⟨h.1, fun hp => h.2 (.inl hp)⟩)
      have hzz3 := hd3.size
      replace hQ : ∀ i, (P i ∨ i = wr.heap.size) → i < wa4.heap.size := fun i hi => Nat.lt_of_lt_of_le (hQ i hi) (by omega)
      clear hW4 hd3 q3
      have hW4 := hW5
      clear hW5
      go_wp2_with fail
      go_roundw
      case rel => exact ⟨k + 1, by go_num, by omega, by
        rw [hft2.out, ← List.append_assoc, ← hpreh.out]
        simpa [List.append_assoc] using hW4.mono (Q := P) (fun i hi => .inl (.inl hi)), hck.trans hca4 (fun _ _ h => h)⟩
      case measure => simp [RowKit.intOf]; omega
    · have hke : k = l.length := by omega
      subst hke
      rw [List.take_length] at hW hpl
      have hne : HD ++ l.flatMap p.entB ≠ [] := by
        have := hhnh.out
        simp [this]
      go_wp2_with fail
      refine (hW.bytes hne (by omega)).mono ?_
      rintro e w9 ⟨v9, rfl, hown9, hc9⟩
      have he : HD ++ l.flatMap p.entB = p.bytes := by unfold Pur.bytes; rw [hHDh.out, ← hleh.out]
      rw [he] at hown9
      have hcF := (hckw.trans hc9 (fun _ _ h => h.elim)).mono (T := fun _ => False) (fun i hi h => by omega)
      go_wp2_with fail
      go_ret
      exact ⟨_, rfl, ownsRow_base_a hown9 hzr, hcF⟩
end Go.Proofs.Ytddnpjlcmokbiaa
