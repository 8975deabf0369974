/-
  stock: Bytes by its contract.
-/
import Derived.Test.YtkbnojjmpmlgjaaGreatStockE
import Derived.Test.YtkbnojjmpmlgjaaGreatZStockF
import Derived.Test.YtkbnojjmpmlgjaaGreatZPackW
import Derived.Test.YtkbnojjmpmlgjaaGreatRefI
namespace Go.Proofs.YtkbnojjmpmlgjaaGreat
open Go.RowKit Go.Maps

/-- A booking's bytes. -/
def Stk.entB (s : Stk) (b : Int) : List UInt8 := nb b ++ nb (s.en b).st ++ nb (s.en b).un ++ nb (s.en b).til
/-- An inventory's bytes. -/
def Stk.bytes (s : Stk) : List UInt8 := nb s.cap ++ nb s.over ++ (bookings s.en).flatMap s.entB

theorem entB_len {s : Stk} (h : s.Good) {b : Int} (hb : 1 ≤ b ∧ b ≤ 200) : (s.entB b).length ≤ 40 := by
  have hun := h.un b
  have hst : 0 ≤ (s.en b).st ∧ (s.en b).st ≤ 3 ∧ 0 ≤ (s.en b).til ∧ (s.en b).til ≤ 1099511627836 := by
    rcases h.sts b with e | e | e | e
    · rw [h.non b e]; decide
    · rw [e]; decide
    · omega
    · omega
  have h1 := nb_len (v := b) (by omega)
  have h2 := nb_len (v := (s.en b).st) (by omega)
  have h3 := nb_len (v := (s.en b).un) (by omega)
  have h4 := nb_len (v := (s.en b).til) (by omega)
  unfold Stk.entB
  simp only [List.length_append]
  omega
set_option maxRecDepth 100000 in
set_option maxHeartbeats 4000000 in
theorem stk_bytes {w : World} {b mb : Nat} {s : Stk} (h : StkAt w b mb s) (hG : s.Good) :
    Calls Tryz.prog 33 #[.pointer (some ⟨b, 0, none⟩)] w fun e w' => ∃ v, e = .returned v ∧ w'.ownsRow w.heap.size 5 1 v s.bytes.length (s.bytes.map encB) ∧ Chg (fun _ => False) w w' := by
  have hbl := bookings_len s.en
  have hbm : ∀ x ∈ bookings s.en, 1 ≤ x ∧ x ≤ 200 := fun x hx => h.keys x ((bookings_mem s.en h.keys x).1 hx)
  have hcap := hG.cap
  have hover := hG.over
  have hW0 := Wr.new (w := w) (P := fun _ => False) (fun _ h => h.elim)
  have hcA := (Chg.refl (fun i => w.heap.size ≤ i) w).alloc (.cells #[.slice none 0 0] 73)
  have hn1 := nb_len (v := s.cap) (by omega)
  have hn2 := nb_len (v := s.over) (by omega)
  have hbz := h.blk.lt
  have hmz := h.map.lt
  have hA := h.chg hcA (by omega) (by omega)
  have c0 : (w.alloc (.cells #[.slice none 0 0] 73)).cell? ⟨b, 0, none⟩ = some (.int .i64 s.cap) := by rw [hA.blk.cell]; rfl
  obtain ⟨cap0, cap1⟩ := hcap
  obtain ⟨over0, over1⟩ := hover
  go_enter Tryz.func33, Tryz.ntmps33
  go_wp2_with fail
  refine (hW0.int (fun _ h => h.elim) (by simp) s.cap (by omega) (by omega) (by simp)).mono ?_
  rintro e w1 ⟨rfl, hW1, hc1⟩
  have hck1 := hcA.trans hc1 (fun i _ h => h.1)
  have h1 := h.chg hck1 (by omega) (by omega)
  have c1 : w1.cell? ⟨b, 1, none⟩ = some (.int .i64 s.over) := by rw [h1.blk.cell]; rfl
  clear c0 hc1 hA hW0 hcA
  go_wp2_with fail
  refine (hW1.int (fun _ h => h.elim) hck1.size s.over (by omega) (by omega) (by simp; omega)).mono ?_
  rintro e w2 ⟨rfl, hW2, hc2⟩
  have hck2 := hck1.trans hc2 (fun i _ h => h.1)
  have h2 := h.chg hck2 (by omega) (by omega)
  have c3 : w2.cell? ⟨b, 3, none⟩ = some (.map (some mb)) := by rw [h2.blk.cell]; rfl
  clear c1 hc2 h1 hW1 hck1
  go_wp2_with fail
  refine (rising_any h2.map h2.keys).mono ?_
  rintro e w3 ⟨v3, rfl, hrow, hb3⟩
  have hc3 : Chg (fun _ => False) w2 w3 := ⟨hb3.os, hb3.tape, hb3.output, hb3.size, fun i hi _ => hb3.block i hi⟩
  have hck3 := hck2.trans hc3 (fun _ _ h => h.elim)
  obtain ⟨l, hle⟩ : ∃ l, l = bookings s.en := ⟨_, rfl⟩
  rw [← hle] at hbl hbm hrow
  have hleh := Lib.hid hle
  clear hle
  have hgl : ∀ k, v3.ownBlock = some k → k < w3.heap.size ∧ w2.heap.size ≤ k := fun k hk => ⟨(hrow.lt k hk).2, (hrow.lt k hk).1⟩
  have hW3 : Wr w3 w.heap.size w.heap.size (fun i => v3.ownBlock = some i) ([] ++ nb s.cap ++ nb s.over) := (hW2.mono (fun i hi => .inr (hgl i hi).2)).keep hc3
  have hz23 := hck2.size
  obtain ⟨ad, cap, rfl⟩ : ∃ ad cap, v3 = .slice ad l.length cap := by
    rcases hrow.2 with ⟨rfl, h⟩ | ⟨g, cp, _, rfl, _⟩
    · exact ⟨_, _, by rw [h]⟩
    · exact ⟨_, _, rfl⟩
  clear c3 hb3 h2 hW2 hck2 hc3
  have hstart : Wr w3 w.heap.size w.heap.size (fun i => (Value.slice ad l.length cap).ownBlock = some i) (nb s.cap ++ nb s.over ++ (l.take 0).flatMap s.entB) := by simpa using hW3
  clear hW3
  obtain ⟨P, hPe⟩ : ∃ P : Nat → Prop, P = fun i => (Value.slice ad l.length cap).ownBlock = some i := ⟨_, rfl⟩
  rw [← hPe] at hstart
  have hPlt : ∀ i, P i → i < w3.heap.size := fun i hi => (hgl i (by rw [hPe] at hi; exact hi)).1
  have hPh := Lib.hid hPe
  clear hPe
  go_wp2_with fail
  go_loopw [29] (fun v29 wr => ∃ k : Nat, v29 = .int .i64 k ∧ k ≤ l.length ∧ Wr wr w.heap.size w.heap.size P (nb s.cap ++ nb s.over ++ (l.take k).flatMap s.entB) ∧ Chg (fun i => w.heap.size ≤ i ∧ ¬ P i) w3 wr) (fun v29 _ => 200 - (RowKit.intOf v29).toNat)
  case atStart => exact ⟨0, rfl, Nat.zero_le _, hstart, Chg.refl _ _⟩
  case round =>
    clear hstart
    obtain ⟨k, rfl, hk, hW, hck⟩ := hrel
    have hckw := hck3.trans hck (fun i _ h => h.1)
    have hS := h.chg hckw (by omega) (by omega)
    have hPr : ∀ i, P i → i < wr.heap.size := fun i hi => Nat.lt_of_lt_of_le (hPlt i hi) hck.size
    have hfl := flat_len (f := s.entB) (c := 40) (l.take k) (fun x hx => entB_len hG (hbm x (List.mem_of_mem_take hx)))
    have htl : (l.take k).length ≤ k := List.length_take_le _ _
    have hpl : (nb s.cap ++ nb s.over ++ (l.take k).flatMap s.entB).length ≤ 20000 := by simp only [List.length_append]; omega
    have hzr := hckw.size
    by_cases hkl : k < l.length
    · obtain ⟨x, hx⟩ : ∃ x, l[k]? = some x := ⟨_, List.getElem?_eq_getElem hkl⟩
      have hxb := hbm x (List.mem_of_getElem? hx)
      have hft := flat_take (f := s.entB) hx
      rcases hrow.2 with ⟨_, h0⟩ | ⟨g, cp, _, hv0, _⟩
      · omega
      injection hv0 with hv0 _ hv2
      subst hv0
      subst hv2
      have hPg : P g := by rw [hPh.out]; rfl
      have hgz := hPlt g hPg
      have l0 : wr.cell? ⟨g, k, none⟩ = some (.int .i64 x) := by
        have h := own_cells_i hrow k _ (by rw [List.getElem?_map, hx]; rfl)
        rw [addr_add0] at h
        rw [hck.cell hgz (fun h => h.2 hPg)]
        exact h
      obtain ⟨y, hy⟩ : ∃ y, s.en x = y := ⟨_, rfl⟩
      have hyb : 0 ≤ y.st ∧ y.st ≤ 3 ∧ 0 ≤ y.til ∧ y.til ≤ 1099511627836 ∧ 0 ≤ y.un ∧ y.un ≤ 1000 := by
        have hun := hG.un x
        have hst := hG.sts x
        rw [hy] at hun hst
        rcases hst with e | e | e | e
        · have := hG.non x (by rw [hy]; exact e); rw [hy] at this; rw [this]; decide
        · rw [e]; decide
        · omega
        · omega
      have hentB : s.entB x = nb x ++ nb y.st ++ nb y.un ++ nb y.til := by unfold Stk.entB; rw [hy]
      have hm0 := nb_len (v := x) (by omega)
      have hm1 := nb_len (v := y.st) (by omega)
      have hm2 := nb_len (v := y.un) (by omega)
      have c3 : wr.cell? ⟨b, 3, none⟩ = some (.map (some mb)) := by rw [hS.blk.cell]; rfl
      have k0 := hS.look (w1 := wr) hG rfl x hxb y hy
      have hft2 := Lib.hid (hft.trans (by rw [hentB]))
      obtain ⟨pre, hpre⟩ : ∃ pre, pre = nb s.cap ++ nb s.over ++ (l.take k).flatMap s.entB := ⟨_, rfl⟩
      rw [← hpre] at hW hpl
      have hpreh := Lib.hid hpre
      clear hpre hft hentB hy hfl hx
      have hQ : ∀ i, (P i ∨ i = wr.heap.size + 1) → i < wr.heap.size + 2 := by
        intro i hi
        rcases hi with hi | rfl
        · have := hPr i hi; omega
        · omega
      have hcB : Chg (fun _ => False) wr ((wr.alloc (.cells y.row 32)).alloc (.cells #[.int .i64 x, .int .i64 y.st, .int .i64 y.un, .int .i64 y.til] 3)) := ((Chg.refl _ wr).alloc _).alloc _
      have hB4 : Blk ((wr.alloc (.cells y.row 32)).alloc (.cells #[.int .i64 x, .int .i64 y.st, .int .i64 y.un, .int .i64 y.til] 3)) (wr.heap.size + 1) 3 #[.int .i64 x, .int .i64 y.st, .int .i64 y.un, .int .i64 y.til] := by
        have h := Blk.new (wr.alloc (.cells y.row 32)) 3 #[.int .i64 x, .int .i64 y.st, .int .i64 y.un, .int .i64 y.til]
        rw [alloc_size] at h
        exact h
      have hW4 := (hW.mono (Q := fun i => P i ∨ i = wr.heap.size + 1) (fun i hi => hi.imp id (fun h => by omega))).keep hcB
      have hz4 : wr.heap.size + 2 = ((wr.alloc (.cells y.row 32)).alloc (.cells #[.int .i64 x, .int .i64 y.st, .int .i64 y.un, .int .i64 y.til] 3)).heap.size := by rw [alloc_size, alloc_size]
      unfold Ent.row at hcB hB4 hW4 hz4
      go_wp2_with fail
      generalize ((wr.alloc (.cells #[.int .i64 y.st, .int .i64 y.un, .int .i64 y.til, .int .i64 y.cu, .int .i64 y.am] 32)).alloc (.cells #[.int .i64 x, .int .i64 y.st, .int .i64 y.un, .int .i64 y.til] 3)) = wa0 at *
      have hca0 : Chg (fun i => w.heap.size ≤ i ∧ ¬ P i) wr wa0 := hcB.mono (fun _ _ h => h.elim)
      clear hcB c3 k0 l0
      obtain ⟨yst, yun, ytil, ycu, yam⟩ := y
      dsimp only at *
      refine wp_loop_rounds 5 ?_
      rw [rounds_succ]
      have q0 : wa0.cell? ⟨wr.heap.size + 1, 0, none⟩ = some (.int .i64 x) := by rw [hB4.cell]; rfl
      go_wp2_with fail
      refine (hW4.int (fun i hi => by have := hQ i hi; omega) (by omega) x (by omega) (by omega) (by (try simp only [List.length_append]); omega)).mono ?_
      rintro e wa1 ⟨rfl, hW5, hd0⟩
      replace hB4 := hB4.chg hd0 (fun h => h.2 (.inr rfl))
      have hca1 : Chg (fun i => w.heap.size ≤ i ∧ ¬ P i) wr wa1 := hca0.trans hd0 (fun i _ h => ⟨h.1, fun hp => h.2 (.inl hp)⟩)
      have hzz0 := hd0.size
      replace hQ : ∀ i, (P i ∨ i = wr.heap.size + 1) → i < wa1.heap.size := fun i hi => Nat.lt_of_lt_of_le (hQ i hi) (by omega)
      clear hW4 hd0 q0
      have hW4 := hW5
      clear hW5
      go_wp2_with fail
      rw [rounds_succ]
      have q1 : wa1.cell? ⟨wr.heap.size + 1, 1, none⟩ = some (.int .i64 yst) := by rw [hB4.cell]; rfl
      go_wp2_with fail
      refine (hW4.int hQ (by omega) yst (by omega) (by omega) (by (try simp only [List.length_append]); omega)).mono ?_
      rintro e wa2 ⟨rfl, hW5, hd1⟩
      replace hB4 := hB4.chg hd1 (fun h => h.2 (.inr rfl))
      have hca2 : Chg (fun i => w.heap.size ≤ i ∧ ¬ P i) wr wa2 := hca1.trans hd1 (fun i _ h => ⟨h.1, fun hp => h.2 (.inl hp)⟩)
      have hzz1 := hd1.size
      replace hQ : ∀ i, (P i ∨ i = wr.heap.size + 1) → i < wa2.heap.size := fun i hi => Nat.lt_of_lt_of_le (hQ i hi) (by omega)
      clear hW4 hd1 q1
      have hW4 := hW5
      clear hW5
      go_wp2_with fail
      rw [rounds_succ]
      have q2 : wa2.cell? ⟨wr.heap.size + 1, 2, none⟩ = some (.int .i64 yun) := by rw [hB4.cell]; rfl
      go_wp2_with fail
      refine (hW4.int hQ (by omega) yun (by omega) (by omega) (by (try simp only [List.length_append]); omega)).mono ?_
      rintro e wa3 ⟨rfl, hW5, hd2⟩
      replace hB4 := hB4.chg hd2 (fun h => h.2 (.inr rfl))
      have hca3 : Chg (fun i => w.heap.size ≤ i ∧ ¬ P i) wr wa3 := hca2.trans hd2 (fun i _ h => ⟨h.1, fun hp => h.2 (.inl hp)⟩)
      have hzz2 := hd2.size
      replace hQ : ∀ i, (P i ∨ i = wr.heap.size + 1) → i < wa3.heap.size := fun i hi => Nat.lt_of_lt_of_le (hQ i hi) (by omega)
      clear hW4 hd2 q2
      have hW4 := hW5
      clear hW5
      go_wp2_with fail
      rw [rounds_succ]
      have q3 : wa3.cell? ⟨wr.heap.size + 1, 3, none⟩ = some (.int .i64 ytil) := by rw [hB4.cell]; rfl
      go_wp2_with fail
      refine (hW4.int hQ (by omega) ytil (by omega) (by omega) (by (try simp only [List.length_append]); omega)).mono ?_
      rintro e wa4 ⟨rfl, hW5, hd3⟩
      replace hB4 := hB4.chg hd3 (fun h => h.2 (.inr rfl))
      have hca4 : Chg (fun i => w.heap.size ≤ i ∧ ¬ P i) wr wa4 := hca3.trans hd3 (fun i _ h => ⟨h.1, fun hp => h.2 (.inl hp)⟩)
      have hzz3 := hd3.size
      replace hQ : ∀ i, (P i ∨ i = wr.heap.size + 1) → i < wa4.heap.size := fun i hi => Nat.lt_of_lt_of_le (hQ i hi) (by omega)
      clear hW4 hd3 q3
      have hW4 := hW5
      clear hW5
      go_wp2_with fail
      rw [rounds_succ]
      go_wp2_with fail
      go_roundw
      case rel => exact ⟨k + 1, by go_num, by omega, by
        rw [hft2.out, ← List.append_assoc, ← hpreh.out]
        simpa [List.append_assoc] using hW4.mono (Q := P) (fun i hi => .inl (.inl hi)), hck.trans hca4 (fun _ _ h => h)⟩
      case measure => simp [RowKit.intOf]; omega
    · have hke : k = l.length := by omega
      subst hke
      rw [List.take_length] at hW hpl
      have hne : nb s.cap ++ nb s.over ++ l.flatMap s.entB ≠ [] := by
        have := nb_ne s.cap
        simp [this]
      go_wp2_with fail
      refine (hW.bytes hne (by omega)).mono ?_
      rintro e w9 ⟨v9, rfl, hown9, hc9⟩
      have he : nb s.cap ++ nb s.over ++ l.flatMap s.entB = s.bytes := by unfold Stk.bytes; rw [← hleh.out]
      rw [he] at hown9
      have hcF := (hckw.trans hc9 (fun _ _ h => h.elim)).mono (T := fun _ => False) (fun i hi h => by omega)
      go_wp2_with fail
      go_ret
      exact ⟨_, rfl, ownsRow_base_a hown9 hzr, hcF⟩
end Go.Proofs.YtkbnojjmpmlgjaaGreat

namespace Go.Proofs.YtkbnojjmpmlgjaaGreat
open Go.RowKit Go.Maps
variable {R : REnv}

/-- The bookings 1..k that there are. -/
def bookN (en : Int → Ent) (k : Nat) : List Int := ((List.range k).map fun (i : Nat) => (i : Int) + 1).filter fun b => decide ((en b).st ≠ 0)
theorem bookN_succ (en : Int → Ent) (k : Nat) : bookN en (k + 1) = bookN en k ++ (if (en ((k : Int) + 1)).st = 0 then [] else [(k : Int) + 1]) := by
  unfold bookN
  rw [List.range_succ, List.map_append, List.filter_append]
  congr 1
  by_cases h : (en ((k : Int) + 1)).st = 0
  · simp [h]
  · simp [h]

theorem RefAt.bk {w : World} {x : Nat} {s : Stk} (_h : RefAt R w x s) (hG : s.Good) {b : Int} (hb : (s.en b).st ≠ 0) : 1 ≤ b ∧ b ≤ 200 := hG.key b hb
theorem bstr_append (a b : List UInt8) : bstr a ++ bstr b = bstr (a ++ b) := by
  unfold bstr
  apply ByteArray.ext
  simp

theorem bstr_size (a : List UInt8) : (bstr a).size = a.length := by unfold bstr; simp [ByteArray.size]
theorem bsize (a b : ByteArray) : (a ++ b).size = a.size + b.size := by simp

set_option maxRecDepth 100000 in
set_option maxHeartbeats 4000000 in
theorem ref_bytes {w : World} {x : Nat} {s : Stk} (h : RefAt R w x s) (hG : s.Good) :
    Calls Tryz.prog 35 #[.pointer (some ⟨x, 0, none⟩)] w fun e w' => e = .returned (.string (bstr s.bytes)) ∧ Chg (fun _ => False) w w' := by
  have c0 : ∀ w9 : World, w9.heap[x]? = w.heap[x]? → w9.cell? ⟨x, 0, none⟩ = some (.int .i64 s.cap) ∧ w9.cell? ⟨x, 1, none⟩ = some (.int .i64 s.over) := fun w9 h9 => by
    have h2 : RefAt R w9 x s := Blk.keep h h9
    exact ⟨RefAt.cell0 h2 0 (by omega), RefAt.cell0 h2 1 (by omega)⟩
  obtain ⟨cap0, cap1⟩ := hG.cap
  obtain ⟨over0, over1⟩ := hG.over
  have c0h := Lib.hid c0
  obtain ⟨d0, d1⟩ := c0 w rfl
  clear c0
  go_enter Tryz.func35, Tryz.ntmps35
  go_wp2_with fail
  refine wp_region_plan (by kernel_rfl) [{ fl := [0, 1, 2, 3, 4, 6, 7, 8, 9, 10], long := [10], ef := 5, keep := [10] }, { fl := [], ef := 11 }] [12, 13] (by kernel_rfl) (fun _ w9 => w9.heap[x]? = w.heap[x]?) ?_
  simp only [wpPlan, longOK, keepOK, opsAt_cons, opsAt_nil, consO_some, List.getElem?_toArray, List.getElem?_cons_succ, List.getElem?_cons_zero, and_true, true_and]
  refine ⟨rfl, ?_⟩
  go_wp2_with fail
  refine ⟨by kernel_rfl, ?_, ?_⟩
  · intro _ w9 h9
    obtain ⟨d0, d1⟩ := c0h.out w9 h9
    clear h9
    go_simp
  go_wp2_with fail
  refine (refInt_any _ s.cap (by omega) (by omega)).mono ?_
  rintro e w1 ⟨rfl, hc1⟩
  have hc1 := ((Chg.refl (fun _ => False) w).drew).trans hc1 (fun _ _ h => h)
  go_wp2_with fail
  refine ⟨hc1.block x h.lt id, ?_⟩
  go_wp2_with fail
  refine ⟨by kernel_rfl, ?_⟩
  go_wp2_with fail
  refine (refInt_any _ s.over (by omega) (by omega)).mono ?_
  rintro e w2 ⟨rfl, hc2⟩
  have hc2 := hc1.trans hc2 (fun _ _ h => h)
  clear hc1 d0 d1
  have z1 := nb_len (v := s.cap) (by omega)
  have z2 := nb_len (v := s.over) (by omega)
  have zc : (bstr (nb s.cap)).size ≤ 10 := by rw [bstr_size]; exact z1
  have zo : (bstr (nb s.over)).size ≤ 10 := by rw [bstr_size]; exact z2
  go_wp2_with fail
  refine ⟨by kernel_rfl, ?_⟩
  go_wp2_with fail
  rw [bstr_append]
  have hen := fun k => entB_len hG (b := k)
  obtain ⟨pre, hpre⟩ : ∃ pre, nb s.cap ++ nb s.over = pre := ⟨_, rfl⟩
  have hpl : pre.length ≤ 20 := by rw [← hpre, List.length_append]; omega
  rw [hpre]
  have hpreh := Lib.hid hpre
  clear hpre z1 z2 zc zo
  go_loopw [3, 4] (fun v3 v4 wr => ∃ k : Nat, k ≤ 200 ∧ v3 = .string (bstr (pre ++ (bookN s.en k).flatMap s.entB)) ∧ v4 = .int .i64 ((k : Int) + 1) ∧ Chg (fun _ => False) w wr) (fun _ v4 _ => 201 - (RowKit.intOf v4).toNat)
  case atStart => exact ⟨0, Nat.zero_le _, by simp [bookN], rfl, hc2⟩
  case round =>
    clear hc2
    obtain ⟨k, hk, rfl, rfl, hck⟩ := hrel
    have hX := h.chg hck id
    have hbl : (bookN s.en k).length ≤ k := by unfold bookN; refine Nat.le_trans (List.length_filter_le _ _) ?_; simp
    have hfl := flat_len (f := s.entB) (c := 40) (bookN s.en k) (fun b hb => hen b (h.bk hG (by
      unfold bookN at hb
      simpa using (List.mem_filter.1 hb).2)))
    have hzP : (bstr (pre ++ (bookN s.en k).flatMap s.entB)).size ≤ 10000 := by rw [bstr_size, List.length_append]; omega
    by_cases hlt : k < 200
    · have hbs := Lib.hid (bookN_succ s.en k)
      obtain ⟨y, hy⟩ : ∃ y, s.en ((k : Int) + 1) = y := ⟨_, rfl⟩
      obtain ⟨c0, c1, c2, c3, c4⟩ := hX.cells (k + 1) (by omega) (b := (k : Int) + 1) (by omega) hy
      have hyb : 0 ≤ y.st ∧ y.st ≤ 3 ∧ 0 ≤ y.til ∧ y.til ≤ 1099511627836 ∧ 0 ≤ y.un ∧ y.un ≤ 1000 := by
        have hun := hG.un ((k : Int) + 1)
        have hst := hG.sts ((k : Int) + 1)
        rw [hy] at hun hst
        rcases hst with e | e | e | e
        · have := hG.non ((k : Int) + 1) (by rw [hy]; exact e); rw [hy] at this; rw [this]; decide
        · rw [e]; decide
        · omega
        · omega
      obtain ⟨y0, y1, y2, y3, y4, y5⟩ := hyb
      have hentB : s.entB ((k : Int) + 1) = nb ((k : Int) + 1) ++ nb y.st ++ nb y.un ++ nb y.til := by unfold Stk.entB; rw [hy]
      have hentBh := Lib.hid hentB
      have hyh := Lib.hid hy
      obtain ⟨Q, hQ⟩ : ∃ Q, pre ++ (bookN s.en k).flatMap s.entB = Q := ⟨_, rfl⟩
      rw [hQ] at hzP ⊢
      have hQh := Lib.hid hQ
      clear hentB hy hQ hfl
      by_cases hst : y.st = 0
      · have b0 : (y.st != 0) = false := by simp [hst]
        have hsth := Lib.hid hst
        clear hst
        go_wp2_with fail
        have hck2 := hck.alloc (.cells y.row 32)
        unfold Ent.row at hck2
        go_roundw
        case rel => exact ⟨k + 1, by omega, by rw [hbs.out, hyh.out, if_pos hsth.out, List.append_nil, hQh.out], by go_num, hck2⟩
        case measure => simp [RowKit.intOf]; omega
      · have b0 : (y.st != 0) = true := by simp [hst]
        have hsth := Lib.hid hst
        clear hst
        have hY := Blk.new wr 32 y.row
        have hckA := hck.alloc (.cells y.row 32)
        unfold Ent.row at hY hckA
        go_wp2_with fail
        clear c0 c1 c2 c3 c4 hck
        generalize wr.alloc (.cells #[.int .i64 y.st, .int .i64 y.un, .int .i64 y.til, .int .i64 y.cu, .int .i64 y.am] 32) = wa at *
        generalize hYe : wr.heap.size = Y at *
        clear hYe
        have ycell : ∀ w9 : World, w9.heap[Y]? = wa.heap[Y]? → w9.cell? ⟨Y, 0, none⟩ = some (.int .i64 y.st) ∧ w9.cell? ⟨Y, 1, none⟩ = some (.int .i64 y.un) ∧ w9.cell? ⟨Y, 2, none⟩ = some (.int .i64 y.til) := fun w9 h9 => by
          have h2 := Blk.keep hY h9
          exact ⟨by rw [h2.cell]; rfl, by rw [h2.cell]; rfl, by rw [h2.cell]; rfl⟩
        obtain ⟨y0', y1', y2'⟩ := ycell wa rfl
        have ych := Lib.hid ycell
        clear ycell
        have z1 := nb_len (v := (k : Int) + 1) (by omega)
        have z2 := nb_len (v := y.st) (by omega)
        have z3 := nb_len (v := y.un) (by omega)
        have z4 := nb_len (v := y.til) (by omega)
        have s1 : (bstr (nb ((k : Int) + 1))).size ≤ 10 := by rw [bstr_size]; exact z1
        have s2 : (bstr (nb y.st)).size ≤ 10 := by rw [bstr_size]; exact z2
        have s3 : (bstr (nb y.un)).size ≤ 10 := by rw [bstr_size]; exact z3
        have s4 : (bstr (nb y.til)).size ≤ 10 := by rw [bstr_size]; exact z4
        have t1 : (bstr Q ++ bstr (nb ((k : Int) + 1))).size ≤ 11000 := by rw [bsize]; omega
        have t2 : (bstr Q ++ bstr (nb ((k : Int) + 1)) ++ bstr (nb y.st)).size ≤ 12000 := by rw [bsize]; omega
        have t3 : (bstr Q ++ bstr (nb ((k : Int) + 1)) ++ bstr (nb y.st) ++ bstr (nb y.un)).size ≤ 13000 := by rw [bsize]; omega
        clear z1 z2 z3 z4
        refine wp_region_plan (by kernel_rfl) [{ fl := [0, 1, 4, 5, 8, 9, 12, 13], long := [5, 9, 13], ef := 2, keep := [5, 9, 13] }, { fl := [3], ef := 6, keep := [9, 13] }, { fl := [7], ef := 10, keep := [13] }, { fl := [11], ef := 14 }] [15, 16] (by kernel_rfl) (fun _ w9 => w9.heap[Y]? = wa.heap[Y]?) ?_
        simp only [wpPlan, longOK, keepOK, opsAt_cons, opsAt_nil, consO_some, List.getElem?_toArray, List.getElem?_cons_succ, List.getElem?_cons_zero, and_true, true_and]
        refine ⟨⟨rfl, rfl, rfl⟩, ?_⟩
        go_wp2_with fail
        refine ⟨by kernel_rfl, ⟨?_, ?_, ?_⟩, ?_⟩
        · intro _ w9 h9
          obtain ⟨d0, d1, d2⟩ := ych.out w9 h9
          clear h9
          go_simp
        · intro _ w9 h9
          obtain ⟨d0, d1, d2⟩ := ych.out w9 h9
          clear h9
          go_simp
        · intro _ w9 h9
          obtain ⟨d0, d1, d2⟩ := ych.out w9 h9
          clear h9
          go_simp
        go_wp2_with fail
        refine (refInt_any _ ((k : Int) + 1) (by omega) (by omega)).mono ?_
        rintro e wb1 ⟨rfl, hd1⟩
        have hd1 := ((Chg.refl (fun _ => False) wa).drew).trans hd1 (fun _ _ h => h)
        go_wp2_with fail
        refine ⟨⟨hd1.block Y hY.lt id, hd1.block Y hY.lt id, hd1.block Y hY.lt id⟩, ?_⟩
        go_wp2_with fail
        refine ⟨by kernel_rfl, ?_⟩
        go_wp2_with fail
        refine (refInt_any _ y.st (by omega) (by omega)).mono ?_
        rintro e wb2 ⟨rfl, hd2⟩
        have hd2 := hd1.trans hd2 (fun _ _ h => h)
        go_wp2_with fail
        refine ⟨⟨hd2.block Y hY.lt id, hd2.block Y hY.lt id⟩, ?_⟩
        go_wp2_with fail
        refine ⟨by kernel_rfl, ?_⟩
        go_wp2_with fail
        refine (refInt_any _ y.un (by omega) (by omega)).mono ?_
        rintro e wb3 ⟨rfl, hd3⟩
        have hd3 := hd2.trans hd3 (fun _ _ h => h)
        go_wp2_with fail
        refine ⟨hd3.block Y hY.lt id, ?_⟩
        go_wp2_with fail
        refine ⟨by kernel_rfl, ?_⟩
        go_wp2_with fail
        refine (refInt_any _ y.til (by omega) (by omega)).mono ?_
        rintro e wb4 ⟨rfl, hd4⟩
        have hd4 := hd3.trans hd4 (fun _ _ h => h)
        go_wp2_with fail
        refine ⟨by kernel_rfl, ?_⟩
        go_wp2_with fail
        go_roundw
        case rel => exact ⟨k + 1, by omega, by rw [hbs.out, hyh.out, if_neg hsth.out, List.flatMap_append, ← List.append_assoc, hQh.out, List.flatMap_cons, List.flatMap_nil, List.append_nil, hentBh.out]; simp only [bstr_append, List.append_assoc], by go_num, hckA.trans hd4 (fun _ _ h => h)⟩
        case measure => simp [RowKit.intOf]; omega
    · have hk2 : k = 200 := by omega
      subst hk2
      have he : pre ++ (bookN s.en 200).flatMap s.entB = s.bytes := by unfold Stk.bytes; rw [← hpreh.out]; rfl
      rw [he]
      go_wp2_with fail
      go_ret
      exact ⟨rfl, hck⟩
end Go.Proofs.YtkbnojjmpmlgjaaGreat
