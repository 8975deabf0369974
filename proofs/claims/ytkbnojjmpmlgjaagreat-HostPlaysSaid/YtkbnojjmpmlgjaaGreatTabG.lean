/-
  table: Each, handed a writer's Int.
-/
import Derived.Test.YtkbnojjmpmlgjaaGreatTabP
import Derived.Test.YtkbnojjmpmlgjaaGreatZPackW
namespace Go.Proofs.YtkbnojjmpmlgjaaGreat
open Go.RowKit Go.Maps

theorem flat_lenG {α : Type} {f : α → List UInt8} {c : Nat} : ∀ (l : List α), (∀ b ∈ l, (f b).length ≤ c) → (l.flatMap f).length ≤ l.length * c
  | [], _ => by simp
  | b :: l, h => by
    rw [List.flatMap_cons, List.length_append, List.length_cons, Nat.succ_mul]
    have h1 := h b (List.mem_cons_self ..)
    have h2 := flat_lenG l (fun x hx => h x (List.mem_cons_of_mem _ hx))
    omega
theorem flat_takeG {α : Type} {f : α → List UInt8} {l : List α} {k : Nat} {b : α} (h : l[k]? = some b) : (l.take (k + 1)).flatMap f = (l.take k).flatMap f ++ f b := by
  rw [List.take_add_one, h, Option.toList_some, List.flatMap_append]
  simp

/-- The bytes of an answer, of all answers. -/
def entT (f : Tab) (p : Int × Int) : List UInt8 := nb p.1 ++ nb p.2 ++ nb (f p)
def tabB (f : Tab) : List UInt8 := nb (tkeys f).length ++ (tkeys f).flatMap (entT f)

theorem TabAt.look0 {w w1 : World} {t mt : Nat} {f : Tab} (h : TabAt w t mt f) (hw : w1.heap[mt]? = w.heap[mt]?) (b k : Int) (hb : isI b) (hk : isI k) :
    (Instr.lookup 86 (.map (some mt)) (.agg #[.int .i64 b, .int .i64 k]) false).run Tryz.prog w1 = .ok (.int .i64 (f (b, k))) w1 := by
  have h := (h.map.keep hw).look law2 encP_inj (tabMap_keys h.keys) (e := 3) (t := 86) Tryz.underlying86 (z := .int .i64 0) (by kernel_rfl) (a := (b, k)) (keyP hb hk) false
  rw [show encP (b, k) = .agg #[.int .i64 b, .int .i64 k] from rfl] at h
  rw [h]
  unfold tabMap
  by_cases e : f (b, k) = 0
  · simp [e]
  · simp [e]

set_option maxRecDepth 100000 in
set_option maxHeartbeats 2000000 in
theorem each_any {w : World} {t mt g B : Nat} {f : Tab} {P : Nat → Prop} {xs : List UInt8} (hT : TabAt w t mt f) (hA : Ans f) (hW : Wr w g B P xs) (hPt : P t) (hPm : P mt) (hP : ∀ i, P i → i < w.heap.size) (hB : B ≤ w.heap.size) (hlen : xs.length ≤ 100000) :
    Calls Tryz.prog 32 #[.pointer (some ⟨t, 0, none⟩), .func (.func 31) #[.pointer (some ⟨g, 0, none⟩)] #[]] w fun e w' =>
      e = .returned (.tuple #[]) ∧ Wr w' g B P (xs ++ (tkeys f).flatMap (entT f)) ∧ Chg (fun i => B ≤ i ∧ ¬ P i) w w' := by
  have hkl := tkeys_len f
  go_enter Tryz.func32, Tryz.ntmps32
  go_wp2_with fail
  refine (keys_any hT).mono ?_
  rintro e w3 ⟨ad, cap, rfl, hK, hfr, hc3⟩
  have hT3 := hT.chg hc3 id id
  have hz3 := hc3.size
  obtain ⟨Q, hQP, hQa, hQ3, hW3⟩ : ∃ Q : Nat → Prop, (∀ i, P i → Q i) ∧ (∀ a, ad = some a → Q a.block) ∧ (∀ i, Q i → i < w3.heap.size) ∧ Wr w3 g B Q xs := by
    refine ⟨fun i => P i ∨ (∃ a, ad = some a ∧ a.block = i), fun i h => .inl h, fun a ha => .inr ⟨a, ha, rfl⟩, ?_, (hW.mono ?_).keep hc3⟩
    · rintro i (h | ⟨a, ha, rfl⟩)
      · have := hP i h; omega
      · exact (hfr a ha).2
    · rintro i (h | ⟨a, ha, rfl⟩)
      · exact .inl h
      · exact .inr (hfr a ha).1
  clear hW hT hfr
  go_wp2_with fail
  go_loopw [9] (fun v9 wr => ∃ k : Nat, v9 = .int .i64 k ∧ k ≤ (tkeys f).length ∧ Wr wr g B Q (xs ++ ((tkeys f).take k).flatMap (entT f)) ∧ Chg (fun i => B ≤ i ∧ ¬ Q i) w3 wr) (fun v9 _ => 2000 - (RowKit.intOf v9).toNat)
  case atStart => exact ⟨0, rfl, Nat.zero_le _, by simpa using hW3, Chg.refl _ _⟩
  case round =>
    clear hW3
    obtain ⟨k, rfl, hk, hW, hck⟩ := hrel
    by_cases hkl2 : k < (tkeys f).length
    · obtain ⟨⟨b, d⟩, hx⟩ : ∃ p, (tkeys f)[k]? = some p := ⟨_, List.getElem?_eq_getElem hkl2⟩
      have hne := (tkeys_ne hT3.keys (b, d)).1 (List.mem_of_getElem? hx)
      obtain ⟨⟨hb1, hb2⟩, hd1, hd2⟩ := hT3.keys _ hne
      simp only at hb1 hb2 hd1 hd2
      obtain ⟨G, rfl, k0, k1⟩ := hK k _ hx
      have hGQ := hQa _ rfl
      have hGz := hQ3 _ hGQ
      have k0 : wr.cell? ⟨G, k * 2, none⟩ = some (.int .i64 b) := (World.cell?_of_block (a := ⟨G, k * 2, none⟩) (hck.block G hGz (fun h => h.2 hGQ))).trans k0
      have k1 : wr.cell? ⟨G, k * 2 + 1, none⟩ = some (.int .i64 d) := (World.cell?_of_block (a := ⟨G, k * 2 + 1, none⟩) (hck.block G hGz (fun h => h.2 hGQ))).trans k1
      obtain ⟨a, ha⟩ : ∃ a, f (b, d) = a := ⟨_, rfl⟩
      have ha12 : 1 ≤ a ∧ a ≤ 2 := by have := hA (b, d); omega
      have hent : entT f (b, d) = nb b ++ nb d ++ nb a := by unfold entT; rw [ha]
      have hft := (flat_takeG (f := entT f) hx).trans (by rw [hent])
      have hl1 := nb_len (v := b) (by omega)
      have hl2 := nb_len (v := d) (by omega)
      have hl3 := nb_len (v := a) (by omega)
      have hfl := flat_lenG (f := entT f) (c := 40) ((tkeys f).take k) (fun p hp => by
        have hp := hT3.keys p ((tkeys_ne hT3.keys p).1 (List.mem_of_mem_take hp))
        have hap := hA p
        have h1 := nb_len (v := p.1) (by omega)
        have h2 := nb_len (v := p.2) (by omega)
        have h3 := nb_len (v := f p) (by omega)
        unfold entT
        simp only [List.length_append]
        omega)
      have htl : ((tkeys f).take k).length ≤ k := List.length_take_le _ _
      have hpl : (xs ++ ((tkeys f).take k).flatMap (entT f)).length ≤ 200000 := by simp only [List.length_append]; omega
      have hTr := hT3.chg hck (fun h => h.2 (hQP _ hPt)) (fun h => h.2 (hQP _ hPm))
      have hzr := hck.size
      obtain ⟨pre, hpre⟩ : ∃ pre, pre = xs ++ ((tkeys f).take k).flatMap (entT f) := ⟨_, rfl⟩
      rw [← hpre] at hW hpl
      have hpreh := Lib.hid hpre
      have hfth := Lib.hid hft
      have hah := Lib.hid ha
      clear hpre hft hent ha hfl hx hne
      have hcB : Chg (fun _ => False) wr (wr.alloc (.cells #[.int .i64 b, .int .i64 d] 100)) := (Chg.refl _ wr).alloc _
      have hE := Blk.new wr 100 #[.int .i64 b, .int .i64 d]
      have hWa := (hW.mono (Q := fun i => Q i ∨ i = wr.heap.size) (fun i hi => hi.imp id (fun h => by omega))).keep hcB
      have hQa : ∀ i, (Q i ∨ i = wr.heap.size) → i < (wr.alloc (.cells #[.int .i64 b, .int .i64 d] 100)).heap.size := by
        rw [alloc_size]
        rintro i (h | rfl)
        · have := hQ3 i h; omega
        · omega
      go_wp2_with fail
      generalize wr.alloc (.cells #[.int .i64 b, .int .i64 d] 100) = wa at *
      have hca : Chg (fun i => B ≤ i ∧ ¬ Q i) wr wa := hcB.mono (fun _ _ h => h.elim)
      generalize hEe : wr.heap.size = E at *
      clear hcB k0 k1 hW
      refine (hWa.int hQa (by have := hca.size; omega) b (by omega) (by omega) (by omega)).mono ?_
      rintro e w4 ⟨rfl, hW4, hd4⟩
      have hE4 := hE.chg hd4 (fun h => h.2 (.inr rfl))
      have hc4 : Chg (fun i => B ≤ i ∧ ¬ Q i) wr w4 := hca.trans hd4 (fun i _ h => ⟨h.1, fun hp => h.2 (.inl hp)⟩)
      have hQ4 : ∀ i, (Q i ∨ i = E) → i < w4.heap.size := fun i hi => Nat.lt_of_lt_of_le (hQa i hi) hd4.size
      have e1 : w4.cell? ⟨E, 1, none⟩ = some (.int .i64 d) := by rw [hE4.cell]; rfl
      clear hd4 hE hWa hQa hca
      go_wp2_with fail
      clear e1
      refine (hW4.int hQ4 (by have := hc4.size; omega) d (by omega) (by omega) (by simp only [List.length_append]; omega)).mono ?_
      rintro e w5 ⟨rfl, hW5, hd5⟩
      have hE5 := hE4.chg hd5 (fun h => h.2 (.inr rfl))
      have hc5 : Chg (fun i => B ≤ i ∧ ¬ Q i) wr w5 := hc4.trans hd5 (fun i _ h => ⟨h.1, fun hp => h.2 (.inl hp)⟩)
      have hQ5 : ∀ i, (Q i ∨ i = E) → i < w5.heap.size := fun i hi => Nat.lt_of_lt_of_le (hQ4 i hi) hd5.size
      have hT5 := hTr.chg hc5 (fun h => h.2 (hQP _ hPt)) (fun h => h.2 (hQP _ hPm))
      have e0 : w5.cell? ⟨E, 0, none⟩ = some (.int .i64 b) := by rw [hE5.cell]; rfl
      have e1 : w5.cell? ⟨E, 1, none⟩ = some (.int .i64 d) := by rw [hE5.cell]; rfl
      have t0 : w5.cell? ⟨t, 0, none⟩ = some (.map (some mt)) := by rw [hT5.blk.cell]; rfl
      have hlk := fun w9 h9 => hT5.look0 (w1 := w9) h9 b d ⟨by omega, by omega⟩ ⟨by omega, by omega⟩
      rw [hah.out] at hlk
      have hlkh := Lib.hid hlk
      have l0 := hlk w5.drew rfl
      clear hd5 hE4 hW4 hQ4 hc4 hTr hlk
      go_wp2_with fail
      refine wp_region_plan (by kernel_rfl) [{ fl := [0, 1, 2, 3, 4, 5, 6, 7], long := [7], ef := 8 }] [] (by kernel_rfl) (fun _ w9 => w9.heap[mt]? = w5.heap[mt]?) ?_
      simp only [wpPlan, longOK, keepOK, opsAt_cons, opsAt_nil, consO_some, List.getElem?_toArray, List.getElem?_cons_succ, List.getElem?_cons_zero, and_true, true_and]
      refine ⟨rfl, ?_⟩
      go_wp2_with fail
      refine ⟨by kernel_rfl, ?_, ?_⟩
      · intro _ w9 h9
        have l9 := hlkh.out w9 h9
        clear h9
        go_simp
      go_wp2_with fail
      clear e0 e1 t0 l0
      refine ((hW5.keep ((Chg.refl (fun _ => False) w5).drew)).int hQ5 (by have := hc5.size; show B ≤ w5.heap.size; omega) a (by omega) (by omega) (by simp only [List.length_append]; omega)).mono ?_
      rintro e w6 ⟨rfl, hW6, hd6⟩
      have hc6 : Chg (fun i => B ≤ i ∧ ¬ Q i) wr w6 := hc5.drew.trans hd6 (fun i _ h => ⟨h.1, fun hp => h.2 (.inl hp)⟩)
      go_wp2_with fail
      refine ⟨by kernel_rfl, ?_⟩
      go_wp2_with fail
      go_roundw
      case rel => exact ⟨k + 1, by go_num, by omega, by
        rw [hfth.out, ← List.append_assoc, ← hpreh.out]
        simpa [List.append_assoc] using hW6.mono (Q := Q) (fun i hi => .inl (.inl hi)), hck.trans hc6 (fun _ _ h => h)⟩
      case measure => simp [RowKit.intOf]; omega
    · have hke : k = (tkeys f).length := by omega
      subst hke
      rw [List.take_length] at hW
      go_wp2_with fail
      go_end0
      exact ⟨rfl, hW.mono (fun i hi => .inl (hQP i hi)), (hc3.mono (fun _ _ h => h.elim)).trans (hck.mono (fun i _ h => ⟨h.1, fun hp => h.2 (hQP i hp)⟩)) (fun _ _ h => h)⟩
end Go.Proofs.YtkbnojjmpmlgjaaGreat
