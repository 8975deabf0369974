/-
  the log: Open by its contract.
-/
import Derived.Test.YtpbjompopgdbjaaZSealA
import Derived.Test.YtpbjompopgdbjaaSealM
namespace Go.Proofs.Ytpbjompopgdbjaa
open Go.RowKit Go.Maps

theorem DiskX.put {P S : Nat → Prop} {w w' : World} {d : Nat} {D : Dsk} (h : DiskX P w d D) (hc : Chg S w w') (hS : ∀ i, S i → P i) : DiskX P w' d D := by
  obtain ⟨S0, ⟨md, pl, hD⟩, hP⟩ := h
  exact ⟨S0, ⟨md, pl, hD.chg hc (fun i h0 h1 => (hP i (hS i h1)).1 h0)⟩, fun i hi => ⟨(hP i hi).1, Nat.lt_of_lt_of_le (hP i hi).2 hc.size⟩⟩

theorem sread_any {P : Nat → Prop} {w : World} {d : Nat} {D : Dsk} (h : DiskX P w d D) (n : Nam) (hn : n.length ≤ maxLen) (o : Kept) (ho : o.ok) {t : List UInt8} (hF : File (bsF (D.fl n)) o.rows t) (hlen : (bsF (D.fl n)).length ≤ 1000000) :
    Calls Try.prog 32 #[.pointer (some ⟨d, 0, none⟩), encStr n] w fun e w' => ∃ ad c, e = .returned (.tuple #[.agg #[.int .i64 o.told, .slice ad o.st.length c], .int .i64 ((flat o.rows).length : Nat)]) ∧ RowsIn w' (fun i => w.heap.size ≤ i) ad o.st ∧ o.st.length ≤ c ∧ DiskX P w' d D ∧ Chg (fun _ => False) w w' := by
  cases o with
  | none =>
    refine (sread_none h n hn hF hlen).mono ?_
    rintro e w' ⟨rfl, hD, hc⟩
    exact ⟨none, 0, rfl, RowsIn.nil _ _ _, Nat.le_refl _, hD, hc⟩
  | some p =>
    obtain ⟨a, l⟩ := p
    obtain ⟨h0, h1⟩ := ho a l rfl
    exact sread_some h n hn h0 h1 hF hlen

theorem lo_cases (so lo : Kept) : (((flat lo.rows).length = 0 ∨ lo.told = so.age) ∧ logRecs so lo = lo.st ∧ logEnd so lo = (flat lo.rows).length) ∨ (((flat lo.rows).length ≠ 0 ∧ lo.told ≠ so.age) ∧ logRecs so lo = [] ∧ logEnd so lo = 0) := by
  cases lo with
  | none => exact .inl ⟨.inl rfl, rfl, rfl⟩
  | some p =>
    obtain ⟨a, l⟩ := p
    by_cases h : a = so.age
    · refine .inl ⟨.inr h, ?_, ?_⟩
      · show (if a = so.age then l else []) = l
        rw [if_pos h]
      · show (if a = so.age then (flat (nb a :: l)).length else 0) = _
        rw [if_pos h]
        rfl
    · refine .inr ⟨⟨?_, h⟩, ?_, ?_⟩
      · show (flat (nb a :: l)).length ≠ 0
        rw [flat_cons, List.length_append, frm_len]
        omega
      · show (if a = so.age then l else []) = []
        rw [if_neg h]
      · show (if a = so.age then (flat (nb a :: l)).length else 0) = 0
        rw [if_neg h]

/-- A log in memory. -/
def LogAt (w : World) (g d : Nat) (age : Int) (n : Nat) : Prop := Blk w g 76 #[.pointer (some ⟨d, 0, none⟩), .int .i64 age, .int .i64 n]

set_option maxRecDepth 100000 in
set_option maxHeartbeats 1000000 in
theorem open_any {P : Nat → Prop} {w : World} {d : Nat} {D : Dsk} (h : DiskX P w d D) (so lo : Kept) (hso : so.ok) (hlo : lo.ok) {ts tl : List UInt8} (hS : File (bsF (D.fl nSnap)) so.rows ts) (hL : File (bsF (D.fl nLog)) lo.rows tl) :
    Calls Try.prog 9 #[.pointer (some ⟨d, 0, none⟩)] w fun e w' => ∃ g ad1 c1 ad2 c2, e = .returned (.tuple #[.pointer (some ⟨g, 0, none⟩), .slice ad1 so.st.length c1, .slice ad2 (logRecs so lo).length c2, .int .i64 0]) ∧
      ∃ B : Nat → Prop, (∀ i, B i → ¬ P i ∧ w.heap.size ≤ i ∧ i < w'.heap.size) ∧ B g ∧ LogAt w' g d so.age (logRecs so lo).length ∧ RowsIn w' (fun i => B i ∧ i ≠ g) ad1 so.st ∧ RowsIn w' (fun i => B i ∧ i ≠ g) ad2 (logRecs so lo) ∧ DiskX (fun i => P i ∨ B i) w' d (D.opened so lo) ∧ Chg (fun i => ¬ P i) w w' := by
  have hG := h.good
  have hfit := hG.fit
  have hrm := hG.rm
  have hll : (bsF (D.fl nLog)).length ≤ 1000000 := by have := Dsk.len_le hG nLog; rw [lenF_bs]; omega
  have hsl : (bsF (D.fl nSnap)).length ≤ 1000000 := by have := Dsk.len_le hG nSnap; rw [lenF_bs]; omega
  have hPlt := h.lt
  obtain ⟨D1, hD1e⟩ : ∃ D1, (D.remove nNext).2 = D1 := ⟨_, rfl⟩
  have e1 : D1.fl nSnap = D.fl nSnap := by rw [← hD1e]; exact remove_ne D (by decide)
  have e2 : D1.fl nLog = D.fl nLog := by rw [← hD1e]; exact remove_ne D (by decide)
  have hop : D.opened so lo = (D1.cut nLog (logEnd so lo : Nat)).2 := by rw [← hD1e]; rfl
  rw [← e1] at hS hsl
  rw [← e2] at hL hll
  have hmx := max_told so hso
  have Hmx := Lib.hid hmx
  have HS := Lib.hid hS
  have HL := Lib.hid hL
  have Hop := Lib.hid hop
  have HD1 := Lib.hid hD1e
  clear e1 e2 hmx hS hL hop hD1e hfit
  go_enter Try.func9, Try.ntmps9
  go_wp2_with fail
  refine (x_remove h nNext (by decide)).mono ?_
  rw [HD1.out]
  rintro e w1 ⟨rfl, hD1, hc1⟩
  have hz1 := hc1.size
  go_wp2_with fail
  refine (sread_any hD1 nSnap (by decide) so hso HS.out hsl).mono ?_
  rintro e w2 ⟨ad1, c1, rfl, hr1, hrc1, hD2, hc2⟩
  obtain ⟨n1, hn1⟩ : ∃ n1, so.st.length = n1 := ⟨_, rfl⟩
  have Hn1 := Lib.hid hn1
  rw [hn1] at hrc1 ⊢
  clear hn1
  obtain ⟨k, hk⟩ : ∃ k, w2.heap.size = k := ⟨_, rfl⟩
  go_wp2_with fail
  rw [Hmx.out]
  have hK3 : Blk ((w2.alloc (.cells #[.int .i64 so.told, .slice ad1 n1 c1] 72)).alloc (.cells #[.pointer (some ⟨d, 0, none⟩), .int .i64 so.age, .int .i64 0] 76)) k 72 #[.int .i64 so.told, .slice ad1 n1 c1] := by
    have := (Blk.new w2 72 #[.int .i64 so.told, .slice ad1 n1 c1]).alloc (.cells #[.pointer (some ⟨d, 0, none⟩), .int .i64 so.age, .int .i64 0] 76)
    rw [hk] at this
    exact this
  have hG3 : Blk ((w2.alloc (.cells #[.int .i64 so.told, .slice ad1 n1 c1] 72)).alloc (.cells #[.pointer (some ⟨d, 0, none⟩), .int .i64 so.age, .int .i64 0] 76)) (k + 1) 76 #[.pointer (some ⟨d, 0, none⟩), .int .i64 so.age, .int .i64 0] := by
    have := Blk.new (w2.alloc (.cells #[.int .i64 so.told, .slice ad1 n1 c1] 72)) 76 #[.pointer (some ⟨d, 0, none⟩), .int .i64 so.age, .int .i64 0]
    rw [size_al, hk] at this
    exact this
  have hcA : Chg (fun _ => False) w2 ((w2.alloc (.cells #[.int .i64 so.told, .slice ad1 n1 c1] 72)).alloc (.cells #[.pointer (some ⟨d, 0, none⟩), .int .i64 so.age, .int .i64 0] 76)) := ((Chg.refl _ w2).alloc _).alloc _
  have hkw : w1.heap.size ≤ k := by rw [← hk]; exact hc2.size
  generalize (w2.alloc (.cells #[.int .i64 so.told, .slice ad1 n1 c1] 72)).alloc (.cells #[.pointer (some ⟨d, 0, none⟩), .int .i64 so.age, .int .i64 0] 76) = w3 at *
  have hc13 := hc2.trans hcA (fun _ _ h => h)
  have hr3 := (hr1.mono (C := fun i => w1.heap.size ≤ i ∧ i < k) (fun i h1 h2 => ⟨h1, by omega⟩)).chg hcA (fun _ _ => id)
  have hD3 := hD2.keep hcA
  clear hk hc2 hcA hr1 hD2
  refine (sread_any hD3 nLog (by decide) lo hlo HL.out hll).mono ?_
  rintro e w4 ⟨ad2, c2, rfl, hr2, hrc2, hD4, hc34⟩
  have hc14 := hc13.trans hc34 (fun _ _ h => h)
  have hr4 := hr3.chg hc34 (fun _ _ => id)
  have hK4 := hK3.chg hc34 id
  have hG4 := hG3.chg hc34 id
  have hr24 := hr2.mono (C := fun i => k + 1 < i) (fun i h1 _ => Nat.lt_of_lt_of_le hG3.lt h1)
  obtain ⟨n2, hn2⟩ : ∃ n2, lo.st.length = n2 := ⟨_, rfl⟩
  have Hn2 := Lib.hid hn2
  obtain ⟨fe, hfe⟩ : ∃ fe, (flat lo.rows).length = fe := ⟨_, rfl⟩
  have Hfe := Lib.hid hfe
  rw [hn2] at hrc2 ⊢
  rw [hfe]
  clear hn2 hfe hc13 hc34 hr3 hK3 hG3 hr2 hD3
  have hM5 := Blk.new w4 72 #[.int .i64 lo.told, .slice ad2 n2 c2]
  have hcB : Chg (fun _ => False) w4 (w4.alloc (.cells #[.int .i64 lo.told, .slice ad2 n2 c2] 72)) := (Chg.refl _ w4).alloc _
  have hG5 := hG4.chg hcB id
  have hK5 := hK4.chg hcB id
  have hr5 := hr4.chg hcB (fun _ _ => id)
  have hr25 := hr24.chg hcB (fun _ _ => id)
  have hc15 := hc14.trans hcB (fun _ _ h => h)
  obtain ⟨m, hm⟩ : ∃ m, w4.heap.size = m := ⟨_, rfl⟩
  have hmz : m < (w4.alloc (.cells #[.int .i64 lo.told, .slice ad2 n2 c2] 72)).heap.size := by rw [size_al, hm]; omega
  have hmk : k + 1 < m := by rw [← hm]; exact hG4.lt
  -- CASES
  go_wp2_with fail
  rw [hm] at hM5
  generalize w4.alloc (.cells #[.int .i64 lo.told, .slice ad2 n2 c2] 72) = w5 at *
  have hd : Chg (fun _ => False) w5 w5.drew := (Chg.refl _ w5).drew
  have hM6 := hM5.chg hd id
  have hG6 := hG5.chg hd id
  have hK6 := hK5.chg hd id
  have hr6 := hr5.chg hd (fun _ _ => id)
  have hr26 := hr25.chg hd (fun _ _ => id)
  have hc16 := hc15.trans hd (fun _ _ h => h)
  have hmz6 : m < w5.drew.heap.size := hmz
  refine wp_region_plan (by kernel_rfl) [] [0, 1, 2, 3, 4, 5, 6, 7, 8, 9, 10] (by kernel_rfl) (fun _ _ => True) ?_
  simp only [wpPlan, longOK, keepOK, opsAt_cons, opsAt_nil, consO_some, List.getElem?_toArray, List.getElem?_cons_succ, List.getElem?_cons_zero, and_true, true_and]
  generalize w5.drew = w6 at *
  clear hd hM5 hG5 hK5 hr5 hr25 hc15 hm hG4 hK4 hr4 hr24 hc14 hcB hD4
  have t0 : w6.cell? ⟨m, 0, none⟩ = some (.int .i64 lo.told) := hM6.cell 0
  have t1 : w6.cell? ⟨k + 1, 1, none⟩ = some (.int .i64 so.age) := hG6.cell 1
  obtain ⟨z, hz⟩ : ∃ z, w6.heap.size = z := ⟨_, rfl⟩
  have hD6 : DiskX (fun i => P i ∨ (w1.heap.size ≤ i ∧ i < w6.heap.size)) w6 d D1 := hD1.more hc16 (fun i hi => hi)
  have hcw6 := hc1.trans hc16 (fun _ _ h => h.elim)
  have hr26 := hr26.mono (C := fun i => k + 1 < i ∧ i < w6.heap.size) (fun i h1 h2 => ⟨h1, h2⟩)
  rw [hz] at hD6 hr26 hmz6
  have hz6 : z ≤ w6.heap.size := by omega
  clear hz
  rcases lo_cases so lo with ⟨q1, q2, q3⟩ | ⟨q1, q2, q3⟩
  · by_cases hfe0 : 0 < (fe : Int)
    · have hb : (lo.told != so.age) = false := by
        rcases q1 with q1 | q1
        · rw [Hfe.out] at q1; omega
        · rw [q1]; simp
      clear q1
      go_wp2_with fail
      refine ⟨by kernel_rfl, ?_⟩
      go_wp2_with fail
      refine (x_cut hD6 nLog (by decide) (fe : Int)).mono ?_
      rintro e w7 ⟨rfl, hD7, hc7⟩
      have hG7 := hG6.chg hc7 (fun hs => hs (.inr (by omega)))
      have hK7 := hK6.chg hc7 (fun hs => hs (.inr (by omega)))
      have hM7 := hM6.chg hc7 (fun hs => hs (.inr (by omega)))
      have hr7 := hr6.chg hc7 (fun i hB hs => hs (.inr (by omega)))
      have hr27 : RowsIn w7 (fun i => k + 1 < i ∧ i < z) ad2 lo.st := hr26.chg hc7 (fun i hB hs => hs (.inr (by omega)))
      have hcw7 := hcw6.trans hc7 (fun i _ hs hp => hs (.inl hp))
      have hz7 := Nat.le_trans hz6 hc7.size
      clear hc7 hD6 hr6 hr26 hG6 hK6 hM6 hcw6
      have t2 : w7.cell? ⟨m, 1, none⟩ = some (.slice ad2 n2 c2) := hM7.cell 1
      have t3 : w7.cell? ⟨k + 1, 2, none⟩ = some (.int .i64 0) := hG7.cell 2
      have t4 := hG7.frozen 2
      go_wp2_with fail
      have hG8 := hG7.set 2 (.int .i64 n2)
      have hK8 := hK7.far (p := ⟨k + 1, 2, none⟩) (by show k ≠ k + 1; omega) (.int .i64 n2)
      have hM8 := hM7.far (p := ⟨k + 1, 2, none⟩) (by show m ≠ k + 1; omega) (.int .i64 n2)
      have hc8 : Chg (fun i => i = k + 1) w7 (w7.setCell ⟨k + 1, 2, none⟩ (.int .i64 n2)) := (Chg.refl (fun i => i = k + 1) w7).setCell (p := ⟨k + 1, 2, none⟩) (.inl rfl) (.int .i64 n2)
      have hc8 := hc8.drew
      have hG8 : Blk _ (k + 1) _ _ := hG8.chg ((Chg.refl (fun _ => False) _).drew) id
      have hK8 : Blk _ k _ _ := hK8.chg ((Chg.refl (fun _ => False) _).drew) id
      have hM8 : Blk _ m _ _ := hM8.chg ((Chg.refl (fun _ => False) _).drew) id
      have hz8 := Nat.le_trans hz7 hc8.size
      refine wp_region_plan (by kernel_rfl) [] [0, 1, 2, 3, 4, 5, 6, 7, 8] (by kernel_rfl) (fun _ _ => True) ?_
      simp only [wpPlan, longOK, keepOK, opsAt_cons, opsAt_nil, consO_some, List.getElem?_toArray, List.getElem?_cons_succ, List.getElem?_cons_zero, and_true, true_and]
      generalize (w7.setCell ⟨k + 1, 2, none⟩ (.int .i64 n2)).drew = w8 at *
      have u0 : w8.cell? ⟨k, 1, none⟩ = some (.slice ad1 n1 c1) := hK8.cell 1
      have u1 : w8.cell? ⟨m, 1, none⟩ = some (.slice ad2 n2 c2) := hM8.cell 1
      have hD8 := hD7.put hc8 (fun i hi => .inr (by omega))
      have hr8 := hr7.chg hc8 (fun i hB e => by omega)
      have hr28 := hr27.chg hc8 (fun i hB e => by omega)
      have hcw8 := hcw7.trans hc8 (fun i _ e hp => by have := hPlt i hp; omega)
      go_wp2_with fail
      refine ⟨by kernel_rfl, ?_⟩
      go_wp2_with fail
      refine bodyPost_ret (v := .tuple #[.pointer (some ⟨k + 1, 0, none⟩), .slice ad1 n1 c1, .slice ad2 n2 c2, .int .i64 0]) (by simp [results, Try.results9, go_sem]) rfl ⟨k + 1, ad1, c1, ad2, c2, by rw [Hn1.out, q2, Hn2.out], fun i => w1.heap.size ≤ i ∧ i < z, fun i hB => ⟨fun hp => by have := hPlt i hp; omega, by omega, by omega⟩, by show w1.heap.size ≤ k + 1 ∧ k + 1 < z; omega, ?_, hr8.mono (fun i hB _ => by omega), ?_, ?_, hcw8⟩
      · rw [q2, Hn2.out]
        exact hG8
      · rw [q2]
        exact hr28.mono (fun i hB _ => by omega)
      · rw [Hop.out, q3, Hfe.out]
        exact hD8
    · have hfb : decide (0 < (fe : Int)) = false := decide_eq_false hfe0
      clear q1
      go_wp2_with fail
      refine ⟨by kernel_rfl, ?_⟩
      go_wp2_with fail
      refine (x_cut hD6 nLog (by decide) (fe : Int)).mono ?_
      rintro e w7 ⟨rfl, hD7, hc7⟩
      have hG7 := hG6.chg hc7 (fun hs => hs (.inr (by omega)))
      have hK7 := hK6.chg hc7 (fun hs => hs (.inr (by omega)))
      have hM7 := hM6.chg hc7 (fun hs => hs (.inr (by omega)))
      have hr7 := hr6.chg hc7 (fun i hB hs => hs (.inr (by omega)))
      have hr27 : RowsIn w7 (fun i => k + 1 < i ∧ i < z) ad2 lo.st := hr26.chg hc7 (fun i hB hs => hs (.inr (by omega)))
      have hcw7 := hcw6.trans hc7 (fun i _ hs hp => hs (.inl hp))
      have hz7 := Nat.le_trans hz6 hc7.size
      clear hc7 hD6 hr6 hr26 hG6 hK6 hM6 hcw6
      have t2 : w7.cell? ⟨m, 1, none⟩ = some (.slice ad2 n2 c2) := hM7.cell 1
      have t3 : w7.cell? ⟨k + 1, 2, none⟩ = some (.int .i64 0) := hG7.cell 2
      have t4 := hG7.frozen 2
      go_wp2_with fail
      have hG8 := hG7.set 2 (.int .i64 n2)
      have hK8 := hK7.far (p := ⟨k + 1, 2, none⟩) (by show k ≠ k + 1; omega) (.int .i64 n2)
      have hM8 := hM7.far (p := ⟨k + 1, 2, none⟩) (by show m ≠ k + 1; omega) (.int .i64 n2)
      have hc8 : Chg (fun i => i = k + 1) w7 (w7.setCell ⟨k + 1, 2, none⟩ (.int .i64 n2)) := (Chg.refl (fun i => i = k + 1) w7).setCell (p := ⟨k + 1, 2, none⟩) (.inl rfl) (.int .i64 n2)
      have hc8 := hc8.drew
      have hG8 : Blk _ (k + 1) _ _ := hG8.chg ((Chg.refl (fun _ => False) _).drew) id
      have hK8 : Blk _ k _ _ := hK8.chg ((Chg.refl (fun _ => False) _).drew) id
      have hM8 : Blk _ m _ _ := hM8.chg ((Chg.refl (fun _ => False) _).drew) id
      have hz8 := Nat.le_trans hz7 hc8.size
      refine wp_region_plan (by kernel_rfl) [] [0, 1, 2, 3, 4, 5, 6, 7, 8] (by kernel_rfl) (fun _ _ => True) ?_
      simp only [wpPlan, longOK, keepOK, opsAt_cons, opsAt_nil, consO_some, List.getElem?_toArray, List.getElem?_cons_succ, List.getElem?_cons_zero, and_true, true_and]
      generalize (w7.setCell ⟨k + 1, 2, none⟩ (.int .i64 n2)).drew = w8 at *
      have u0 : w8.cell? ⟨k, 1, none⟩ = some (.slice ad1 n1 c1) := hK8.cell 1
      have u1 : w8.cell? ⟨m, 1, none⟩ = some (.slice ad2 n2 c2) := hM8.cell 1
      have hD8 := hD7.put hc8 (fun i hi => .inr (by omega))
      have hr8 := hr7.chg hc8 (fun i hB e => by omega)
      have hr28 := hr27.chg hc8 (fun i hB e => by omega)
      have hcw8 := hcw7.trans hc8 (fun i _ e hp => by have := hPlt i hp; omega)
      go_wp2_with fail
      refine ⟨by kernel_rfl, ?_⟩
      go_wp2_with fail
      refine bodyPost_ret (v := .tuple #[.pointer (some ⟨k + 1, 0, none⟩), .slice ad1 n1 c1, .slice ad2 n2 c2, .int .i64 0]) (by simp [results, Try.results9, go_sem]) rfl ⟨k + 1, ad1, c1, ad2, c2, by rw [Hn1.out, q2, Hn2.out], fun i => w1.heap.size ≤ i ∧ i < z, fun i hB => ⟨fun hp => by have := hPlt i hp; omega, by omega, by omega⟩, by show w1.heap.size ≤ k + 1 ∧ k + 1 < z; omega, ?_, hr8.mono (fun i hB _ => by omega), ?_, ?_, hcw8⟩
      · rw [q2, Hn2.out]
        exact hG8
      · rw [q2]
        exact hr28.mono (fun i hB _ => by omega)
      · rw [Hop.out, q3, Hfe.out]
        exact hD8
  · have hfe0 : 0 < (fe : Int) := by have := q1.1; rw [Hfe.out] at this; omega
    have hb : (lo.told != so.age) = true := by rw [bne_iff_ne]; exact q1.2
    have t5 : w6.cell? ⟨m, 1, none⟩ = some (.slice ad2 n2 c2) := hM6.cell 1
    have t6 := hM6.frozen 1
    clear q1
    go_wp2_with fail
    refine ⟨by kernel_rfl, ?_⟩
    go_wp2_with fail
    have hM6 := hM6.set 1 (.slice none 0 0)
    have hG6 := hG6.far (p := ⟨m, 1, none⟩) (by show k + 1 ≠ m; omega) (.slice none 0 0)
    have hK6 := hK6.far (p := ⟨m, 1, none⟩) (by show k ≠ m; omega) (.slice none 0 0)
    have hcm : Chg (fun i => i = m) w6 (w6.setCell ⟨m, 1, none⟩ (.slice none 0 0)) := (Chg.refl (fun i => i = m) w6).setCell (p := ⟨m, 1, none⟩) (.inl rfl) _
    have hD6 := hD6.put hcm (fun i hi => .inr (by omega))
    have hr6 := hr6.chg hcm (fun i hB e => by omega)
    have hz6 := Nat.le_trans hz6 hcm.size
    have hcw6 := hcw6.trans hcm (fun i _ e hp => by have := hPlt i hp; omega)
    clear hr26 hcm
    generalize w6.setCell ⟨m, 1, none⟩ (.slice none 0 0) = w6 at *
    refine (x_cut hD6 nLog (by decide) (0 : Int)).mono ?_
    rintro e w7 ⟨rfl, hD7, hc7⟩
    have hG7 := hG6.chg hc7 (fun hs => hs (.inr (by omega)))
    have hK7 := hK6.chg hc7 (fun hs => hs (.inr (by omega)))
    have hM7 := hM6.chg hc7 (fun hs => hs (.inr (by omega)))
    have hr7 := hr6.chg hc7 (fun i hB hs => hs (.inr (by omega)))
    have hr27 : RowsIn w7 (fun i => k + 1 < i ∧ i < z) none [] := RowsIn.nil _ _ _
    have hcw7 := hcw6.trans hc7 (fun i _ hs hp => hs (.inl hp))
    have hz7 := Nat.le_trans hz6 hc7.size
    clear hc7 hD6 hr6 hG6 hK6 hM6 hcw6
    have t2 : w7.cell? ⟨m, 1, none⟩ = some (.slice none 0 0) := hM7.cell 1
    have t3 : w7.cell? ⟨k + 1, 2, none⟩ = some (.int .i64 0) := hG7.cell 2
    have t4 := hG7.frozen 2
    go_wp2_with fail
    have hG8 := hG7.set 2 (.int .i64 0)
    have hK8 := hK7.far (p := ⟨k + 1, 2, none⟩) (by show k ≠ k + 1; omega) (.int .i64 0)
    have hM8 := hM7.far (p := ⟨k + 1, 2, none⟩) (by show m ≠ k + 1; omega) (.int .i64 0)
    have hc8 : Chg (fun i => i = k + 1) w7 (w7.setCell ⟨k + 1, 2, none⟩ (.int .i64 0)) := (Chg.refl (fun i => i = k + 1) w7).setCell (p := ⟨k + 1, 2, none⟩) (.inl rfl) (.int .i64 0)
    have hc8 := hc8.drew
    have hG8 : Blk _ (k + 1) _ _ := hG8.chg ((Chg.refl (fun _ => False) _).drew) id
    have hK8 : Blk _ k _ _ := hK8.chg ((Chg.refl (fun _ => False) _).drew) id
    have hM8 : Blk _ m _ _ := hM8.chg ((Chg.refl (fun _ => False) _).drew) id
    have hz8 := Nat.le_trans hz7 hc8.size
    refine wp_region_plan (by kernel_rfl) [] [0, 1, 2, 3, 4, 5, 6, 7, 8] (by kernel_rfl) (fun _ _ => True) ?_
    simp only [wpPlan, longOK, keepOK, opsAt_cons, opsAt_nil, consO_some, List.getElem?_toArray, List.getElem?_cons_succ, List.getElem?_cons_zero, and_true, true_and]
    generalize (w7.setCell ⟨k + 1, 2, none⟩ (.int .i64 0)).drew = w8 at *
    have u0 : w8.cell? ⟨k, 1, none⟩ = some (.slice ad1 n1 c1) := hK8.cell 1
    have u1 : w8.cell? ⟨m, 1, none⟩ = some (.slice none 0 0) := hM8.cell 1
    have hD8 := hD7.put hc8 (fun i hi => .inr (by omega))
    have hr8 := hr7.chg hc8 (fun i hB e => by omega)
    have hr28 := hr27.chg hc8 (fun i hB e => by omega)
    have hcw8 := hcw7.trans hc8 (fun i _ e hp => by have := hPlt i hp; omega)
    go_wp2_with fail
    refine ⟨by kernel_rfl, ?_⟩
    go_wp2_with fail
    refine bodyPost_ret (v := .tuple #[.pointer (some ⟨k + 1, 0, none⟩), .slice ad1 n1 c1, .slice none 0 0, .int .i64 0]) (by simp [results, Try.results9, go_sem]) rfl ⟨k + 1, ad1, c1, none, 0, by rw [Hn1.out, q2]; rfl, fun i => w1.heap.size ≤ i ∧ i < z, fun i hB => ⟨fun hp => by have := hPlt i hp; omega, by omega, by omega⟩, by show w1.heap.size ≤ k + 1 ∧ k + 1 < z; omega, ?_, hr8.mono (fun i hB _ => by omega), ?_, ?_, hcw8⟩
    · rw [q2]
      exact hG8
    · rw [q2]
      exact hr28.mono (fun i hB _ => by omega)
    · rw [Hop.out, q3]
      exact hD8
end Go.Proofs.Ytpbjompopgdbjaa
