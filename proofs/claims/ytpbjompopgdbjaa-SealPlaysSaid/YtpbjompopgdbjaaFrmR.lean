/-
  frame: Read by its contract; slices of rows of bytes.
-/
import Derived.Test.YtpbjompopgdbjaaZFrmA
import Derived.Maps.AppendAt
import Derived.LoopTactic
namespace Go.Proofs.Ytpbjompopgdbjaa
open Go.RowKit Go.Maps

/-- A row of bytes, as a value: its block from base on. -/
def RowV (w : World) (base : Nat) (u : Value) (b : List UInt8) (rb : Nat) : Prop := ∃ ao off cap, u = .slice ao b.length cap ∧ RowB w ao off cap rb b ∧ base ≤ rb ∧ rb < w.heap.size
theorem RowV.chg {w w' : World} {base : Nat} {u : Value} {b : List UInt8} {rb : Nat} (h : RowV w base u b rb) {S : Nat → Prop} (hc : Chg S w w') (hS : ¬ S rb) : RowV w' base u b rb := by
  obtain ⟨ao, off, cap, rfl, hR, hb1, hb2⟩ := h
  exact ⟨ao, off, cap, rfl, hR.keep hc.size (fun _ => hc.block rb hb2 hS), hb1, Nat.lt_of_lt_of_le hb2 hc.size⟩
theorem RowV.bd {w : World} {base : Nat} {u : Value} {b : List UInt8} {rb : Nat} (h : RowV w base u b rb) : base ≤ rb ∧ rb < w.heap.size := by
  obtain ⟨_, _, _, _, _, h1⟩ := h
  exact h1
/-- A slice of rows that is being filled: its own block and the rows' blocks from base on. -/
def RowsO (w : World) (base : Nat) (v : Value) (l : List (List UInt8)) : Prop :=
  ∃ vs : List Value, w.ownsRow base 31 1 v l.length vs ∧ ∀ (i : Nat) (b : List UInt8), l[i]? = some b → ∃ u rb, vs[i]? = some u ∧ RowV w base u b rb ∧ v.ownBlock ≠ some rb
theorem RowsO.nil (w : World) (base : Nat) : RowsO w base (.slice none 0 0) [] := ⟨[], ⟨by simp, .inl ⟨rfl, rfl⟩⟩, fun i b hi => by simp at hi⟩
theorem RowsO.chg {w w' : World} {base : Nat} {v : Value} {l : List (List UInt8)} (h : RowsO w base v l) {S : Nat → Prop} (hc : Chg S w w') (hS : ∀ i, base ≤ i → i < w.heap.size → ¬ S i) : RowsO w' base v l := by
  obtain ⟨vs, ho, hr⟩ := h
  refine ⟨vs, own_chg ho hc (fun k hk => ?_), fun i b hi => ?_⟩
  · rcases ho.2 with ⟨rfl, _⟩ | ⟨g, cap, cur, rfl, hb, hh, _⟩
    · simp [Value.ownBlock] at hk
    · simp [Value.ownBlock] at hk
      subst hk
      exact hS _ hb (Array.getElem?_eq_some_iff.1 hh).1
  · obtain ⟨u, rb, h1, h2, h3⟩ := hr i b hi
    exact ⟨u, rb, h1, h2.chg hc (hS _ h2.bd.1 h2.bd.2), h3⟩

theorem RowsO.low {w : World} {base b' : Nat} {v : Value} {l : List (List UInt8)} (h : RowsO w base v l) (hb : b' ≤ base) : RowsO w b' v l := by
  obtain ⟨vs, ho, hr⟩ := h
  refine ⟨vs, ⟨ho.1, ho.2.imp id (fun ⟨g, cap, cur, e1, e2, e3⟩ => ⟨g, cap, cur, e1, Nat.le_trans hb e2, e3⟩)⟩, fun i b hi => ?_⟩
  obtain ⟨u, rb, h1, ⟨ao, off, cap, e, hR, hb1, hb2⟩, h3⟩ := hr i b hi
  exact ⟨u, rb, h1, ⟨ao, off, cap, e, hR, Nat.le_trans hb hb1, hb2⟩, h3⟩
theorem own_lt {w : World} {base : Nat} {e : TypeId} {size n : Nat} {v : Value} {xs : List Value} (h : w.ownsRow base e size v n xs) (k : Nat) (hk : v.ownBlock = some k) : k < w.heap.size := by
  rcases h.2 with ⟨rfl, _⟩ | ⟨g', c', cur, rfl, _, hh, _⟩
  · simp [Value.ownBlock] at hk
  · simp [Value.ownBlock] at hk
    subst hk
    exact (Array.getElem?_eq_some_iff.1 hh).1
theorem infoR : (Try.prog.info? 31).map (fun i => (i.zero, i.size, i.bytes)) = some (some (.slice none 0 0), 1, 24) := by kernel_rfl
theorem infoR_parts : ∃ i, Try.prog.info? 31 = some i ∧ i.zero = some (.slice none 0 0) ∧ i.size = 1 ∧ i.bytes = 24 := by
  have h := infoR
  cases hi : Try.prog.info? 31 with
  | none => rw [hi] at h; cases h
  | some i =>
    rw [hi] at h
    simp only [Option.map_some, Option.some.injEq, Prod.mk.injEq] at h
    exact ⟨i, rfl, h.1, h.2.1, h.2.2⟩

/-- 'append(out, x)' of a row. -/
theorem wpList_append_rowv {w : World} {ops : Array Oper} {rest : List Oper} {o : Oper} {a : Act} {Q : Exit → Act → World → Prop} (hgd : o.guard = none) (s x : Operand)
    (ho : o.op = .call { callee := .builtin .append, args := #[s, x], argTypes := #[27, 27] })
    {base : Nat} {v : Value} {l : List (List UInt8)} (h : RowsO w base v l) (hv : a.eval s = v) {u : Value} {b : List UInt8} {rb g : Nat} (hx : a.eval x = .slice (some ⟨g, 0, none⟩) 1 1) (hcell : w.cell? ⟨g, 0, none⟩ = some u) (hu : RowV w base u b rb)
    (hne : v.ownBlock ≠ some rb) (hbase : base ≤ w.heap.size) (hl : l.length ≤ 1000000)
    (hK : ∀ v' w', RowsO w' base v' (l ++ [b]) → Chg (fun i => v.ownBlock = some i) w w' → (∃ ad cap, v' = .slice (some ad) (l.length + 1) cap) → (v'.ownBlock = v.ownBlock ∨ v'.ownBlock = some w.heap.size) → wpList Try.prog ops Q rest (a.put o.dst v') w') : wpList Try.prog ops Q (o :: rest) a w := by
  obtain ⟨vs, hown, hr⟩ := h
  obtain ⟨i, hi, hz, h1, h2⟩ := infoR_parts
  have hub := hu.bd
  obtain ⟨ao, off, cap, hue, _⟩ := id hu
  refine wpList_append_own_at _ hgd s x 27 ho base 31 i _ 1 24 Try.underlying27 hi hz h1 h2 rfl (by decide) v l.length vs hv hown ⟨g, 0, none⟩ 1 1 [u] hx rfl ?_ ?_ (by unfold maxLen; omega) (by omega) hbase ?_
  · intro j y hj
    match j, hj with
    | 0, hj =>
      simp at hj
      subst hj
      simpa [Addr.add] using hcell
    | j + 1, hj => simp at hj
  · intro y hy
    simp at hy
    subst hy
    rw [hue]
    rfl
  · intro v' w' hown' hgr _ hloc
    have hc := own_grown hgr
    have hvl : vs.length = l.length := by rw [hown.1]; omega
    have hv' : ∃ ad cap, v' = .slice (some ad) (l.length + 1) cap := by
      rcases hown'.2 with ⟨_, h0⟩ | ⟨g, cap, _, rfl, _⟩
      · omega
      · exact ⟨_, cap, rfl⟩
    have key : ∀ rb, v.ownBlock ≠ some rb → rb < w.heap.size → v'.ownBlock ≠ some rb := fun rb h0 hlt => by
      rcases hloc with e | e
      · rw [e]; exact h0
      · rw [e]; intro h3; injection h3; omega
    refine hK v' w' ⟨vs ++ [u], by rw [List.length_append]; exact hown', fun j c hj => ?_⟩ hc hv' hloc
    by_cases hjl : j < l.length
    · rw [List.getElem?_append_left hjl] at hj
      obtain ⟨u', rb', e1, e2, e3⟩ := hr j c hj
      exact ⟨u', rb', by rw [List.getElem?_append_left (by omega)]; exact e1, e2.chg hc e3, key rb' e3 e2.bd.2⟩
    · have hje : j = l.length := by
        have := (List.getElem?_eq_some_iff.1 hj).1
        simp at this
        omega
      subst hje
      rw [List.getElem?_append_right (Nat.le_refl _), Nat.sub_self] at hj
      simp at hj
      subst hj
      exact ⟨u, rb, by rw [List.getElem?_append_right (by omega), hvl, Nat.sub_self]; rfl, hu.chg hc hne, key rb hne hub.2⟩

set_option maxRecDepth 100000 in
set_option maxHeartbeats 1000000 in
theorem next_no {w : World} {B A O c : Nat} {ad : Option Addr} {l pre t : List UInt8} (hB : Blk w B 31 #[.slice ad l.length c]) (hA : Blk w A 3 #[.int .i64 pre.length])
    (h : BytIn w ad l) (hc : l.length ≤ c) (hcm : c ≤ maxLen) (hl : l = pre ++ t) (ht : torn t) (hlen : l.length ≤ 1000000) :
    Calls Try.prog 64 #[.pointer (some ⟨B, 0, none⟩), .pointer (some ⟨A, 0, none⟩), .pointer (some ⟨O, 0, none⟩)] w fun e w' => e = .returned (.bool false) ∧ Chg (fun _ => False) w w' := by
  have cB : w.cell? ⟨B, 0, none⟩ = some (.slice ad l.length c) := by rw [hB.cell]; rfl
  have cA : w.cell? ⟨A, 0, none⟩ = some (.int .i64 pre.length) := by rw [hA.cell]; rfl
  have Hl := Lib.hid hl
  clear hl
  go_enter Try.func64, Try.ntmps64
  go_wp2_with fail
  refine (one_no h c hc hcm Hl.out ht hlen).mono ?_
  rintro e w1 ⟨rfl, hc1⟩
  go_wp2_with fail
  go_ret
  exact ⟨rfl, hc1⟩

set_option maxRecDepth 100000 in
set_option maxHeartbeats 1000000 in
theorem next_yes {w : World} {base B A O c : Nat} {ad : Option Addr} {v : Value} {rows : List (List UInt8)} {l pre x post : List UInt8} (hB : Blk w B 31 #[.slice ad l.length c]) (hA : Blk w A 3 #[.int .i64 pre.length]) (hO : Blk w O 27 #[v])
    (hv : RowsO w base v rows) (hBb : B < base) (hAb : A < base) (hOb : O < base) (hbase : base ≤ w.heap.size) (hrl : rows.length ≤ 1000000)
    (h : BytIn w ad l) (hc : l.length ≤ c) (hcm : c ≤ maxLen) (hl : l = pre ++ (frm x ++ post)) (hx : okR x) (hlen : l.length ≤ 1000000) :
    Calls Try.prog 64 #[.pointer (some ⟨B, 0, none⟩), .pointer (some ⟨A, 0, none⟩), .pointer (some ⟨O, 0, none⟩)] w fun e w' => e = .returned (.bool true) ∧
      ∃ v', Blk w' A 3 #[.int .i64 ((pre ++ frm x).length : Nat)] ∧ Blk w' O 27 #[v'] ∧ RowsO w' base v' (rows ++ [x]) ∧ Chg (fun i => i = A ∨ i = O ∨ base ≤ i) w w' := by
  have cB : w.cell? ⟨B, 0, none⟩ = some (.slice ad l.length c) := by rw [hB.cell]; rfl
  have cA : w.cell? ⟨A, 0, none⟩ = some (.int .i64 pre.length) := by rw [hA.cell]; rfl
  have hAO : A ≠ O := hA.ne hO (by decide)
  have Hl := Lib.hid hl
  clear hl
  go_enter Try.func64, Try.ntmps64
  go_wp2_with fail
  refine (one_yes h c hc hcm Hl.out hx hlen).mono ?_
  rintro e w1 ⟨ao, off, cap, rb, rfl, hR, hc1, hrb1, hrb2⟩
  have hz1 := hc1.size
  have hU1 : RowV w1 base (.slice ao x.length cap) x rb := ⟨ao, off, cap, rfl, hR, by omega, hrb2⟩
  have hAl : Chg (fun _ => False) w1 (w1.alloc (.cells #[.slice ao x.length cap] 31)) := (Chg.refl _ w1).alloc _
  have hO1 := hO.chg hc1 id
  have hA1 := hA.chg hc1 id
  have hv1 := hv.chg hc1 (fun _ _ _ => id)
  have hv2 := hv1.chg hAl (fun _ _ _ => id)
  have hU2 := hU1.chg hAl id
  have hA2 := hA1.alloc (.cells #[.slice ao x.length cap] 31)
  have hO2 := hO1.alloc (.cells #[.slice ao x.length cap] 31)
  have hne : v.ownBlock ≠ some rb := by
    obtain ⟨vs, ho, _⟩ := hv
    intro hk
    have := own_lt ho _ hk
    omega
  have hvO : v.ownBlock ≠ some O := by
    obtain ⟨vs, ho, _⟩ := hv1
    exact own_ne ho hO1 (by decide)
  have hvA : v.ownBlock ≠ some A := by
    obtain ⟨vs, ho, _⟩ := hv1
    exact own_ne ho hA1 (by decide)
  have hvb : ∀ k, v.ownBlock = some k → base ≤ k := by
    obtain ⟨vs, ho, _⟩ := hv
    intro k hk
    rcases ho.2 with ⟨rfl, _⟩ | ⟨g, cap, cur, rfl, hb, _⟩
    · simp [Value.ownBlock] at hk
    · simp [Value.ownBlock] at hk
      omega
  have cO : w1.cell? ⟨O, 0, none⟩ = some v := by rw [hO1.cell]; rfl
  have cN : (w1.alloc (.cells #[.slice ao x.length cap] 31)).cell? ⟨w1.heap.size, 0, none⟩ = some (.slice ao x.length cap) := by rw [(Blk.new w1 _ _).cell]; rfl
  have hcA := hc1.trans hAl (fun _ _ h => h)
  have Hv := Lib.hid hv2
  have HU := Lib.hid hU2
  clear hv1 hv2 hU1 hU2 hAl hR hv
  go_wp2_with (at_builtin; go_loud (refine wpList_append_rowv rfl _ _ rfl (by exact Hv.out) rfl rfl (by exact cN) (by exact HU.out) hne (by simp; omega) hrl ?_; intro v' w5 hv5 hc5 hvv hloc; obtain ⟨ad5, cp5, rfl⟩ := hvv; have hO5 := hO2.chg hc5 hvO; have hA5 := hA2.chg hc5 hvA; have c5 : w5.cell? ⟨O, 0, none⟩ = some v := (hO5.cell 0); have f5 := hO5.frozen 0; have d5 : w5.cell? ⟨A, 0, none⟩ = some (.int .i64 pre.length) := (hA5.cell 0); have e5 := hA5.frozen 0; clear cB cA cO cN))
  obtain ⟨V, hV⟩ : ∃ V, Value.slice (some ad5) (rows.length + 1) cp5 = V := ⟨_, rfl⟩
  rw [hV] at hv5 ⊢
  have hcO : Chg (fun i => i = O ∨ i = A) w5 (w5.setCell ⟨O, 0, none⟩ V) := (Chg.refl (fun i => i = O ∨ i = A) w5).setCell (p := ⟨O, 0, none⟩) (.inl (.inl rfl)) V
  have hcOA := hcO.setCell (p := ⟨A, 0, none⟩) (.inl (.inr rfl)) (.int .i64 ((pre.length : Int) + 6 + x.length))
  have hA7 := ((hA5.far (p := ⟨O, 0, none⟩) hAO V).set 0 (.int .i64 ((pre.length : Int) + 6 + x.length)))
  have hO7 := ((hO5.set 0 V).far (p := ⟨A, 0, none⟩) (Ne.symm hAO) (.int .i64 ((pre.length : Int) + 6 + x.length)))
  have hv7 := hv5.chg hcOA (fun i hi _ hs => by omega)
  have hc5' : Chg (fun i => v.ownBlock = some i) _ w5 := hc5
  have hc7 := ((hcA.mono (fun _ _ h => h.elim) : Chg (fun i => i = A ∨ i = O ∨ base ≤ i) w _).trans hc5' (fun i _ hk => .inr (.inr (hvb i hk)))).trans hcOA (fun i _ h => by omega)
  go_ret
  refine ⟨rfl, V, ?_, hO7, hv7, hc7⟩
  have e : (((pre ++ frm x).length : Nat) : Int) = (pre.length : Int) + 6 + x.length := by rw [List.length_append, frm_len]; omega
  rw [e]
  exact hA7

theorem flat_split {rows : List (List UInt8)} {k : Nat} {x : List UInt8} (h : rows[k]? = some x) : flat rows = flat (rows.take k) ++ (frm x ++ flat (rows.drop (k + 1))) ∧ rows.take (k + 1) = rows.take k ++ [x] ∧ flat (rows.take (k + 1)) = flat (rows.take k) ++ frm x := by
  have hlt := (List.getElem?_eq_some_iff.1 h).1
  have e : rows.take (k + 1) = rows.take k ++ [x] := by rw [List.take_add_one, h]; rfl
  have e2 : flat (rows.take (k + 1)) = flat (rows.take k) ++ frm x := by rw [e, flat_app, flat_one]
  refine ⟨?_, e, e2⟩
  rw [← List.append_assoc, ← e2, ← flat_app, List.take_append_drop]
theorem flat_len_le : ∀ l : List (List UInt8), l.length ≤ (flat l).length
  | [] => Nat.le_refl _
  | b :: l => by
    have := flat_len_le l
    rw [flat_cons, List.length_append, frm_len, List.length_cons]
    omega

set_option maxRecDepth 100000 in
set_option maxHeartbeats 1000000 in
theorem fread_any {w : World} {ad : Option Addr} {l t : List UInt8} {rows : List (List UInt8)} (h : BytIn w ad l) (c : Nat) (hc : l.length ≤ c) (hcm : c ≤ maxLen) (hF : File l rows t) (hlen : l.length ≤ 1000000) :
    Calls Try.prog 51 #[.slice ad l.length c] w fun e w' => ∃ v, e = .returned (.tuple #[v, .int .i64 ((flat rows).length : Nat)]) ∧ RowsO w' w.heap.size v rows ∧ Chg (fun _ => False) w w' := by
  have hfl : (flat rows).length ≤ l.length := by rw [hF.eq, List.length_append]; omega
  have hrl := flat_len_le rows
  have HF := Lib.hid hF
  clear hF
  go_enter Try.func51, Try.ntmps51
  go_wp2_with fail
  have hB3 : Blk (((w.alloc (.cells #[.slice ad l.length c] 31)).alloc (.cells #[.slice none 0 0] 27)).alloc (.cells #[.int .i64 0] 3)) w.heap.size 31 #[.slice ad l.length c] := ((Blk.new w _ _).alloc _).alloc _
  have hO3 : Blk (((w.alloc (.cells #[.slice ad l.length c] 31)).alloc (.cells #[.slice none 0 0] 27)).alloc (.cells #[.int .i64 0] 3)) (w.heap.size + 1) 27 #[.slice none 0 0] := by
    have := (Blk.new (w.alloc (.cells #[.slice ad l.length c] 31)) 27 #[.slice none 0 0]).alloc (.cells #[.int .i64 0] 3)
    rw [size_al] at this
    exact this
  have hA3 : Blk (((w.alloc (.cells #[.slice ad l.length c] 31)).alloc (.cells #[.slice none 0 0] 27)).alloc (.cells #[.int .i64 0] 3)) (w.heap.size + 1 + 1) 3 #[.int .i64 0] := by
    have := Blk.new ((w.alloc (.cells #[.slice ad l.length c] 31)).alloc (.cells #[.slice none 0 0] 27)) 3 #[.int .i64 0]
    rw [size_al, size_al] at this
    exact this
  have hc3 : Chg (fun _ => False) w (((w.alloc (.cells #[.slice ad l.length c] 31)).alloc (.cells #[.slice none 0 0] 27)).alloc (.cells #[.int .i64 0] 3)) := (((Chg.refl _ w).alloc _).alloc _).alloc _
  have hz3 : (((w.alloc (.cells #[.slice ad l.length c] 31)).alloc (.cells #[.slice none 0 0] 27)).alloc (.cells #[.int .i64 0] 3)).heap.size = w.heap.size + 3 := by rw [size_al, size_al, size_al]
  generalize (((w.alloc (.cells #[.slice ad l.length c] 31)).alloc (.cells #[.slice none 0 0] 27)).alloc (.cells #[.int .i64 0] 3)) = w3 at *
  obtain ⟨n, hn⟩ : ∃ n, w.heap.size = n := ⟨_, rfl⟩
  rw [hn] at hB3 hO3 hA3 hz3 ⊢
  have hz3 : n + 3 ≤ w3.heap.size := by omega
  have Hn := Lib.hid hn
  clear hn
  go_loopw [9] (fun _ wr => ∃ (k : Nat) (v : Value), k ≤ rows.length ∧ Blk wr n 31 #[.slice ad l.length c] ∧ Blk wr (n + 1 + 1) 3 #[.int .i64 ((flat (rows.take k)).length : Nat)] ∧ Blk wr (n + 1) 27 #[v] ∧ RowsO wr (n + 3) v (rows.take k) ∧ n + 3 ≤ wr.heap.size ∧ Chg (fun _ => False) w wr)
    (fun _ wr => 2000000 - (match wr.cell? ⟨n + 1 + 1, 0, none⟩ with | some v => (RowKit.intOf v).toNat | none => 0))
  case atStart => exact ⟨0, .slice none 0 0, Nat.zero_le _, hB3, hA3, hO3, RowsO.nil _ _, hz3, hc3⟩
  case round =>
    obtain ⟨k, v, hk, hB, hA, hO, hv, hz, hcr⟩ := hrel
    have hbr := h.chg hcr (fun _ _ => id)
    have hcell : wr.cell? ⟨n + 1 + 1, 0, none⟩ = some (.int .i64 ((flat (rows.take k)).length : Nat)) := by rw [hA.cell]; rfl
    have Hcell := Lib.hid hcell
    clear hcell
    by_cases hkl : k < rows.length
    · obtain ⟨x, hx⟩ : ∃ x, rows[k]? = some x := ⟨_, List.getElem?_eq_getElem hkl⟩
      obtain ⟨e1, e2, e3⟩ := flat_split hx
      have hxo := HF.out.ok x (List.mem_of_getElem? hx)
      have hl : l = flat (rows.take k) ++ (frm x ++ (flat (rows.drop (k + 1)) ++ t)) := by
        rw [HF.out.eq, e1]
        simp only [List.append_assoc]
      have Hl := Lib.hid hl
      have He := Lib.hid (And.intro e2 e3)
      have hle : (flat (rows.take (k + 1))).length ≤ 1000000 := by
        have := congrArg List.length hl
        rw [e3]
        simp only [List.length_append] at this ⊢
        omega
      have hgr : (flat (rows.take k)).length + 6 < (flat (rows.take (k + 1))).length := by
        have := hxo.1
        rw [e3, List.length_append, frm_len]
        omega
      clear hl e1 e2 e3 hx
      go_wp2_with fail
      refine (next_yes hB hA hO hv (by omega) (by omega) (by omega) hz (by rw [List.length_take]; omega) hbr hc hcm Hl.out hxo hlen).mono ?_
      rintro e w5 ⟨rfl, v', hA5, hO5, hv5, hc5⟩
      have hB5 := hB.chg hc5 (fun hs => by omega)
      have hz5 := hc5.size
      rw [← He.out.1] at hv5
      rw [← He.out.2] at hA5
      have hcr5 : Chg (fun _ => False) w w5 := (hcr.mono (fun _ _ h => h.elim) : Chg (fun i => ¬ i < n) w wr).trans hc5 (fun i _ hs => by omega) |>.mono (fun i hi hs => by rw [Hn.out] at hi; exact hs hi)
      have hcell5 : w5.cell? ⟨n + 1 + 1, 0, none⟩ = some (.int .i64 ((flat (rows.take (k + 1))).length : Nat)) := by rw [hA5.cell]; rfl
      have Hcell5 := Lib.hid hcell5
      clear hcell5
      go_wp2_with fail
      go_roundw
      case rel => exact ⟨k + 1, v', by omega, hB5, hA5, hO5, hv5, by omega, hcr5⟩
      case measure => rw [Hcell.out, Hcell5.out]; simp only [RowKit.intOf, Int.toNat_natCast]; omega
    · have hke : k = rows.length := by omega
      subst hke
      rw [List.take_length] at *
      go_wp2_with fail
      refine (next_no (O := n + 1) hB hA hbr hc hcm HF.out.eq HF.out.tr hlen).mono ?_
      rintro e w5 ⟨rfl, hc5⟩
      have hcr5 := (hcr.trans hc5 (fun _ _ h => h)).drew
      have hv5 := (hv.chg hc5 (fun _ _ _ => id)).chg ((Chg.refl (fun _ => False) w5).drew) (fun _ _ _ => id)
      have cA : w5.drew.cell? ⟨n + 1 + 1, 0, none⟩ = some (.int .i64 ((flat rows).length : Nat)) := by rw [((hA.chg hc5 id).chg ((Chg.refl (fun _ => False) w5).drew) id).cell]; rfl
      have cO : w5.drew.cell? ⟨n + 1, 0, none⟩ = some v := by rw [((hO.chg hc5 id).chg ((Chg.refl (fun _ => False) w5).drew) id).cell]; rfl
      go_wp2_with fail
      refine wp_region_plan (by kernel_rfl) [] [0, 1, 2, 3] (by kernel_rfl) (fun _ _ => True) ?_
      simp only [wpPlan, longOK, keepOK, opsAt_cons, opsAt_nil, consO_some, List.getElem?_toArray, List.getElem?_cons_succ, List.getElem?_cons_zero, and_true, true_and]
      generalize w5.drew = w6 at *
      go_wp2_with fail
      refine ⟨by kernel_rfl, ?_⟩
      go_wp2_with fail
      go_ret2
      exact ⟨v, rfl, hv5.low (by rw [Hn.out]; omega), hcr5⟩
end Go.Proofs.Ytpbjompopgdbjaa
