/-
  disk: rows of bytes that are appended to; slices.Clone of bytes; Read, Synced, Sync, Remove by their contracts.
-/
import Derived.Test.YtgcmagoecapgoaaDskB
namespace Go.Proofs.Ytgcmagoecapgoaa
open Go.RowKit Go.Maps

theorem infoB : (Try.prog.info? 5).map (fun i => (i.zero, i.size, i.bytes)) = some (some (.int .u8 0), 1, 1) := by kernel_rfl
theorem infoB_parts : ∃ i, Try.prog.info? 5 = some i ∧ i.zero = some (.int .u8 0) ∧ i.size = 1 ∧ i.bytes = 1 := by
  have h := infoB
  cases hi : Try.prog.info? 5 with
  | none => rw [hi] at h; cases h
  | some i =>
    rw [hi] at h
    simp only [Option.map_some, Option.some.injEq, Prod.mk.injEq] at h
    exact ⟨i, rfl, h.1, h.2.1, h.2.2⟩

theorem bcells_one (l : List UInt8) : ∀ u ∈ bcells l, u.oneCell' = true := by
  intro u hu
  unfold bcells at hu
  obtain ⟨b, _, rfl⟩ := List.mem_map.1 hu
  rfl
theorem RowB.bare {w : World} {ao : Option Addr} {off cap rb : Nat} {bs : List UInt8} (h : RowB w ao off cap rb bs) (h0 : cap = 0) : bs = [] := by
  have := h.came.le
  exact List.eq_nil_of_length_eq_zero (by omega)
theorem addr_at (b o j : Nat) : (⟨b, o, none⟩ : Addr).add j = ⟨b, o + j, none⟩ := by
  unfold Addr.add
  split
  · rename_i h0; subst h0; rfl
  · rfl
theorem src_row {w : World} {ao : Option Addr} {off cap rb : Nat} {bs : List UInt8} (h : RowB w ao off cap rb bs) : Src Try.prog 1 22 (.slice ao bs.length cap) bs.length (bcells bs) w := by
  rcases Nat.eq_zero_or_pos cap with h0 | h0
  · have hb := h.bare h0
    subst hb
    cases ao with
    | none => exact Src.ofNil w Try.underlying22 cap
    | some a => exact Src.ofSlice w Try.underlying22 a 0 cap [] rfl (fun j u hj => by simp at hj) (fun u hu => by cases hu)
  · rw [h.came.addr h0]
    refine Src.ofSlice w Try.underlying22 _ _ cap _ (by rw [bcells_len]; simp) (fun j u hj => ?_) (bcells_one bs)
    rw [addr_at]
    exact h.came.olds j u hj

theorem cells_there (w : World) (cs : Array Value) (e : TypeId) (j : Nat) (hj : j < cs.size) : ((w.alloc (.cells cs e)).cell? ⟨w.heap.size, j, none⟩).isSome = true ∧ (w.alloc (.cells cs e)).frozen? ⟨w.heap.size, j, none⟩ = false := by
  have hB := Blk.new w e cs
  refine ⟨?_, hB.frozen j⟩
  rw [hB.cell, Array.getElem?_eq_getElem hj]
  rfl

/-- 'append(b, x...)': whatever x yields. -/
theorem row_append {w : World} {ao : Option Addr} {off cap rb : Nat} {bs : List UInt8} (h : RowB w ao off cap rb bs) (ty : TypeId) (x : Value) (b : List UInt8) (hs : Src Try.prog 1 22 x b.length (bcells b) w) (hl : bs.length + b.length ≤ 1000000000) :
    ∃ ao' off' cap' rb' w', (Builtin.append_ #[22, 22] ty #[.slice ao bs.length cap, x]).run Try.prog w = .ok (.slice ao' (bs ++ b).length cap') w' ∧ RowB w' ao' off' cap' rb' (bs ++ b) ∧
      Chg (fun i => i = rb ∧ 0 < cap) w w' ∧ ((rb' = rb ∧ cap' = cap) ∨ (w.heap.size ≤ rb' ∧ rb' < w'.heap.size)) := by
  obtain ⟨i, hi, hz, h1, h2⟩ := infoB_parts
  have hle := h.came.le
  have hu := Try.underlying22
  have hs' : Src Try.prog i.size 22 x b.length (bcells b) w := by rw [h1]; exact hs
  by_cases hfit : bs.length + b.length ≤ cap
  · rcases Nat.eq_zero_or_pos cap with h0 | h0
    · have hb := h.bare h0
      have hb2 : b = [] := List.eq_nil_of_length_eq_zero (by omega)
      subst hb hb2
      exact ⟨ao, off, cap, rb, w, run_append_nothing (P := Try.prog) w _ _ ty _ i hu hi ao 0 cap (Nat.zero_le _) x hs', h, Chg.refl _ w, .inl ⟨rfl, rfl⟩⟩
    · have hao := h.came.addr h0
      have hlt := h.came.lt h0
      subst hao
      have hsp := fun j (hj : j < b.length) => h.came.spare j (by omega)
      have e1 : ∀ j, off + bs.length * i.size + j = off + bs.length * 1 + j := fun j => by rw [h1]
      have hrun := run_append_room_src (P := Try.prog) w _ _ ty _ i hu hi rb off bs.length cap x b.length _ hs' hfit
        (fun j hj => by rw [e1]; exact (hsp j (by rwa [bcells_len] at hj)).1) (fun j hj => by rw [e1]; exact (hsp j (by rwa [bcells_len] at hj)).2)
      rw [h1] at hrun
      have hk := World.keptBut_setCells rb (may := fun p => p.block = rb) (bcells b) (off + bs.length * 1) w (fun _ _ => rfl)
      have hsz := hk.size
      have hc : Chg (fun i => i = rb ∧ 0 < cap) w (w.setCells rb (off + bs.length * 1) (bcells b)) := by
        refine ⟨hk.1, ?_, hk.2.1, hsz, fun k hk1 hk2 => World.heap_setCells_other w rb _ _ hk1 (fun e => hk2 ⟨e, h0⟩)⟩
        generalize off + bs.length * 1 = o
        generalize bcells b = vs
        clear hrun hk hsz hsp hs hs' hfit e1 hl hle h hlt
        induction vs generalizing o w with
        | nil => rfl
        | cons v vs ih => exact (ih (w := w.setCell ⟨rb, o, none⟩ v) (o + 1)).trans rfl
      refine ⟨_, off, cap, rb, _, by rw [List.length_append]; exact hrun, ⟨⟨by rw [List.length_append]; exact hfit, fun _ => rfl, fun _ => Nat.lt_of_lt_of_le hlt hsz, by rw [bcells_len]; simp, ?_, ?_⟩, h.mx⟩, hc, .inl ⟨rfl, rfl⟩⟩
      · intro j u hj
        rw [bcells_app] at hj
        by_cases hj2 : j < bs.length
        · rw [List.getElem?_append_left (by rw [bcells_len]; exact hj2)] at hj
          rw [World.cell?_setCells_out rb _ _ _ _ (fun _ _ => .inl (by show off + j < _; omega))]
          exact h.came.olds j u hj
        · rw [List.getElem?_append_right (by rw [bcells_len]; omega), bcells_len] at hj
          have hjl := (List.getElem?_eq_some_iff.1 hj).1
          have := World.cell?_setCells_in rb (bcells b) (off + bs.length * 1) w (fun j hj => (hsp j (by rwa [bcells_len] at hj)).1) (j - bs.length) hjl
          rw [show off + bs.length * 1 + (j - bs.length) = off + j by omega] at this
          rw [this, ← List.getElem?_eq_getElem hjl]
          exact hj
      · intro j hj
        rw [List.length_append] at hj ⊢
        have hs1 := h.came.spare (b.length + j) (by omega)
        rw [show off + bs.length * 1 + (b.length + j) = off + (bs.length + b.length) * 1 + j by omega] at hs1
        rw [World.cell?_setCells_out rb _ _ _ _ (fun _ _ => .inr (by show _ ≤ off + (bs.length + b.length) * 1 + j; rw [bcells_len]; omega)), World.frozen?_setCells]
        exact hs1
  · have hold : (Builtin.firstCells i.size bs.length (.slice ao bs.length cap)).run Try.prog w.drew = .ok (bcells bs).toArray w.drew := by
      rcases Nat.eq_zero_or_pos cap with h0 | h0
      · have hb := h.bare h0
        subst hb
        cases ao with
        | none => exact run_firstCells_none _ _ _ _ _
        | some a => exact run_firstCells_some _ _ _ a _ _ [] (by simp) (fun j v hj => by simp at hj)
      · rw [h.came.addr h0]
        refine run_firstCells_some _ _ _ _ _ _ _ (by rw [bcells_len, h1]; simp) (fun j v hj => ?_)
        rw [addr_at]
        exact h.came.olds j v hj
    have hg : cap < bs.length + b.length := by omega
    have hrun := run_append_grow_src (P := Try.prog) w _ _ ty _ i _ hu hi hz ao bs.length cap (bcells bs) hold x b.length _ hs' hg (by omega) (growslice_fits hg (by rw [h2]; omega))
    have hge := grownCap_ge w (bs.length + b.length) cap 5
    have hcm := grownCap_le_maxLen w (bs.length + b.length) cap 5 (by unfold maxLen; omega)
    generalize grownCap w (bs.length + b.length) cap 5 = C at *
    have hsz : ((bcells bs ++ bcells b).toArray ++ Builtin.zeroCells (Value.int .u8 0).cells (C - (bs.length + b.length))).size = C := by
      rw [Array.size_append, List.size_toArray, List.length_append, bcells_len, bcells_len, size_zeroCells]
      show _ + _ * 1 = C
      omega
    have hcell : ∀ j u, (bcells (bs ++ b))[j]? = some u → (w.drew.alloc (.cells ((bcells bs ++ bcells b).toArray ++ Builtin.zeroCells (Value.int .u8 0).cells (C - (bs.length + b.length))) 5)).cell? ⟨w.heap.size, 0 + j, none⟩ = some u := by
      intro j u hj
      have hjl := (List.getElem?_eq_some_iff.1 hj).1
      rw [Nat.zero_add]
      have := (Blk.new w.drew 5 ((bcells bs ++ bcells b).toArray ++ Builtin.zeroCells (Value.int .u8 0).cells (C - (bs.length + b.length)))).cell j
      refine Eq.trans this ?_
      rw [bcells_app] at hj hjl
      rw [Array.getElem?_append_left (by simpa using hjl), List.getElem?_toArray]
      exact hj
    have hthere := fun j hj => cells_there w.drew ((bcells bs ++ bcells b).toArray ++ Builtin.zeroCells (Value.int .u8 0).cells (C - (bs.length + b.length))) 5 j hj
    rw [hsz] at hthere
    refine ⟨_, 0, C, w.heap.size, _, by rw [List.length_append]; exact hrun, ⟨⟨by rw [List.length_append]; exact hge, fun _ => rfl, fun _ => by simp, by rw [bcells_len]; simp, hcell, ?_⟩, hcm⟩, ((Chg.refl _ w).drew).alloc _, .inr ⟨Nat.le_refl _, by simp⟩⟩
    intro j hj
    have := hthere ((bs ++ b).length * 1 + j) (by omega)
    rw [Nat.zero_add]
    exact this
/-- 'append' at the operation. -/
theorem wpList_append_row {w : World} {ops : Array Oper} {rest : List Oper} {o : Oper} {a : Act} {Q : Exit → Act → World → Prop} (hgd : o.guard = none) (s x : Operand)
    (ho : o.op = .call { callee := .builtin .append, args := #[s, x], argTypes := #[22, 22] })
    {ao : Option Addr} {off cap rb : Nat} {bs : List UInt8} (h : RowB w ao off cap rb bs) (hv : a.eval s = .slice ao bs.length cap) (xv : Value) (b : List UInt8) (hx : a.eval x = xv) (hs : Src Try.prog 1 22 xv b.length (bcells b) w)
    (hl : bs.length + b.length ≤ 1000000000)
    (hK : ∀ ao' off' cap' rb' w', RowB w' ao' off' cap' rb' (bs ++ b) → Chg (fun i => i = rb ∧ 0 < cap) w w' → ((rb' = rb ∧ cap' = cap) ∨ (w.heap.size ≤ rb' ∧ rb' < w'.heap.size)) →
      wpList Try.prog ops Q rest (a.put o.dst (.slice ao' (bs ++ b).length cap')) w') : wpList Try.prog ops Q (o :: rest) a w := by
  refine wpList_plain hgd fun K hK' => ?_
  obtain ⟨ao', off', cap', rb', w', hrun, r1, r2, r3⟩ := row_append h o.type xv b hs hl
  unfold Oper.wp
  simp [execOp, ho, resolve, invoke, builtin, hv, hx, hrun, Result.andThen]
  have := hK' _ _ (hK ao' off' cap' rb' w' r1 r2 r3)
  rw [List.length_append] at this
  exact this
end Go.Proofs.Ytgcmagoecapgoaa
