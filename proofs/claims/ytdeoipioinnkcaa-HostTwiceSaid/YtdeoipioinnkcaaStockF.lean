/-
  stock: Sweep by its contract.
-/
import Derived.Test.YtdeoipioinnkcaaStockE
import Derived.Test.YtdeoipioinnkcaaInts
import Derived.LoopTactic
import Derived.WalkSpells
namespace Go.Proofs.Ytdeoipioinnkcaa
open Go.RowKit Go.Maps

/-- What a sweep does, booking by booking. -/
def Stk.swp (now : Int) (acc : List Int × Stk) (b : Int) : List Int × Stk := if (acc.2.en b).st = 1 ∧ (acc.2.en b).til ≤ now then (acc.1 ++ [b], acc.2.gone b) else acc
def Stk.sweepL (s : Stk) (now : Int) (l : List Int) : List Int × Stk := l.foldl (Stk.swp now) ([], s)
def Stk.sweep (s : Stk) (now : Int) : List Int × Stk := if now < 0 ∨ 1099511627776 < now then ([], s) else s.sweepL now (bookings s.en)
theorem sweepL_take (s : Stk) (now : Int) (l : List Int) (k : Nat) (b : Int) (h : l[k]? = some b) : Stk.swp now (s.sweepL now (l.take k)) b = s.sweepL now (l.take (k + 1)) := by
  rw [List.take_add_one, h, Option.toList_some]
  unfold Stk.sweepL
  rw [List.foldl_append]
  rfl
theorem sweepL_good {s : Stk} (hG : s.Good) (now : Int) : ∀ (l : List Int), (∀ b ∈ l, 1 ≤ b ∧ b ≤ 200) → ∀ acc : List Int × Stk, acc.2.Good → (l.foldl (Stk.swp now) acc).2.Good
  | [], _, acc, h => h
  | b :: l, hl, acc, h => by
    rw [List.foldl_cons]
    refine sweepL_good hG now l (fun x hx => hl x (List.mem_cons_of_mem _ hx)) _ ?_
    unfold Stk.swp
    split
    · exact h.gone (hl b (List.mem_cons_self ..))
    · exact h
theorem sweepL_len (now : Int) : ∀ (l : List Int) (acc : List Int × Stk), (l.foldl (Stk.swp now) acc).1.length ≤ acc.1.length + l.length
  | [], acc => Nat.le_refl _
  | b :: l, acc => by
    rw [List.foldl_cons]
    refine Nat.le_trans (sweepL_len now l _) ?_
    unfold Stk.swp
    split <;> simp <;> omega

theorem infoInt : (Try.prog.info? 3).map (fun i => (i.zero, i.size, i.bytes)) = some (some (.int .i64 0), 1, 8) := by kernel_rfl

theorem own_cells_i {w : World} {base : Nat} {e : TypeId} {size n g cap : Nat} {xs : List Value} (h : w.ownsRow base e size (.slice (some ⟨g, 0, none⟩) n cap) n xs) :
    ∀ j u, xs[j]? = some u → w.cell? ((⟨g, 0, none⟩ : Addr).add j) = some u := by
  rcases h.2 with ⟨h, _⟩ | ⟨g', cap', cur, h, _, hh, _, _, _, ht⟩
  · cases h
  · injection h with h1 _ _
    injection h1 with h1; injection h1 with h1
    subst h1
    intro j u hj
    rw [← ht, List.getElem?_take] at hj
    split at hj
    · have hc := cell_of_row w g j cur e (0, 0) hh
      have he : (⟨g, 0, none⟩ : Addr).add j = ⟨g, j, none⟩ := by unfold Addr.add; split <;> simp_all
      rw [he, hc, ← hj]; simp
    · cases hj

set_option maxRecDepth 100000 in
set_option maxHeartbeats 4000000 in
theorem sweep_yes {w : World} {b mb : Nat} {s : Stk} (h : StkAt w b mb s) (hG : s.Good) (now : Int) (hn0 : 0 ≤ now) (hn1 : now ≤ 1099511627776) :
    Calls Try.prog 33 #[.pointer (some ⟨b, 0, none⟩), .int .i64 now] w fun e w' => ∃ v, e = .returned v ∧
      w'.ownsRow w.heap.size 3 1 v (s.sweepL now (bookings s.en)).1.length ((s.sweepL now (bookings s.en)).1.map encI) ∧ StkAt w' b mb (s.sweepL now (bookings s.en)).2 ∧ Chg (fun i => i = b ∨ i = mb) w w' := by
  have c3 : w.cell? ⟨b, 3, none⟩ = some (.map (some mb)) := by rw [h.blk.cell]; rfl
  have hbl := bookings_len s.en
  have hbm : ∀ x ∈ bookings s.en, 1 ≤ x ∧ x ≤ 200 := fun x hx => h.keys x ((bookings_mem s.en h.keys x).1 hx)
  go_enter Try.func33, Try.ntmps33
  go_wp2_with fail
  refine (rising_any h.map h.keys).mono ?_
  rintro e w1 ⟨v1, rfl, hrow, hb1⟩
  have hc1 : Chg (fun _ => False) w w1 := ⟨hb1.os, hb1.tape, hb1.output, hb1.size, fun i hi _ => hb1.block i hi⟩
  have h1 := h.chg hc1 id id
  obtain ⟨l, hle⟩ : ∃ l, l = bookings s.en := ⟨_, rfl⟩
  rw [← hle] at hbl hbm hrow
  have hleh := Lib.hid hle
  clear hle
  obtain ⟨ad, cap, rfl⟩ : ∃ ad cap, v1 = .slice ad l.length cap := by
    rcases hrow.2 with ⟨rfl, h⟩ | ⟨g, cp, _, rfl, _⟩
    · exact ⟨_, _, by rw [h]⟩
    · exact ⟨_, _, rfl⟩
  have hgl : ∀ k, (Value.slice ad l.length cap).ownBlock = some k → k < w1.heap.size ∧ w.heap.size ≤ k := by
    intro k hk
    rcases hrow.2 with ⟨h, _⟩ | ⟨g', c', cur, h, hbb, hh, _⟩
    · rw [h] at hk; cases hk
    · rw [h] at hk
      simp [Value.ownBlock] at hk
      subst hk
      exact ⟨(Array.getElem?_eq_some_iff.1 hh).1, hbb⟩
  have hlb := h.blk.lt
  have hlm := h.map.lt
  clear c3 hb1 h
  go_wp2_with fail
  go_loopw [5, 25] (fun v5 v25 wr => ∃ k : Nat, v25 = .int .i64 k ∧ k ≤ l.length ∧ wr.ownsRow w1.heap.size 3 1 v5 (s.sweepL now (l.take k)).1.length ((s.sweepL now (l.take k)).1.map encI) ∧ StkAt wr b mb (s.sweepL now (l.take k)).2 ∧ Chg (fun i => i = b ∨ i = mb) w1 wr) (fun _ v25 _ => 200 - (RowKit.intOf v25).toNat)
  case atStart => exact ⟨0, rfl, Nat.zero_le _, ⟨rfl, .inl ⟨rfl, rfl⟩⟩, h1, Chg.refl _ _⟩
  case round =>
    obtain ⟨k, rfl, hk, hv, hS, hck⟩ := hrel
    have hGk : (s.sweepL now (l.take k)).2.Good := sweepL_good hG now (l.take k) (fun x hx => hbm x (List.mem_of_mem_take hx)) _ hG
    have hlen : (s.sweepL now (l.take k)).1.length ≤ k := by
      have := sweepL_len now (l.take k) ([], s)
      unfold Stk.sweepL
      simp at this ⊢
      omega
    by_cases hkl : k < l.length
    · obtain ⟨x, hx⟩ : ∃ x, l[k]? = some x := ⟨_, List.getElem?_eq_getElem hkl⟩
      have hxb := hbm x (List.mem_of_getElem? hx)
      have hst := sweepL_take s now l k x hx
      rcases hrow.2 with ⟨_, h0⟩ | ⟨g, cp, _, hv0, _⟩
      · omega
      injection hv0 with hv0 _ hv2
      subst hv0
      subst hv2
      have hgs := hgl g rfl
      have hrowx := own_chg hrow hck (fun k hk h => by have := hgl k hk; omega)
      have l0 : wr.cell? ⟨g, k, none⟩ = some (.int .i64 x) := by
        have h := own_cells_i hrowx k _ (by rw [List.getElem?_map, hx]; rfl)
        rw [addr_add0] at h
        exact h
      clear hrowx
      generalize s.sweepL now (l.take k) = acc at *
      obtain ⟨out, sk⟩ := acc
      dsimp only at *
      obtain ⟨y, hy⟩ : ∃ y, sk.en x = y := ⟨_, rfl⟩
      have c3 : wr.cell? ⟨b, 3, none⟩ = some (.map (some mb)) := by rw [hS.blk.cell]; rfl
      have k0 := hS.look (w1 := wr) hGk rfl x hxb y hy
      have hcA : Chg (fun _ => False) wr (wr.alloc (.cells y.row 40)) := (Chg.refl _ wr).alloc _
      have hSA := hS.chg hcA id id
      have hvA := own_chg hv hcA (fun _ _ h => h)
      have hckA := hck.alloc (.cells y.row 40)
      unfold Ent.row at hcA hSA hvA hckA
      have hsth := Lib.hid hst
      have hyh := Lib.hid hy
      clear hst hy
      have hvb : ∀ k, u5.ownBlock = some k → w1.heap.size ≤ k := by
        intro k hk
        rcases hv.2 with ⟨h0, _⟩ | ⟨g', c', cur, h0, hbb, _⟩
        · rw [h0] at hk; cases hk
        · rw [h0] at hk
          simp [Value.ownBlock] at hk
          omega
      have hw1b : b < w1.heap.size := h1.blk.lt
      have hw1m : mb < w1.heap.size := h1.map.lt
      by_cases hs : y.st = 1 ∧ y.til ≤ now
      · have hsw : Hid (Stk.swp now (out, sk) x = (out ++ [x], sk.gone x)) := by unfold Hid Stk.swp; dsimp only; rw [hyh.out, if_pos hs]
        have b1 : (y.st == 1) = true := by simp [hs.1]
        have b2 : decide (y.til ≤ now) = true := by simp [hs.2]
        clear hs
        go_wp2_with fail
        refine (stk_gone hSA hGk x hxb).mono ?_
        rintro e w3 ⟨rfl, hS3, hc3⟩
        have hv3 := own_chg hvA hc3 (fun k hk h => by have := hvb k hk; omega)
        have hck3 : Chg (fun i => i = b ∨ i = mb) w1 w3 := hckA.trans hc3 (fun _ _ h => h)
        have hz3 := hck3.size
        have hv4 := own_chg hv3 ((Chg.refl (fun _ => False) w3).alloc (.cells #[.int .i64 x] 3)) (fun _ _ h => h)
        have hS4 := hS3.chg ((Chg.refl (fun _ => False) w3).alloc (.cells #[.int .i64 x] 3)) id id
        have hck4 := hck3.alloc (.cells #[.int .i64 x] 3)
        have hnews := row_cells w3 3 [.int .i64 x]
        obtain ⟨i0, hi, hz0, hz1, hz2⟩ := info_parts infoInt
        clear c3 k0 l0 hcA hSA hvA hckA hc3 hv3 hS3
        go_wp2_with (at_builtin; go_loud (refine wpList_append_own_at _ rfl _ _ 23 rfl w1.heap.size 3 i0 (.int .i64 0) 1 8 Try.underlying23 hi hz0 hz1 hz2 rfl (by decide) u5 out.length (out.map encI) rfl (by exact hv4) ⟨w3.heap.size, 0, none⟩ 1 1 [.int .i64 x] rfl rfl (by exact hnews) (by intro u hu; simp at hu; subst hu; rfl) (by unfold maxLen; omega) (by omega) (by simp; omega) ?_; intro v' w5 hown5 hgr5 _ hloc))
        have hck5 := hck4.grown hgr5 (fun k hk => .inr (hvb k hk))
        have hS5 := hS4.chg (own_grown hgr5) (fun h => by have := hvb b h; omega) (fun h => by have := hvb mb h; omega)
        go_roundw
        case rel =>
          refine ⟨k + 1, by go_num, by omega, ?_, ?_, hck5⟩
          · rw [← hsth.out, hsw.out]
            rw [List.length_append, List.map_append]
            exact hown5
          · rw [← hsth.out, hsw.out]
            exact hS5
        case measure => simp [RowKit.intOf]; omega
      · have hsw : Hid (Stk.swp now (out, sk) x = (out, sk)) := by unfold Hid Stk.swp; dsimp only; rw [hyh.out, if_neg hs]
        by_cases hs1 : y.st = 1
        · have b1 : (y.st == 1) = true := by simp [hs1]
          have b2 : decide (y.til ≤ now) = false := by simp; omega
          clear hs hs1
          go_wp2_with fail
          go_roundw
          case rel =>
            refine ⟨k + 1, by go_num, by omega, ?_, ?_, hckA⟩
            · rw [← hsth.out, hsw.out]
              exact hvA
            · rw [← hsth.out, hsw.out]
              exact hSA
          case measure => simp [RowKit.intOf]; omega
        · have b1 : (y.st == 1) = false := by simp [hs1]
          clear hs hs1
          go_wp2_with fail
          go_roundw
          case rel =>
            refine ⟨k + 1, by go_num, by omega, ?_, ?_, hckA⟩
            · rw [← hsth.out, hsw.out]
              exact hvA
            · rw [← hsth.out, hsw.out]
              exact hSA
          case measure => simp [RowKit.intOf]; omega
    · have hke : k = l.length := by omega
      subst hke
      rw [List.take_length] at hv hS
      go_wp2_with fail
      go_ret
      rw [← hleh.out]
      exact ⟨_, rfl, ownsRow_base_a hv hc1.size, hS, (hc1.mono (fun _ _ h => h.elim)).trans hck (fun _ _ h => h)⟩

theorem sweep_any {w : World} {b mb : Nat} {s : Stk} (h : StkAt w b mb s) (hG : s.Good) (now : Int) :
    Calls Try.prog 33 #[.pointer (some ⟨b, 0, none⟩), .int .i64 now] w fun e w' => ∃ v, e = .returned v ∧
      w'.ownsRow w.heap.size 3 1 v (s.sweep now).1.length ((s.sweep now).1.map encI) ∧ StkAt w' b mb (s.sweep now).2 ∧ Chg (fun i => i = b ∨ i = mb) w w' := by
  by_cases hn : now < 0 ∨ 1099511627776 < now
  · have e : s.sweep now = ([], s) := by unfold Stk.sweep; rw [if_pos hn]
    rw [e]
    rcases hn with hn | hn
    · go_enter Try.func33, Try.ntmps33
      go_wp2
      go_ret
      exact ⟨_, rfl, ⟨rfl, .inl ⟨rfl, rfl⟩⟩, h, Chg.refl _ _⟩
    · have hn2 : 0 ≤ now := by omega
      go_enter Try.func33, Try.ntmps33
      go_wp2
      go_ret
      exact ⟨_, rfl, ⟨rfl, .inl ⟨rfl, rfl⟩⟩, h, Chg.refl _ _⟩
  · have e : s.sweep now = s.sweepL now (bookings s.en) := by unfold Stk.sweep; rw [if_neg hn]
    rw [e]
    exact sweep_yes h hG now (by omega) (by omega)
end Go.Proofs.Ytdeoipioinnkcaa
