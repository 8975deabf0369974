/-
  stock: Sweep by its contract.
-/
import Derived.Test.YtkbnojjmpmlgjaaGreatStockE
import Derived.Test.YtkbnojjmpmlgjaaGreatInts
import Derived.LoopTactic
import Derived.WalkSpells
import Derived.Test.YtkbnojjmpmlgjaaGreatStockG
import Derived.Test.YtkbnojjmpmlgjaaGreatArrF
import Derived.Test.YtkbnojjmpmlgjaaGreatStockA
import Derived.Test.YtkbnojjmpmlgjaaGreatMayRef
namespace Go.Proofs.YtkbnojjmpmlgjaaGreat
open Go.RowKit Go.Maps

/-- What a sweep does, booking by booking. -/
def Stk.swp (now : Int) (acc : List Int × Stk) (b : Int) : List Int × Stk := if (acc.2.en b).st = 1 ∧ (acc.2.en b).til ≤ now then (acc.1 ++ [b], acc.2.gone b) else acc
def Stk.sweepL (s : Stk) (now : Int) (l : List Int) : List Int × Stk := l.foldl (Stk.swp now) ([], s)
def Stk.sweep (s : Stk) (now : Int) : List Int × Stk := if now < 0 ∨ 1099511627776 < now then ([], s) else s.sweepL now (bookings s.en)
theorem sweepL_take (s : Stk) (now : Int) (l : List Int) (k : Nat) (b : Int) (h : l[k]? = some b) : Stk.swp now (s.sweepL now (l.take k)) b = s.sweepL now (l.take (k + 1)) := by
  rw [List.take_add_one, h, Option.toList_some]
  unfold Stk.sweepL
  rw [List.foldl_append]
  rfl
theorem sweepL_good {s : Stk} (hG : s.Good) (now : Int) : ∀ (l : List Int), (∀ b ∈ l, 1 ≤ b ∧ b ≤ 200) → ∀ acc : List Int × Stk, acc.2.Good → (l.foldl (Stk.swp now) acc).2.Good
  | [], _, acc, h => h
  | b :: l, hl, acc, h => by
    rw [List.foldl_cons]
    refine sweepL_good hG now l (fun x hx => hl x (List.mem_cons_of_mem _ hx)) _ ?_
    unfold Stk.swp
    split
    · exact h.gone (hl b (List.mem_cons_self ..))
    · exact h
theorem sweepL_len (now : Int) : ∀ (l : List Int) (acc : List Int × Stk), (l.foldl (Stk.swp now) acc).1.length ≤ acc.1.length + l.length
  | [], acc => Nat.le_refl _
  | b :: l, acc => by
    rw [List.foldl_cons]
    refine Nat.le_trans (sweepL_len now l _) ?_
    unfold Stk.swp
    split <;> simp <;> omega

theorem infoInt : (Tryz.prog.info? 3).map (fun i => (i.zero, i.size, i.bytes)) = some (some (.int .i64 0), 1, 8) := by kernel_rfl

theorem own_cells_i {w : World} {base : Nat} {e : TypeId} {size n g cap : Nat} {xs : List Value} (h : w.ownsRow base e size (.slice (some ⟨g, 0, none⟩) n cap) n xs) :
    ∀ j u, xs[j]? = some u → w.cell? ((⟨g, 0, none⟩ : Addr).add j) = some u := by
  rcases h.2 with ⟨h, _⟩ | ⟨g', cap', cur, h, _, hh, _, _, _, ht⟩
  · cases h
  · injection h with h1 _ _
    injection h1 with h1; injection h1 with h1
    subst h1
    intro j u hj
    rw [← ht, List.getElem?_take] at hj
    split at hj
    · have hc := cell_of_row w g j cur e (0, 0) hh
      have he : (⟨g, 0, none⟩ : Addr).add j = ⟨g, j, none⟩ := by unfold Addr.add; split <;> simp_all
      rw [he, hc, ← hj]; simp
    · cases hj

set_option maxRecDepth 100000 in
set_option maxHeartbeats 4000000 in
theorem sweep_yes {w : World} {b mb : Nat} {s : Stk} (h : StkAt w b mb s) (hG : s.Good) (now : Int) (hn0 : 0 ≤ now) (hn1 : now ≤ 1099511627776) :
    Calls Tryz.prog 20 #[.pointer (some ⟨b, 0, none⟩), .int .i64 now] w fun e w' => ∃ v, e = .returned v ∧
      w'.ownsRow w.heap.size 3 1 v (s.sweepL now (bookings s.en)).1.length ((s.sweepL now (bookings s.en)).1.map encI) ∧ StkAt w' b mb (s.sweepL now (bookings s.en)).2 ∧ Chg (fun i => i = b ∨ i = mb) w w' := by
  have c3 : w.cell? ⟨b, 3, none⟩ = some (.map (some mb)) := by rw [h.blk.cell]; rfl
  have hbl := bookings_len s.en
  have hbm : ∀ x ∈ bookings s.en, 1 ≤ x ∧ x ≤ 200 := fun x hx => h.keys x ((bookings_mem s.en h.keys x).1 hx)
  go_enter Tryz.func20, Tryz.ntmps20
  go_wp2_with fail
  refine (rising_any h.map h.keys).mono ?_
  rintro e w1 ⟨v1, rfl, hrow, hb1⟩
  have hc1 : Chg (fun _ => False) w w1 := ⟨hb1.os, hb1.tape, hb1.output, hb1.size, fun i hi _ => hb1.block i hi⟩
  have h1 := h.chg hc1 id id
  obtain ⟨l, hle⟩ : ∃ l, l = bookings s.en := ⟨_, rfl⟩
  rw [← hle] at hbl hbm hrow
  have hleh := Lib.hid hle
  clear hle
  obtain ⟨ad, cap, rfl⟩ : ∃ ad cap, v1 = .slice ad l.length cap := by
    rcases hrow.2 with ⟨rfl, h⟩ | ⟨g, cp, _, rfl, _⟩
    · exact ⟨_, _, by rw [h]⟩
    · exact ⟨_, _, rfl⟩
  have hgl : ∀ k, (Value.slice ad l.length cap).ownBlock = some k → k < w1.heap.size ∧ w.heap.size ≤ k := by
    intro k hk
    rcases hrow.2 with ⟨h, _⟩ | ⟨g', c', cur, h, hbb, hh, _⟩
    · rw [h] at hk; cases hk
    · rw [h] at hk
      simp [Value.ownBlock] at hk
      subst hk
      exact ⟨(Array.getElem?_eq_some_iff.1 hh).1, hbb⟩
  have hlb := h.blk.lt
  have hlm := h.map.lt
  clear c3 hb1 h
  go_wp2_with fail
  go_loopw [5, 25] (fun v5 v25 wr => ∃ k : Nat, v25 = .int .i64 k ∧ k ≤ l.length ∧ wr.ownsRow w1.heap.size 3 1 v5 (s.sweepL now (l.take k)).1.length ((s.sweepL now (l.take k)).1.map encI) ∧ StkAt wr b mb (s.sweepL now (l.take k)).2 ∧ Chg (fun i => i = b ∨ i = mb) w1 wr) (fun _ v25 _ => 200 - (RowKit.intOf v25).toNat)
  case atStart => exact ⟨0, rfl, Nat.zero_le _, ⟨rfl, .inl ⟨rfl, rfl⟩⟩, h1, Chg.refl _ _⟩
  case round =>
    obtain ⟨k, rfl, hk, hv, hS, hck⟩ := hrel
    have hGk : (s.sweepL now (l.take k)).2.Good := sweepL_good hG now (l.take k) (fun x hx => hbm x (List.mem_of_mem_take hx)) _ hG
    have hlen : (s.sweepL now (l.take k)).1.length ≤ k := by
      have := sweepL_len now (l.take k) ([], s)
      unfold Stk.sweepL
      simp at this ⊢
      omega
    by_cases hkl : k < l.length
    · obtain ⟨x, hx⟩ : ∃ x, l[k]? = some x := ⟨_, List.getElem?_eq_getElem hkl⟩
      have hxb := hbm x (List.mem_of_getElem? hx)
      have hst := sweepL_take s now l k x hx
      rcases hrow.2 with ⟨_, h0⟩ | ⟨g, cp, _, hv0, _⟩
      · omega
      injection hv0 with hv0 _ hv2
      subst hv0
      subst hv2
      have hgs := hgl g rfl
      have hrowx := own_chg hrow hck (fun k hk h => by have := hgl k hk; omega)
      have l0 : wr.cell? ⟨g, k, none⟩ = some (.int .i64 x) := by
        have h := own_cells_i hrowx k _ (by rw [List.getElem?_map, hx]; rfl)
        rw [addr_add0] at h
        exact h
      clear hrowx
      generalize s.sweepL now (l.take k) = acc at *
      obtain ⟨out, sk⟩ := acc
      dsimp only at *
      obtain ⟨y, hy⟩ : ∃ y, sk.en x = y := ⟨_, rfl⟩
      have c3 : wr.cell? ⟨b, 3, none⟩ = some (.map (some mb)) := by rw [hS.blk.cell]; rfl
      have k0 := hS.look (w1 := wr) hGk rfl x hxb y hy
      have hcA : Chg (fun _ => False) wr (wr.alloc (.cells y.row 32)) := (Chg.refl _ wr).alloc _
      have hSA := hS.chg hcA id id
      have hvA := own_chg hv hcA (fun _ _ h => h)
      have hckA := hck.alloc (.cells y.row 32)
      unfold Ent.row at hcA hSA hvA hckA
      have hsth := Lib.hid hst
      have hyh := Lib.hid hy
      clear hst hy
      have hvb : ∀ k, u5.ownBlock = some k → w1.heap.size ≤ k := by
        intro k hk
        rcases hv.2 with ⟨h0, _⟩ | ⟨g', c', cur, h0, hbb, _⟩
        · rw [h0] at hk; cases hk
        · rw [h0] at hk
          simp [Value.ownBlock] at hk
          omega
      have hw1b : b < w1.heap.size := h1.blk.lt
      have hw1m : mb < w1.heap.size := h1.map.lt
      by_cases hs : y.st = 1 ∧ y.til ≤ now
      · have hsw : Hid (Stk.swp now (out, sk) x = (out ++ [x], sk.gone x)) := by unfold Hid Stk.swp; dsimp only; rw [hyh.out, if_pos hs]
        have b1 : (y.st == 1) = true := by simp [hs.1]
        have b2 : decide (y.til ≤ now) = true := by simp [hs.2]
        clear hs
        go_wp2_with fail
        refine (stk_gone hSA hGk x hxb).mono ?_
        rintro e w3 ⟨rfl, hS3, hc3⟩
        have hv3 := own_chg hvA hc3 (fun k hk h => by have := hvb k hk; omega)
        have hck3 : Chg (fun i => i = b ∨ i = mb) w1 w3 := hckA.trans hc3 (fun _ _ h => h)
        have hz3 := hck3.size
        have hv4 := own_chg hv3 ((Chg.refl (fun _ => False) w3).alloc (.cells #[.int .i64 x] 3)) (fun _ _ h => h)
        have hS4 := hS3.chg ((Chg.refl (fun _ => False) w3).alloc (.cells #[.int .i64 x] 3)) id id
        have hck4 := hck3.alloc (.cells #[.int .i64 x] 3)
        have hnews := row_cells w3 3 [.int .i64 x]
        obtain ⟨i0, hi, hz0, hz1, hz2⟩ := info_parts infoInt
        clear c3 k0 l0 hcA hSA hvA hckA hc3 hv3 hS3
        go_wp2_with (at_builtin; go_loud (refine wpList_append_own_at _ rfl _ _ 47 rfl w1.heap.size 3 i0 (.int .i64 0) 1 8 Tryz.underlying47 hi hz0 hz1 hz2 rfl (by decide) u5 out.length (out.map encI) rfl (by exact hv4) ⟨w3.heap.size, 0, none⟩ 1 1 [.int .i64 x] rfl rfl (by exact hnews) (by intro u hu; simp at hu; subst hu; rfl) (by unfold maxLen; omega) (by omega) (by simp; omega) ?_; intro v' w5 hown5 hgr5 _ hloc))
        have hck5 := hck4.grown hgr5 (fun k hk => .inr (hvb k hk))
        have hS5 := hS4.chg (own_grown hgr5) (fun h => by have := hvb b h; omega) (fun h => by have := hvb mb h; omega)
        go_roundw
        case rel =>
          refine ⟨k + 1, by go_num, by omega, ?_, ?_, hck5⟩
          · rw [← hsth.out, hsw.out]
            rw [List.length_append, List.map_append]
            exact hown5
          · rw [← hsth.out, hsw.out]
            exact hS5
        case measure => simp [RowKit.intOf]; omega
      · have hsw : Hid (Stk.swp now (out, sk) x = (out, sk)) := by unfold Hid Stk.swp; dsimp only; rw [hyh.out, if_neg hs]
        by_cases hs1 : y.st = 1
        · have b1 : (y.st == 1) = true := by simp [hs1]
          have b2 : decide (y.til ≤ now) = false := by simp; omega
          clear hs hs1
          go_wp2_with fail
          go_roundw
          case rel =>
            refine ⟨k + 1, by go_num, by omega, ?_, ?_, hckA⟩
            · rw [← hsth.out, hsw.out]
              exact hvA
            · rw [← hsth.out, hsw.out]
              exact hSA
          case measure => simp [RowKit.intOf]; omega
        · have b1 : (y.st == 1) = false := by simp [hs1]
          clear hs hs1
          go_wp2_with fail
          go_roundw
          case rel =>
            refine ⟨k + 1, by go_num, by omega, ?_, ?_, hckA⟩
            · rw [← hsth.out, hsw.out]
              exact hvA
            · rw [← hsth.out, hsw.out]
              exact hSA
          case measure => simp [RowKit.intOf]; omega
    · have hke : k = l.length := by omega
      subst hke
      rw [List.take_length] at hv hS
      go_wp2_with fail
      go_ret
      rw [← hleh.out]
      exact ⟨_, rfl, ownsRow_base_a hv hc1.size, hS, (hc1.mono (fun _ _ h => h.elim)).trans hck (fun _ _ h => h)⟩

theorem sweep_any {w : World} {b mb : Nat} {s : Stk} (h : StkAt w b mb s) (hG : s.Good) (now : Int) :
    Calls Tryz.prog 20 #[.pointer (some ⟨b, 0, none⟩), .int .i64 now] w fun e w' => ∃ v, e = .returned v ∧
      w'.ownsRow w.heap.size 3 1 v (s.sweep now).1.length ((s.sweep now).1.map encI) ∧ StkAt w' b mb (s.sweep now).2 ∧ Chg (fun i => i = b ∨ i = mb) w w' := by
  by_cases hn : now < 0 ∨ 1099511627776 < now
  · have e : s.sweep now = ([], s) := by unfold Stk.sweep; rw [if_pos hn]
    rw [e]
    rcases hn with hn | hn
    · go_enter Tryz.func20, Tryz.ntmps20
      go_wp2
      go_ret
      exact ⟨_, rfl, ⟨rfl, .inl ⟨rfl, rfl⟩⟩, h, Chg.refl _ _⟩
    · have hn2 : 0 ≤ now := by omega
      go_enter Tryz.func20, Tryz.ntmps20
      go_wp2
      go_ret
      exact ⟨_, rfl, ⟨rfl, .inl ⟨rfl, rfl⟩⟩, h, Chg.refl _ _⟩
  · have e : s.sweep now = s.sweepL now (bookings s.en) := by unfold Stk.sweep; rw [if_neg hn]
    rw [e]
    exact sweep_yes h hG now (by omega) (by omega)
end Go.Proofs.YtkbnojjmpmlgjaaGreat

namespace Go.Proofs.YtkbnojjmpmlgjaaGreat
open Go.RowKit Go.Maps

theorem Stk.Good.sweep {s : Stk} (h : s.Good) (now : Int) : (s.sweep now).2.Good := by
  unfold Stk.sweep
  split
  · exact h
  · exact sweepL_good h now _ (fun x hx => h.key x ((bookings_mem s.en h.key x).1 hx)) ([], s) h

theorem new_w (w : World) (c o : Int) (hc : 0 ≤ c ∧ c ≤ 1000000) (ho : 0 ≤ o ∧ o ≤ 1000000) :
    Calls Tryz.prog 17 #[.agg #[.int .i64 c, .int .i64 o]] w fun e w' => ∃ b mb, e = .returned (.tuple #[.pointer (some ⟨b, 0, none⟩), .int .i64 0]) ∧ StkAt w' b mb (Stk.new c o) ∧ Chg (fun _ => False) w w' ∧ w.heap.size ≤ b ∧ w.heap.size ≤ mb := stkNew w c o hc ho

/-- What an operation gives, told by names. -/
theorem do_w {B : Nat} {w : World} {b mb : Nat} {s : Stk} (h : StkAt w b mb s) (hG : s.Good) (hb : B ≤ b ∧ B ≤ mb) (o : POp) (now r : Int) (s' : Stk) (hr : (s.act o now).1 = r) (hs : (s.act o now).2 = s') :
    Calls Tryz.prog 16 #[.pointer (some ⟨b, 0, none⟩), o.val, .int .i64 now] w fun e w' => e = .returned (.int .i64 r) ∧ StkAt w' b mb s' ∧ Chg (fun i => B ≤ i) w w' := by
  subst hr; subst hs
  refine (stk_do h hG o now).mono ?_
  rintro e w' ⟨h1, h2, h3⟩
  exact ⟨h1, h2, h3.mono (fun i _ hi => by rcases hi with rfl | rfl; exact hb.1; exact hb.2)⟩
theorem sweep_w {B : Nat} {w : World} {b mb : Nat} {s : Stk} (h : StkAt w b mb s) (hG : s.Good) (hb : B ≤ b ∧ B ≤ mb) (now : Int) (l : List Int) (s' : Stk) (hl : (s.sweep now).1 = l) (hs : (s.sweep now).2 = s') :
    Calls Tryz.prog 20 #[.pointer (some ⟨b, 0, none⟩), .int .i64 now] w fun e w' => ∃ v, e = .returned v ∧
      w'.ownsRow w.heap.size 3 1 v l.length (l.map encI) ∧ StkAt w' b mb s' ∧ Chg (fun i => B ≤ i) w w' := by
  subst hl; subst hs
  refine (sweep_any h hG now).mono ?_
  rintro e w' ⟨v, h1, h2, h3, h4⟩
  exact ⟨v, h1, h2, h3, h4.mono (fun i _ hi => by rcases hi with rfl | rfl; exact hb.1; exact hb.2)⟩

end Go.Proofs.YtkbnojjmpmlgjaaGreat

namespace Go.Proofs.YtkbnojjmpmlgjaaGreat

theorem sumU_add (f g h : Int → Int) : ∀ n : Nat, (∀ i, f i = g i + h i) → sumU f n = sumU g n + sumU h n
  | 0, _ => rfl
  | n + 1, e => by
    unfold sumU
    rw [sumU_add f g h n e, e]
    omega
theorem sumU_mono (g : Int → Int) (hg : ∀ i, 0 ≤ g i) (m : Nat) : ∀ d : Nat, sumU g m ≤ sumU g (m + d)
  | 0 => Int.le_refl _
  | d + 1 => by
    have h1 := sumU_mono g hg m d
    have h2 := hg ((m + d + 1 : Nat) : Int)
    show _ ≤ sumU g (m + d) + g ((m + d + 1 : Nat) : Int)
    omega

/-- The units of the bookings 1..n in a state. -/
def Stk.ofN (s : Stk) (st : Int) (n : Nat) : Int := sumU (fun b => if (s.en b).st = st then (s.en b).un else 0) n
theorem Stk.Good.ofN {s : Stk} (h : s.Good) (st : Int) (n : Nat) (hn : n ≤ 200) : 0 ≤ s.ofN st n ∧ s.ofN st n ≤ s.of st ∧ s.of st ≤ 2000000 := by
  have hp : ∀ i, 0 ≤ (fun b => if (s.en b).st = st then (s.en b).un else 0) i := by
    intro i
    have := h.un i
    dsimp only
    split <;> omega
  have h2 := h.part st (fun _ => false)
  simp only [Bool.false_eq_true, if_false] at h2
  refine ⟨sumU_pos _ hp n, ?_, ?_⟩
  · have := sumU_mono _ hp n (200 - n)
    have e : n + (200 - n) = 200 := by omega
    rw [e] at this
    exact this
  · exact h2.2
theorem Stk.ofN_succ (s : Stk) (st : Int) (n : Nat) : s.ofN st (n + 1) = s.ofN st n + (if (s.en ((n : Int) + 1)).st = st then (s.en ((n : Int) + 1)).un else 0) := by
  show sumU _ n + _ = _
  rfl
/-- Free, held and confirmed units are all there are. -/
theorem Stk.Good.all {s : Stk} (h : s.Good) : 0 ≤ s.free ∧ 0 ≤ s.of 1 ∧ 0 ≤ s.of 2 ∧ s.free + s.of 1 + s.of 2 = s.cap + s.over := by
  have h1 := h.ofN 1 0 (by omega)
  have h2 := h.ofN 2 0 (by omega)
  refine ⟨h.free, by omega, by omega, ?_⟩
  have hs := h.sum
  have e : sumU (fun b => (s.en b).un) 200 = s.of 1 + s.of 2 := by
    refine sumU_add _ _ _ 200 (fun b => ?_)
    rcases h.sts b with e | e | e | e
    · rw [h.non b e]; decide
    · rw [e]; decide
    · simp [e.1]
    · simp [e.1]
  omega

theorem gone_conf (s : Stk) (b : Int) : (s.gone b).cap = s.cap ∧ (s.gone b).over = s.over := ⟨rfl, rfl⟩
theorem Stk.act_conf (s : Stk) (o : POp) (now : Int) : (s.act o now).2.cap = s.cap ∧ (s.act o now).2.over = s.over := by
  unfold Stk.act Stk.hold Stk.confirm
  dsimp only
  repeat' split
  all_goals exact ⟨rfl, rfl⟩
theorem Stk.sweep_conf (s : Stk) (now : Int) : (s.sweep now).2.cap = s.cap ∧ (s.sweep now).2.over = s.over := by
  unfold Stk.sweep
  split
  · exact ⟨rfl, rfl⟩
  · have : ∀ (l : List Int) (acc : List Int × Stk), (l.foldl (Stk.swp now) acc).2.cap = acc.2.cap ∧ (l.foldl (Stk.swp now) acc).2.over = acc.2.over := by
      intro l
      induction l with
      | nil => intro acc; exact ⟨rfl, rfl⟩
      | cons b l ih =>
        intro acc
        rw [List.foldl_cons, (ih _).1, (ih _).2]
        unfold Stk.swp
        split <;> exact ⟨rfl, rfl⟩
    exact this _ ([], s)
end Go.Proofs.YtkbnojjmpmlgjaaGreat

namespace Go.Proofs.YtkbnojjmpmlgjaaGreat
open Go.RowKit Go.Maps

def refCell (s : Stk) (n : Nat) : Value := if n = 0 then .int .i64 s.cap else if n = 1 then .int .i64 s.over else entCell (s.en (((n - 2) / 5 : Nat) : Int)) ((n - 2) % 5)
/-- Where the reference's inventory lies: a block of a type, so many cells, the first 1007 of them the inventory's, and what the others are. -/
structure REnv where
  T : TypeId
  n : Nat
  g : Nat → Value
  h : 1007 ≤ n
def ovl (g : Nat → Value) (s : Stk) (i : Nat) : Value := if i < 1007 then refCell s i else g i
variable {R : REnv}
/-- The reference's inventory. -/
def RefAt (R : REnv) (w : World) (x : Nat) (s : Stk) : Prop := Blk w x R.T (arrF R.n (ovl R.g s))
theorem RefAt.chg {w w' : World} {x : Nat} {s : Stk} {S : Nat → Prop} (h : RefAt R w x s) (hc : Chg S w w') (hn : ¬ S x) : RefAt R w' x s := Blk.chg h hc hn
theorem RefAt.cell0 {w : World} {x : Nat} {s : Stk} (h : RefAt R w x s) (i : Nat) (hi : i < 1007) : w.cell? ⟨x, i, none⟩ = some (refCell s i) := by
  rw [Blk.cell h, arrF_get _ _ _ (Nat.lt_of_lt_of_le hi R.h)]
  unfold ovl
  rw [if_pos hi]
theorem refCell_en (s : Stk) (i j : Nat) (hj : j < 5) : refCell s (2 + i * 5 + j) = entCell (s.en (i : Int)) j := by
  unfold refCell
  rw [if_neg (by omega), if_neg (by omega)]
  have e1 : (2 + i * 5 + j - 2) / 5 = i := by omega
  have e2 : (2 + i * 5 + j - 2) % 5 = j := by omega
  rw [e1, e2]
theorem RefAt.cell {w : World} {x : Nat} {s : Stk} (h : RefAt R w x s) (i j : Nat) (hi : i ≤ 200) (hj : j < 5) : w.cell? ⟨x, 2 + i * 5 + j, none⟩ = some (entCell (s.en (i : Int)) j) := by
  rw [h.cell0 _ (by omega), refCell_en _ _ _ hj]
/-- The five cells of a booking, as the walk spells them. -/
theorem RefAt.cells {w : World} {x : Nat} {s : Stk} (h : RefAt R w x s) (i : Nat) (hi : i ≤ 200) {y : Ent} {b : Int} (hb : (i : Int) = b) (hy : s.en b = y) :
    w.cell? ⟨x, 2 + i * 5, none⟩ = some (.int .i64 y.st) ∧ w.cell? ⟨x, 2 + i * 5 + 1, none⟩ = some (.int .i64 y.un) ∧ w.cell? ⟨x, 2 + i * 5 + 2, none⟩ = some (.int .i64 y.til) ∧
      w.cell? ⟨x, 2 + i * 5 + 3, none⟩ = some (.int .i64 y.cu) ∧ w.cell? ⟨x, 2 + i * 5 + 4, none⟩ = some (.int .i64 y.am) := by
  subst hb
  rw [← hy]
  refine ⟨?_, ?_, ?_, ?_, ?_⟩
  · exact h.cell i 0 hi (by omega)
  · exact h.cell i 1 hi (by omega)
  · exact h.cell i 2 hi (by omega)
  · exact h.cell i 3 hi (by omega)
  · exact h.cell i 4 hi (by omega)
theorem RefAt.frozen {w : World} {x : Nat} {s : Stk} (h : RefAt R w x s) (i : Nat) : w.frozen? ⟨x, i, none⟩ = false := Blk.frozen h i

set_option maxRecDepth 100000 in
set_option maxHeartbeats 4000000 in
theorem ref_units {w : World} {x : Nat} {s : Stk} (h : RefAt R w x s) (hG : s.Good) :
    Calls Tryz.prog 37 #[.pointer (some ⟨x, 0, none⟩)] w fun e w' => e = .returned (.tuple #[.int .i64 (s.of 1), .int .i64 (s.of 2)]) ∧ w' = w := by
  go_enter Tryz.func37, Tryz.ntmps37
  go_wp2_with fail
  go_loop [4, 5, 6] (fun v4 v5 v6 => ∃ k : Nat, k ≤ 200 ∧ v4 = .int .i64 (s.ofN 1 k) ∧ v5 = .int .i64 (s.ofN 2 k) ∧ v6 = .int .i64 ((k : Int) + 1)) (fun _ _ v6 => 201 - (RowKit.intOf v6).toNat)
  case atStart => exact ⟨0, Nat.zero_le _, rfl, rfl, rfl⟩
  case round =>
    obtain ⟨k, hk, rfl, rfl, rfl⟩ := hrel
    have hb1 := hG.ofN 1 k hk
    have hb2 := hG.ofN 2 k hk
    by_cases hlt : k < 200
    · have e1 := Lib.hid (s.ofN_succ 1 k)
      have e2 := Lib.hid (s.ofN_succ 2 k)
      obtain ⟨y, hy⟩ : ∃ y, s.en ((k : Int) + 1) = y := ⟨_, rfl⟩
      have hxu := hG.un ((k : Int) + 1)
      rw [hy] at hxu
      obtain ⟨c0, c1, _, _, _⟩ := h.cells (k + 1) (by omega) (b := (k : Int) + 1) (by omega) hy
      obtain ⟨hxu0, hxu1⟩ := hxu
      have hxh := Lib.hid hy
      clear hy
      obtain ⟨S1, hS1⟩ : ∃ S1, s.ofN 1 k = S1 := ⟨_, rfl⟩
      obtain ⟨S2, hS2⟩ : ∃ S2, s.ofN 2 k = S2 := ⟨_, rfl⟩
      rw [hS1] at hb1 ⊢
      rw [hS2] at hb2 ⊢
      have hS1h := Lib.hid hS1
      have hS2h := Lib.hid hS2
      clear hS1 hS2
      by_cases hx1 : y.st = 1
      · have b1 : (y.st == 1) = true := by simp [hx1]
        have b2 : (y.st == 2) = false := by simp [hx1]
        have hx1h := Lib.hid hx1
        clear hx1
        go_wp2_with fail
        go_round
        case rel => exact ⟨k + 1, by omega, by rw [e1.out, hxh.out, if_pos hx1h.out, hS1h.out], by rw [e2.out, hxh.out, if_neg (by rw [hx1h.out]; decide), hS2h.out]; simp, by go_num⟩
        case measure => simp [RowKit.intOf]; omega
      · by_cases hx2 : y.st = 2
        · have b1 : (y.st == 1) = false := by simp [hx1]
          have b2 : (y.st == 2) = true := by simp [hx2]
          have hx2h := Lib.hid hx2
          clear hx1 hx2
          go_wp2_with fail
          go_round
          case rel => exact ⟨k + 1, by omega, by rw [e1.out, hxh.out, if_neg (by rw [hx2h.out]; decide), hS1h.out]; simp, by rw [e2.out, hxh.out, if_pos hx2h.out, hS2h.out], by go_num⟩
          case measure => simp [RowKit.intOf]; omega
        · have b1 : (y.st == 1) = false := by simp [hx1]
          have b2 : (y.st == 2) = false := by simp [hx2]
          have hx1h := Lib.hid hx1
          have hx2h := Lib.hid hx2
          clear hx1 hx2
          go_wp2_with fail
          go_round
          case rel => exact ⟨k + 1, by omega, by rw [e1.out, hxh.out, if_neg hx1h.out, hS1h.out]; simp, by rw [e2.out, hxh.out, if_neg hx2h.out, hS2h.out]; simp, by go_num⟩
          case measure => simp [RowKit.intOf]; omega
    · have hk2 : k = 200 := by omega
      subst hk2
      go_wp2_with fail
      go_ret2
      exact ⟨rfl, rfl⟩

set_option maxRecDepth 100000 in
set_option maxHeartbeats 4000000 in
theorem ref_free {w : World} {x : Nat} {s : Stk} (h : RefAt R w x s) (hG : s.Good) :
    Calls Tryz.prog 38 #[.pointer (some ⟨x, 0, none⟩)] w fun e w' => e = .returned (.int .i64 s.free) ∧ w' = w.drew := by
  have c0 : w.cell? ⟨x, 0, none⟩ = some (.int .i64 s.cap) := h.cell0 0 (by omega)
  have c1 : w.cell? ⟨x, 1, none⟩ = some (.int .i64 s.over) := h.cell0 1 (by omega)
  obtain ⟨hf0, hp1, hp2, hsum⟩ := hG.all
  have hcap := hG.cap
  have hover := hG.over
  have hU := Lib.hid h
  obtain ⟨H1, hH1⟩ : ∃ H1, s.of 1 = H1 := ⟨_, rfl⟩
  obtain ⟨H2, hH2⟩ : ∃ H2, s.of 2 = H2 := ⟨_, rfl⟩
  have hcall := ref_units h hG
  rw [hH1, hH2] at hcall
  rw [hH1] at hp1 hsum
  rw [hH2] at hp2 hsum
  have hsumh := Lib.hid hsum
  clear hsum hH1 hH2
  obtain ⟨cap0, cap1⟩ := hcap
  obtain ⟨over0, over1⟩ := hover
  have hb1 : H1 ≤ 2000000 := by have := hsumh.out; omega
  have hb2 : H2 ≤ 2000000 := by have := hsumh.out; omega
  go_enter Tryz.func38, Tryz.ntmps38
  go_wp2_with fail
  refine hcall.mono ?_
  rintro e w1 ⟨rfl, rfl⟩
  go_wp2_with fail
  refine wp_region_plan (by kernel_rfl) [] [0, 1, 2, 3, 4, 5, 6, 7, 8, 9, 10, 11, 12, 13, 14, 15] (by kernel_rfl) (fun _ _ => True) ?_
  simp only [wpPlan, opsAt_cons, opsAt_nil, consO_some, List.getElem?_toArray, List.getElem?_cons_succ, List.getElem?_cons_zero]
  go_wp2
  refine ⟨by kernel_rfl, ?_⟩
  go_wp2
  go_ret
  refine ⟨?_, rfl⟩
  have := hsumh.out
  go_num
end Go.Proofs.YtkbnojjmpmlgjaaGreat

namespace Go.Proofs.YtkbnojjmpmlgjaaGreat
open Go.RowKit Go.Maps
variable {R : REnv}

def timeB (n : Int) : Bool := decide (0 ≤ n) && decide (n ≤ 1099511627776)
theorem time_any (w : World) (n : Int) : Calls Tryz.prog 21 #[.int .i64 n] w fun e w' => e = .returned (.bool (timeB n)) ∧ w' = w := by
  by_cases h1 : 0 ≤ n <;> by_cases h2 : n ≤ 1099511627776
  all_goals try (exfalso; omega)
  all_goals
    go_enter Tryz.func21, Tryz.ntmps21
    go_wp2
    go_ret
    exact ⟨by unfold timeB; simp [*], rfl⟩

set_option maxRecDepth 100000 in
set_option maxHeartbeats 4000000 in
theorem ref_do_no {w : World} {x : Nat} {s : Stk} (h : RefAt R w x s) (o : POp) (now : Int) (hno : mayOp o = false ∨ 3 < o.kd ∨ timeB now = false) :
    Calls Tryz.prog 27 #[.pointer (some ⟨x, 0, none⟩), o.val, .int .i64 now] w fun e w' => e = .returned (.int .i64 2) ∧ RefAt R w' x s ∧ Chg (fun i => i = x) w w' := by
  have hcA := (Chg.refl (fun _ => False) w).alloc (.cells o.row 43)
  have hO := Blk.new w 43 o.row
  unfold POp.row at hcA
  have hnh := Lib.hid hno
  obtain ⟨kd, bk, un, cu, am⟩ := o
  clear hno
  go_enter Tryz.func27, Tryz.ntmps27
  unfold POp.val
  go_wp2_with fail
  refine (mayRef_any ⟨kd, bk, un, cu, am⟩ _).mono ?_
  rintro e w1 ⟨rfl, hc1⟩
  have hO1 := hO.chg hc1 id
  have c0 : w1.cell? ⟨w.heap.size, 0, none⟩ = some (.int .i64 kd) := by rw [hO1.cell]; rfl
  have hck := hcA.trans hc1 (fun _ _ h => h)
  cases hm : mayOp ⟨kd, bk, un, cu, am⟩ with
  | false =>
    go_wp2_with fail
    go_ret
    exact ⟨rfl, h.chg hck id, hck.mono (fun _ _ h => h.elim)⟩
  | true =>
    by_cases h3 : 3 < kd
    · go_wp2_with fail
      go_ret
      exact ⟨rfl, h.chg hck id, hck.mono (fun _ _ h => h.elim)⟩
    · have ht : timeB now = false := by
        rcases hnh.out with h | h | h
        · rw [hm] at h; cases h
        · exact absurd h h3
        · exact h
      have hth := Lib.hid ht
      clear ht hm hnh
      go_wp2_with fail
      refine (time_any _ now).mono ?_
      rintro e w2 ⟨rfl, rfl⟩
      rw [hth.out]
      go_wp2_with fail
      go_ret
      exact ⟨rfl, h.chg hck id, hck.mono (fun _ _ h => h.elim)⟩

theorem Stk.act_ok (s : Stk) {o : POp} {now : Int} (hm : mayOp o = true) (h0 : 0 ≤ now) (h1 : now ≤ 1099511627776) :
    s.act o now = if o.kd = 1 then s.hold o.bk o.un now else if o.kd = 2 then s.confirm o.bk now else if o.kd = 3 then (1, s.gone o.bk) else (2, s) := by
  unfold Stk.act
  rw [hm, if_neg (by intro h; rcases h with h | h | h; cases h; omega; omega)]

/-- A booking's five cells stored. -/
theorem RefAt.put {w : World} {x : Nat} {s : Stk} (h : RefAt R w x s) (i : Nat) (hi : i ≤ 200) (f : Int) (e : Ent) :
    RefAt R (((((w.setCell ⟨x, 2 + i * 5, none⟩ (.int .i64 e.st)).setCell ⟨x, 2 + i * 5 + 1, none⟩ (.int .i64 e.un)).setCell ⟨x, 2 + i * 5 + 2, none⟩ (.int .i64 e.til)).setCell ⟨x, 2 + i * 5 + 3, none⟩ (.int .i64 e.cu)).setCell ⟨x, 2 + i * 5 + 4, none⟩ (.int .i64 e.am)) x (s.set i f e) := by
  have h5 := ((((Blk.set h (2 + i * 5) (.int .i64 e.st)).set (2 + i * 5 + 1) (.int .i64 e.un)).set (2 + i * 5 + 2) (.int .i64 e.til)).set (2 + i * 5 + 3) (.int .i64 e.cu)).set (2 + i * 5 + 4) (.int .i64 e.am)
  simp only [arrF_set] at h5
  unfold RefAt
  refine (congrArg (fun a => Blk _ x _ a) (arrF_congr R.n _ _ (fun n _ => ?_))).mp h5
  unfold ovl
  by_cases hlt : n < 1007
  case neg => rw [if_neg hlt, if_neg hlt, if_neg (by omega), if_neg (by omega), if_neg (by omega), if_neg (by omega), if_neg (by omega)]
  rw [if_pos hlt, if_pos hlt]
  unfold refCell Stk.set
  by_cases hn0 : n = 0
  · subst hn0
    rw [if_neg (by omega), if_neg (by omega), if_neg (by omega), if_neg (by omega), if_neg (by omega)]
    rfl
  by_cases hn1 : n = 1
  · subst hn1
    rw [if_neg (by omega), if_neg (by omega), if_neg (by omega), if_neg (by omega), if_neg (by omega)]
    rfl
  rw [if_neg hn0, if_neg hn1, if_neg hn0, if_neg hn1]
  dsimp only
  by_cases hd : (n - 2) / 5 = i
  · have hc : (n - 2) % 5 = 0 ∨ (n - 2) % 5 = 1 ∨ (n - 2) % 5 = 2 ∨ (n - 2) % 5 = 3 ∨ (n - 2) % 5 = 4 := by omega
    rw [if_pos (show (((n - 2) / 5 : Nat) : Int) = (i : Int) by omega)]
    rcases hc with hc | hc | hc | hc | hc
    · rw [if_neg (by omega), if_neg (by omega), if_neg (by omega), if_neg (by omega), if_pos (by omega), hc]; rfl
    · rw [if_neg (by omega), if_neg (by omega), if_neg (by omega), if_pos (by omega), hc]; rfl
    · rw [if_neg (by omega), if_neg (by omega), if_pos (by omega), hc]; rfl
    · rw [if_neg (by omega), if_pos (by omega), hc]; rfl
    · rw [if_pos (by omega), hc]; rfl
  · rw [if_neg (by omega), if_neg (by omega), if_neg (by omega), if_neg (by omega), if_neg (by omega), if_neg (by omega)]

theorem RefAt.drew {w : World} {x : Nat} {s : Stk} (h : RefAt R w x s) : RefAt R w.drew x s := h
theorem RefAt.same {w : World} {x : Nat} {s t : Stk} (h : RefAt R w x s) (hc : t.cap = s.cap) (ho : t.over = s.over) (he : t.en = s.en) : RefAt R w x t := by
  unfold RefAt at h ⊢
  have : ovl R.g t = ovl R.g s := by funext n; unfold ovl refCell; rw [hc, ho, he]
  rw [this]; exact h

set_option maxRecDepth 100000 in
set_option maxHeartbeats 4000000 in
theorem ref_do_3 {w : World} {x : Nat} {s : Stk} (h : RefAt R w x s) (hG : s.Good) (o : POp) (now : Int) (hm : mayOp o = true) (h3 : o.kd ≤ 3) (h0 : 0 ≤ now) (h1 : now ≤ 1099511627776) (hcase : o.kd = 3) :
    Calls Tryz.prog 27 #[.pointer (some ⟨x, 0, none⟩), o.val, .int .i64 now] w fun e w' => e = .returned (.int .i64 (s.act o now).1) ∧ RefAt R w' x (s.act o now).2 ∧ Chg (fun i => i = x) w w' := by
  have hcA := (Chg.refl (fun _ => False) w).alloc (.cells o.row 43)
  have hO := Blk.new w 43 o.row
  unfold POp.row at hcA
  have hbk := mayOp_bkS hm
  have htime : timeB now = true := by unfold timeB; simp [h0, h1]
  have hth := Lib.hid htime
  have hmh := Lib.hid hm
  clear htime hm
  obtain ⟨kd, bk, un, cu, am⟩ := o
  dsimp only at h3 hbk
  obtain ⟨i, rfl⟩ : ∃ i : Nat, bk = i := ⟨bk.toNat, by omega⟩
  obtain ⟨hb1, hb2⟩ := hbk
  have hcx := Lib.hid hcase
  dsimp only at hcx
  clear hcase
  have hb1 : 1 ≤ i := by omega
  have hb2 : i ≤ 200 := by omega
  obtain ⟨y, hy⟩ : ∃ y, s.en (i : Int) = y := ⟨_, rfl⟩
  obtain ⟨act, hact⟩ : ∃ act, s.act ⟨kd, (i : Int), un, cu, am⟩ now = act := ⟨_, rfl⟩
  rw [hact]
  have hyh := Lib.hid hy
  have hacth := Lib.hid hact
  clear hy hact
  go_enter Tryz.func27, Tryz.ntmps27
  unfold POp.val
  go_wp2_with fail
  refine (mayRef_any ⟨kd, (i : Int), un, cu, am⟩ _).mono ?_
  rintro e w1 ⟨rfl, hc1⟩
  rw [hmh.out]
  have hO1 := hO.chg hc1 id
  have hck := hcA.trans hc1 (fun _ _ h => h)
  have hx1 := h.chg hck id
  have hzx : x ≠ w.heap.size := Nat.ne_of_lt h.lt
  have o0 : w1.cell? ⟨w.heap.size, 0, none⟩ = some (.int .i64 kd) := by rw [hO1.cell]; rfl
  clear hcA hO hc1
  go_wp2_with fail
  refine (time_any _ now).mono ?_
  rintro e w2 ⟨rfl, rfl⟩
  rw [hth.out]
  have o1 : w2.cell? ⟨w.heap.size, 1, none⟩ = some (.int .i64 (i : Int)) := by rw [hO1.cell]; rfl
  obtain ⟨c0, c1, c2, c3, c4⟩ := hx1.cells i (by omega) rfl hyh.out
  go_wp2_with fail
  refine wp_region_plan (by kernel_rfl) [{ fl := [0, 1, 2, 3, 4, 5, 6], long := [2, 6], ef := 7, keep := [2, 6] }, { fl := [], ef := 8 }] [] (by kernel_rfl) (fun _ w9 => w9.heap[x]? = w2.heap[x]? ∧ w9.heap[w.heap.size]? = w2.heap[w.heap.size]?) ?_
  simp only [wpPlan, longOK, keepOK, opsAt_cons, opsAt_nil, consO_some, List.getElem?_toArray, List.getElem?_cons_succ, List.getElem?_cons_zero, and_true, true_and]
  refine ⟨⟨⟨rfl, rfl⟩, ⟨rfl, rfl⟩⟩, ?_⟩
  go_wp2_with fail
  refine ⟨by kernel_rfl, ⟨?_, ?_⟩, ?_⟩
  · intro _ w9 h9
    have o1 : w9.cell? ⟨w.heap.size, 1, none⟩ = some (.int .i64 (i : Int)) := by rw [(hO1.keep h9.2).cell]; rfl
    clear h9
    go_simp
  · intro _ w9 h9
    obtain ⟨c0, c1, c2, c3, c4⟩ := RefAt.cells (w := w9) (hx1.keep h9.1) i (by omega) rfl hyh.out
    clear h9
    go_simp
  go_wp2_with fail
  have hcB := ((Chg.refl (fun _ => False) w2).drew).alloc (.cells #[.int .i64 0, .int .i64 0, .int .i64 0, .int .i64 0, .int .i64 0] 32)
  refine ⟨⟨⟨hcB.block x hx1.lt id, hcB.block _ hO1.lt id⟩, ⟨hcB.block x hx1.lt id, hcB.block _ hO1.lt id⟩⟩, ?_⟩
  go_wp2_with fail
  refine ⟨by kernel_rfl, ?_⟩
  go_wp2_with fail
  refine ⟨by kernel_rfl, ?_⟩
  have hw3 : Chg (fun i => i = x) w (w2.alloc (.cells y.row 32)).drew := ((hck.mono (fun _ _ h => h.elim)).alloc _).drew
  have hx3 : RefAt R (w2.alloc (.cells y.row 32)).drew x s := Blk.alloc hx1 _
  have hO3 : Blk (w2.alloc (.cells y.row 32)).drew w.heap.size 43 #[.int .i64 kd, .int .i64 (i : Int), .int .i64 un, .int .i64 cu, .int .i64 am] := hO1.alloc _
  have hY3 : Blk (w2.alloc (.cells y.row 32)).drew w2.heap.size 32 y.row := Blk.new w2 _ _
  unfold Ent.row at hw3 hx3 hO3 hY3
  clear hcB c0 c1 c2 c3 c4 o0 o1 hO1 hx1 hck
  generalize hyb : w2.heap.size = Y at *
  generalize (w2.alloc (.cells #[.int .i64 y.st, .int .i64 y.un, .int .i64 y.til, .int .i64 y.cu, .int .i64 y.am] 32)).drew = w3 at *
  clear hyb
  have hgr : Chg (fun i => i = x) w (w3.alloc (.cells #[.int .i64 3, .int .i64 0, .int .i64 0, .int .i64 0, .int .i64 0] 32)) := hw3.alloc _
  have hck4 := hgr
  have hx4 : RefAt R (w3.alloc (.cells #[.int .i64 3, .int .i64 0, .int .i64 0, .int .i64 0, .int .i64 0] 32)) x s := Blk.alloc hx3 _
  have hO4 := hO3.alloc (.cells #[.int .i64 3, .int .i64 0, .int .i64 0, .int .i64 0, .int .i64 0] 32)
  have hY4 := hY3.alloc (.cells #[.int .i64 3, .int .i64 0, .int .i64 0, .int .i64 0, .int .i64 0] 32)
  have o0 : (w3.alloc (.cells #[.int .i64 3, .int .i64 0, .int .i64 0, .int .i64 0, .int .i64 0] 32)).cell? ⟨w.heap.size, 0, none⟩ = some (.int .i64 kd) := by rw [hO4.cell]; rfl
  have o1 : (w3.alloc (.cells #[.int .i64 3, .int .i64 0, .int .i64 0, .int .i64 0, .int .i64 0] 32)).cell? ⟨w.heap.size, 1, none⟩ = some (.int .i64 (i : Int)) := by rw [hO4.cell]; rfl
  have o2 : (w3.alloc (.cells #[.int .i64 3, .int .i64 0, .int .i64 0, .int .i64 0, .int .i64 0] 32)).cell? ⟨w.heap.size, 2, none⟩ = some (.int .i64 un) := by rw [hO4.cell]; rfl
  have y0 : (w3.alloc (.cells #[.int .i64 3, .int .i64 0, .int .i64 0, .int .i64 0, .int .i64 0] 32)).cell? ⟨Y, 0, none⟩ = some (.int .i64 y.st) := by rw [hY4.cell]; rfl
  have y1 : (w3.alloc (.cells #[.int .i64 3, .int .i64 0, .int .i64 0, .int .i64 0, .int .i64 0] 32)).cell? ⟨Y, 1, none⟩ = some (.int .i64 y.un) := by rw [hY4.cell]; rfl
  have y2 : (w3.alloc (.cells #[.int .i64 3, .int .i64 0, .int .i64 0, .int .i64 0, .int .i64 0] 32)).cell? ⟨Y, 2, none⟩ = some (.int .i64 y.til) := by rw [hY4.cell]; rfl
  obtain ⟨c0, c1, c2, c3, c4⟩ := hx4.cells i (by omega) rfl hyh.out
  have f0 := hx4.frozen (2 + i * 5)
  have f1 := hx4.frozen (2 + i * 5 + 1)
  have f2 := hx4.frozen (2 + i * 5 + 2)
  have f3 := hx4.frozen (2 + i * 5 + 3)
  have f4 := hx4.frozen (2 + i * 5 + 4)
  have hsts := hG.sts (i : Int)
  rw [hyh.out] at hsts
  have hnon := hG.non (i : Int)
  rw [hyh.out] at hnon
  have hcx := hcx.out
  have hkds : kd = 1 ∨ kd = 2 ∨ kd = 3 := by
    have h := hmh.out
    unfold mayOp at h
    simp at h
    omega
  have hsth : y.st = 0 ∨ y.st = 1 ∨ y.st = 2 ∨ y.st = 3 := by
    rcases hsts with e | e | e | e
    · omega
    · rw [e]; decide
    · omega
    · omega
  have h22 : y.st = 2 → y = ⟨2, y.un, 0, 0, 0⟩ := by
    intro h2
    obtain ⟨a, b, c, d, e⟩ := y
    dsimp only at *
    rcases hsts with h | h | h | h
    · omega
    · injection h with h; omega
    · omega
    · obtain ⟨_, _, _, rfl, rfl, rfl⟩ := h
      subst h2; rfl
  have h22h := Lib.hid h22
  have hun0 := hG.un (i : Int)
  rw [hyh.out] at hun0
  obtain ⟨hun0, hun1⟩ := hun0
  clear h22 hsts hnon hO3 hY3 hO4 hY4 hw3 hx3 hgr
  clear hkds hsth
  subst hcx
  have hr : act = (1, s.gone (i : Int)) := by
    rw [← hacth.out, Stk.act_ok s hmh.out h0 h1]
    rfl
  have hrh := Lib.hid hr
  clear hr h3
  go_wp2_with fail
  refine wp_region_plan (by kernel_rfl) [{ fl := [0, 1, 2, 3, 4, 5, 6], ef := 7 }] [] (by kernel_rfl) (fun _ _ => True) ?_
  simp only [wpPlan, longOK, keepOK, opsAt_cons, opsAt_nil, consO_some, List.getElem?_toArray, List.getElem?_cons_succ, List.getElem?_cons_zero, true_and]
  go_wp2_with fail
  refine ⟨by kernel_rfl, ?_⟩
  go_wp2_with fail
  refine ⟨by kernel_rfl, ?_⟩
  go_wp2_with fail
  go_ret
  rw [hrh.out]
  exact ⟨rfl, (hx4.put i hb2 (s.free + (s.en (i : Int)).un) Ent.gone).drew, (((((hck4.setCell (.inl rfl) _).setCell (.inl rfl) _).setCell (.inl rfl) _).setCell (.inl rfl) _).setCell (.inl rfl) _).drew⟩

set_option maxRecDepth 100000 in
set_option maxHeartbeats 4000000 in
theorem ref_do_g {w : World} {x : Nat} {s : Stk} (h : RefAt R w x s) (hG : s.Good) (o : POp) (now : Int) (hm : mayOp o = true) (h3 : o.kd ≤ 3) (h0 : 0 ≤ now) (h1 : now ≤ 1099511627776) (hcase : o.kd ≠ 3 ∧ (s.en o.bk).st = 3) :
    Calls Tryz.prog 27 #[.pointer (some ⟨x, 0, none⟩), o.val, .int .i64 now] w fun e w' => e = .returned (.int .i64 (s.act o now).1) ∧ RefAt R w' x (s.act o now).2 ∧ Chg (fun i => i = x) w w' := by
  have hcA := (Chg.refl (fun _ => False) w).alloc (.cells o.row 43)
  have hO := Blk.new w 43 o.row
  unfold POp.row at hcA
  have hbk := mayOp_bkS hm
  have htime : timeB now = true := by unfold timeB; simp [h0, h1]
  have hth := Lib.hid htime
  have hmh := Lib.hid hm
  clear htime hm
  obtain ⟨kd, bk, un, cu, am⟩ := o
  dsimp only at h3 hbk
  obtain ⟨i, rfl⟩ : ∃ i : Nat, bk = i := ⟨bk.toNat, by omega⟩
  obtain ⟨hb1, hb2⟩ := hbk
  have hcx := Lib.hid hcase
  dsimp only at hcx
  clear hcase
  have hb1 : 1 ≤ i := by omega
  have hb2 : i ≤ 200 := by omega
  obtain ⟨y, hy⟩ : ∃ y, s.en (i : Int) = y := ⟨_, rfl⟩
  obtain ⟨act, hact⟩ : ∃ act, s.act ⟨kd, (i : Int), un, cu, am⟩ now = act := ⟨_, rfl⟩
  rw [hact]
  have hyh := Lib.hid hy
  have hacth := Lib.hid hact
  clear hy hact
  go_enter Tryz.func27, Tryz.ntmps27
  unfold POp.val
  go_wp2_with fail
  refine (mayRef_any ⟨kd, (i : Int), un, cu, am⟩ _).mono ?_
  rintro e w1 ⟨rfl, hc1⟩
  rw [hmh.out]
  have hO1 := hO.chg hc1 id
  have hck := hcA.trans hc1 (fun _ _ h => h)
  have hx1 := h.chg hck id
  have hzx : x ≠ w.heap.size := Nat.ne_of_lt h.lt
  have o0 : w1.cell? ⟨w.heap.size, 0, none⟩ = some (.int .i64 kd) := by rw [hO1.cell]; rfl
  clear hcA hO hc1
  go_wp2_with fail
  refine (time_any _ now).mono ?_
  rintro e w2 ⟨rfl, rfl⟩
  rw [hth.out]
  have o1 : w2.cell? ⟨w.heap.size, 1, none⟩ = some (.int .i64 (i : Int)) := by rw [hO1.cell]; rfl
  obtain ⟨c0, c1, c2, c3, c4⟩ := hx1.cells i (by omega) rfl hyh.out
  go_wp2_with fail
  refine wp_region_plan (by kernel_rfl) [{ fl := [0, 1, 2, 3, 4, 5, 6], long := [2, 6], ef := 7, keep := [2, 6] }, { fl := [], ef := 8 }] [] (by kernel_rfl) (fun _ w9 => w9.heap[x]? = w2.heap[x]? ∧ w9.heap[w.heap.size]? = w2.heap[w.heap.size]?) ?_
  simp only [wpPlan, longOK, keepOK, opsAt_cons, opsAt_nil, consO_some, List.getElem?_toArray, List.getElem?_cons_succ, List.getElem?_cons_zero, and_true, true_and]
  refine ⟨⟨⟨rfl, rfl⟩, ⟨rfl, rfl⟩⟩, ?_⟩
  go_wp2_with fail
  refine ⟨by kernel_rfl, ⟨?_, ?_⟩, ?_⟩
  · intro _ w9 h9
    have o1 : w9.cell? ⟨w.heap.size, 1, none⟩ = some (.int .i64 (i : Int)) := by rw [(hO1.keep h9.2).cell]; rfl
    clear h9
    go_simp
  · intro _ w9 h9
    obtain ⟨c0, c1, c2, c3, c4⟩ := RefAt.cells (w := w9) (hx1.keep h9.1) i (by omega) rfl hyh.out
    clear h9
    go_simp
  go_wp2_with fail
  have hcB := ((Chg.refl (fun _ => False) w2).drew).alloc (.cells #[.int .i64 0, .int .i64 0, .int .i64 0, .int .i64 0, .int .i64 0] 32)
  refine ⟨⟨⟨hcB.block x hx1.lt id, hcB.block _ hO1.lt id⟩, ⟨hcB.block x hx1.lt id, hcB.block _ hO1.lt id⟩⟩, ?_⟩
  go_wp2_with fail
  refine ⟨by kernel_rfl, ?_⟩
  go_wp2_with fail
  refine ⟨by kernel_rfl, ?_⟩
  have hw3 : Chg (fun i => i = x) w (w2.alloc (.cells y.row 32)).drew := ((hck.mono (fun _ _ h => h.elim)).alloc _).drew
  have hx3 : RefAt R (w2.alloc (.cells y.row 32)).drew x s := Blk.alloc hx1 _
  have hO3 : Blk (w2.alloc (.cells y.row 32)).drew w.heap.size 43 #[.int .i64 kd, .int .i64 (i : Int), .int .i64 un, .int .i64 cu, .int .i64 am] := hO1.alloc _
  have hY3 : Blk (w2.alloc (.cells y.row 32)).drew w2.heap.size 32 y.row := Blk.new w2 _ _
  unfold Ent.row at hw3 hx3 hO3 hY3
  clear hcB c0 c1 c2 c3 c4 o0 o1 hO1 hx1 hck
  generalize hyb : w2.heap.size = Y at *
  generalize (w2.alloc (.cells #[.int .i64 y.st, .int .i64 y.un, .int .i64 y.til, .int .i64 y.cu, .int .i64 y.am] 32)).drew = w3 at *
  clear hyb
  have hgr : Chg (fun i => i = x) w (w3.alloc (.cells #[.int .i64 3, .int .i64 0, .int .i64 0, .int .i64 0, .int .i64 0] 32)) := hw3.alloc _
  have hck4 := hgr
  have hx4 : RefAt R (w3.alloc (.cells #[.int .i64 3, .int .i64 0, .int .i64 0, .int .i64 0, .int .i64 0] 32)) x s := Blk.alloc hx3 _
  have hO4 := hO3.alloc (.cells #[.int .i64 3, .int .i64 0, .int .i64 0, .int .i64 0, .int .i64 0] 32)
  have hY4 := hY3.alloc (.cells #[.int .i64 3, .int .i64 0, .int .i64 0, .int .i64 0, .int .i64 0] 32)
  have o0 : (w3.alloc (.cells #[.int .i64 3, .int .i64 0, .int .i64 0, .int .i64 0, .int .i64 0] 32)).cell? ⟨w.heap.size, 0, none⟩ = some (.int .i64 kd) := by rw [hO4.cell]; rfl
  have o1 : (w3.alloc (.cells #[.int .i64 3, .int .i64 0, .int .i64 0, .int .i64 0, .int .i64 0] 32)).cell? ⟨w.heap.size, 1, none⟩ = some (.int .i64 (i : Int)) := by rw [hO4.cell]; rfl
  have o2 : (w3.alloc (.cells #[.int .i64 3, .int .i64 0, .int .i64 0, .int .i64 0, .int .i64 0] 32)).cell? ⟨w.heap.size, 2, none⟩ = some (.int .i64 un) := by rw [hO4.cell]; rfl
  have y0 : (w3.alloc (.cells #[.int .i64 3, .int .i64 0, .int .i64 0, .int .i64 0, .int .i64 0] 32)).cell? ⟨Y, 0, none⟩ = some (.int .i64 y.st) := by rw [hY4.cell]; rfl
  have y1 : (w3.alloc (.cells #[.int .i64 3, .int .i64 0, .int .i64 0, .int .i64 0, .int .i64 0] 32)).cell? ⟨Y, 1, none⟩ = some (.int .i64 y.un) := by rw [hY4.cell]; rfl
  have y2 : (w3.alloc (.cells #[.int .i64 3, .int .i64 0, .int .i64 0, .int .i64 0, .int .i64 0] 32)).cell? ⟨Y, 2, none⟩ = some (.int .i64 y.til) := by rw [hY4.cell]; rfl
  obtain ⟨c0, c1, c2, c3, c4⟩ := hx4.cells i (by omega) rfl hyh.out
  have f0 := hx4.frozen (2 + i * 5)
  have f1 := hx4.frozen (2 + i * 5 + 1)
  have f2 := hx4.frozen (2 + i * 5 + 2)
  have f3 := hx4.frozen (2 + i * 5 + 3)
  have f4 := hx4.frozen (2 + i * 5 + 4)
  have hsts := hG.sts (i : Int)
  rw [hyh.out] at hsts
  have hnon := hG.non (i : Int)
  rw [hyh.out] at hnon
  have hcx := hcx.out
  rw [hyh.out] at hcx
  have hkds : kd = 1 ∨ kd = 2 ∨ kd = 3 := by
    have h := hmh.out
    unfold mayOp at h
    simp at h
    omega
  have hsth : y.st = 0 ∨ y.st = 1 ∨ y.st = 2 ∨ y.st = 3 := by
    rcases hsts with e | e | e | e
    · omega
    · rw [e]; decide
    · omega
    · omega
  have h22 : y.st = 2 → y = ⟨2, y.un, 0, 0, 0⟩ := by
    intro h2
    obtain ⟨a, b, c, d, e⟩ := y
    dsimp only at *
    rcases hsts with h | h | h | h
    · omega
    · injection h with h; omega
    · omega
    · obtain ⟨_, _, _, rfl, rfl, rfl⟩ := h
      subst h2; rfl
  have h22h := Lib.hid h22
  have hun0 := hG.un (i : Int)
  rw [hyh.out] at hun0
  obtain ⟨hun0, hun1⟩ := hun0
  clear h22 hsts hnon hO3 hY3 hO4 hY4 hw3 hx3 hgr
  obtain ⟨hk3, hst⟩ := hcx
  have hk12 : kd = 1 ∨ kd = 2 := by omega
  clear hkds
  have b0 : (y.st == 0) = false := by simp [hst]
  have b1 : (y.st == 1) = false := by simp [hst]
  have b3 : (y.st == 3) = true := by simp [hst]
  rcases hk12 with rfl | rfl
  · have hr : act = (2, s) := by
      rw [← hacth.out, Stk.act_ok s hmh.out h0 h1]
      show s.hold (i : Int) un now = _
      unfold Stk.hold
      rw [hyh.out]
      simp [hst]
    have hrh := Lib.hid hr
    clear hr hst hsth
    go_wp2_with fail
    go_ret
    rw [hrh.out]
    exact ⟨rfl, hx4, hck4⟩
  · have hr : act = (2, s) := by
      rw [← hacth.out, Stk.act_ok s hmh.out h0 h1]
      show s.confirm (i : Int) now = _
      unfold Stk.confirm
      rw [hyh.out]
      simp [hst]
    have hrh := Lib.hid hr
    clear hr hst hsth
    go_wp2_with fail
    go_ret
    rw [hrh.out]
    exact ⟨rfl, hx4, hck4⟩
end Go.Proofs.YtkbnojjmpmlgjaaGreat
