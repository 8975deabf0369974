/-
  The keys of a map whose entries are told by a function, as a range over the map gives them: each once.
-/
import Derived.Test.YtddnpjlcmokbiaaLibMap
import Derived.Sort.KeysCollected
import Derived.Test.YtddnpjlcmokbiaaTabA
import Derived.Shelf.SlIterI.Collect
import Derived.Shelf.AbstractIn
import Derived.Test.YtddnpjlcmokbiaaRegionC
import Derived.Lib.Small
import Derived.Lib.Hide
import Derived.Shelf.SlSortCmp.WholeK
import Derived.Sort.OwnSorted
import Derived.Test.YtddnpjlcmokbiaaLay
import Derived.Shelf.SlSortCmp.NoneTotal
namespace Go.Proofs.Ytddnpjlcmokbiaa
open Go.Maps

/-- Elements that nothing is asked of. -/
def anyE : Value → Option (DataW Unit × List MemPlace) := fun _ => some (.nil, [])

/-- The datum's keys are what f tells. -/
def KeysAre {α : Type} (P : Program) (k : TypeId) (enc : α → Value) (f : α → Option Value) (D : DataW Unit) : Prop :=
  ∀ l, has D l = true ↔ ∃ a, (f a).isSome = true ∧ keyOf P k (enc a) = some l

section
variable {α : Type} {enc : α → Value} {P : Program} {k : TypeId} {w : World} {b : Nat} {f : α → Option Value}

theorem MapOf.owned (h : MapOf enc w b f) (K : Keyed P k) (hinj : ∀ x y, enc x = enc y → x = y) (hk : ∀ a v, f a = some v → ∃ l, keyOf P k (enc a) = some l)
    (ks : List α) (hn : ks.Nodup) (hm : ∀ a, a ∈ ks ↔ (f a).isSome = true) (hmx : ks.length ≤ maxLen) :
    ∃ (n : Nat) (D0 : DataW Unit), w.ownsMap P k anyE b n D0 ∧ Maps.size D0 ≤ ks.length ∧ KeysAre P k enc f D0 := by
  obtain ⟨es, clock, hb, hst, hsz, hp, he⟩ := h.count hinj ks hn hm
  have hrd : ∀ e ∈ es.toList, ∃ a l, e.key = enc a ∧ (f a).isSome = true ∧ keyOf P k (enc a) = some l ∧ WideElems.rd P k anyE e = some (l, .nil) := by
    intro e hee
    obtain ⟨a, h1, h2⟩ := he e hee
    obtain ⟨l, hl⟩ := hk a _ h2
    refine ⟨a, l, h1, by rw [h2]; rfl, hl, ?_⟩
    unfold WideElems.rd
    rw [h1, hl]
    rfl
  have F : WideElems.Fit P k anyE es clock := ⟨by rw [hsz]; exact hmx, hst, fun x hx => by
    obtain ⟨a, l, _, _, _, h⟩ := hrd x hx
    exact ⟨_, h⟩⟩
  refine ⟨es.size, _, World.ownsMap_of_fit hb F (fun _ _ _ h => h), ?_, ?_⟩
  · show ((es.toList.map (WideElems.rg P k anyE)).foldr DataW.insert []).length ≤ ks.length
    rw [length_sorted]
    simp
    omega
  · intro l
    rw [has_eq, List.any_eq_true]
    constructor
    · rintro ⟨p, hp1, hs⟩
      have hp2 := (WideShapes.sorted_perm _).mem_iff.1 hp1
      obtain ⟨e, hee, rfl⟩ := List.mem_map.1 hp2
      obtain ⟨a, l', h1, h2, h3, h4⟩ := hrd e hee
      refine ⟨a, h2, ?_⟩
      have : (WideElems.rg P k anyE e).1 = l' := by unfold WideElems.rg; rw [h4]; rfl
      rw [this] at hs
      rw [h3, WideAt.sameKey_eq hs]
    · rintro ⟨a, h1, h2⟩
      have ha : enc a ∈ es.toList.map (·.key) := hp.symm.mem_iff.1 (List.mem_map.2 ⟨a, (hm a).2 h1, rfl⟩)
      obtain ⟨e, hee, hek⟩ := List.mem_map.1 ha
      obtain ⟨a', l', h3, h4, h5, h6⟩ := hrd e hee
      have haa : a' = a := hinj _ _ (h3.symm.trans hek)
      subst haa
      have hll : l' = l := by rw [h2] at h5; simpa using h5.symm
      subst hll
      refine ⟨WideElems.rg P k anyE e, (WideShapes.sorted_perm _).mem_iff.2 (List.mem_map.2 ⟨e, hee, rfl⟩), ?_⟩
      have : (WideElems.rg P k anyE e).1 = l' := by unfold WideElems.rg; rw [h6]; rfl
      rw [this]
      exact WideAt.sameKey_self (K.key h5)

/-- What has come so far. -/
def CollK (P : Program) (k : TypeId) (enc : α → Value) (D0 : DataW Unit) (left : Lit → Bool) (ss : List α) : Prop :=
  ss.Nodup ∧ ∀ x, x ∈ ss ↔ ∃ l, keyOf P k (enc x) = some l ∧ has D0 l = true ∧ left l = false

variable {D0 : DataW Unit} {left : Lit → Bool} {ss : List α}

theorem CollK.start : CollK P k enc D0 (has D0) [] := ⟨List.nodup_nil, fun x => by
  constructor
  · intro h; cases h
  · rintro ⟨l, _, h1, h2⟩; rw [h1] at h2; cases h2⟩

theorem CollK.step (h : CollK P k enc D0 left ss) (K : Keyed P k) (hinj : ∀ x y, enc x = enc y → x = y) {x : α} {l : Lit} (hx : keyOf P k (enc x) = some l) (hh : has D0 l = true) (hl : left l = true) :
    CollK P k enc D0 (fun z => left z && !z.sameKey l) (ss ++ [x]) := by
  have hnew : x ∉ ss := fun hm => by
    obtain ⟨l', h1, _, h3⟩ := (h.2 x).1 hm
    rw [hx] at h1
    cases h1
    rw [hl] at h3
    cases h3
  refine ⟨List.nodup_append.2 ⟨h.1, by simp, fun a ha b hb => by simp at hb; subst hb; exact fun e => hnew (e ▸ ha)⟩, fun y => ?_⟩
  rw [List.mem_append, List.mem_singleton]
  constructor
  · rintro (hy | rfl)
    · obtain ⟨l', h1, h2, h3⟩ := (h.2 y).1 hy
      exact ⟨l', h1, h2, by simp [h3]⟩
    · exact ⟨l, hx, hh, by simp [WideAt.sameKey_self (K.key hx)]⟩
  · rintro ⟨l', h1, h2, h3⟩
    by_cases e : l' = l
    · subst e
      exact .inr (hinj _ _ (K.inj h1 hx))
    · left
      refine (h.2 y).2 ⟨l', h1, h2, ?_⟩
      simpa [sameKey_ne e] using h3

theorem CollK.done (h : CollK P k enc D0 left ss) (hK : KeysAre P k enc f D0) (hk : ∀ a v, f a = some v → ∃ l, keyOf P k (enc a) = some l) (K : Keyed P k) (hinj : ∀ x y, enc x = enc y → x = y) (hl : ∀ l, left l = false)
    (ks : List α) (hn : ks.Nodup) (hm : ∀ a, a ∈ ks ↔ (f a).isSome = true) : ss.Perm ks := by
  refine (List.perm_ext_iff_of_nodup h.1 hn).2 fun x => ?_
  rw [h.2 x, hm x]
  constructor
  · rintro ⟨l, h1, h2, _⟩
    obtain ⟨a, ha, h3⟩ := (hK l).1 h2
    rw [hinj _ _ (K.inj h1 h3)]
    exact ha
  · intro hx
    obtain ⟨v, hv⟩ := Option.isSome_iff_exists.1 hx
    obtain ⟨l, h1⟩ := hk x v hv
    exact ⟨l, h1, (hK l).2 ⟨x, hx, h1⟩, hl l⟩
end
end Go.Proofs.Ytddnpjlcmokbiaa

namespace Go.Proofs.Ytddnpjlcmokbiaa
open Go.RowKit Go.Maps Go.Sort Go.Shelf Go.Proofs

/-- A key's cells. -/
def encL (p : Int × Int) : List Value := [.int .i64 p.1, .int .i64 p.2]
/-- Keys' cells, one behind the other. -/
def fl2 : List (Int × Int) → List Value
  | [] => []
  | p :: r => .int .i64 p.1 :: .int .i64 p.2 :: fl2 r
theorem fl2_len : ∀ l, (fl2 l).length = l.length * 2
  | [] => rfl
  | p :: r => by simp [fl2, fl2_len r]; omega
theorem fl2_snoc (p : Int × Int) : ∀ l, fl2 (l ++ [p]) = fl2 l ++ encL p
  | [] => rfl
  | q :: r => by simp [fl2, fl2_snoc p r]

set_option maxRecDepth 100000 in
set_option maxHeartbeats 1000000 in
theorem kkeys1 (F : Fence) (n : Nat) (h10 : F.fn 70) (hro : F.round = none) (hn : 1 ≤ n) (l Bm b nn : Nat) (D0 : DataW Unit) (f : Int × Int → Option Value) (hK : KeysAre Try.prog 108 encP f D0) (J : List (Int × Int) → World → Prop)
    (hY : ∀ pre x W, J pre W → pre.length < Maps.size D0 → YieldAt F (n - 1) Try.prog l #[encP x] W fun e W' => e = .returned (.bool true) ∧ J (pre ++ [x]) W' ∧ KeepsWalks W W')
    (W : World) (hJ : AbidesFrom W.heap.size J) (hm : W.cell? ⟨Bm, 0, none⟩ = some (.map (some b))) (hown : W.ownsMap Try.prog 108 anyE b nn D0) (h0 : J [] W) :
    CallsIn F n Try.prog 70 #[.func (.yield l) #[] #[], .pointer (some ⟨Bm, 0, none⟩)] W fun e W' => (∃ v, e = .returned v) ∧ ∃ ss left, CollK Try.prog 108 encP D0 left ss ∧ (∀ l, left l = false) ∧ J ss W' := by
  refine callsIn_of_wp Try.func70 rfl h10 ?_ hro
  simp only [Try.ntmps70, List.size_toArray, List.length_cons, List.length_nil, Nat.reduceAdd, Nat.reduceSub, Array.replicate_succ, Array.replicate_zero, List.push_toArray, List.append_toArray, List.nil_append, List.cons_append]
  gi_wp2_with (first
    | (gi_at_range; refine wpListIn_range_own _ rfl _ 98 rfl 108 3 law2 Try.underlying98 _ b nn _ rfl hown ?_; intro w0 hrg0 hg0 hs0)
    | fail)
  go_frame
  gi_loopw [3] (fun _ wr => ∃ (left : Lit → Bool) (cnt : Nat) (ss : List (Int × Int)), wr.ranges Try.prog 108 anyE b W.heap.size nn D0 left cnt ∧ ss.length + cnt ≤ Maps.size D0 ∧ CollK Try.prog 108 encP D0 left ss ∧ J ss wr)
    (fun _ wr => wr.rangeLeft b W.heap.size)
  case atStart =>
    exact ⟨_, _, [], hrg0, by simp, CollK.start, hJ [] W w0 none h0 hg0 (fun r e => by cases e)⟩
  case round =>
    obtain ⟨left, cnt, ss, hrg, hcs, hC, hJs⟩ := hrel
    gi_wp2_with (first
      | (gi_at_next; refine wpListIn_next_ranges (α := Value) (β := Value) _ rfl _ rfl 108 law2 anyE id id (fun key kl hk => ⟨key, rfl⟩) (fun v _ _ => ⟨v, rfl⟩) b W.heap.size nn _ _ _ rfl hrg ?_ ?_)
      | fail)
    · intro hc0 hl0
      gi_wp2_with fail
      go_end0
      exact ⟨⟨_, rfl⟩, ss, left, hC, hl0, hJs⟩
    · intro x c kl yd yp w2 cnt2 hkey hlk hv hat hrg2 hlt hg2 hs2 hen
      have hhas : has D0 kl = true := has_true_of_atKey hat
      obtain ⟨a, ha, hka⟩ := (hK kl).1 hhas
      obtain rfl : x = encP a := law2.inj hkey hka
      have hJ2 : J ss w2 := hJ ss wr w2 (some W.heap.size) hJs hg2 (fun r e => by cases e; exact ⟨Nat.le_refl _, hrg.iter_walk⟩)
      have hJ3 : J ss (w2.alloc (.cells #[.int .i64 a.1, .int .i64 a.2] 108)) := hJ ss w2 _ none hJ2 (World.grownBy_alloc _ _ _) (fun r e => by cases e)
      obtain ⟨fn, tmps, assign, body, hy, hR⟩ := hY ss a _ hJ3 (by omega)
      clear hs2
      unfold encP at hy hen
      gi_wp2_with fail
      refine hR.mono ?_
      rintro e W3 ⟨rfl, hJ4, hk4⟩
      gi_wp2_with fail
      have hrg3 := hrg2.of_walks ((KeepsWalks.alloc w2 _).trans hk4)
      go_roundw
      case rel => exact ⟨_, cnt2, ss ++ [a], hrg3, by simp; omega, hC.step law2 encP_inj hka hhas hlk, hJ4⟩
      case measure => rw [hrg3.left_eq, hrg.left_eq]; exact hlt
end Go.Proofs.Ytddnpjlcmokbiaa

namespace Go.Proofs.Ytddnpjlcmokbiaa
open Go.RowKit Go.Maps Go.Sort Go.Shelf Go.Proofs

def kcAssign : Code := (Code.region 2 #[{ dst := some 5, op := Op.alloc 108, type := 0, pos := "iter.go:51", after := #[], guard := none }, { dst := none, op := Op.store 108 (Operand.tmp 5) (Operand.tmp 7), type := 0, pos := "iter.go:51", after := #[{ on := 0, ground := Ground.data }, { on := 0, ground := Ground.phase }], guard := none }] false)
def kcBody : Code := (Code.block 1 (Code.region 3 #[{ dst := some 8, op := Op.load 106 (Operand.tmp 2), type := 106, pos := "iter.go:52", after := #[], guard := none }, { dst := some 9, op := Op.load 108 (Operand.tmp 5), type := 108, pos := "iter.go:52", after := #[], guard := none }, { dst := some 10, op := Op.buildSlice 106 1 #[(0, Operand.tmp 9)], type := 106, pos := "iter.go:52", after := #[{ on := 1, ground := Ground.data }], guard := none }, { dst := some 11, op := Op.call { callee := Callee.builtin Builtin.append, args := #[Operand.tmp 8, Operand.tmp 10], argTypes := #[106, 106] }, type := 106, pos := "iter.go:52", after := #[{ on := 0, ground := Ground.data }, { on := 2, ground := Ground.data }], guard := none }, { dst := none, op := Op.store 106 (Operand.tmp 2) (Operand.tmp 11), type := 0, pos := "iter.go:52", after := #[{ on := 3, ground := Ground.data }, { on := 3, ground := Ground.chain }, { on := 0, ground := Ground.phase }, { on := 1, ground := Ground.phase }, { on := 2, ground := Ground.phase }, { on := 3, ground := Ground.phase }], guard := none }] false))
def kcRec (fn : FuncId) (sv : Value) (Bs D : Nat) (st : LoopState) (pend : Option Code) : Loop :=
  { state := st, pending := pend, fn, tmps := #[.slice none 0 0, sv, .pointer (some ⟨Bs, 0, none⟩), undef, .slice none 0 0, undef, sv, undef, undef, undef, undef, undef, undef], params := #[7], assign := kcAssign, body := kcBody, defers := D }

/-- Between two rounds. -/
structure KcAt (w0 : World) (fn : FuncId) (sv : Value) (Bs l D : Nat) (ss : List (Int × Int)) (W : World) : Prop where
  box : ∃ v, W.heap[Bs]? = some (.cells #[v] 106 (0, 0)) ∧ W.ownsRow w0.heap.size 108 2 v ss.length (fl2 ss) ∧ (v = .slice none 0 0 ↔ ss = [])
  L : W.heap[l]? = some (.loop (kcRec fn sv Bs D .ready none))
  K : W.heap[D]? = some (.deferred (some []))
  below : Below w0.heap.size w0 W

theorem kc_abides (w0 : World) (fn : FuncId) (sv : Value) (Bs l D B : Nat) (hB : w0.heap.size ≤ B) : AbidesFrom B (KcAt w0 fn sv Bs l D) := fun s W W' row h hg hrow => by
  have hrow' : ∀ r, row = some r → ∃ o : Obj, W.heap[r]? = some o ∧ o.isWalk = true := fun r e => (hrow r e).2
  obtain ⟨v, hv, hr, hn⟩ := h.box
  exact ⟨⟨v, (grownBy_keeps hg hrow' hv rfl).trans hv, ownsRow_abides_a hr hg hrow', hn⟩, (grownBy_keeps hg hrow' h.L rfl).trans h.L, (grownBy_keeps hg hrow' h.K rfl).trans h.K,
    h.below.grown hg h.below.size (fun k e => Nat.le_trans hB (hrow k e).1)⟩

theorem cell_two_new (W : World) (a b : Value) (t : TypeId) : ∀ (j : Nat) (u : Value), [a, b][j]? = some u → (W.alloc (.cells #[a, b] t)).cell? ((⟨W.heap.size, 0, none⟩ : Addr).add j) = some u
  | 0, u, h => by simp at h; subst h; simp [Addr.add]
  | 1, u, h => by simp at h; subst h; simp [Addr.add]
  | j + 2, u, h => by simp at h

set_option maxRecDepth 100000 in
set_option maxHeartbeats 2000000 in
theorem kcYield (F : Fence) (m : Nat) (w0 : World) (fn : FuncId) (hfn : F.fn fn) (sv : Value) (Bs l D : Nat) (hBl : Bs ≠ l) (hDl : D ≠ l) (hDB : D ≠ Bs) (h0B : w0.heap.size ≤ Bs) (h0l : w0.heap.size ≤ l)
    (N : Nat) (hN : N ≤ maxLen) (hNb : N * 16 ≤ 140737488355328) (ss : List (Int × Int)) (x : Int × Int) (W : World) (h : KcAt w0 fn sv Bs l D ss W) (hlen : ss.length < N) :
    YieldAt F m Try.prog l #[encP x] W fun e W' => e = .returned (.bool true) ∧ KcAt w0 fn sv Bs l D (ss ++ [x]) W' ∧ KeepsWalks W W' := by
  have hne : (106 : Nat) ≠ 108 := by decide
  obtain ⟨i0, hi, hz0, hz1, hz2⟩ : ∃ i, Try.prog.info? 108 = some i ∧ i.zero = some (.agg #[.int .i64 0, .int .i64 0]) ∧ i.size = 2 ∧ i.bytes = 16 := ⟨_, rfl, by kernel_rfl, by kernel_rfl, by kernel_rfl⟩
  obtain ⟨v, hv, hrow, _⟩ := h.box
  obtain ⟨x1, x2⟩ := x
  refine ⟨fn, #[.slice none 0 0, sv, .pointer (some ⟨Bs, 0, none⟩), undef, .slice none 0 0, undef, sv, encP (x1, x2), undef, undef, undef, undef, undef], kcAssign, kcBody, by simpa [kcRec] using run_yield (P := Try.prog) (args := #[encP (x1, x2)]) h.L rfl, roundIn_of_wpIn hfn ?_⟩
  unfold kcAssign encP
  gi_wp2_with gi_round_op_a
  have hl : l < W.heap.size := (Array.getElem?_eq_some_iff.1 h.L).1
  have hBl0 : Bs < W.heap.size := (Array.getElem?_eq_some_iff.1 hv).1
  have hDl0 : D < W.heap.size := (Array.getElem?_eq_some_iff.1 h.K).1
  have hg1 := World.grownBy_alloc W (.cells #[.int .i64 x1, .int .i64 x2] 108) none
  have hk1 := KeepsWalks.alloc W (.cells #[.int .i64 x1, .int .i64 x2] 108)
  have hq1 := World.alloc_heap_new W (.cells #[.int .i64 x1, .int .i64 x2] 108)
  generalize W.alloc (.cells #[.int .i64 x1, .int .i64 x2] 108) = W1 at *
  have hL1 : W1.heap[l]? = some (.loop (kcRec fn sv Bs D .ready none)) := (hg1.block l hl (by simp)).trans h.L
  have hv1 : W1.heap[Bs]? = some (.cells #[v] 106 (0, 0)) := (hg1.block Bs hBl0 (by simp)).trans hv
  have hK1 : W1.heap[D]? = some (.deferred (some [])) := (hg1.block D hDl0 (by simp)).trans h.K
  have hrow1 : W1.ownsRow w0.heap.size 108 2 v ss.length (fl2 ss) := hrow.kept hg1 (by
    rcases hrow.2 with ⟨rfl, _⟩ | ⟨g, cap, cur, rfl, _⟩
    · exact .inl rfl
    · exact .inr (by simp [Value.ownBlock]))
  have hb1 : Below w0.heap.size w0 W1 := h.below.grown hg1 h.below.size (fun k e => by cases e)
  have hbr := run_beginRound (P := Try.prog) hL1 rfl
  obtain ⟨W3, hW3⟩ : ∃ W2, W1.putObj l (.loop { kcRec fn sv Bs D .ready none with state := .busy }) = W2 := ⟨_, rfl⟩
  rw [hW3] at hbr
  have hg2 : W1.grownBy W3 (some l) := by rw [← hW3]; exact grownBy_putObj_a _ _ _
  have hk23 : KeepsWalks W W3 := by rw [← hW3]; exact hk1.trans (KeepsWalks.putObj _ hL1 rfl)
  have hlq : W.heap.size ≠ l := by omega
  have hv3 : W3.heap[Bs]? = some (.cells #[v] 106 (0, 0)) := by rw [← hW3]; exact (World.putObj_heap_other hBl).trans hv1
  have hK3 : W3.heap[D]? = some (.deferred (some [])) := by rw [← hW3]; exact (World.putObj_heap_other hDl).trans hK1
  have hL3 : W3.heap[l]? = some (.loop { kcRec fn sv Bs D .ready none with state := .busy }) := by rw [← hW3]; exact World.putObj_heap_same (by have := hg1.size; omega)
  have hq3 : W3.heap[W.heap.size]? = some (.cells #[.int .i64 x1, .int .i64 x2] 108 (0, 0)) := by rw [← hW3]; exact (World.putObj_heap_other hlq).trans hq1
  have hrow3 : W3.ownsRow w0.heap.size 108 2 v ss.length (fl2 ss) := hrow1.kept hg2 (ownsRow_ne_a hrow1 hL1 (fun cur e => by cases e))
  have hb3 : Below w0.heap.size w0 W3 := hb1.grown hg2 hb1.size (fun k e => by cases e; exact h0l)
  refine ⟨W3, hbr, ?_⟩
  have hq0 : W3.cell? ⟨W.heap.size, 0, none⟩ = some (.int .i64 x1) := by simp [World.cell?, hq3]
  have hq1 : W3.cell? ⟨W.heap.size, 1, none⟩ = some (.int .i64 x2) := by simp [World.cell?, hq3]
  generalize W.heap.size = q at *
  clear hW3 hbr hg2 hb1 hrow1 hK1 hv1 hL1 hk1 hg1 hq3
  obtain ⟨hc3, hf3⟩ := cell_of_box_a hv3
  have hBlt : Bs < W3.heap.size := (Array.getElem?_eq_some_iff.1 hv3).1
  have hl2 : l < W3.heap.size := (Array.getElem?_eq_some_iff.1 hL3).1
  have hDlt : D < W3.heap.size := (Array.getElem?_eq_some_iff.1 hK3).1
  have ne_of : ∀ {j : Nat} {o : Obj}, W3.heap[j]? = some o → (∀ cur, o ≠ .cells cur 108 (0, 0)) → some j ≠ v.ownBlock := fun hj hno => by
    rcases ownsRow_ne_a hrow3 hj hno with e | e
    · rw [e]; simp
    · exact fun e' => e e'.symm
  unfold kcBody
  gi_wp2_with (first
    | (gi_at_builtin; refine wpListIn_append_own _ rfl _ _ 106 rfl w0.heap.size 108 i0 (.agg #[.int .i64 0, .int .i64 0]) 2 16 Try.underlying106 hi hz0 hz1 hz2 rfl (by decide) _ _ _ rfl (hrow3.alloc _) ⟨W3.heap.size, 0, none⟩ 1 1 [.int .i64 x1, .int .i64 x2] rfl rfl (cell_two_new _ _ _ _) (by intro u hu; simp at hu; rcases hu with rfl | rfl <;> rfl) (by omega) (by omega) (by have := hb3.size; simp; omega) ?_; intro v' w3 hown' hg3 hnil3
       have hv4 : w3.heap[Bs]? = some (.cells #[v] 106 (0, 0)) := (hg3.block Bs (by simp; omega) (ne_of hv3 (fun cur e => by first | cases e | exact hne (Obj.cells.inj e).2.1))).trans ((Below.heap_alloc _ _ Bs hBlt).trans hv3)
       obtain ⟨hc4, hf4⟩ := cell_of_box_a hv4
       obtain ⟨g', cap', cur', rfl, hbase', hgb', hr1, hr2, hr3, hr4⟩ : ∃ g' cap' cur', v' = .slice (some ⟨g', 0, none⟩) (ss.length + 1) cap' ∧ w0.heap.size ≤ g' ∧ w3.heap[g']? = some (.cells cur' 108 (0, 0)) ∧ ss.length + 1 ≤ cap' ∧ cap' ≤ maxLen ∧ cur'.size = cap' * 2 ∧ cur'.toList.take ((ss.length + 1) * 2) = fl2 ss ++ [.int .i64 x1, .int .i64 x2] := by
         rcases hown'.2 with ⟨_, h0⟩ | h'
         · exact absurd h0 (by omega)
         · exact h'
       go_frame)
    | gi_round_op_a)
  have hg3' : (W3.alloc (.cells #[.int .i64 x1, .int .i64 x2] 108)).grownBy w3 v.ownBlock := hg3
  have hL4 : w3.heap[l]? = some (.loop { kcRec fn sv Bs D .ready none with state := .busy }) := (hg3'.block l (by simp; omega) (ne_of hL3 (fun cur e => by cases e))).trans ((Below.heap_alloc _ _ l hl2).trans hL3)
  have hK4 : w3.heap[D]? = some (.deferred (some [])) := (hg3'.block D (by simp; omega) (ne_of hK3 (fun cur e => by cases e))).trans ((Below.heap_alloc _ _ D hDlt).trans hK3)
  obtain ⟨w4, hw4⟩ : ∃ w4, w3.setCell ⟨Bs, 0, none⟩ (.slice (some ⟨g', 0, none⟩) (ss.length + 1) cap') = w4 := ⟨_, rfl⟩
  rw [hw4]
  have hg4 : w3.grownBy w4 (some Bs) := by rw [← hw4]; exact grownBy_setCell0_a _ _ _
  have hv5 : w4.heap[Bs]? = some (.cells #[.slice (some ⟨g', 0, none⟩) (ss.length + 1) cap'] 106 (0, 0)) := by rw [← hw4]; exact heap_setCell_box_a _ hv4
  have hL5 : w4.heap[l]? = some (.loop { kcRec fn sv Bs D .ready none with state := .busy }) := (hg4.block l (Array.getElem?_eq_some_iff.1 hL4).1 (fun e => hBl (by cases e; rfl))).trans hL4
  have hK5 : w4.heap[D]? = some (.deferred (some [])) := (hg4.block D (Array.getElem?_eq_some_iff.1 hK4).1 (fun e => hDB (by cases e; rfl))).trans hK4
  have hrow5 := hown'.kept hg4 (ownsRow_ne_a hown' hv4 (fun cur e => hne (Obj.cells.inj e).2.1))
  have hl4 : l < w4.heap.size := (Array.getElem?_eq_some_iff.1 hL5).1
  have hb4 : Below w0.heap.size w0 w3 := (hb3.alloc hb3.size _).grown hg3' (by have := hb3.size; simp; omega) (fun k e => (hrow3.lt k e).1)
  have hb5 : Below w0.heap.size w0 w4 := hb4.grown hg4 hb4.size (fun k e => by cases e; exact h0B)
  have hk5 : KeepsWalks W w4 := ((hk23.trans (KeepsWalks.alloc _ _)).trans (KeepsWalks.of_grownBy hg3' (ownsRow_not_walk_a (hrow3.alloc _)))).trans (by rw [← hw4]; exact KeepsWalks.setCell _ _ _)
  clear hw4
  refine ⟨_, _, run_endRound none hL5, rfl, ⟨⟨_, (World.putObj_heap_other hBl).trans hv5, ?_, by simp⟩, World.putObj_heap_same hl4, (World.putObj_heap_other hDl).trans hK5, hb5.grown (grownBy_putObj_a _ _ _) hb5.size (fun k e => by cases e; exact h0l)⟩, hk5.trans (KeepsWalks.putObj _ hL5 rfl)⟩
  have := hrow5.kept (grownBy_putObj_a w4 l (.loop { { kcRec fn sv Bs D .ready none with state := .busy } with state := if (none : Option Code).isNone then .ready else .done, pending := none })) (ownsRow_ne_a hrow5 hL5 (fun cur e => by cases e))
  rw [fl2_snoc]
  simpa [encL] using this

set_option maxRecDepth 100000 in
set_option maxHeartbeats 2000000 in
theorem kc_append (F : Fence) (n : Nat) (h11 : F.fn 83) (hro : F.round = none) (hn : 2 ≤ n) (g : Nat) (lb : Array Value) (hFg : F.fn g) (eg : ∀ args w, (callFunc g args).run Try.prog w = .ok (.enter g args) w)
    (S : List (Int × Int) → Prop) (N : Nat) (hN : N ≤ maxLen) (hNb : N * 16 ≤ 140737488355328) (w : World) (hseq : SeqGives F (n - 1) Try.prog g lb encP S N w) :
    CallsIn F n Try.prog 83 #[.slice none 0 0, .func (.func g) #[] lb] w fun e w' => ∃ (v : Value) (ss : List (Int × Int)), e = .returned v ∧ S ss ∧ w'.ownsRow w.heap.size 108 2 v ss.length (fl2 ss) ∧ (v = .slice none 0 0 ↔ ss = []) ∧ Below w.heap.size w w' := by
  have h1 : 1 ≤ n := by omega
  have hne : (106 : Nat) ≠ 108 := by decide
  refine callsIn_of_wp_marks Try.func83 rfl h11 ?_ hro
  simp only [Try.ntmps83, List.size_toArray, List.length_cons, List.length_nil, Nat.reduceAdd, Nat.reduceSub, Array.replicate_succ, Array.replicate_zero, List.push_toArray, List.append_toArray, List.nil_append, List.cons_append]
  gi_wp2_with fail
  refine wpIn_rangeFunc ?_
  intro fn hfn
  rw [hro]
  obtain ⟨W0, hW0⟩ : ∃ W0, w.alloc (.cells #[.slice none 0 0] 106) = W0 := ⟨_, rfl⟩
  have hs0 : W0.heap.size = w.heap.size + 1 := by rw [← hW0]; simp
  have hv0 : W0.heap[w.heap.size]? = some (.cells #[.slice none 0 0] 106 (0, 0)) := by rw [← hW0]; exact World.alloc_heap_new w _
  have hb0 : Below w.heap.size w W0 := by rw [← hW0]; exact (Below.refl _ w).alloc (Nat.le_refl _) _
  rw [hW0]
  obtain ⟨W1, hW1⟩ : ∃ W1, (W0.alloc (.deferred (some []))).alloc (.loop (kcRec fn (.func (.func g) #[] lb) w.heap.size W0.heap.size .ready none)) = W1 := ⟨_, rfl⟩
  have hold : ∀ k, k < W0.heap.size → W1.heap[k]? = W0.heap[k]? := fun k hk => by
    rw [← hW1]; exact (Below.heap_alloc _ _ k (by simp; omega)).trans (Below.heap_alloc _ _ k hk)
  have hb1 : Below w.heap.size w W1 := by rw [← hW1]; exact (hb0.alloc hb0.size _).alloc (by have := hb0.size; simp; omega) _
  have hs1 : W1.heap.size = W0.heap.size + 2 := by rw [← hW1]; simp
  have hM : KcAt w fn (.func (.func g) #[] lb) w.heap.size (W0.heap.size + 1) W0.heap.size [] W1 :=
    ⟨⟨_, (hold w.heap.size (by omega)).trans hv0, ⟨rfl, .inl ⟨rfl, rfl⟩⟩, by simp⟩,
     by rw [← hW1]; have := World.alloc_heap_new (W0.alloc (.deferred (some []))) (.loop (kcRec fn (.func (.func g) #[] lb) w.heap.size W0.heap.size .ready none)); rwa [World.size_alloc] at this,
     by rw [← hW1]; exact (Below.heap_alloc _ _ _ (by simp)).trans (World.alloc_heap_new W0 _), hb1⟩
  refine ⟨W0.heap.size + 1, [{ target := .collected W0.heap.size, args := #[] }], W1, { target := .fn (.func g) lb, args := #[.func (.yield (W0.heap.size + 1)) #[] #[]] }, W1, g,
    #[.func (.yield (W0.heap.size + 1)) #[] #[]] ++ lb, W1, ?_, ?_, ?_, ?_, fun _ => h1, ?_⟩
  · rw [← hW1]; exact run_enterLoop_outer _ _ _ _ _
  · simp [resolve, go_sem]
  · intro f' hf'; simp [Target.leads] at hf'; subst hf'; exact hFg
  · simp [invoke, go_sem, eg]
  · refine (hseq (W0.heap.size + 1) (KcAt w fn (.func (.func g) #[] lb) w.heap.size (W0.heap.size + 1) W0.heap.size) W1 hb1 (kc_abides _ _ _ _ _ _ _ hb1.size)
      (fun pre x W hJ hl => kcYield F (n - 1 - 1) w fn hfn _ w.heap.size (W0.heap.size + 1) W0.heap.size (by omega) (by omega) (by omega) (Nat.le_refl _) (by omega) N hN hNb pre x W hJ hl) hM).mono ?_
    rintro e W2 ⟨⟨v0, rfl⟩, ss, hS, h2⟩
    obtain ⟨v, hv, hrow, hnil⟩ := h2.box
    have hend := run_endLoop (P := Try.prog) h2.L (by simp [kcRec])
    obtain ⟨W3, hW3⟩ : ∃ W3, W2.putObj (W0.heap.size + 1) (.loop { kcRec fn (.func (.func g) #[] lb) w.heap.size W0.heap.size .ready none with state := .exhausted }) = W3 := ⟨_, rfl⟩
    rw [hW3] at hend
    have hg3 : W2.grownBy W3 (some (W0.heap.size + 1)) := by rw [← hW3]; exact grownBy_putObj_a _ _ _
    have hv3 : W3.heap[w.heap.size]? = some (.cells #[v] 106 (0, 0)) := by rw [← hW3]; exact (World.putObj_heap_other (by omega)).trans hv
    have hK3 : W3.heap[W0.heap.size]? = some (.deferred (some [])) := by rw [← hW3]; exact (World.putObj_heap_other (by omega)).trans h2.K
    have hrow3 := hrow.kept hg3 (ownsRow_ne_a hrow h2.L (fun cur e => by cases e))
    have hb3 : Below w.heap.size w W3 := h2.below.grown hg3 h2.below.size (fun k e => by cases e; omega)
    obtain ⟨hc3, hf3⟩ := cell_of_box_a hv3
    clear hW3
    refine ⟨none, W3, hend, ?_⟩
    gi_wp2_with fail
    rw [← hs0]
    refine ⟨by simp, .inl ⟨_, _, rfl, run_takeDeferred hK3, ?_⟩⟩
    exact ⟨_, results_tmp rfl _ _ _, v, ss, rfl, hS, hrow3.kept (grownBy_putObj_a _ _ _) (ownsRow_ne_a hrow3 hK3 (fun cur e => by cases e)), hnil, hb3.grown (grownBy_putObj_a _ _ _) hb3.size (fun k e => by cases e; omega)⟩

set_option maxHeartbeats 1000000 in
theorem kc_collect (F : Fence) (n : Nat) (h8 : F.fn 68) (h11 : F.fn 83) (hro : F.round = none) (hn : 3 ≤ n) (g : Nat) (lb : Array Value) (hFg : F.fn g) (eg : ∀ args w, (callFunc g args).run Try.prog w = .ok (.enter g args) w)
    (S : List (Int × Int) → Prop) (N : Nat) (hN : N ≤ maxLen) (hNb : N * 16 ≤ 140737488355328) (w : World) (hseq : SeqGives F (n - 1 - 1) Try.prog g lb encP S N w) :
    CallsIn F n Try.prog 68 #[.func (.func g) #[] lb] w fun e w' => ∃ (v : Value) (ss : List (Int × Int)), e = .returned v ∧ S ss ∧ w'.ownsRow w.heap.size 108 2 v ss.length (fl2 ss) ∧ (v = .slice none 0 0 ↔ ss = []) ∧ Below w.heap.size w w' := by
  have h1 : 1 ≤ n := by omega
  have c11 := fun w' hs => kc_append F (n - 1) h11 hro (by omega) g lb hFg eg S N hN hNb w' hs
  refine callsIn_of_wp Try.func68 rfl h8 ?_ hro
  simp only [Try.ntmps68, List.size_toArray, List.length_cons, List.length_nil, Nat.reduceAdd, Nat.reduceSub, Array.replicate_succ, Array.replicate_zero, List.push_toArray, List.append_toArray, List.nil_append, List.cons_append]
  gi_wp2_with fail
  refine (c11 _ hseq).mono ?_
  rintro e w' ⟨v, ss, rfl, hS, hrow, hnil, hb⟩
  gi_wp2_with fail
  go_ret
  exact ⟨v, ss, rfl, hS, hrow, hnil, hb⟩
end Go.Proofs.Ytddnpjlcmokbiaa

namespace Go.Proofs.Ytddnpjlcmokbiaa
open Go.RowKit Go.Maps Go.Sort Go.Shelf Go.Proofs

theorem isNaN_any (w : World) (x : Int) : Calls Try.prog 71 #[.int .i64 x] w fun e w' => e = .returned (.bool false) ∧ w' = w := by
  go_enter Try.func71, Try.ntmps71
  go_wp2
  go_ret
  exact ⟨by simp, rfl⟩

set_option maxRecDepth 100000 in
theorem compare_any (w : World) (x y : Int) : Calls Try.prog 64 #[.int .i64 x, .int .i64 y] w fun e w' => e = .returned (.int .i64 (Lib.compareInt x y)) ∧ w' = w := by
  by_cases h1 : x < y
  · have h2 : ¬ y < x := by omega
    go_enter Try.func64, Try.ntmps64
    go_wp2_with fail
    refine (isNaN_any w x).mono ?_
    rintro e w1 ⟨rfl, rfl⟩
    go_wp2_with fail
    refine (isNaN_any _ y).mono ?_
    rintro e w1 ⟨rfl, rfl⟩
    go_wp2_with fail
    go_ret
    exact ⟨by simp [Lib.compareInt, h1], rfl⟩
  · by_cases h2 : y < x
    · go_enter Try.func64, Try.ntmps64
      go_wp2_with fail
      refine (isNaN_any w x).mono ?_
      rintro e w1 ⟨rfl, rfl⟩
      go_wp2_with fail
      refine (isNaN_any _ y).mono ?_
      rintro e w1 ⟨rfl, rfl⟩
      go_wp2_with fail
      go_ret
      exact ⟨by simp [Lib.compareInt, h1, h2], rfl⟩
    · go_enter Try.func64, Try.ntmps64
      go_wp2_with fail
      refine (isNaN_any w x).mono ?_
      rintro e w1 ⟨rfl, rfl⟩
      go_wp2_with fail
      refine (isNaN_any _ y).mono ?_
      rintro e w1 ⟨rfl, rfl⟩
      go_wp2_with fail
      go_ret
      exact ⟨by rw [show Lib.compareInt x y = 0 from by unfold Lib.compareInt; rw [if_neg (by omega), if_neg (by omega)]]; rfl, rfl⟩

set_option maxRecDepth 100000 in
theorem or_any (w : World) (g : Nat) (a b : Int) (c0 : w.cell? ⟨g, 0, none⟩ = some (.int .i64 a)) (c1 : w.cell? ⟨g, 1, none⟩ = some (.int .i64 b)) :
    Calls Try.prog 63 #[.slice (some ⟨g, 0, none⟩) 2 2] w fun e w' => e = .returned (.int .i64 (if a = 0 then b else a)) ∧ w' = w := by
  by_cases ha : a = 0
  · subst ha
    by_cases hb : b = 0
    · subst hb
      go_enter Try.func63, Try.ntmps63
      go_wp2
      refine wp_loop_rounds 3 ?_
      rw [rounds_succ]
      go_wp2
      rw [rounds_succ]
      go_wp2
      rw [rounds_succ]
      go_wp2
      go_ret
      exact ⟨rfl, rfl⟩
    · have hb2 : (b != 0) = true := by simp [hb]
      go_enter Try.func63, Try.ntmps63
      go_wp2
      refine wp_loop_rounds 3 ?_
      rw [rounds_succ]
      go_wp2
      rw [rounds_succ]
      go_wp2
      go_ret
      exact ⟨by simp, rfl⟩
  · have ha2 : (a != 0) = true := by simp [ha]
    go_enter Try.func63, Try.ntmps63
    go_wp2
    refine wp_loop_rounds 3 ?_
    rw [rounds_succ]
    go_wp2
    go_ret
    exact ⟨by simp [ha], rfl⟩

set_option maxRecDepth 100000 in
set_option maxHeartbeats 1000000 in
theorem keycmp_any (W : World) (x y : Int × Int) :
    Calls Try.prog 62 #[.agg #[.int .i64 x.1, .int .i64 x.2], .agg #[.int .i64 y.1, .int .i64 y.2]] W fun e w' =>
      e = .returned (.int .i64 (if Lib.compareInt x.1 y.1 = 0 then Lib.compareInt x.2 y.2 else Lib.compareInt x.1 y.1)) ∧ ∃ q os', w' = grow (W.drewN q) os' := by
  obtain ⟨x1, x2⟩ := x
  obtain ⟨y1, y2⟩ := y
  simp only
  have hc1 := fun W' => compare_any W' x1 y1
  have hc2 := fun W' => compare_any W' x2 y2
  generalize Lib.compareInt x1 y1 = r1 at *
  generalize Lib.compareInt x2 y2 = r2 at *
  have ho := fun W' g c0 c1 => or_any W' g r1 r2 c0 c1
  generalize (if r1 = 0 then r2 else r1) = r3 at *
  go_enter Try.func62, Try.ntmps62
  go_wp2_with fail
  have f0 : ((W.alloc (.cells #[.int .i64 x1, .int .i64 x2] 108)).alloc (.cells #[.int .i64 y1, .int .i64 y2] 108)).drew.cell? ⟨W.heap.size, 0, none⟩ = some (.int .i64 x1) := by simp
  have f1 : ((W.alloc (.cells #[.int .i64 x1, .int .i64 x2] 108)).alloc (.cells #[.int .i64 y1, .int .i64 y2] 108)).drew.cell? ⟨W.heap.size, 1, none⟩ = some (.int .i64 x2) := by simp
  have f2 : ((W.alloc (.cells #[.int .i64 x1, .int .i64 x2] 108)).alloc (.cells #[.int .i64 y1, .int .i64 y2] 108)).drew.cell? ⟨W.heap.size + 1, 0, none⟩ = some (.int .i64 y1) := by simp
  have f3 : ((W.alloc (.cells #[.int .i64 x1, .int .i64 x2] 108)).alloc (.cells #[.int .i64 y1, .int .i64 y2] 108)).drew.cell? ⟨W.heap.size + 1, 1, none⟩ = some (.int .i64 y2) := by simp
  have hw : ((W.alloc (.cells #[.int .i64 x1, .int .i64 x2] 108)).alloc (.cells #[.int .i64 y1, .int .i64 y2] 108)).drew = grow (W.drewN 1) #[.cells #[.int .i64 x1, .int .i64 x2] 108, .cells #[.int .i64 y1, .int .i64 y2] 108] := by
    rw [alloc_eq_grow, alloc_eq_grow, grow_grow]; rfl
  have hwh := Lib.hid hw
  clear hw
  refine wp_region_plan (by kernel_rfl) [{ fl := [0, 1, 2, 3, 5, 6, 7, 8], long := [6, 8], ef := 4, keep := [6, 8] }, { fl := [], ef := 9 }, { fl := [], ef := 10 }, { fl := [], ef := 11 }] [12] (by kernel_rfl) (fun _ w9 => w9.cell? ⟨W.heap.size, 1, none⟩ = some (.int .i64 x2) ∧ w9.cell? ⟨W.heap.size + 1, 1, none⟩ = some (.int .i64 y2)) ?_
  simp only [wpPlan, longOK, keepOK, opsAt_cons, opsAt_nil, consO_some, List.getElem?_toArray, List.getElem?_cons_succ, List.getElem?_cons_zero, and_true, true_and]
  refine ⟨⟨⟨f1, f3⟩, f1, f3⟩, ?_⟩
  generalize ((W.alloc (.cells #[.int .i64 x1, .int .i64 x2] 108)).alloc (.cells #[.int .i64 y1, .int .i64 y2] 108)).drew = W2 at *
  generalize hq : W.heap.size = q at *
  go_wp2_with fail
  refine ⟨by kernel_rfl, ⟨?_, ?_⟩, ?_⟩
  · intro _ w9 h9
    obtain ⟨f1, f3⟩ := h9
    go_simp
  · intro _ w9 h9
    obtain ⟨f1, f3⟩ := h9
    go_simp
  go_wp2_with fail
  refine (hc1 _).mono ?_
  rintro e w1 ⟨rfl, rfl⟩
  go_wp2_with fail
  refine ⟨⟨⟨f1, f3⟩, f1, f3⟩, ?_⟩
  go_wp2_with fail
  refine ⟨by kernel_rfl, ?_⟩
  go_wp2_with fail
  refine (hc2 _).mono ?_
  rintro e w1 ⟨rfl, rfl⟩
  go_wp2_with fail
  refine ⟨by kernel_rfl, ?_⟩
  go_wp2_with fail
  refine ⟨by kernel_rfl, ?_⟩
  go_wp2_with fail
  refine (ho _ _ (by simp) (by simp)).mono ?_
  rintro e w1 ⟨rfl, rfl⟩
  go_wp2_with fail
  refine ⟨by kernel_rfl, ?_⟩
  go_wp2_with fail
  go_ret
  exact ⟨rfl, 1, _, by rw [hwh.out, alloc_eq_grow, grow_grow]⟩
end Go.Proofs.Ytddnpjlcmokbiaa

namespace Go.Proofs.Ytddnpjlcmokbiaa
open Go.RowKit Go.Maps Go.Sort Go.Shelf Go.Proofs

theorem fl2_get : ∀ (l : List (Int × Int)) (t : Nat), t < l.length * 2 → (fl2 l)[t]? = some (encL l[t / 2]!)[t % 2]!
  | [], t, h => by simp at h
  | p :: r, 0, _ => by simp [fl2, encL]
  | p :: r, 1, _ => by simp [fl2, encL]
  | p :: r, t + 2, h => by
    have h' : t < r.length * 2 := by simp at h; omega
    rw [show (t + 2) / 2 = t / 2 + 1 by omega, show (t + 2) % 2 = t % 2 by omega]
    simp only [fl2, List.getElem?_cons_succ]
    rw [fl2_get r t h']
    simp
theorem fl2_flatK (d : Array (Int × Int)) : (flatK encL 2 d).toList = fl2 d.toList := by
  apply List.ext_getElem?
  intro t
  by_cases h : t < d.size * 2
  · rw [fl2_get d.toList t (by simpa using h), Array.getElem?_toList, Array.getElem?_eq_getElem (by simpa using h), ← getElem!_pos _ t (by simpa using h), get_flatK _ _ _ _ h]
    rw [getElem!_pos d (t / 2) (by omega), getElem!_pos d.toList (t / 2) (by simp; omega)]
    rfl
  · rw [List.getElem?_eq_none (by simp; omega), List.getElem?_eq_none (by rw [fl2_len]; simp; omega)]

/-- By booking, then by kind. -/
def cfP (x y : Int × Int) : Int := if Lib.compareInt x.1 y.1 = 0 then Lib.compareInt x.2 y.2 else Lib.compareInt x.1 y.1
theorem ltP (x y : Int × Int) : ltOf cfP x y = decide (x.1 < y.1 ∨ (x.1 = y.1 ∧ x.2 < y.2)) := by
  unfold ltOf cfP Lib.compareInt
  by_cases h1 : x.1 < y.1
  · simp [h1]
  · by_cases h2 : y.1 < x.1
    · have : x.1 ≠ y.1 := by omega
      simp [h1, h2, this]
    · have : x.1 = y.1 := by omega
      simp only [this, Int.lt_irrefl, if_false]
      by_cases h3 : x.2 < y.2
      · simp [h3]
      · by_cases h4 : y.2 < x.2 <;> simp [h3, h4]
theorem swoP : SWO (ltOf cfP) where
  irrefl x := by rw [ltP]; simp
  trans x y z h1 h2 := by rw [ltP] at *; simp at *; omega
  ntrans x y z h1 h2 := by rw [ltP] at *; simp at *; omega

theorem sorted_eqP {d : Array (Int × Int)} {ks : List (Int × Int)} (hp : d.toList.Perm ks) (hs : SortedIn (ltOf cfP) 0 d.size d) (hk : ks.Pairwise fun a b => a.1 < b.1 ∨ (a.1 = b.1 ∧ a.2 < b.2)) : d.toList = ks := by
  refine List.Perm.eq_of_pairwise (le := fun a b => ltOf cfP b a = false) (fun a b _ _ h1 h2 => ?_) ?_ ?_ hp
  · rw [ltP] at h1 h2
    simp at h1 h2
    obtain ⟨a1, a2⟩ := a
    obtain ⟨b1, b2⟩ := b
    simp at h1 h2 ⊢
    omega
  · rw [List.pairwise_iff_getElem]
    intro i j hi hj hij
    have := hs i j (Nat.zero_le _) hij (by simpa using hj)
    rw [getElem!_pos d j (by simpa using hj), getElem!_pos d i (by simpa using hi)] at this
    simpa using this
  · refine hk.imp ?_
    intro a b h
    rw [ltP]
    simp
    omega

theorem holdsP {w : World} {g : Nat} {cur : Array Value} {e : TypeId} {ss : List (Int × Int)} (hb : w.heap[g]? = some (.cells cur e (0, 0))) (ht : cur.toList.take (ss.length * 2) = fl2 ss) : HoldsK encL 2 w g 0 ss.toArray := by
  intro j hj
  have hj' : j < ss.length * 2 := by simpa using hj
  refine ⟨?_, by simp [World.frozen?, hb]⟩
  have h1 : (cur.toList.take (ss.length * 2))[j]? = (fl2 ss)[j]? := by rw [ht]
  rw [List.getElem?_take_of_lt hj', fl2_get ss j hj'] at h1
  rw [get_flatK _ _ _ _ (by simpa using hj')]
  simp only [World.cell?, hb, Nat.zero_add]
  simp only [Option.isSome_none, Bool.false_eq_true, if_false]
  rw [← Array.getElem?_toList, h1]
  simp

theorem take_putCells_id (cur F : Array Value) (h : F.size ≤ cur.size) : (putCells id 0 F cur).toList.take F.size = F.toList := by
  apply List.ext_getElem?
  intro j
  by_cases hj : j < F.size
  · rw [List.getElem?_take_of_lt hj, Array.getElem?_toList]
    simp [putCells, hj, show j < cur.size by omega]
  · rw [List.getElem?_take_eq_none (by omega), List.getElem?_eq_none (by simp; omega)]

theorem ownsP_sorted {w : World} {base g cap n m : Nat} {e : TypeId} {os : Array Obj} {cur : Array Value} {d : Array (Int × Int)} (hd : d.size = n) (hbase : base ≤ g) (hb : w.heap[g]? = some (.cells cur e (0, 0)))
    (h1 : n ≤ cap) (h2 : cap ≤ maxLen) (h3 : cur.size = cap * 2) :
    (sortWorldK encL 2 w g 0 m d os).ownsRow base e 2 (.slice (some ⟨g, 0, none⟩) n cap) n (fl2 d.toList) := by
  have hg : g < w.heap.size := (Array.getElem?_eq_some_iff.1 hb).1
  refine ⟨by rw [fl2_len]; simp [hd], .inr ⟨g, cap, putCells id 0 (flatK encL 2 d) cur, rfl, hbase, ?_, h1, h2, by simp [putCells, h3], ?_⟩⟩
  · unfold sortWorldK putRowK
    rw [heap_grow_old _ _ (by simpa [putRow, mapBlock, Sort.ahead] using hg)]
    simp [putRow, mapBlock, Sort.ahead, Array.getElem?_modify, hb, onCells]
  · have := take_putCells_id cur (flatK encL 2 d) (by rw [size_flatK, h3, hd]; exact Nat.mul_le_mul_right 2 h1)
    rw [size_flatK, hd] at this
    rw [this, fl2_flatK]

theorem below_sorted {w w0 : World} {g m : Nat} {os : Array Obj} {d : Array (Int × Int)} (hb : Below w0.heap.size w0 w) (hg : w0.heap.size ≤ g) : Below w0.heap.size w0 (sortWorldK encL 2 w g 0 m d os) := by
  refine hb.grown (row := some g) ?_ hb.size (fun j hj => by cases hj; exact hg)
  refine ⟨rfl, rfl, rfl, by simp [sortWorldK, putRowK, putRow, mapBlock, Sort.ahead, grow], fun k hk hne => ?_⟩
  unfold sortWorldK putRowK
  rw [heap_grow_old _ _ (by simpa [putRow, mapBlock, Sort.ahead] using hk)]
  have : g ≠ k := fun e => hne (by rw [e])
  simp [putRow, mapBlock, Sort.ahead, Array.getElem?_modify, this]

/-- The keys of a table, by booking, then by kind. -/
def tkeys (f : Tab) : List (Int × Int) := ((List.range 1200).map fun (i : Nat) => (((i / 6 : Nat) : Int) + 1, ((i % 6 : Nat) : Int) + 1)).filter fun p => decide (f p ≠ 0)
theorem tkeys_mem {f : Tab} (hk : ∀ p, f p ≠ 0 → (1 ≤ p.1 ∧ p.1 ≤ 200) ∧ (1 ≤ p.2 ∧ p.2 ≤ 6)) (p : Int × Int) : p ∈ tkeys f ↔ (tabMap f p).isSome = true := by
  unfold tkeys tabMap
  simp only [List.mem_filter, List.mem_map, List.mem_range, decide_eq_true_eq]
  constructor
  · rintro ⟨_, h⟩
    simp [h]
  · intro h
    have h0 : f p ≠ 0 := by
      intro e
      simp [e] at h
    obtain ⟨⟨h1, h2⟩, h3, h4⟩ := hk p h0
    refine ⟨⟨((p.1 - 1) * 6 + (p.2 - 1)).toNat, by omega, ?_⟩, h0⟩
    obtain ⟨a, b⟩ := p
    simp only [Prod.mk.injEq] at *
    omega
theorem tkeys_rising (f : Tab) : (tkeys f).Pairwise fun a b => a.1 < b.1 ∨ (a.1 = b.1 ∧ a.2 < b.2) := by
  unfold tkeys
  refine List.Pairwise.filter _ ?_
  rw [List.pairwise_map]
  exact List.pairwise_lt_range.imp (fun h => by simp only; omega)
theorem tkeys_nodup (f : Tab) : (tkeys f).Nodup := (tkeys_rising f).imp (fun h e => by subst e; omega)
theorem tkeys_len (f : Tab) : (tkeys f).length ≤ 1200 := by
  unfold tkeys
  refine Nat.le_trans (List.length_filter_le _ _) ?_
  simp
end Go.Proofs.Ytddnpjlcmokbiaa

namespace Go.Proofs.Ytddnpjlcmokbiaa
open Go.RowKit Go.Maps Go.Sort Go.Shelf Go.Proofs

theorem ksort_any (blk cap : Nat) (d : Array (Int × Int)) (w : World) (hH : HoldsK encL 2 w blk 0 d) (hblk : blk < w.heap.size) (hsz : d.size < 4611686018427387904) :
    Calls Try.prog 69 #[.slice (some ⟨blk, 0, none⟩) d.size cap, .func (.func 62) #[] #[]] w fun e w' =>
      e = .returned (.tuple #[]) ∧ ∃ d' n os, PermIn 0 d.size d d' ∧ SortedIn (ltOf cfP) 0 d.size d' ∧ w' = sortWorldK encL 2 w blk 0 n d' os :=
  AnyQ.slices_SortFunc ksort 2 Try.isAgg108 Try.sizeOf108 encL (fun _ => rfl) (fun x v hv => by simp [encL] at hv; rcases hv with rfl | rfl <;> rfl) cfP swoP 62 #[] blk 0 cap d w
    (enters_of Try.func62 (by kernel_rfl) rfl) (fun _ _ _ _ x y => keycmp_any _ x y) hH hblk hsz

theorem permIn_all {d d' : Array (Int × Int)} (h : PermIn 0 d.size d d') : d'.toList.Perm d.toList := by
  obtain ⟨h1, _, h2⟩ := h
  have e1 : d.extract 0 d.size = d := by simp
  have e2 : d'.extract 0 d.size = d' := by rw [← h1]; simp
  rwa [e1, e2] at h2

set_option maxRecDepth 100000 in
set_option maxHeartbeats 1000000 in
theorem sortedFunc_any {w : World} {Bm mb : Nat} {f : Tab} (hBm : Bm < w.heap.size) (hm : w.cell? ⟨Bm, 0, none⟩ = some (.map (some mb))) (hM : MapOf encP w mb (tabMap f)) (hk : ∀ p, f p ≠ 0 → (1 ≤ p.1 ∧ p.1 ≤ 200) ∧ (1 ≤ p.2 ∧ p.2 ≤ 6)) :
    Calls Try.prog 60 #[.func (.func 70) #[] #[.pointer (some ⟨Bm, 0, none⟩)], .func (.func 62) #[] #[]] w fun e w' => ∃ v : Value, e = .returned v ∧
      w'.ownsRow w.heap.size 108 2 v (tkeys f).length (fl2 (tkeys f)) ∧ Below w.heap.size w w' := by
  obtain ⟨nn, D0, hown, hD, hK⟩ := hM.owned law2 encP_inj (tabMap_keys hk) (tkeys f) (tkeys_nodup f) (tkeys_mem hk) (by have := tkeys_len f; unfold maxLen; omega)
  have hbl := hown.lt
  have hDl : Maps.size D0 ≤ 1200 := Nat.le_trans hD (tkeys_len f)
  have hseq : SeqGives Fence.wide 2 Try.prog 70 #[.pointer (some ⟨Bm, 0, none⟩)] encP (fun ss => ss.Perm (tkeys f)) (Maps.size D0) w := fun l J W hW hJ hY h0 => by
    have hown' : W.ownsMap Try.prog 108 anyE mb nn D0 := by
      obtain ⟨es, clock, hb, Ft, hs, hD⟩ := hown
      exact ⟨es, clock, (hW.block mb hbl).trans hb, Ft, hs, hD⟩
    refine (kkeys1 Fence.wide 2 trivial rfl (by omega) l Bm mb nn D0 (tabMap f) hK J hY W hJ ((hW.cell (p := ⟨Bm, 0, none⟩) hBm).trans hm) hown' h0).mono ?_
    rintro e W' ⟨hv, ss, left, hC, hl, hJs⟩
    exact ⟨hv, ss, hC.done hK (tabMap_keys hk) law2 encP_inj hl (tkeys f) (tkeys_nodup f) (tkeys_mem hk), hJs⟩
  have cC := callsIn_wide.1 (kc_collect Fence.wide 4 trivial trivial rfl (by omega) 70 #[.pointer (some ⟨Bm, 0, none⟩)] trivial (enters_of Try.func70 (by kernel_rfl) rfl) _ (Maps.size D0) (by unfold maxLen; omega) (by omega) w hseq)
  clear hown hbl hseq hM hm hBm hK
  go_enter Try.func60, Try.ntmps60
  go_wp2_with fail
  refine cC.mono ?_
  rintro e w1 ⟨v, ss, rfl, hS, hrow, hnil, hb⟩
  have hsl := hS.length_eq
  have htl := tkeys_len f
  go_wp2_with fail
  rcases hrow.2 with ⟨rfl, hz⟩ | ⟨gb, cap, cur, rfl, hbase, hgb, r1, r2, r3, r4⟩
  · have hss : ss = [] := List.eq_nil_of_length_eq_zero hz
    subst hss
    have hnone := AnyF.slices_SortFunc_none ksort none 0 (.func (.func 62) #[] #[]) w1
    change Calls Try.prog 69 _ _ _ at hnone
    refine hnone.mono ?_
    rintro e w2 ⟨rfl, rfl⟩
    go_wp2_with fail
    go_ret
    have h0 : tkeys f = [] := List.eq_nil_of_length_eq_zero (by simpa using hsl.symm)
    rw [h0]
    exact ⟨_, rfl, hrow, hb⟩
  · have hH : HoldsK encL 2 w1 gb 0 ss.toArray := holdsP hgb r4
    have hgl : gb < w1.heap.size := (Array.getElem?_eq_some_iff.1 hgb).1
    have cS := ksort_any gb cap ss.toArray w1 hH hgl (by simp; omega)
    simp only [List.size_toArray] at cS
    refine cS.mono ?_
    rintro e w2 ⟨rfl, d', m, os, hp, hs, rfl⟩
    have hds : d'.size = ss.length := by simpa using hp.1
    have hp' := permIn_all (d := ss.toArray) (by simpa using hp)
    have hl : d'.toList = tkeys f := sorted_eqP (hp'.trans (by simpa using hS)) (by rw [hds]; exact hs) (tkeys_rising f)
    have ho := ownsP_sorted (w := w1) (m := m) (os := os) hds hbase hgb r1 r2 r3
    have hB := below_sorted (m := m) (os := os) (d := d') hb hbase
    rw [hl, hsl] at ho
    generalize sortWorldK encL 2 w1 gb 0 m d' os = w2 at *
    go_wp2_with fail
    go_ret
    exact ⟨_, rfl, ho, hB⟩

theorem mkeys_any (w : World) (mb : Option Nat) :
    Calls Try.prog 61 #[.map mb] w fun e w' => e = .returned (.func (.func 70) #[] #[.pointer (some ⟨w.heap.size, 0, none⟩)]) ∧ w' = w.alloc (.cells #[.map mb] 98) := by
  go_enter Try.func61, Try.ntmps61
  go_wp2
  go_ret
  exact ⟨rfl, rfl⟩

set_option maxRecDepth 100000 in
theorem keys_nil_any (w : World) : Calls Try.prog 54 #[.pointer none] w fun e w' => e = .returned (.slice none 0 0) ∧ w' = w := by
  go_enter Try.func54, Try.ntmps54
  go_wp2
  go_ret
  exact ⟨rfl, rfl⟩

set_option maxRecDepth 100000 in
set_option maxHeartbeats 1000000 in
theorem keys_own {w : World} {t mt : Nat} {f : Tab} (h : TabAt w t mt f) :
    Calls Try.prog 54 #[.pointer (some ⟨t, 0, none⟩)] w fun e w' => ∃ v : Value, e = .returned v ∧
      w'.ownsRow w.heap.size 108 2 v (tkeys f).length (fl2 (tkeys f)) ∧ Below w.heap.size w w' := by
  have hc0 : w.cell? ⟨t, 0, none⟩ = some (.map (some mt)) := by rw [h.blk.cell]; rfl
  have hM := h.map
  have hk := h.keys
  go_enter Try.func54, Try.ntmps54
  go_wp2_with fail
  refine (mkeys_any w (some mt)).mono ?_
  rintro e w1 ⟨rfl, hw1⟩
  have hm1 : w1.cell? ⟨w.heap.size, 0, none⟩ = some (.map (some mt)) := by rw [hw1]; simp
  have hM1 : MapOf encP w1 mt (tabMap f) := hM.keep (by rw [hw1]; exact Below.heap_alloc w _ mt hM.lt)
  have hs1 : w1.heap.size = w.heap.size + 1 := by rw [hw1]; simp
  have hb1 : Below w.heap.size w w1 := by rw [hw1]; exact (Below.refl _ w).alloc (Nat.le_refl _) _
  clear hw1 hc0
  go_wp2_with fail
  refine (sortedFunc_any (by omega) hm1 hM1 hk).mono ?_
  rintro e w2 ⟨v, rfl, hrow, hb2⟩
  go_wp2_with fail
  go_ret
  exact ⟨_, rfl, ownsRow_base_a hrow (by omega), hb1.trans (hb2.mono (by omega))⟩

/-- A slice of keys. -/
def KeysIn (w : World) (ad : Option Addr) (ks : List (Int × Int)) : Prop :=
  ∀ (i : Nat) (p : Int × Int), ks[i]? = some p → ∃ g, ad = some ⟨g, 0, none⟩ ∧ w.cell? ⟨g, i * 2, none⟩ = some (.int .i64 p.1) ∧ w.cell? ⟨g, i * 2 + 1, none⟩ = some (.int .i64 p.2)

theorem keysIn_own {w : World} {base : Nat} {v : Value} {ks : List (Int × Int)} (h : w.ownsRow base 108 2 v ks.length (fl2 ks)) :
    ∃ ad cap, v = .slice ad ks.length cap ∧ KeysIn w ad ks ∧ ∀ a, ad = some a → base ≤ a.block ∧ a.block < w.heap.size := by
  rcases h.2 with ⟨rfl, hz⟩ | ⟨g, cap, cur, rfl, hbase, hgb, r1, r2, r3, r4⟩
  · refine ⟨none, 0, by rw [hz], ?_, fun a ha => by cases ha⟩
    intro i p hi
    have : ks = [] := List.eq_nil_of_length_eq_zero hz
    subst this
    simp at hi
  · have hgl : g < w.heap.size := (Array.getElem?_eq_some_iff.1 hgb).1
    refine ⟨some ⟨g, 0, none⟩, cap, rfl, ?_, fun a ha => by cases ha; exact ⟨hbase, hgl⟩⟩
    intro i p hi
    have hlt : i < ks.length := (List.getElem?_eq_some_iff.1 hi).1
    have hv : ks[i] = p := (List.getElem?_eq_some_iff.1 hi).2
    have key : ∀ j, j < 2 → w.cell? ⟨g, i * 2 + j, none⟩ = some (encL ks[i])[j]! := by
      intro j hj
      have h1 : (cur.toList.take (ks.length * 2))[i * 2 + j]? = (fl2 ks)[i * 2 + j]? := by rw [r4]
      rw [List.getElem?_take_of_lt (by omega), fl2_get ks _ (by omega), show (i * 2 + j) / 2 = i by omega, show (i * 2 + j) % 2 = j by omega, getElem!_pos ks i hlt] at h1
      simp only [World.cell?, hgb]
      simp only [Option.isSome_none, Bool.false_eq_true, if_false]
      rw [← Array.getElem?_toList, h1]
    refine ⟨g, rfl, ?_, ?_⟩
    · have := key 0 (by omega)
      rw [hv] at this
      simpa [encL] using this
    · have := key 1 (by omega)
      rw [hv] at this
      simpa [encL] using this

theorem keys_any {w : World} {t mt : Nat} {f : Tab} (h : TabAt w t mt f) :
    Calls Try.prog 54 #[.pointer (some ⟨t, 0, none⟩)] w fun e w' => ∃ ad cap, e = .returned (.slice ad (tkeys f).length cap) ∧
      KeysIn w' ad (tkeys f) ∧ (∀ a, ad = some a → w.heap.size ≤ a.block ∧ a.block < w'.heap.size) ∧ Chg (fun _ => False) w w' := by
  refine (keys_own h).mono ?_
  rintro e w' ⟨v, rfl, hrow, hb⟩
  obtain ⟨ad, cap, rfl, h1, h2⟩ := keysIn_own hrow
  exact ⟨ad, cap, rfl, h1, h2, Chg.ofBelow hb (fun i hi hb => by omega)⟩
end Go.Proofs.Ytddnpjlcmokbiaa
