/-
  disk: how files lie in memory; New, may, of, Synced, Sync by their contracts.
-/
import Derived.Test.YtpbjompopgdbjaaProg
import Derived.Test.YtpbjompopgdbjaaZLibMap
import Derived.WalkKit
import Derived.WalkLawsBesides
import Derived.Lib.Hide
import Derived.Test.YtpbjompopgdbjaaMapD
import Derived.Test.YtpbjompopgdbjaaRegionC
import Derived.Deep.Upon
namespace Go.Proofs.Ytpbjompopgdbjaa
open Go.RowKit Go.Maps

def bcells (l : List UInt8) : List Value := l.map fun b => .int .u8 b.toNat
theorem bcells_len (l : List UInt8) : (bcells l).length = l.length := by simp [bcells]
theorem bcells_app (a b : List UInt8) : bcells (a ++ b) = bcells a ++ bcells b := by simp [bcells]

theorem came_keep {w w' : World} {size : Nat} {ao : Option Addr} {b off len cap : Nat} {olds : List Value} (h : Came w size ao b off len cap olds) (hb : 0 < cap → w'.heap[b]? = w.heap[b]?) (hl : 0 < cap → b < w'.heap.size) : Came w' size ao b off len cap olds := by
  have hle := h.le
  have hol := h.oldsLen
  refine ⟨h.le, h.addr, hl, h.oldsLen, fun j u hj => ?_, fun j hj => ?_⟩
  · have hc : 0 < cap := by
      have := (List.getElem?_eq_some_iff.1 hj).1
      rw [hol] at this
      rcases Nat.eq_zero_or_pos len with h0 | h0
      · subst h0; simp at this
      · omega
    rw [World.cell?_of_block (a := ⟨b, off + j, none⟩) (hb hc)]
    exact h.olds j u hj
  · have hc : 0 < cap := by
      rcases Nat.eq_zero_or_pos cap with h0 | h0
      · subst h0; simp at hj
      · exact h0
    rw [World.cell?_of_block (a := ⟨b, off + len * size + j, none⟩) (hb hc), World.frozen?_of_block (a := ⟨b, off + len * size + j, none⟩) (hb hc)]
    exact h.spare j hj

/-- A file: its block fb, the block rb of its bytes. -/
structure RowB (w : World) (ao : Option Addr) (off cap rb : Nat) (bs : List UInt8) : Prop where
  came : Came w 1 ao rb off bs.length cap (bcells bs)
  mx : cap ≤ maxLen
def FilAt (w : World) (fb rb : Nat) (f : Fil) : Prop :=
  ∃ ao off cap, Blk w fb 84 #[.slice ao f.bs.length cap, .int .i64 f.sy] ∧ RowB w ao off cap rb f.bs ∧ (0 < cap → rb ≠ fb)
theorem RowB.keep {w w' : World} {ao : Option Addr} {off cap rb : Nat} {bs : List UInt8} (h : RowB w ao off cap rb bs) (hz : w.heap.size ≤ w'.heap.size) (hb : 0 < cap → w'.heap[rb]? = w.heap[rb]?) : RowB w' ao off cap rb bs :=
  ⟨came_keep h.came hb (fun hc => Nat.lt_of_lt_of_le (h.came.lt hc) hz), h.mx⟩
theorem FilAt.chg {w w' : World} {fb rb : Nat} {f : Fil} {T : Nat → Prop} (h : FilAt w fb rb f) (hc : Chg T w w') (h1 : ¬ T fb) (h2 : ¬ T rb) : FilAt w' fb rb f := by
  obtain ⟨ao, off, cap, hB, hR, hn⟩ := h
  exact ⟨ao, off, cap, hB.chg hc h1, hR.keep hc.size (fun h0 => hc.block rb (hR.came.lt h0) h2), hn⟩
theorem FilAt.lt {w : World} {fb rb : Nat} {f : Fil} (h : FilAt w fb rb f) : fb < w.heap.size := by
  obtain ⟨ao, off, cap, hB, _⟩ := h
  exact hB.lt

def ptrF (o : Option Fil) (fb : Nat) : Option Value := match o with
  | none => none
  | some _ => some (.pointer (some ⟨fb, 0, none⟩))
def adrF (o : Option Fil) (fb : Nat) : Option Addr := match o with
  | none => none
  | some _ => some ⟨fb, 0, none⟩

structure DiskAt (S : Nat → Prop) (w : World) (d md : Nat) (pl : Nam → Nat × Nat) (D : Dsk) : Prop where
  blk : Blk w d 70 #[.map (some md), .int .i64 D.room]
  map : MapOf encStr w md (fun n => ptrF (D.fl n) (pl n).1)
  fil : ∀ n f, D.fl n = some f → FilAt w (pl n).1 (pl n).2 f
  good : D.Good
  sd : S d
  sm : S md
  sf : ∀ n, (D.fl n).isSome = true → S (pl n).1 ∧ S (pl n).2
  ap : ∀ n m, (D.fl n).isSome = true → (D.fl m).isSome = true → n ≠ m → (pl n).1 ≠ (pl m).1 ∧ (pl n).2 ≠ (pl m).2 ∧ (pl n).1 ≠ (pl m).2
  lo : ∀ n, (D.fl n).isSome = true → (pl n).2 ≠ d ∧ (pl n).2 ≠ md ∧ (pl n).2 < w.heap.size
def DiskW (S : Nat → Prop) (w : World) (d : Nat) (D : Dsk) : Prop := ∃ md pl, DiskAt S w d md pl D

theorem mapS_ne {w : World} {b : Nat} {f : Nam → Option Value} (h : MapOf encStr w b f) {g : Nat} {t : TypeId} {cs : Array Value} (hg : Blk w g t cs) : b ≠ g := by
  rintro rfl
  obtain ⟨es, clock, h1, _⟩ := h
  unfold Blk at hg
  rw [h1] at hg; cases hg
theorem mapS_chg {S : Nat → Prop} {w w' : World} {b : Nat} {f : Nam → Option Value} (h : MapOf encStr w b f) (hc : Chg S w w') (hn : ¬ S b) : MapOf encStr w' b f := h.keep (hc.block b h.lt hn)

section
variable {S : Nat → Prop} {w w' : World} {d md : Nat} {pl : Nam → Nat × Nat} {D : Dsk}
theorem size_al (w : World) (o : Obj) : (w.alloc o).heap.size = w.heap.size + 1 := by simp
theorem some_isSome {α : Type} {o : Option α} {x : α} (h : o = some x) : o.isSome = true := by rw [h]; rfl
theorem DiskAt.chg (h : DiskAt S w d md pl D) {T : Nat → Prop} (hc : Chg T w w') (hn : ∀ i, S i → ¬ T i) : DiskAt S w' d md pl D :=
  ⟨h.blk.chg hc (hn _ h.sd), mapS_chg h.map hc (hn _ h.sm), fun n f hf => (h.fil n f hf).chg hc (hn _ (h.sf n (some_isSome hf)).1) (hn _ (h.sf n (some_isSome hf)).2), h.good, h.sd, h.sm, h.sf, h.ap, fun n hn => ⟨(h.lo n hn).1, (h.lo n hn).2.1, Nat.lt_of_lt_of_le (h.lo n hn).2.2 hc.size⟩⟩
theorem DiskAt.fne (h : DiskAt S w d md pl D) {n : Nam} (hn : (D.fl n).isSome = true) : (pl n).1 ≠ d ∧ (pl n).1 ≠ md ∧ (pl n).1 < w.heap.size := by
  obtain ⟨f, hf⟩ := Option.isSome_iff_exists.1 hn
  obtain ⟨ao, off, cap, hB, _⟩ := h.fil n f hf
  exact ⟨hB.ne h.blk (by decide), fun e => mapS_ne h.map hB e.symm, hB.lt⟩

/-- One file that is there has turned. -/
theorem DiskAt.turn (h : DiskAt S w d md pl D) {n : Nam} {f f' : Fil} (hf : D.fl n = some f) {T : Nat → Prop} (hc : Chg T w w') (hT : ∀ i, T i → i = (pl n).1 ∨ i = (pl n).2) (hTd : ¬ T d) (hTm : ¬ T md) {rb : Nat} (hF : FilAt w' (pl n).1 rb f')
    (hrb : rb = (pl n).2 ∨ (w.heap.size ≤ rb ∧ rb < w'.heap.size ∧ S rb)) (hg : (D.put n f').Good) : DiskAt S w' d md (upd pl n ((pl n).1, rb)) (D.put n f') := by
  have hs : (D.fl n).isSome = true := some_isSome hf
  have hps : ∀ m, ((D.put n f').fl m).isSome = true → (D.fl m).isSome = true := fun m hm => by
    by_cases e : m = n
    · rw [e]; exact hs
    · unfold Dsk.put at hm
      simp only [upd_other _ _ _ _ e] at hm
      exact hm
  have p1 : ∀ m, (upd pl n ((pl n).1, rb) m).1 = (pl m).1 := fun m => by
    by_cases e : m = n
    · subst e; rw [upd_same]
    · rw [upd_other _ _ _ _ e]
  have p2 : ∀ m, m ≠ n → (upd pl n ((pl n).1, rb) m).2 = (pl m).2 := fun m e => by rw [upd_other _ _ _ _ e]
  have p3 : (upd pl n ((pl n).1, rb) n).2 = rb := by rw [upd_same]
  have hlo := h.lo n hs
  have hfn := h.fne hs
  refine ⟨h.blk.chg hc hTd, ?_, ?_, hg, h.sd, h.sm, ?_, ?_, ?_⟩
  · have e : (fun m => ptrF ((D.put n f').fl m) (upd pl n ((pl n).1, rb) m).1) = fun m => ptrF (D.fl m) (pl m).1 := by
      funext m
      rw [p1]
      unfold Dsk.put
      simp only
      by_cases e : m = n
      · subst e; rw [upd_same, hf]; rfl
      · rw [upd_other _ _ _ _ e]
    rw [e]
    exact mapS_chg h.map hc hTm
  · intro m g hm
    rw [p1]
    by_cases e : m = n
    · subst e
      rw [p3]
      unfold Dsk.put at hm
      simp only [upd_same] at hm
      cases hm
      exact hF
    · rw [p2 m e]
      unfold Dsk.put at hm
      simp only [upd_other _ _ _ _ e] at hm
      have ha := h.ap m n (some_isSome hm) hs e
      have hb := h.ap n m hs (some_isSome hm) (fun h => e h.symm)
      refine (h.fil m g hm).chg hc (fun ht => ?_) (fun ht => ?_)
      · rcases hT _ ht with h1 | h1
        · exact ha.1 h1
        · exact ha.2.2 h1
      · rcases hT _ ht with h1 | h1
        · exact hb.2.2 h1.symm
        · exact ha.2.1 h1
  · intro m hm
    have := h.sf m (hps m hm)
    rw [p1]
    by_cases e : m = n
    · subst e
      rw [p3]
      refine ⟨this.1, ?_⟩
      rcases hrb with h1 | h1
      · rw [h1]; exact this.2
      · exact h1.2.2
    · rw [p2 m e]
      exact this
  · intro a b ha hb hab
    have h1 := h.ap a b (hps a ha) (hps b hb) hab
    have la := h.lo a (hps a ha)
    have lb := h.lo b (hps b hb)
    have fa := h.fne (hps a ha)
    rw [p1, p1]
    by_cases ea : a = n
    · subst ea
      rw [p3, p2 b (fun h => hab h.symm)]
      refine ⟨h1.1, ?_, h1.2.2⟩
      rcases hrb with h2 | h2
      · rw [h2]; exact h1.2.1
      · omega
    · rw [p2 a ea]
      by_cases eb : b = n
      · subst eb
        rw [p3]
        rcases hrb with h2 | h2
        · rw [h2]; exact h1
        · refine ⟨h1.1, ?_, ?_⟩ <;> omega
      · rw [p2 b eb]; exact h1
  · intro m hm
    have := h.lo m (hps m hm)
    have hz := hc.size
    by_cases e : m = n
    · subst e
      rw [p3]
      rcases hrb with h2 | h2
      · rw [h2]; exact ⟨this.1, this.2.1, by omega⟩
      · have hd := h.blk.lt
        have hm := h.map.lt
        refine ⟨?_, ?_, h2.2.1⟩ <;> omega
    · rw [p2 m e]
      exact ⟨this.1, this.2.1, by omega⟩
end

theorem lawS : Keyed Try.prog 9 := string_keyed Try.underlying9
theorem keyS {n : Nam} (h : n.length ≤ maxLen) : keyOf Try.prog 9 (encStr n) = some (.string n) := WideMaps.keyOf_string_mk Try.underlying9 (s := ⟨n.toArray⟩) h
theorem DiskAt.keys {S : Nat → Prop} {w : World} {d md : Nat} {pl : Nam → Nat × Nat} {D : Dsk} (h : DiskAt S w d md pl D) : ∀ a v, ptrF (D.fl a) (pl a).1 = some v → ∃ l, keyOf Try.prog 9 (encStr a) = some l := by
  intro a v hv
  have : (D.fl a).isSome = true := by
    cases hf : D.fl a with
    | none => rw [hf] at hv; cases hv
    | some f => rfl
  exact ⟨_, keyS (Nat.le_trans (h.good.nam a this).2 (by unfold maxLen; omega))⟩
theorem DiskAt.look {S : Nat → Prop} {w w1 : World} {d md : Nat} {pl : Nam → Nat × Nat} {D : Dsk} (h : DiskAt S w d md pl D) (hw : w1.heap[md]? = w.heap[md]?) (n : Nam) (hn : n.length ≤ maxLen) (p : Option Addr) (hp : adrF (D.fl n) (pl n).1 = p) :
    (Instr.lookup 68 (.map (some md)) (encStr n) false).run Try.prog w1 = .ok (.pointer p) w1 := by
  have h := (h.map.keep hw).look lawS encS_inj h.keys (e := 82) (t := 68) Try.underlying68 (z := .pointer none) (by kernel_rfl) (a := n) (keyS hn) false
  rw [← hp]
  cases hf : D.fl n with
  | none => rw [hf] at h; exact h
  | some f => rw [hf] at h; exact h

set_option maxRecDepth 100000 in
theorem dsk_new (w : World) (r : Int) (hr : 0 ≤ r ∧ r ≤ 1000000) (S : Nat → Prop) (hS : ∀ i, w.heap.size ≤ i → S i) :
    Calls Try.prog 8 #[.int .i64 r] w fun e w' => ∃ d, e = .returned (.tuple #[.pointer (some ⟨d, 0, none⟩), .int .i64 0]) ∧ DiskW S w' d (Dsk.new r) ∧ Chg (fun _ => False) w w' ∧ w.heap.size ≤ d := by
  have hmm := @run_makeMap Try.prog
  obtain ⟨h0, h1⟩ := hr
  go_enter Try.func8, Try.ntmps8
  go_wp2
  go_ret2
  have hm := (MapOf.made (enc := encStr) w).keep (Below.heap_alloc (w.alloc (.map #[] 0)) (.cells #[.map (some w.heap.size), .int .i64 r] 70) w.heap.size (by simp))
  have hb := Blk.new (w.alloc (.map #[] 0)) 70 #[.map (some w.heap.size), .int .i64 r]
  simp only [size_al] at hb
  have hA : DiskAt S ((w.alloc (.map #[] 0)).alloc (.cells #[.map (some w.heap.size), .int .i64 r] 70)) (w.heap.size + 1) w.heap.size (fun _ => (0, 0)) (Dsk.new r) :=
    { blk := hb, map := hm, fil := fun n f h => (nomatch h), good := Dsk.Good.new h0 h1, sd := hS _ (by omega), sm := hS _ (Nat.le_refl _), sf := fun n h => (nomatch h), ap := fun n m h => (nomatch h), lo := fun n h => (nomatch h) }
  refine ⟨_, rfl, ⟨_, _, hA⟩, ((Chg.refl _ w).alloc _).alloc _, by omega⟩

set_option maxRecDepth 100000 in
theorem dsk_new_bad (w : World) (r : Int) (hr : ¬ (0 ≤ r ∧ r ≤ 1000000)) :
    Calls Try.prog 8 #[.int .i64 r] w fun e w' => e = .returned (.tuple #[.pointer none, .int .i64 1]) ∧ w' = w := by
  by_cases h0 : r < 0
  · go_enter Try.func8, Try.ntmps8
    go_wp2
    go_ret2
    exact ⟨rfl, rfl⟩
  · have h1 : 1000000 < r := by omega
    go_enter Try.func8, Try.ntmps8
    go_wp2
    go_ret2
    exact ⟨rfl, rfl⟩

set_option maxRecDepth 100000 in
theorem dsk_may (w : World) (n : Nam) : Calls Try.prog 40 #[encStr n] w fun e w' => e = .returned (.bool (may n)) ∧ w' = w := by
  unfold may
  by_cases h : 1 ≤ n.length
  · go_enter Try.func40, Try.ntmps40
    go_wp2
    go_ret
    simp [h]
    omega
  · go_enter Try.func40, Try.ntmps40
    go_wp2
    go_ret
    simp

set_option maxRecDepth 100000 in
theorem dsk_of {S : Nat → Prop} {w : World} {d md : Nat} {pl : Nam → Nat × Nat} {D : Dsk} (h : DiskAt S w d md pl D) (n : Nam) (hn : n.length ≤ maxLen) :
    Calls Try.prog 38 #[.pointer (some ⟨d, 0, none⟩), encStr n] w fun e w' => e = .returned (.pointer (adrF (D.fl n) (pl n).1)) ∧ w' = w := by
  have h0 := h.look rfl n hn _ rfl
  have c0 : w.cell? ⟨d, 0, none⟩ = some (.map (some md)) := by rw [h.blk.cell]; rfl
  generalize adrF (D.fl n) (pl n).1 = p at *
  go_enter Try.func38, Try.ntmps38
  go_wp2
  go_ret
  exact ⟨rfl, rfl⟩
set_option maxRecDepth 100000 in
theorem dsk_of_nil (w : World) (n : Nam) :
    Calls Try.prog 38 #[.pointer none, encStr n] w fun e w' => e = .returned (.pointer none) ∧ w' = w := by
  go_enter Try.func38, Try.ntmps38
  go_wp2
  go_ret
  exact ⟨rfl, rfl⟩
end Go.Proofs.Ytpbjompopgdbjaa
