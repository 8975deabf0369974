/-
  layer 10: a ledger and the reference's purse side by side.
-/
import Derived.Test.YtjgnnefhnddecaaRPurC
import Derived.Test.YtjgnnefhnddecaaRPurN
import Derived.Test.YtjgnnefhnddecaaRPurK
import Derived.Test.YtjgnnefhnddecaaPurseCp
import Derived.Test.YtjgnnefhnddecaaPurseC
import Derived.Test.YtjgnnefhnddecaaPurseD
import Derived.Test.YtjgnnefhnddecaaPurseF
import Derived.Test.YtjgnnefhnddecaaPurseT
import Derived.Test.YtjgnnefhnddecaaPurseK
import Derived.Deep.DeepCutAuto
import Derived.Deep.CutBlock
namespace Go.Proofs.Ytjgnnefhnddecaa
open Go.RowKit Go.Maps

theorem own_block {w : World} {base : Nat} {e : TypeId} {size n g : Nat} {v : Value} {xs : List Value} (h : w.ownsRow base e size v n xs) (hv : v.ownBlock = some g) : ∃ cur, w.heap[g]? = some (.cells cur e (0, 0)) := by
  rcases h.2 with ⟨rfl, _⟩ | ⟨g', cap, cur, rfl, _, hh, _⟩
  · simp [Value.ownBlock] at hv
  · have : g' = g := by simpa [Value.ownBlock] using hv
    subst this
    exact ⟨cur, hh⟩
theorem own_ne_own {w : World} {base base' : Nat} {e e' : TypeId} {size size' n n' : Nat} {v v' : Value} {xs xs' : List Value} (h : w.ownsRow base e size v n xs) (h' : w.ownsRow base' e' size' v' n' xs') (hne : e ≠ e') {g : Nat} (hv : v.ownBlock = some g) : v'.ownBlock ≠ some g := by
  intro hv'
  obtain ⟨c, h1⟩ := own_block h hv
  obtain ⟨c', h2⟩ := own_block h' hv'
  rw [h1] at h2
  cases h2
  exact hne rfl
theorem own_ne_mapv {w : World} {base : Nat} {e : TypeId} {size n mb : Nat} {v : Value} {xs : List Value} {f : Int → Option Value} (h : w.ownsRow base e size v n xs) (hm : MapOf encI w mb f) : v.ownBlock ≠ some mb := by
  intro hv
  obtain ⟨c, h1⟩ := own_block h hv
  obtain ⟨es, clock, h2, _⟩ := hm
  rw [h1] at h2
  cases h2

/-- Blocks at or above B. -/
def Up (B : Nat) (v : Value) : Prop := ∀ k, v.ownBlock = some k → B ≤ k

theorem pl_do {B : Nat} {w : World} {b mb X : Nat} {lv lx : Value} {p q : Pur} {T : Int} (o : POp) (hP : PurAt w b mb lv p) (hX : QAt RP w X lx q) (hG : p.Good T) (hT : T ≤ 1125899906842624) (hlen : p.ln.length ≤ 1000000) (hb : B ≤ b) (hm : B ≤ mb) (hl : Up B lv) (hB : B ≤ w.heap.size) :
    Calls Try.prog 15 #[.pointer (some ⟨b, 0, none⟩), o.val] w fun e w' => e = .returned (.int .i64 (p.act o).1) ∧
      ∃ lv', PurAt w' b mb lv' (p.act o).2 ∧ QAt RP w' X lx q ∧ Up B lv' ∧ Chg (fun i => B ≤ i) w w' ∧ Chg (fun i => i = b ∨ i = mb ∨ lv.ownBlock = some i) w w' := by
  refine (do_any w b mb lv p o T hP hG hT hlen).mono ?_
  rintro e w' ⟨rfl, lv', hP', hc, hl'⟩
  refine ⟨rfl, lv', hP', ?_, ?_, hc.mono ?_, hc⟩
  · refine hX.chg hc ?_ ?_
    · rintro (h | h | h)
      · exact Blk.ne hX.blk hP.blk (by decide) h
      · exact hP.map.ne hX.blk h.symm
      · exact own_ne hP.own hX.blk (by decide) h
    · rintro k hk (h | h | h)
      · subst h; exact own_ne hX.own hP.blk (by decide) hk
      · subst h; exact own_ne_mapv hX.own hP.map hk
      · exact own_ne_own hP.own hX.own (by decide) h hk
  · intro k hk
    rcases hl' with h | ⟨k', h1, h2⟩
    · exact hl k (h ▸ hk)
    · rw [h1] at hk; cases hk; omega
  · rintro i _ (rfl | rfl | h)
    · exact hb
    · exact hm
    · exact hl i h

theorem rf_do {B : Nat} {w : World} {b mb X : Nat} {lv lx : Value} {p q : Pur} {T : Int} (o : POp) (hP : PurAt w b mb lv p) (hX : QAt RP w X lx q) (hG : q.Good T) (hT : T ≤ 1125899906842624) (hlen : q.ln.length ≤ 1000000) (hb : B ≤ X) (hl : Up B lx) (hB : B ≤ w.heap.size) :
    Calls Try.prog 16 #[.pointer (some ⟨X, 0, none⟩), o.val] w fun e w' => e = .returned (.int .i64 (q.act o).1) ∧
      ∃ lx', PurAt w' b mb lv p ∧ QAt RP w' X lx' (q.act o).2 ∧ Up B lx' ∧ Chg (fun i => B ≤ i) w w' := by
  refine (rq_do hX hG hT hlen o).mono ?_
  rintro e w' ⟨rfl, lx', hX', hc, hl'⟩
  refine ⟨rfl, lx', ?_, hX', ?_, hc.mono ?_⟩
  · refine hP.chg hc ?_ ?_ ?_
    · rintro (h | h)
      · exact Blk.ne hP.blk hX.blk (by decide) h
      · exact own_ne hX.own hP.blk (by decide) h
    · rintro (h | h)
      · exact hP.map.ne hX.blk h
      · exact own_ne_mapv hX.own hP.map h
    · rintro k hk (h | h)
      · subst h; exact own_ne hP.own hX.blk (by decide) hk
      · exact own_ne_own hX.own hP.own (by decide) h hk
  · intro k hk
    rcases hl' with h | ⟨k', h1, h2⟩
    · exact hl k (h ▸ hk)
    · rw [h1] at hk; cases hk; omega
  · rintro i _ (rfl | h)
    · exact hb
    · exact hl i h

/-- What a copy is, and that what is done to the old one does not touch it. -/
theorem pl_copy {B : Nat} {w : World} {b mb : Nat} {lv : Value} {p : Pur} (hP : PurAt w b mb lv p) (hlen : p.ln.length ≤ 1000001) (hB : B ≤ w.heap.size) :
    Calls Try.prog 17 #[.pointer (some ⟨b, 0, none⟩)] w fun e w' => ∃ b2 mb2 lv2, e = .returned (.pointer (some ⟨b2, 0, none⟩)) ∧ PurAt w' b2 mb2 lv2 p ∧ PurAt w' b mb lv p ∧ Chg (fun _ => False) w w' ∧
      B ≤ b2 ∧ B ≤ mb2 ∧ Up B lv2 ∧ (∀ w2 : World, Chg (fun i => i = b ∨ i = mb ∨ lv.ownBlock = some i) w' w2 → PurAt w2 b2 mb2 lv2 p) := by
  refine (copy_any w b mb lv p hP hlen).mono ?_
  rintro e w' ⟨b2, mb2, lv2, rfl, hP2, hc, h1, h2, h3⟩
  refine ⟨b2, mb2, lv2, rfl, hP2, hP.chg hc id id (fun _ _ => id), hc, by omega, by omega, fun k hk => by have := h3 k hk; omega, ?_⟩
  intro w2 hc2
  have hbz := hP.blk.lt
  have hmz := hP.map.lt
  have hlz : ∀ k, lv.ownBlock = some k → k < w.heap.size := fun k hk => by
    obtain ⟨c, h⟩ := own_block hP.own hk
    exact (Array.getElem?_eq_some_iff.1 h).1
  refine hP2.chg hc2 ?_ ?_ ?_
  · rintro (h | h | h)
    · omega
    · omega
    · have := hlz _ h; omega
  · rintro (h | h | h)
    · omega
    · omega
    · have := hlz _ h; omega
  · rintro k hk (h | h | h)
    · have := h3 k hk; omega
    · have := h3 k hk; omega
    · have := h3 k hk; have := hlz _ h; omega

set_option maxRecDepth 100000 in
set_option maxHeartbeats 4000000 in
theorem purse_no (w : World) (a b c d : Int) (h : (inF a && inF b && inF c && inF d) = false) :
    Calls Try.prog 12 #[.agg #[.int .i64 a, .int .i64 b, .int .i64 c, .int .i64 d]] w fun e w' => e = .returned (.tuple #[.pointer none, .int .i64 1]) ∧ Chg (fun _ => False) w w' := by
  have hmm := @run_makeMap Try.prog
  have i0 : ∀ w1, (Instr.index 23 (.agg #[.int .i64 a, .int .i64 b, .int .i64 c, .int .i64 d]) (.int .i64 0)).run Try.prog w1 = .ok (.int .i64 a) w1 := fun w1 => by kernel_rfl
  have i1 : ∀ w1, (Instr.index 23 (.agg #[.int .i64 a, .int .i64 b, .int .i64 c, .int .i64 d]) (.int .i64 1)).run Try.prog w1 = .ok (.int .i64 b) w1 := fun w1 => by kernel_rfl
  have i2 : ∀ w1, (Instr.index 23 (.agg #[.int .i64 a, .int .i64 b, .int .i64 c, .int .i64 d]) (.int .i64 2)).run Try.prog w1 = .ok (.int .i64 c) w1 := fun w1 => by kernel_rfl
  have i3 : ∀ w1, (Instr.index 23 (.agg #[.int .i64 a, .int .i64 b, .int .i64 c, .int .i64 d]) (.int .i64 3)).run Try.prog w1 = .ok (.int .i64 d) w1 := fun w1 => by kernel_rfl
  have hcc : ∀ o1 o2 o3, Chg (fun _ => False) w (((w.alloc o1).alloc o2).alloc o3) := fun _ _ _ => (((Chg.refl _ w).alloc _).alloc _).alloc _
  have hch := Lib.hid hcc
  clear hcc
  by_cases ha : a < 0 ∨ 1099511627776 < a
  · skip
    clear h
    rcases ha with ha | ha
    all_goals
      go_enter Try.func12, Try.ntmps12
      go_wp2
      refine wp_loop_rounds 5 ?_
      rw [rounds_succ]; go_wp2
      go_ret2
      exact ⟨rfl, hch.out _ _ _⟩
  by_cases hb : b < 0 ∨ 1099511627776 < b
  · skip
    have ha1 : 0 ≤ a ∧ a ≤ 1099511627776 := by omega
    obtain ⟨ha1, ha2⟩ := ha1
    clear h ha
    rcases hb with hb | hb
    all_goals
      go_enter Try.func12, Try.ntmps12
      go_wp2
      refine wp_loop_rounds 5 ?_
      rw [rounds_succ]; go_wp2
      rw [rounds_succ]; go_wp2
      go_ret2
      exact ⟨rfl, hch.out _ _ _⟩
  by_cases hc : c < 0 ∨ 1099511627776 < c
  · skip
    have ha1 : 0 ≤ a ∧ a ≤ 1099511627776 := by omega
    obtain ⟨ha1, ha2⟩ := ha1
    have hb1 : 0 ≤ b ∧ b ≤ 1099511627776 := by omega
    obtain ⟨hb1, hb2⟩ := hb1
    clear h ha hb
    rcases hc with hc | hc
    all_goals
      go_enter Try.func12, Try.ntmps12
      go_wp2
      refine wp_loop_rounds 5 ?_
      rw [rounds_succ]; go_wp2
      rw [rounds_succ]; go_wp2
      rw [rounds_succ]; go_wp2
      go_ret2
      exact ⟨rfl, hch.out _ _ _⟩
  · have hd : d < 0 ∨ 1099511627776 < d := by unfold inF at h; simp at h; omega
    have ha1 : 0 ≤ a ∧ a ≤ 1099511627776 := by omega
    obtain ⟨ha1, ha2⟩ := ha1
    have hb1 : 0 ≤ b ∧ b ≤ 1099511627776 := by omega
    obtain ⟨hb1, hb2⟩ := hb1
    have hc1 : 0 ≤ c ∧ c ≤ 1099511627776 := by omega
    obtain ⟨hc1, hc2⟩ := hc1
    clear h ha hb hc
    rcases hd with hd | hd
    all_goals
      go_enter Try.func12, Try.ntmps12
      go_wp2
      refine wp_loop_rounds 5 ?_
      rw [rounds_succ]; go_wp2
      rw [rounds_succ]; go_wp2
      rw [rounds_succ]; go_wp2
      rw [rounds_succ]; go_wp2
      go_ret2
      exact ⟨rfl, hch.out _ _ _⟩
end Go.Proofs.Ytjgnnefhnddecaa

namespace Go.Proofs.Ytjgnnefhnddecaa
open Go.RowKit Go.Maps

set_option maxRecDepth 100000 in
set_option maxHeartbeats 2000000 in
theorem pply_no (w : World) (a b c d : Int) (ad : Option Addr) (cap : Nat) (l : List POp) (n : Int) (hmay : (inF a && inF b && inF c && inF d) = false) :
    Calls Try.prog 4 #[.agg #[.int .i64 a, .int .i64 b, .int .i64 c, .int .i64 d], .slice ad l.length cap, .int .i64 n] w fun e w' => e = .returned (.bool true) ∧ Chg (fun _ => False) w w' := by
  have hB0 := Blk.new w 23 #[.int .i64 a, .int .i64 b, .int .i64 c, .int .i64 d]
  have hcB := (Chg.refl (fun _ => False) w).alloc (.cells #[.int .i64 a, .int .i64 b, .int .i64 c, .int .i64 d] 23)
  have hmh := Lib.hid hmay
  clear hmay
  go_enter Try.func4, Try.ntmps4
  go_wp2_with fail
  refine (purse_no _ a b c d hmh.out).mono ?_
  rintro e w1 ⟨rfl, hc1⟩
  have hB1 := hB0.chg hc1 id
  have a0 : w1.cell? ⟨w.heap.size, 0, none⟩ = some (.int .i64 a) := by rw [hB1.cell]; rfl
  have a1 : w1.cell? ⟨w.heap.size, 1, none⟩ = some (.int .i64 b) := by rw [hB1.cell]; rfl
  have a2 : w1.cell? ⟨w.heap.size, 2, none⟩ = some (.int .i64 c) := by rw [hB1.cell]; rfl
  have a3 : w1.cell? ⟨w.heap.size, 3, none⟩ = some (.int .i64 d) := by rw [hB1.cell]; rfl
  have hck := hcB.trans hc1 (fun _ _ h => h)
  go_wp2_with fail
  refine (funds_any _ a b c d).mono ?_
  rintro e w2 ⟨rfl, hc2⟩
  rw [hmh.out]
  go_wp2_with fail
  refine (told10 _).mono ?_
  rintro e w3 ⟨rfl, hc3⟩
  go_wp2_with fail
  go_ret
  exact ⟨rfl, (hck.trans hc2 (fun _ _ h => h)).trans hc3 (fun _ _ h => h)⟩

set_option maxRecDepth 100000 in
set_option maxHeartbeats 4000000 in
theorem pply_yes (w : World) (f : Int → Int) (hf : ∀ i, 0 ≤ i → i ≤ 3 → 0 ≤ f i ∧ f i ≤ 1099511627776) (ad : Option Addr) (cap : Nat) (l : List POp) (n : Int) (hl : OpsIn w ad l) :
    Calls Try.prog 4 #[fundsVal f, .slice ad l.length cap, .int .i64 n] w fun e w' => e = .returned (.bool true) ∧ Chg (fun _ => False) w w' := by
  have hmx := hl.len
  unfold maxLen at hmx
  have hB0 := Blk.new w 23 #[.int .i64 (f 0), .int .i64 (f 1), .int .i64 (f 2), .int .i64 (f 3)]
  have hcB := (Chg.refl (fun _ => False) w).alloc (.cells #[.int .i64 (f 0), .int .i64 (f 1), .int .i64 (f 2), .int .i64 (f 3)] 23)
  have hf0 := hf 0 (by omega) (by omega)
  have hf1 := hf 1 (by omega) (by omega)
  have hf2 := hf 2 (by omega) (by omega)
  have hf3 := hf 3 (by omega) (by omega)
  have hG0 : (Pur.new f).Good (f 0 + f 1 + f 2 + f 3) := Pur.new_good fun i h1 h2 => (hf i h1 h2).1
  obtain ⟨T, hT⟩ : ∃ T, f 0 + f 1 + f 2 + f 3 = T := ⟨_, rfl⟩
  have hT2 : T ≤ 1125899906842624 := by omega
  rw [hT] at hG0
  clear hT hf0 hf1 hf2 hf3
  have hmh := Lib.hid (show (inF (f 0) && inF (f 1) && inF (f 2) && inF (f 3)) = true by
    have h0 := hf 0 (by omega) (by omega)
    have h1 := hf 1 (by omega) (by omega)
    have h2 := hf 2 (by omega) (by omega)
    have h3 := hf 3 (by omega) (by omega)
    simp [inF, h0, h1, h2, h3])
  go_enter Try.func4, Try.ntmps4
  unfold fundsVal
  go_wp2_with fail
  refine (new_any _ f hf).mono ?_
  rintro e w1 ⟨b0, mb0, lv0, rfl, hP1, hc1, hb0, hm0, hl0⟩
  rw [alloc_size] at hb0 hm0
  have hB1 := hB0.chg hc1 id
  have hck1 := hcB.trans hc1 (fun _ _ h => h)
  have a0 : w1.cell? ⟨w.heap.size, 0, none⟩ = some (.int .i64 (f 0)) := by rw [hB1.cell]; rfl
  have a1 : w1.cell? ⟨w.heap.size, 1, none⟩ = some (.int .i64 (f 1)) := by rw [hB1.cell]; rfl
  have a2 : w1.cell? ⟨w.heap.size, 2, none⟩ = some (.int .i64 (f 2)) := by rw [hB1.cell]; rfl
  have a3 : w1.cell? ⟨w.heap.size, 3, none⟩ = some (.int .i64 (f 3)) := by rw [hB1.cell]; rfl
  clear hB0 hcB hc1
  go_wp2_with fail
  clear a0 a1 a2 a3
  refine (funds_any _ (f 0) (f 1) (f 2) (f 3)).mono ?_
  rintro e w2 ⟨rfl, hc2⟩
  rw [hmh.out]
  have hB2 := hB1.chg hc2 id
  have hP2 := hP1.chg hc2 id id (fun _ _ => id)
  have hck2 := hck1.trans hc2 (fun _ _ h => h)
  have a0 : w2.cell? ⟨w.heap.size, 0, none⟩ = some (.int .i64 (f 0)) := by rw [hB2.cell]; rfl
  have a1 : w2.cell? ⟨w.heap.size, 1, none⟩ = some (.int .i64 (f 1)) := by rw [hB2.cell]; rfl
  have a2 : w2.cell? ⟨w.heap.size, 2, none⟩ = some (.int .i64 (f 2)) := by rw [hB2.cell]; rfl
  have a3 : w2.cell? ⟨w.heap.size, 3, none⟩ = some (.int .i64 (f 3)) := by rw [hB2.cell]; rfl
  clear hB1 hck1 hc2 hP1
  go_wp2_with fail
  clear a0 a1 a2 a3
  refine (rq_new w2 f).mono ?_
  rintro e w3 ⟨X, rfl, hX3, hc3, hXz⟩
  have hQ3 : QAt RP w3 X (.slice none 0 0) (Pur.new f) := ⟨hX3, ⟨rfl, .inl ⟨rfl, rfl⟩⟩⟩
  have hP3 := hP2.chg hc3 id id (fun _ _ => id)
  have hck3 : Chg (fun i => w.heap.size ≤ i) w w3 := (hck2.trans hc3 (fun _ _ h => h)).mono (fun _ _ h => h.elim)
  have hXB : w.heap.size ≤ X := by have := hck2.size; omega
  have hUp0 : Up w.heap.size lv0 := fun k hk => by rw [hl0] at hk; cases hk
  have hUpX : Up w.heap.size (.slice none 0 0) := fun k hk => by simp [Value.ownBlock] at hk
  have hln : (Pur.new f).ln.length ≤ 0 := Nat.le_refl _
  have hbb : w.heap.size ≤ b0 ∧ w.heap.size ≤ mb0 := by omega
  clear hB2 hP2 hck2 hc3 hX3 hb0 hm0 hl0
  generalize Pur.new f = p0 at *
  go_upto_block 0 with (fail)
  go_cut [7, 10] (fun v7 _ wx => ∃ (b mb : Nat) (lv lx : Value) (p : Pur), v7 = .pointer (some ⟨b, 0, none⟩) ∧ PurAt wx b mb lv p ∧ QAt RP wx X lx p ∧ p.Good T ∧ p.ln.length ≤ 80 ∧ Chg (fun i => w.heap.size ≤ i) w wx)
  case first =>
    go_wp2_with fail
    go_loopw [7, 10] (fun v7 v10 wr => ∃ (k b mb : Nat) (lv lx : Value) (p : Pur), v7 = .pointer (some ⟨b, 0, none⟩) ∧ v10 = .int .i64 k ∧ k ≤ l.length ∧ k ≤ 80 ∧ PurAt wr b mb lv p ∧ QAt RP wr X lx p ∧ p.Good T ∧ p.ln.length ≤ k ∧ (w.heap.size ≤ b ∧ w.heap.size ≤ mb) ∧ Up w.heap.size lv ∧ Up w.heap.size lx ∧ Chg (fun i => w.heap.size ≤ i) w wr) (fun _ v10 _ => 80 - (RowKit.intOf v10).toNat)
    case atStart => exact ⟨0, b0, mb0, lv0, _, p0, rfl, rfl, Nat.zero_le _, Nat.zero_le _, hP3, hQ3, hG0, hln, hbb, hUp0, hUpX, hck3⟩
    case round =>
      clear hP3 hQ3 hG0 hln hbb hUp0 hUpX hck3
      obtain ⟨k, b, mb, lv, lx, p, rfl, rfl, hk1, hk2, hP, hQ, hG, hln, ⟨hbB, hmB⟩, hU, hV, hck⟩ := hrel
      by_cases hlt : k < l.length ∧ k < 80
      · obtain ⟨hlt1, hlt2⟩ := hlt
        obtain ⟨o, ho⟩ : ∃ o, l[k]? = some o := ⟨_, List.getElem?_eq_getElem hlt1⟩
        have acell : ∀ w9, Chg (fun i => w.heap.size ≤ i) w w9 → ∃ a, ad = some a ∧ w9.cell? (a.add (k * 5)) = some (.int .i64 o.kd) ∧ w9.cell? ⟨(a.add (k * 5)).block, (a.add (k * 5)).off + 1, none⟩ = some (.int .i64 o.bk) ∧ w9.cell? ⟨(a.add (k * 5)).block, (a.add (k * 5)).off + 2, none⟩ = some (.int .i64 o.un) ∧ w9.cell? ⟨(a.add (k * 5)).block, (a.add (k * 5)).off + 3, none⟩ = some (.int .i64 o.cu) ∧ w9.cell? ⟨(a.add (k * 5)).block, (a.add (k * 5)).off + 4, none⟩ = some (.int .i64 o.am) := fun w9 h9 => by
          have hcF : Chg (fun _ => False) w w9 := h9.mono (fun i hi h => by omega)
          obtain ⟨a, ha, _, hat⟩ := (hl.chg hcF (fun i _ h => h)).at_ k _ ho
          exact ⟨a, ha, hat 0 _ rfl, hat 1 _ rfl, hat 2 _ rfl, hat 3 _ rfl, hat 4 _ rfl⟩
        have ach := Lib.hid acell
        obtain ⟨a, rfl, a0, a1, a2, a3, a4⟩ := acell wr.drew hck.drew
        have hG2 := hG.act o
        have hln2 := p.act_len o
        have hd1 := pl_do (B := w.heap.size) o hP.drew0 (show QAt RP wr.drew X lx p from ⟨hQ.blk, hQ.own⟩) hG hT2 (by omega) hbB hmB hU (show w.heap.size ≤ wr.heap.size from hck.size)
        have hd2 := fun w9 lv' p' (h9 : PurAt w9 b mb lv' p') (h10 : QAt RP w9 X lx p) hz => rf_do (B := w.heap.size) o h9 h10 hG hT2 (by omega) hXB hV hz
        obtain ⟨r, hr⟩ : ∃ r, p.act o = r := ⟨_, rfl⟩
        rw [hr] at hd1 hd2 hG2 hln2
        obtain ⟨ra, rp⟩ := r
        simp only at hd1 hd2 hG2 hln2
        have hd1 := Lib.hid hd1
        have hd2 := Lib.hid hd2
        clear acell ho hr hP hQ hG
        go_wp2_with fail
        refine wp_region_plan (by kernel_rfl) [{ fl := [0, 1, 2, 3, 4, 6, 7, 8, 9, 10], long := [10], ef := 5, keep := [10] }, { fl := [], ef := 11 }] [12] (by kernel_rfl) (fun _ w9 => Chg (fun i => w.heap.size ≤ i) w w9) ?_
        simp only [wpPlan, longOK, keepOK, opsAt_cons, opsAt_nil, consO_some, List.getElem?_toArray, List.getElem?_cons_succ, List.getElem?_cons_zero, and_true, true_and]
        refine ⟨hck.drew, ?_⟩
        go_wp2_with fail
        refine ⟨by kernel_rfl, ?_, ?_⟩
        · intro _ w9 h9
          obtain ⟨a', ha', a0, a1, a2, a3, a4⟩ := ach.out w9 h9
          cases ha'
          clear h9
          go_simp
        go_wp2_with fail
        clear a0 a1 a2 a3 a4
        refine hd1.out.mono ?_
        rintro e w4 ⟨rfl, lv4, hP4, hQ4, hU4, hc4, _⟩
        have hck4 := hck.drew.trans hc4 (fun _ _ h => h)
        clear hck hc4 hd1
        go_wp2_with fail
        refine ⟨hck4, ?_⟩
        go_wp2_with fail
        refine ⟨by kernel_rfl, ?_⟩
        go_wp2_with fail
        refine (hd2.out w4 lv4 rp hP4 hQ4 hck4.size).mono ?_
        rintro e w5 ⟨rfl, lx5, hP5, hQ5, hV5, hc5⟩
        have hck5 := hck4.trans hc5 (fun _ _ h => h)
        clear hP4 hQ4 hck4 hc5 hd2 hU hV
        go_wp2_with fail
        refine ⟨by kernel_rfl, ?_⟩
        cases hq : (bits .and .i64 (k : Int) 7 == 7) with
        | false =>
          go_wp2_with fail
          · refine (pl_copy (B := w.heap.size) hP5 (by omega) hck5.size).mono ?_
            rintro e w6 ⟨b2, mb2, lv2, rfl, hP6, hO6, hc6, hb2, hm2, hU2, hkeep⟩
            have hQ6 := hQ5.chg hc6 id (fun _ _ => id)
            have hck6 := hck5.trans hc6 (fun _ _ h => h.elim)
            have hkeeph := Lib.hid hkeep
            clear hkeep hc6 hP5 hQ5 hck5
            go_wp2_with fail
            refine (pl_do (B := w.heap.size) ⟨6, 1, 0, 0, 0⟩ hO6 hQ6 hG2 hT2 (by omega) hbB hmB hU4 hck6.size).mono ?_
            rintro e w7 ⟨rfl, lv7, _, hQ7, _, hc7, hd7⟩
            have hP7 := hkeeph.out _ hd7
            have hck7 := hck6.trans hc7 (fun _ _ h => h)
            clear hc7 hd7 hkeeph hP6 hO6 hQ6 hck6
            go_wp2_with fail
            go_roundw
            case rel => exact ⟨k + 1, b2, _, _, _, rp, rfl, by go_num, by omega, by omega, hP7, hQ7, hG2, by omega, ⟨hb2, hm2⟩, hU2, hV5, hck7⟩
            case measure => simp [RowKit.intOf]; omega
          · go_roundw
            case rel => exact ⟨k + 1, b, _, _, _, rp, rfl, by go_num, by omega, by omega, hP5, hQ5, hG2, by omega, ⟨hbB, hmB⟩, hU4, hV5, hck5⟩
            case measure => simp [RowKit.intOf]; omega
        | true =>
          go_wp2_with fail
          · refine (pl_copy (B := w.heap.size) hP5 (by omega) hck5.size).mono ?_
            rintro e w6 ⟨b2, mb2, lv2, rfl, hP6, hO6, hc6, hb2, hm2, hU2, hkeep⟩
            have hQ6 := hQ5.chg hc6 id (fun _ _ => id)
            have hck6 := hck5.trans hc6 (fun _ _ h => h.elim)
            have hkeeph := Lib.hid hkeep
            clear hkeep hc6 hP5 hQ5 hck5
            go_wp2_with fail
            refine (pl_do (B := w.heap.size) ⟨6, 1, 0, 0, 0⟩ hO6 hQ6 hG2 hT2 (by omega) hbB hmB hU4 hck6.size).mono ?_
            rintro e w7 ⟨rfl, lv7, _, hQ7, _, hc7, hd7⟩
            have hP7 := hkeeph.out _ hd7
            have hck7 := hck6.trans hc7 (fun _ _ h => h)
            clear hc7 hd7 hkeeph hP6 hO6 hQ6 hck6
            go_wp2_with fail
            refine (psame_any hP7 hQ7 hG2 hT2 (by omega)).mono ?_
            rintro e wz ⟨rfl, hcz⟩
            have hPz := hP7.chg hcz id id (fun _ _ => id)
            have hQz := hQ7.chg hcz id (fun _ _ => id)
            have hckz := hck7.trans hcz (fun _ _ h => h.elim)
            go_wp2_with fail
            go_roundw
            case rel => exact ⟨k + 1, b2, _, _, _, rp, rfl, by go_num, by omega, by omega, hPz, hQz, hG2, by omega, ⟨hb2, hm2⟩, hU2, hV5, hckz⟩
            case measure => simp [RowKit.intOf]; omega
          · refine (psame_any hP5 hQ5 hG2 hT2 (by omega)).mono ?_
            rintro e wz ⟨rfl, hcz⟩
            have hPz := hP5.chg hcz id id (fun _ _ => id)
            have hQz := hQ5.chg hcz id (fun _ _ => id)
            have hckz := hck5.trans hcz (fun _ _ h => h.elim)
            go_wp2_with fail
            go_roundw
            case rel => exact ⟨k + 1, b, _, _, _, rp, rfl, by go_num, by omega, by omega, hPz, hQz, hG2, by omega, ⟨hbB, hmB⟩, hU4, hV5, hckz⟩
            case measure => simp [RowKit.intOf]; omega
      · go_wp2_with fail
        all_goals
          go_meet
          case rel => exact ⟨b, mb, lv, lx, p, rfl, hP, hQ, hG, by omega, hck⟩
  case rest =>
    clear hP3 hQ3 hG0 hln hbb hUp0 hUpX hck3
    obtain ⟨b, mb, lv, lx, p, rfl, hP, hQ, hG, hln, hck⟩ := hcut
    go_wp2_with fail
    refine (told10 wc).mono ?_
    rintro e w6 ⟨rfl, hc6⟩
    have hP6 := hP.chg hc6 id id (fun _ _ => id)
    have hQ6 := hQ.chg hc6 id (fun _ _ => id)
    have hck6 := hck.trans hc6 (fun _ _ h => h.elim)
    go_wp2_with fail
    refine (psame_any hP6 hQ6 hG hT2 (by omega)).mono ?_
    rintro e w7 ⟨rfl, hc7⟩
    go_wp2_with fail
    go_ret
    exact ⟨rfl, (hck6.trans hc7 (fun _ _ h => h.elim)).mono (fun i hi h => by omega)⟩

theorem pply_walk (w : World) (a b c d : Int) (ad : Option Addr) (cap : Nat) (l : List POp) (n : Int) (hl : OpsIn w ad l) :
    Calls Try.prog 4 #[.agg #[.int .i64 a, .int .i64 b, .int .i64 c, .int .i64 d], .slice ad l.length cap, .int .i64 n] w fun e w' => e = .returned (.bool true) ∧ Chg (fun _ => False) w w' := by
  cases hm : (inF a && inF b && inF c && inF d) with
  | false => exact pply_no w a b c d ad cap l n hm
  | true =>
    have h := pply_yes w (fun i => if i = 0 then a else if i = 1 then b else if i = 2 then c else d) (by
      simp [inF] at hm
      intro i h0 h3
      have : i = 0 ∨ i = 1 ∨ i = 2 ∨ i = 3 := by omega
      rcases this with rfl | rfl | rfl | rfl <;> simp <;> omega) ad cap l n hl
    exact h
end Go.Proofs.Ytjgnnefhnddecaa
