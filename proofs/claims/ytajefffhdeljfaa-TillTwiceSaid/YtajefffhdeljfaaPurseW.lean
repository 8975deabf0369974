/-
  purse: a ledger of the call's own, its parts all at or above a block; the contracts said of such a one.
-/
import Derived.Test.YtajefffhdeljfaaPurseC
import Derived.Test.YtajefffhdeljfaaPurseD
import Derived.Test.YtajefffhdeljfaaPurseH
namespace Go.Proofs.Ytajefffhdeljfaa
open Go.RowKit Go.Maps

/-- A ledger that reads as p, with all that it has at or above block B. -/
def PurW (B : Nat) (w : World) (b : Nat) (p : Pur) : Prop := ∃ mb lv, PurAt w b mb lv p ∧ B ≤ b ∧ B ≤ mb ∧ ∀ k, lv.ownBlock = some k → B ≤ k

theorem PurW.keep {B : Nat} {w w' : World} {b : Nat} {p : Pur} {S : Nat → Prop} (h : PurW B w b p) (hc : Chg S w w') (hs : ∀ i, S i → i < B) : PurW B w' b p := by
  obtain ⟨mb, lv, hP, h1, h2, h3⟩ := h
  exact ⟨mb, lv, hP.chg hc (fun h => by have := hs _ h; omega) (fun h => by have := hs _ h; omega) (fun k hk h => by have := hs _ h; have := h3 k hk; omega), h1, h2, h3⟩
theorem PurW.keep0 {B : Nat} {w w' : World} {b : Nat} {p : Pur} (h : PurW B w b p) (hc : Chg (fun _ => False) w w') : PurW B w' b p := h.keep hc (fun _ h => h.elim)
theorem PurW.down {B B' : Nat} {w : World} {b : Nat} {p : Pur} (h : PurW B w b p) (hb : B' ≤ B) : PurW B' w b p := by
  obtain ⟨mb, lv, hP, h1, h2, h3⟩ := h
  exact ⟨mb, lv, hP, Nat.le_trans hb h1, Nat.le_trans hb h2, fun k hk => Nat.le_trans hb (h3 k hk)⟩
theorem PurW.lt {B : Nat} {w : World} {b : Nat} {p : Pur} (h : PurW B w b p) : B < w.heap.size := by
  obtain ⟨mb, lv, hP, h1, h2, h3⟩ := h
  exact Nat.lt_of_le_of_lt h1 hP.blk.lt

theorem new_w (w : World) (f : Int → Int) (hf : ∀ i, 0 ≤ i → i ≤ 3 → 0 ≤ f i ∧ f i ≤ 1099511627776) :
    Calls Try.prog 34 #[fundsVal f] w fun e w' => ∃ b, e = .returned (.tuple #[.pointer (some ⟨b, 0, none⟩), .int .i64 0]) ∧ PurW w.heap.size w' b (Pur.new f) ∧ Chg (fun _ => False) w w' := by
  refine (new_any w f hf).mono ?_
  rintro e w' ⟨b, mb, lv, rfl, hP, hc, h1, h2, h3⟩
  exact ⟨b, rfl, ⟨mb, lv, hP, h1, h2, fun k hk => by rw [h3] at hk; cases hk⟩, hc⟩

theorem do_w (B : Nat) (w : World) (b : Nat) (p : Pur) (o : POp) (T : Int) (hP : PurW B w b p) (hG : p.Good T) (hT : T ≤ 1125899906842624) (hlen : p.ln.length ≤ 1000000) (r : Int) (p' : Pur) (hr : (p.act o).1 = r) (hp : (p.act o).2 = p') :
    Calls Try.prog 33 #[.pointer (some ⟨b, 0, none⟩), o.val] w fun e w' => e = .returned (.int .i64 r) ∧ PurW B w' b p' ∧ Chg (fun i => B ≤ i) w w' := by
  have hlt := hP.lt
  obtain ⟨mb, lv, hP, h1, h2, h3⟩ := hP
  refine (do_any w b mb lv p o T hP hG hT hlen).mono ?_
  rintro e w' ⟨rfl, lv', hP', hc, hl⟩
  rw [hr, hp] at *
  refine ⟨rfl, ⟨mb, lv', hP', h1, h2, ?_⟩, hc.mono fun i _ hi => ?_⟩
  · intro k hk
    rcases hl with hl | ⟨k', hl, hle⟩
    · exact h3 k (hl ▸ hk)
    · rw [hl] at hk; injection hk with hk; omega
  · rcases hi with rfl | rfl | hi
    · exact h1
    · exact h2
    · exact h3 i hi

theorem takings_w {B : Nat} {w : World} {b : Nat} {p : Pur} (hP : PurW B w b p) : Calls Try.prog 41 #[.pointer (some ⟨b, 0, none⟩)] w fun e w' => e = .returned (.int .i64 (p.ac 5)) ∧ w' = w := by
  obtain ⟨mb, lv, hP, _⟩ := hP
  exact takings_any w b mb lv p hP
theorem balance_w {B : Nat} {w : World} {b : Nat} {p : Pur} (hP : PurW B w b p) (n : Nat) (hn : n < 4) : Calls Try.prog 40 #[.pointer (some ⟨b, 0, none⟩), .int .i64 n] w fun e w' => e = .returned (.int .i64 (p.ac n)) ∧ w' = w := by
  obtain ⟨mb, lv, hP, _⟩ := hP
  exact balance_any w b mb lv p n hn hP
theorem entry_w {B : Nat} {w : World} {b : Nat} {p : Pur} {T : Int} (hP : PurW B w b p) (hG : p.Good T) (k : Int) (hk : 1 ≤ k ∧ k ≤ 200) (x : Ent) (hx : p.en k = x) :
    Calls Try.prog 16 #[.pointer (some ⟨b, 0, none⟩), .int .i64 k] w fun e w' => e = .returned x.val ∧ Chg (fun _ => False) w w' := by
  obtain ⟨mb, lv, hP, _⟩ := hP
  rw [← hx]
  exact entry_any w b mb lv p k hk hG.non hP
theorem lines_w {B : Nat} {w : World} {b : Nat} {p : Pur} (hP : PurW B w b p) (hlen : p.ln.length ≤ 1000001) (l : List Mv) (hl : p.ln = l) :
    Calls Try.prog 17 #[.pointer (some ⟨b, 0, none⟩)] w fun e w' => ∃ v2, e = .returned v2 ∧ w'.ownsRow 0 58 4 v2 l.length (l.flatMap Mv.cells) ∧ Chg (fun _ => False) w w' ∧ (∀ k, v2.ownBlock = some k → w.heap.size ≤ k) := by
  obtain ⟨mb, lv, hP, _⟩ := hP
  subst hl
  exact lines_any w b mb lv p hP hlen
end Go.Proofs.Ytajefffhdeljfaa
