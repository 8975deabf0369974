/-
  layer 9: StockHolds, its walk.
-/
import Derived.Test.YtihfcfpkffebiaaHoldsP
namespace Go.Proofs.Ytihfcfpkffebiaa
open Go.RowKit Go.Maps

theorem sweep_s {B : Nat} {w : World} {b mb : Nat} {s : Stk} (h : StkAt w b mb s) (hG : s.Good) (hb : B ≤ b ∧ B ≤ mb) (now : Int) (l : List Int) (s' : Stk) (hl : s.sweep now = (l, s')) :
    Calls Try.prog 14 #[.pointer (some ⟨b, 0, none⟩), .int .i64 now] w fun e w' => ∃ ad cap, e = .returned (.slice ad l.length cap) ∧ StkAt w' b mb s' ∧ Chg (fun i => B ≤ i) w w' := by
  refine (sweep_w h hG hb now l s' (by rw [hl]) (by rw [hl])).mono ?_
  rintro e w' ⟨v, rfl, hown, h2, h3⟩
  rcases hown.2 with ⟨rfl, h⟩ | ⟨g, cap, _, rfl, _⟩
  · exact ⟨_, _, by rw [h], h2, h3⟩
  · exact ⟨_, _, rfl, h2, h3⟩

set_option maxRecDepth 100000 in
set_option maxHeartbeats 4000000 in
theorem holds_yes (w : World) (n1 n2 t d : Int) (ht : wrap64 ((IntKind.u64.wrap n1).tmod 1001) = t) (hd : wrap64 ((IntKind.u64.wrap n2).tmod 120) = d) (ht0 : 0 ≤ t) (ht1 : t ≤ 1000) (hd0 : 0 ≤ d) (hd1 : d ≤ 119)
    (l2 : List Int) (s2 s3 : Stk) (r fr : Int) (hsw : (hE ⟨1, 3, t + 60, 0, 0⟩ 2).sweep (t + d) = (l2, s2)) (hg2 : s2.Good) (hg3 : s3.Good) (hc : s2.act ⟨2, 7, 0, 0, 0⟩ (t + d) = (r, s3)) (hs3 : s3.sweep (t + d + 5000) = ([], s3)) (hf : s3.free = fr)
    (hc3 : s3.act ⟨2, 7, 0, 0, 0⟩ (t + d + 5000) = (r, s3)) (hcase : (d < 60 ∧ r = 1 ∧ fr = 2 ∧ l2 = []) ∨ (60 ≤ d ∧ r = 2 ∧ fr = 5 ∧ l2 = [7])) :
    Calls Try.prog 5 #[.int .i64 n1, .int .i64 n2, .bool true] w fun e w' => e = .returned (.bool true) ∧ Chg (fun _ => False) w w' := by
  have hfd : ∀ w1, (Instr.field 40 (.agg #[.int .i64 1, .int .i64 3, .int .i64 (t + 60), .int .i64 0, .int .i64 0]) 2).run Try.prog w1 = .ok (.int .i64 (t + 60)) w1 := fun w1 => by kernel_rfl
  have hh := h_hold ht0 (by omega)
  have hg0 : (Stk.new 5 0).Good := Stk.Good.new (by omega) (by omega)
  have hg1 := h_g1 ht0 (show t ≤ 100000 by omega)
  have he1 := hE_at ⟨1, 3, t + 60, 0, 0⟩ 2
  generalize hE ⟨1, 3, t + 60, 0, 0⟩ 2 = s1 at *
  rcases hcase with ⟨hdd, rfl, rfl, rfl⟩ | ⟨hdd, rfl, rfl, rfl⟩
  all_goals
    go_enter Try.func5, Try.ntmps5
    go_wp2_with fail
    refine (new_w w 5 0 (by decide) (by decide)).mono ?_
    rintro e w0 ⟨b, mb, rfl, hS0, hc0, hb, hm⟩
    have hbm : w.heap.size ≤ b ∧ w.heap.size ≤ mb := ⟨hb, hm⟩
    clear hb hm
    go_wp2_with fail
    rw [ht, hd]
    refine (do_w hS0 hg0 hbm ⟨1, 7, 3, 0, 0⟩ t 1 s1 (by rw [hh]) (by rw [hh])).mono ?_
    rintro e w1 ⟨rfl, hS1, hc1⟩
    go_wp2_with fail
    refine (stk_entry hS1 hg1 7 (by decide) _ he1).mono ?_
    rintro e w2 ⟨rfl, hc2⟩
    have hS2 := hS1.chg hc2 id id
    unfold Ent.val Ent.row
    go_wp2_with fail
    refine (sweep_s hS2 hg1 hbm (t + d) _ _ hsw).mono ?_
    rintro e w3 ⟨ad, cap, rfl, hS3, hc3'⟩
    go_wp2_with fail
    refine (do_w hS3 hg2 hbm ⟨2, 7, 0, 0, 0⟩ (t + d) _ s3 (by rw [hc]) (by rw [hc])).mono ?_
    rintro e w4 ⟨rfl, hS4, hc4⟩
    go_wp2_with fail
    refine (sweep_s hS4 hg3 hbm (t + d + 5000) _ _ hs3).mono ?_
    rintro e w5 ⟨ad2, cap2, rfl, hS5, hc5⟩
    go_wp2_with fail
    refine (stk_free hS5).mono ?_
    rintro e w' ⟨rfl, rfl⟩
    rw [hf]
    go_wp2_with fail
    refine (told9 _).mono ?_
    rintro e w6 ⟨rfl, hc6⟩
    have hS6 := hS5.chg hc6 id id
    go_wp2_with fail
    refine (do_w hS6 hg3 hbm ⟨2, 7, 0, 0, 0⟩ (t + d + 5000) _ s3 (by rw [hc3]) (by rw [hc3])).mono ?_
    rintro e w7 ⟨rfl, hS7, hc7⟩
    go_wp2_with fail
    go_ret
    have hA := hc1.trans (hc2.mono (fun _ _ h => h.elim) : Chg (fun i => w.heap.size ≤ i) w1 w2) (fun _ _ h => h)
    have hB := ((hA.trans hc3' (fun _ _ h => h)).trans hc4 (fun _ _ h => h)).trans hc5 (fun _ _ h => h)
    have hC := (hB.trans (hc6.mono (fun _ _ h => h.elim) : Chg (fun i => w.heap.size ≤ i) _ w6) (fun _ _ h => h)).trans hc7 (fun _ _ h => h)
    exact ⟨rfl, hc0.trans hC (fun i hi h => by omega)⟩
set_option maxRecDepth 100000 in
set_option maxHeartbeats 4000000 in
theorem holds_no (w : World) (n1 n2 t d : Int) (ht : wrap64 ((IntKind.u64.wrap n1).tmod 1001) = t) (hd : wrap64 ((IntKind.u64.wrap n2).tmod 120) = d) (ht0 : 0 ≤ t) (ht1 : t ≤ 1000) (hd0 : 0 ≤ d) (hd1 : d ≤ 119)
    (s3 : Stk) (r fr : Int) (hg3 : s3.Good) (hc : (hE ⟨1, 3, t + 60, 0, 0⟩ 2).act ⟨2, 7, 0, 0, 0⟩ (t + d) = (r, s3)) (hs3 : s3.sweep (t + d + 5000) = ([], s3)) (hf : s3.free = fr)
    (hc3 : s3.act ⟨2, 7, 0, 0, 0⟩ (t + d + 5000) = (r, s3)) (hcase : (d < 60 ∧ r = 1 ∧ fr = 2) ∨ (60 ≤ d ∧ r = 2 ∧ fr = 5)) :
    Calls Try.prog 5 #[.int .i64 n1, .int .i64 n2, .bool false] w fun e w' => e = .returned (.bool true) ∧ Chg (fun _ => False) w w' := by
  have hfd : ∀ w1, (Instr.field 40 (.agg #[.int .i64 1, .int .i64 3, .int .i64 (t + 60), .int .i64 0, .int .i64 0]) 2).run Try.prog w1 = .ok (.int .i64 (t + 60)) w1 := fun w1 => by kernel_rfl
  have hh := h_hold ht0 (by omega)
  have hg0 : (Stk.new 5 0).Good := Stk.Good.new (by omega) (by omega)
  have hg1 := h_g1 ht0 (show t ≤ 100000 by omega)
  have he1 := hE_at ⟨1, 3, t + 60, 0, 0⟩ 2
  generalize hE ⟨1, 3, t + 60, 0, 0⟩ 2 = s1 at *
  rcases hcase with ⟨hdd, rfl, rfl⟩ | ⟨hdd, rfl, rfl⟩
  all_goals
    go_enter Try.func5, Try.ntmps5
    go_wp2_with fail
    refine (new_w w 5 0 (by decide) (by decide)).mono ?_
    rintro e w0 ⟨b, mb, rfl, hS0, hc0, hb, hm⟩
    have hbm : w.heap.size ≤ b ∧ w.heap.size ≤ mb := ⟨hb, hm⟩
    clear hb hm
    go_wp2_with fail
    rw [ht, hd]
    refine (do_w hS0 hg0 hbm ⟨1, 7, 3, 0, 0⟩ t 1 s1 (by rw [hh]) (by rw [hh])).mono ?_
    rintro e w1 ⟨rfl, hS1, hc1⟩
    go_wp2_with fail
    refine (stk_entry hS1 hg1 7 (by decide) _ he1).mono ?_
    rintro e w2 ⟨rfl, hc2⟩
    have hS2 := hS1.chg hc2 id id
    unfold Ent.val Ent.row
    go_wp2_with fail
    refine (do_w hS2 hg1 hbm ⟨2, 7, 0, 0, 0⟩ (t + d) _ s3 (by rw [hc]) (by rw [hc])).mono ?_
    rintro e w4 ⟨rfl, hS4, hc4⟩
    go_wp2_with fail
    refine (sweep_s hS4 hg3 hbm (t + d + 5000) _ _ hs3).mono ?_
    rintro e w5 ⟨ad2, cap2, rfl, hS5, hc5⟩
    go_wp2_with fail
    refine (stk_free hS5).mono ?_
    rintro e w' ⟨rfl, rfl⟩
    rw [hf]
    go_wp2_with fail
    refine (told9 _).mono ?_
    rintro e w6 ⟨rfl, hc6⟩
    have hS6 := hS5.chg hc6 id id
    go_wp2_with fail
    refine (do_w hS6 hg3 hbm ⟨2, 7, 0, 0, 0⟩ (t + d + 5000) _ s3 (by rw [hc3]) (by rw [hc3])).mono ?_
    rintro e w7 ⟨rfl, hS7, hc7⟩
    go_wp2_with fail
    go_ret
    have hA := hc1.trans (hc2.mono (fun _ _ h => h.elim) : Chg (fun i => w.heap.size ≤ i) w1 w2) (fun _ _ h => h)
    have hB := (hA.trans hc4 (fun _ _ h => h)).trans hc5 (fun _ _ h => h)
    have hC := (hB.trans (hc6.mono (fun _ _ h => h.elim) : Chg (fun i => w.heap.size ≤ i) _ w6) (fun _ _ h => h)).trans hc7 (fun _ _ h => h)
    exact ⟨rfl, hc0.trans hC (fun i hi h => by omega)⟩

theorem stockHolds_walk (w : World) (n1 n2 : Int) (sw : Bool) : Calls Try.prog 5 #[.int .i64 n1, .int .i64 n2, .bool sw] w fun e w' => e = .returned (.bool true) ∧ Chg (fun _ => False) w w' := by
  obtain ⟨t, ht⟩ : ∃ t, wrap64 ((IntKind.u64.wrap n1).tmod 1001) = t := ⟨_, rfl⟩
  obtain ⟨d, hd⟩ : ∃ d, wrap64 ((IntKind.u64.wrap n2).tmod 120) = d := ⟨_, rfl⟩
  have htb := modK n1 1001 (by omega)
  have hdb := modK n2 120 (by omega)
  rw [ht] at htb
  rw [hd] at hdb
  have hswp := h_sweep (n := t + d) (by omega) (by omega) ⟨1, 3, t + 60, 0, 0⟩ 2 (by show (1 : Int) ≠ 0; decide)
  by_cases h60 : d < 60
  · have hs3 := h_sweep (n := t + d + 5000) (by omega) (by omega) ⟨2, 3, 0, 0, 0⟩ 2 (by decide)
    rw [if_neg (fun h => absurd h.1 (by show ¬ ((2 : Int) = 1); decide))] at hs3
    rw [if_neg (by dsimp only; omega)] at hswp
    have hc := h_conf_yes (t := t) (n := t + d) (by omega) (by omega) (by omega)
    have hc2 := h_conf_conf (n := t + d + 5000) (by omega) (by omega)
    cases sw
    · exact holds_no w n1 n2 t d ht hd (by omega) (by omega) (by omega) (by omega) _ _ _ h_gc hc hs3 rfl hc2 (.inl ⟨h60, rfl, rfl⟩)
    · exact holds_yes w n1 n2 t d ht hd (by omega) (by omega) (by omega) (by omega) _ _ _ _ _ hswp (h_g1 (by omega) (by omega)) h_gc hc hs3 rfl hc2 (.inl ⟨h60, rfl, rfl, rfl⟩)
  · have hs3 := h_sweep (n := t + d + 5000) (by omega) (by omega) Ent.gone 5 (by decide)
    rw [if_neg (fun h => absurd h.1 (by decide))] at hs3
    rw [if_pos (by dsimp only; omega)] at hswp
    have hc := h_conf_late (t := t) (n := t + d) (by omega) (by omega) (by omega)
    have hc1 := h_conf_gone (n := t + d) (by omega) (by omega)
    have hc2 := h_conf_gone (n := t + d + 5000) (by omega) (by omega)
    cases sw
    · exact holds_no w n1 n2 t d ht hd (by omega) (by omega) (by omega) (by omega) _ _ _ h_gg hc hs3 rfl hc2 (.inr ⟨by omega, rfl, rfl⟩)
    · exact holds_yes w n1 n2 t d ht hd (by omega) (by omega) (by omega) (by omega) _ _ _ _ _ hswp h_gg h_gg hc1 hs3 rfl hc2 (.inr ⟨by omega, rfl, rfl, rfl⟩)
end Go.Proofs.Ytihfcfpkffebiaa
