/-
  layer 10: PurseSum, its walk.
-/
import Derived.Test.YtbmpjndagponoaaPurseL
import Derived.Test.YtbmpjndagponoaaPurseF
namespace Go.Proofs.Ytbmpjndagponoaa
open Go.RowKit Go.Maps

set_option maxRecDepth 100000 in
set_option maxHeartbeats 4000000 in
theorem sum_walk (w : World) (a b c d : Int) (ad : Option Addr) (cap : Nat) (l : List POp) (ha : 0 ≤ a ∧ a ≤ 1099511627776) (hb : 0 ≤ b ∧ b ≤ 1099511627776) (hc : 0 ≤ c ∧ c ≤ 1099511627776) (hd : 0 ≤ d ∧ d ≤ 1099511627776) (hl : OpsIn w ad l) :
    Calls Try.prog 3 #[.agg #[.int .i64 a, .int .i64 b, .int .i64 c, .int .i64 d], .slice ad l.length cap] w fun e w' => e = .returned (.bool true) ∧ Chg (fun _ => False) w w' := by
  have hmx := hl.len
  unfold maxLen at hmx
  go_enter Try.func3, Try.ntmps3
  go_wp2_with fail
  refine (funds_any _ a b c d).mono ?_
  rintro e w1 ⟨rfl, hc1⟩
  rw [show (inF a && inF b && inF c && inF d) = true by simp [inF]; omega]
  have hX : Blk w1 w.heap.size 22 #[.int .i64 a, .int .i64 b, .int .i64 c, .int .i64 d] := (Blk.new w _ _).chg hc1 id
  have hcA : Chg (fun _ => False) w w1 := ((Chg.refl _ w).alloc _).trans hc1 (fun _ _ h => h.elim)
  have hsz1 : w.heap.size < w1.heap.size := hX.lt
  clear hc1
  have e0 : w1.cell? ⟨w.heap.size, 0, none⟩ = some (.int .i64 a) := by rw [hX.cell]; rfl
  have e1 : w1.cell? ⟨w.heap.size, 1, none⟩ = some (.int .i64 b) := by rw [hX.cell]; rfl
  have e2 : w1.cell? ⟨w.heap.size, 2, none⟩ = some (.int .i64 c) := by rw [hX.cell]; rfl
  have e3 : w1.cell? ⟨w.heap.size, 3, none⟩ = some (.int .i64 d) := by rw [hX.cell]; rfl
  obtain ⟨f, hf⟩ : ∃ f, f = fun4 a b c d := ⟨_, rfl⟩
  have hf0 : f 0 = a := by rw [hf]; rfl
  have hf1 : f 1 = b := by rw [hf]; rfl
  have hf2 : f 2 = c := by rw [hf]; rfl
  have hf3 : f 3 = d := by rw [hf]; rfl
  clear hf
  have hfo : ∀ i, 0 ≤ i → i ≤ 3 → 0 ≤ f i ∧ f i ≤ 1099511627776 := by
    intro i h1 h2
    have : i = 0 ∨ i = 1 ∨ i = 2 ∨ i = 3 := by omega
    rcases this with rfl | rfl | rfl | rfl <;> omega
  subst hf0 hf1 hf2 hf3
  have hG0 := Pur.new_good fun i h1 h2 => (hfo i h1 h2).1
  go_wp2_with fail
  refine (new_w w1 f hfo).mono ?_
  rintro e w2 ⟨q, rfl, hP, hc2⟩
  have hX2 := hX.chg hc2 id
  have hcB := hcA.trans hc2 (fun _ _ h => h)
  have hPB := hP.down (B' := w.heap.size + 1) hsz1
  clear e0 e1 e2 e3 hP hc2 hX
  have e0 : w2.cell? ⟨w.heap.size, 0, none⟩ = some (.int .i64 (f 0)) := by rw [hX2.cell]; rfl
  have e1 : w2.cell? ⟨w.heap.size, 1, none⟩ = some (.int .i64 (f 1)) := by rw [hX2.cell]; rfl
  have e2 : w2.cell? ⟨w.heap.size, 2, none⟩ = some (.int .i64 (f 2)) := by rw [hX2.cell]; rfl
  have e3 : w2.cell? ⟨w.heap.size, 3, none⟩ = some (.int .i64 (f 3)) := by rw [hX2.cell]; rfl
  go_wp2_with fail
  go_loopw [8] (fun v wr => ∃ k : Nat, v = .int .i64 k ∧ k ≤ l.length ∧ k ≤ 80 ∧ PurW (w.heap.size + 1) wr q (runP (Pur.new f) (l.take k)) ∧ Chg (fun i => w.heap.size + 1 ≤ i) w2 wr) (fun v _ => 80 - (intOf v).toNat)
  case atStart => exact ⟨0, rfl, Nat.zero_le _, Nat.zero_le _, hPB, Chg.refl _ _⟩
  case round =>
    obtain ⟨k, rfl, hk1, hk2, hPk, hck⟩ := hrel
    have hlr : OpsIn wr ad l := hl.chg (hcB.trans hck (fun i hi h => by omega)) (fun i _ h => h)
    have hGk := runP_good (l.take k) hG0
    have hlen : (runP (Pur.new f) (l.take k)).ln.length ≤ 1000000 := by have := runP_len (Pur.new f) (l.take k); simp [Pur.new] at this ⊢; omega
    clear e0 e1 e2 e3
    by_cases hlt : k < l.length ∧ k < 80
    · obtain ⟨hlt1, hlt2⟩ := hlt
      obtain ⟨o, ho⟩ : ∃ o, l[k]? = some o := ⟨_, List.getElem?_eq_getElem hlt1⟩
      obtain ⟨a, rfl, hab, hat⟩ := hlr.at_ k o ho
      have g0 : wr.cell? (a.add (k * 5)) = some (.int .i64 o.kd) := hat 0 _ rfl
      have g1 : wr.cell? ⟨(a.add (k * 5)).block, (a.add (k * 5)).off + 1, none⟩ = some (.int .i64 o.bk) := hat 1 _ rfl
      have g2 : wr.cell? ⟨(a.add (k * 5)).block, (a.add (k * 5)).off + 2, none⟩ = some (.int .i64 o.un) := hat 2 _ rfl
      have g3 : wr.cell? ⟨(a.add (k * 5)).block, (a.add (k * 5)).off + 3, none⟩ = some (.int .i64 o.cu) := hat 3 _ rfl
      have g4 : wr.cell? ⟨(a.add (k * 5)).block, (a.add (k * 5)).off + 4, none⟩ = some (.int .i64 o.am) := hat 4 _ rfl
      go_wp2_with fail
      refine (do_w (w.heap.size + 1) wr q _ o _ hPk hGk (by omega) hlen _ (runP (Pur.new f) (l.take (k + 1))) rfl (runP_take _ _ _ _ ho)).mono ?_
      rintro e w3 ⟨rfl, hP3, hc3⟩
      have hck3 := hck.trans hc3 (fun _ _ h => h)
      have hG3 := runP_good (l.take (k + 1)) hG0
      have hb0 := hG3.bounds 0 (by omega) (by omega)
      have hb1 := hG3.bounds 1 (by omega) (by omega)
      have hb2 := hG3.bounds 2 (by omega) (by omega)
      have hb3 := hG3.bounds 3 (by omega) (by omega)
      have hb4 := hG3.bounds 4 (by omega) (by omega)
      have hb5 := hG3.bounds 5 (by omega) (by omega)
      have hsum := hG3.sum
      clear g0 g1 g2 g3 g4 hat hc3 hPk hGk hlr hG3
      obtain ⟨p3, hp3⟩ : ∃ p3, p3 = runP (Pur.new f) (l.take (k + 1)) := ⟨_, rfl⟩
      rw [← hp3] at hP3 hb0 hb1 hb2 hb3 hb4 hb5 hsum
      have hp3h := Lib.hid hp3
      clear hp3
      go_wp2_with (first
        | (go_at_call 13; refine (reserved_w hP3).mono ?_; rintro e w' ⟨rfl, rfl⟩)
        | (go_at_call 14; refine (takings_w hP3).mono ?_; rintro e w' ⟨rfl, rfl⟩))
      refine wp_loop_rounds 5 ?_
      rw [rounds_succ]
      go_wp2_with (go_at_call 15; refine (balance_i hP3 _ (by omega)).mono ?_; rintro e w' ⟨rfl, rfl⟩)
      rw [rounds_succ]
      go_wp2_with (go_at_call 15; refine (balance_i hP3 _ (by omega)).mono ?_; rintro e w' ⟨rfl, rfl⟩)
      rw [rounds_succ]
      go_wp2_with (go_at_call 15; refine (balance_i hP3 _ (by omega)).mono ?_; rintro e w' ⟨rfl, rfl⟩)
      rw [rounds_succ]
      go_wp2_with (go_at_call 15; refine (balance_i hP3 _ (by omega)).mono ?_; rintro e w' ⟨rfl, rfl⟩)
      rw [rounds_succ]
      go_wp2_with (go_at_call 15; refine (balance_i hP3 _ (by omega)).mono ?_; rintro e w' ⟨rfl, rfl⟩)
      go_roundw
      case rel => exact ⟨k + 1, by go_num, by omega, by omega, by rw [← hp3h.out]; exact hP3, hck3⟩
      case measure => simp [intOf]; omega
    · obtain ⟨wq, rfl⟩ : ∃ wq : World, wq = wr := ⟨wr, rfl⟩
      obtain ⟨p, hp⟩ : ∃ p, p = runP (Pur.new f) (l.take k) := ⟨_, rfl⟩
      have hT := runP_told (ac0 := (Pur.new f).ac) (l.take k) hG0 ⟨rfl, fun m hm => by cases hm⟩
      rw [← hp] at hPk hGk hlen hT
      have hlen2 : p.ln.length ≤ 80 := by
        have := runP_len (Pur.new f) (l.take k)
        rw [← hp] at this
        simp [Pur.new] at this
        omega
      have hX3 := hX2.chg hck (fun h => by omega)
      have hB3 := hX3.lt
      have q0 : ∀ o, (wq.alloc o).cell? ⟨w.heap.size, 0, none⟩ = some (.int .i64 (f 0)) := fun o => by rw [(hX3.alloc o).cell]; rfl
      have q1 : ∀ o, (wq.alloc o).cell? ⟨w.heap.size, 1, none⟩ = some (.int .i64 (f 1)) := fun o => by rw [(hX3.alloc o).cell]; rfl
      have q2 : ∀ o, (wq.alloc o).cell? ⟨w.heap.size, 2, none⟩ = some (.int .i64 (f 2)) := fun o => by rw [(hX3.alloc o).cell]; rfl
      have q3 : ∀ o, (wq.alloc o).cell? ⟨w.heap.size, 3, none⟩ = some (.int .i64 (f 3)) := fun o => by rw [(hX3.alloc o).cell]; rfl
      have hcC : Chg (fun _ => False) w wq := hcB.trans hck (fun i hi h => by omega)
      clear hp hlr hPB hck
      go_wp2_with fail
      all_goals
        refine wp_loop_rounds 5 ?_
        rw [rounds_succ]; go_wp2_with fail
        rw [rounds_succ]; go_wp2_with fail
        rw [rounds_succ]; go_wp2_with fail
        rw [rounds_succ]; go_wp2_with fail
        rw [rounds_succ]; go_wp2_with fail
        clear q0 q1 q2 q3
        have hS : Blk (wq.alloc (.cells #[.int .i64 (f 0), .int .i64 (f 1), .int .i64 (f 2), .int .i64 (f 3), .int .i64 0, .int .i64 0] 34)) wq.heap.size 34 (row6 (bal (Pur.new f).ac [])) := Blk.new _ _ _
        have hcW : Chg (fun _ => False) wq (wq.alloc (.cells #[.int .i64 (f 0), .int .i64 (f 1), .int .i64 (f 2), .int .i64 (f 3), .int .i64 0, .int .i64 0] 34)) := (Chg.refl _ _).alloc _
        have hP4 := hPk.keep0 hcW
        generalize wq.alloc (.cells #[.int .i64 (f 0), .int .i64 (f 1), .int .i64 (f 2), .int .i64 (f 3), .int .i64 0, .int .i64 0] 34) = w4 at *
        refine (lines_w hP4 (by omega) p.ln rfl).mono ?_
        rintro e w6 ⟨v2, rfl, hown, hc6, hnew⟩
        have hS6 := hS.chg hc6 id
        have hc46 := hcW.trans hc6 (fun _ _ h => h)
        have hSl := hS.lt
        obtain ⟨ad2, cap2, rfl⟩ : ∃ ad2 cap2, v2 = .slice ad2 p.ln.length cap2 := by
          rcases hown.2 with ⟨rfl, h⟩ | ⟨g, cp, _, rfl, _⟩
          · exact ⟨_, _, by rw [h]⟩
          · exact ⟨_, _, rfl⟩
        clear hP4 hcW hS hc6
        go_wp2_with fail
        go_loopw [14] (fun v wx => ∃ j : Nat, v = .int .i64 j ∧ j ≤ p.ln.length ∧ Blk wx wq.heap.size 34 (row6 (bal (Pur.new f).ac (p.ln.take j))) ∧ Chg (fun _ => False) wq wx ∧ Chg (fun i => i = wq.heap.size) w6 wx) (fun v _ => 80 - (intOf v).toNat)
        case atStart => exact ⟨0, rfl, Nat.zero_le _, hS6, hc46, Chg.refl _ _⟩
        case round =>
          obtain ⟨j, rfl, hj, hSx, hcx, hcy⟩ := hrel
          have hbj := bal_bound (ac := (Pur.new f).ac) (K := 1099511627776) (by omega) (fun i => by
            simp only [Pur.new]
            split
            · rename_i h; have := hfo i h.1 h.2; omega
            · omega) (p.ln.take j) (fun m hm => hT.ok m (List.mem_of_mem_take hm))
          have hownx := own_chg hown hcy (fun k hk e => by have := hnew k hk; omega)
          by_cases hjl : j < p.ln.length
          · obtain ⟨m, hm⟩ : ∃ m, p.ln[j]? = some m := ⟨_, List.getElem?_eq_getElem hjl⟩
            have hok := hT.ok m (List.mem_of_getElem? hm)
            obtain ⟨⟨_, _⟩, ⟨hfr0, hfr1⟩, ⟨hto0, hto1⟩, hne, ⟨ham0, ham1⟩⟩ := hok
            rcases hown.2 with ⟨_, h⟩ | ⟨g, cp, _, hv, _⟩
            · omega
            injection hv with hv _ hv2
            subst hv
            subst hv2
            have hcl := own_cells hownx
            obtain ⟨fr, hfr⟩ : ∃ n : Nat, m.fr = n := ⟨m.fr.toNat, by omega⟩
            obtain ⟨to, hto⟩ : ∃ n : Nat, m.to = n := ⟨m.to.toNat, by omega⟩
            have l1 : wr.cell? ⟨g, j * 4 + 1, none⟩ = some (.int .i64 fr) := by
              have h := hcl (j * 4 + 1) _ ((line_get p.ln j 1 m hm (by decide)).trans rfl)
              rw [hfr] at h
              simpa [Addr.add] using h
            have l2 : wr.cell? ⟨g, j * 4 + 2, none⟩ = some (.int .i64 to) := by
              have h := hcl (j * 4 + 2) _ ((line_get p.ln j 2 m hm (by decide)).trans rfl)
              rw [hto] at h
              simpa [Addr.add] using h
            have l3 : wr.cell? ⟨g, j * 4 + 3, none⟩ = some (.int .i64 m.am) := by
              have h := hcl (j * 4 + 3) _ ((line_get p.ln j 3 m hm (by decide)).trans rfl)
              simpa [Addr.add] using h
            rw [hfr] at hfr0 hfr1 hne
            rw [hto] at hto0 hto1 hne
            have hfr6 : (fr : Int) < 6 := by omega
            have hto6 : (to : Int) < 6 := by omega
            have hb1 := hbj fr
            have hb2 := hbj to
            have hjn : (p.ln.take j).length ≤ 80 := by simp; omega
            have hgS : g ≠ wq.heap.size := by have := hnew g rfl; omega
            obtain ⟨G, hG⟩ : ∃ G, G = bal (Pur.new f).ac (p.ln.take j) := ⟨_, rfl⟩
            rw [← hG] at hb1 hb2 hSx
            have hGh := Lib.hid hG
            have cf : wr.cell? ⟨wq.heap.size, fr, none⟩ = some (.int .i64 (G fr)) := by rw [hSx.cell]; exact row6_get G fr (by omega)
            have ff : wr.frozen? ⟨wq.heap.size, fr, none⟩ = false := hSx.frozen _
            have hgl : g < wr.heap.size := by
              rcases hownx.2 with ⟨h, _⟩ | ⟨g', c', cur, h, _, hh, _⟩
              · cases h
              · injection h with h1 _ _
                injection h1 with h1; injection h1 with h1
                subst h1
                exact (Array.getElem?_eq_some_iff.1 hh).1
            clear hcl hG hbj hownx
            have x1 : decide ((fr : Int) < 0) = false := by simp
            have x2 : decide (5 < (fr : Int)) = false := by simp; omega
            have x3 : decide ((to : Int) < 0) = false := by simp
            have x4 : decide (5 < (to : Int)) = false := by simp; omega
            have x5 : ((fr : Int) == (to : Int)) = false := by simp; omega
            have x6 : decide (m.am < 0) = false := by simp; omega
            go_wp2_with fail
            refine wp_region_plan (by kernel_rfl) [] [0, 1, 2, 3, 4, 5, 6, 7, 8, 9, 10, 11, 12, 13, 14, 15, 16, 17, 18, 19, 20, 21, 22, 23, 24, 25, 26, 27, 28, 29, 30, 31, 32, 33, 34, 35, 36, 37, 38, 39, 40, 41, 42, 43, 44, 45, 46, 47, 48, 49, 50] (by kernel_rfl) (fun _ _ => True) ?_
            simp only [wpPlan, opsAt_cons, opsAt_nil, consO_some, List.getElem?_toArray, List.getElem?_cons_succ, List.getElem?_cons_zero]
            go_wp2
            refine ⟨by kernel_rfl, ?_⟩
            go_wp2_with fail
            refine wp_region_plan (by kernel_rfl) [{ fl := [0, 1, 2, 3, 4, 5, 6, 7, 8, 9, 10, 11, 12, 13, 14, 15, 16, 17, 18], ef := 19 }] [] (by kernel_rfl) (fun _ _ => True) ?_
            simp only [wpPlan, longOK, keepOK, opsAt_cons, opsAt_nil, consO_some, List.getElem?_toArray, List.getElem?_cons_succ, List.getElem?_cons_zero, true_and]
            go_wp2
            refine ⟨by kernel_rfl, ?_⟩
            go_wp2
            refine ⟨by kernel_rfl, ?_⟩
            have hS7 : Blk ((wr.setCell ⟨wq.heap.size, fr, none⟩ (.int .i64 (G fr - m.am))).drew.drew) wq.heap.size 34 (row6 (upd G fr (G fr - m.am))) := by
              have h := hSx.set fr (.int .i64 (G fr - m.am))
              rw [row6_set _ _ (by omega)] at h
              exact h
            have hc7 : Chg (fun i => i = wq.heap.size) wr ((wr.setCell ⟨wq.heap.size, fr, none⟩ (.int .i64 (G fr - m.am))).drew.drew) := ((Chg.refl (fun i => i = wq.heap.size) wr).setCell (.inl rfl) _).drew.drew
            generalize (wr.setCell ⟨wq.heap.size, fr, none⟩ (.int .i64 (G fr - m.am))).drew.drew = w7 at *
            have l2' : w7.cell? ⟨g, j * 4 + 2, none⟩ = some (.int .i64 to) := by rw [hc7.cell hgl hgS]; exact l2
            have l3' : w7.cell? ⟨g, j * 4 + 3, none⟩ = some (.int .i64 m.am) := by rw [hc7.cell hgl hgS]; exact l3
            have ct : w7.cell? ⟨wq.heap.size, to, none⟩ = some (.int .i64 (G to)) := by
              rw [hS7.cell, row6_get _ to (by omega), upd_other _ _ _ _ (fun e => hne e.symm)]
            have ft : w7.frozen? ⟨wq.heap.size, to, none⟩ = false := hS7.frozen _
            clear l1 l2 l3 cf ff x1 x2 x3 x4 x5 x6 hSx
            go_wp2_with fail
            refine wp_region_plan (by kernel_rfl) [{ fl := [0, 1, 2, 3, 4, 5, 6, 7, 8, 9, 10, 11, 12, 13, 14, 15, 16, 17, 18], ef := 19 }] [] (by kernel_rfl) (fun _ _ => True) ?_
            simp only [wpPlan, longOK, keepOK, opsAt_cons, opsAt_nil, consO_some, List.getElem?_toArray, List.getElem?_cons_succ, List.getElem?_cons_zero, true_and]
            go_wp2
            refine ⟨by kernel_rfl, ?_⟩
            go_wp2
            refine ⟨by kernel_rfl, ?_⟩
            have hS8 : Blk ((w7.setCell ⟨wq.heap.size, to, none⟩ (.int .i64 (G to + m.am))).drew) wq.heap.size 34 (row6 (bal (Pur.new f).ac (p.ln.take (j + 1)))) := by
              have h := hS7.set to (.int .i64 (G to + m.am))
              rw [row6_set _ _ (by omega), mvd_upd] at h
              rw [List.take_add_one, hm, Option.toList_some, bal_snoc, ← hGh.out, hfr, hto]
              exact h
            have hc8 : Chg (fun i => i = wq.heap.size) w7 ((w7.setCell ⟨wq.heap.size, to, none⟩ (.int .i64 (G to + m.am))).drew) := ((Chg.refl (fun i => i = wq.heap.size) w7).setCell (.inl rfl) _).drew
            generalize (w7.setCell ⟨wq.heap.size, to, none⟩ (.int .i64 (G to + m.am))).drew = w8 at *
            have hcy8 := (hcy.trans hc7 (fun _ _ h => h)).trans hc8 (fun _ _ h => h)
            have hcx8 : Chg (fun _ => False) wq w8 := (hcx.trans hc7 (fun i hi h => by omega)).trans hc8 (fun i hi h => by omega)
            clear l2' l3' ct ft hc7 hc8 hS7
            go_wp2_with fail
            go_roundw
            case rel => exact ⟨j + 1, by go_num, by omega, hS8, hcx8, hcy8⟩
            case measure => simp [intOf]; omega
          · have hje : j = p.ln.length := by omega
            subst hje
            rw [List.take_length, ← hT.eq] at hSx
            have hPx := hPk.keep0 hcx
            clear hownx hbj
            have r0 : wr.cell? ⟨wq.heap.size, 0, none⟩ = some (.int .i64 (p.ac 0)) := by rw [hSx.cell]; rfl
            have r1 : wr.cell? ⟨wq.heap.size, 1, none⟩ = some (.int .i64 (p.ac 1)) := by rw [hSx.cell]; rfl
            have r2 : wr.cell? ⟨wq.heap.size, 2, none⟩ = some (.int .i64 (p.ac 2)) := by rw [hSx.cell]; rfl
            have r3 : wr.cell? ⟨wq.heap.size, 3, none⟩ = some (.int .i64 (p.ac 3)) := by rw [hSx.cell]; rfl
            have r4 : wr.cell? ⟨wq.heap.size, 4, none⟩ = some (.int .i64 (p.ac 4)) := by rw [hSx.cell]; rfl
            have r5 : wr.cell? ⟨wq.heap.size, 5, none⟩ = some (.int .i64 (p.ac 5)) := by rw [hSx.cell]; rfl
            go_wp2_with fail
            refine wp_loop_rounds 5 ?_
            rw [rounds_succ]; go_wp2_with fail
            refine wp_region_plan (by kernel_rfl) [{ fl := [0, 1, 2, 3, 4], long := [2], ef := 5, keep := [2] }] [6] (by kernel_rfl) (fun _ w9 => w9.cell? ⟨wq.heap.size, 0, none⟩ = some (.int .i64 (p.ac 0))) ?_
            simp only [wpPlan, longOK, keepOK, opsAt_cons, opsAt_nil, consO_some, List.getElem?_toArray, List.getElem?_cons_succ, List.getElem?_cons_zero, and_true]
            refine ⟨r0, ?_⟩
            go_wp2
            refine ⟨by kernel_rfl, ?_, ?_⟩
            · intro _ w9 h
              have h : w9.cell? ⟨wq.heap.size, 0, none⟩ = some (.int .i64 (p.ac 0)) := h
              go_simp
            go_wp2_with (go_at_call 15; refine (balance_i hPx.drew 0 (by omega)).mono ?_; rintro e w' ⟨rfl, rfl⟩)
            refine ⟨r0, ?_⟩
            go_wp2
            refine ⟨by kernel_rfl, ?_⟩
            go_wp2_with fail
            rw [rounds_succ]; go_wp2_with fail
            refine wp_region_plan (by kernel_rfl) [{ fl := [0, 1, 2, 3, 4], long := [2], ef := 5, keep := [2] }] [6] (by kernel_rfl) (fun _ w9 => w9.cell? ⟨wq.heap.size, 1, none⟩ = some (.int .i64 (p.ac 1))) ?_
            simp only [wpPlan, longOK, keepOK, opsAt_cons, opsAt_nil, consO_some, List.getElem?_toArray, List.getElem?_cons_succ, List.getElem?_cons_zero, and_true]
            refine ⟨r1, ?_⟩
            go_wp2
            refine ⟨by kernel_rfl, ?_, ?_⟩
            · intro _ w9 h
              have h : w9.cell? ⟨wq.heap.size, 1, none⟩ = some (.int .i64 (p.ac 1)) := h
              go_simp
            go_wp2_with (go_at_call 15; refine (balance_i hPx.drew.drew 1 (by omega)).mono ?_; rintro e w' ⟨rfl, rfl⟩)
            refine ⟨r1, ?_⟩
            go_wp2
            refine ⟨by kernel_rfl, ?_⟩
            go_wp2_with fail
            rw [rounds_succ]; go_wp2_with fail
            refine wp_region_plan (by kernel_rfl) [{ fl := [0, 1, 2, 3, 4], long := [2], ef := 5, keep := [2] }] [6] (by kernel_rfl) (fun _ w9 => w9.cell? ⟨wq.heap.size, 2, none⟩ = some (.int .i64 (p.ac 2))) ?_
            simp only [wpPlan, longOK, keepOK, opsAt_cons, opsAt_nil, consO_some, List.getElem?_toArray, List.getElem?_cons_succ, List.getElem?_cons_zero, and_true]
            refine ⟨r2, ?_⟩
            go_wp2
            refine ⟨by kernel_rfl, ?_, ?_⟩
            · intro _ w9 h
              have h : w9.cell? ⟨wq.heap.size, 2, none⟩ = some (.int .i64 (p.ac 2)) := h
              go_simp
            go_wp2_with (go_at_call 15; refine (balance_i hPx.drew.drew.drew 2 (by omega)).mono ?_; rintro e w' ⟨rfl, rfl⟩)
            refine ⟨r2, ?_⟩
            go_wp2
            refine ⟨by kernel_rfl, ?_⟩
            go_wp2_with fail
            rw [rounds_succ]; go_wp2_with fail
            refine wp_region_plan (by kernel_rfl) [{ fl := [0, 1, 2, 3, 4], long := [2], ef := 5, keep := [2] }] [6] (by kernel_rfl) (fun _ w9 => w9.cell? ⟨wq.heap.size, 3, none⟩ = some (.int .i64 (p.ac 3))) ?_
            simp only [wpPlan, longOK, keepOK, opsAt_cons, opsAt_nil, consO_some, List.getElem?_toArray, List.getElem?_cons_succ, List.getElem?_cons_zero, and_true]
            refine ⟨r3, ?_⟩
            go_wp2
            refine ⟨by kernel_rfl, ?_, ?_⟩
            · intro _ w9 h
              have h : w9.cell? ⟨wq.heap.size, 3, none⟩ = some (.int .i64 (p.ac 3)) := h
              go_simp
            go_wp2_with (go_at_call 15; refine (balance_i hPx.drew.drew.drew.drew 3 (by omega)).mono ?_; rintro e w' ⟨rfl, rfl⟩)
            refine ⟨r3, ?_⟩
            go_wp2
            refine ⟨by kernel_rfl, ?_⟩
            go_wp2_with fail
            rw [rounds_succ]; go_wp2_with fail
            refine wp_region_plan (by kernel_rfl) [{ fl := [], ef := 0 }, { fl := [1, 2, 3, 4], long := [3], ef := 5, keep := [3] }, { fl := [6, 7, 8, 9, 10, 11], long := [10], ef := 12, keep := [10] }] [13, 14, 15] (by kernel_rfl) (fun i w9 => if i = 3 then w9.cell? ⟨wq.heap.size, 4, none⟩ = some (.int .i64 (p.ac 4)) else w9.cell? ⟨wq.heap.size, 5, none⟩ = some (.int .i64 (p.ac 5))) ?_
            simp only [wpPlan, longOK, keepOK, opsAt_cons, opsAt_nil, consO_some, List.getElem?_toArray, List.getElem?_cons_succ, List.getElem?_cons_zero, and_true, true_and]
            go_wp2_with fail
            refine ⟨by kernel_rfl, ?_⟩
            go_wp2_with (go_at_call 10; refine (told10 _).mono ?_; rintro e wt ⟨rfl, hct⟩)
            have hSt : Blk wt wq.heap.size 34 (row6 p.ac) := hSx.keep (hct.block wq.heap.size hSx.lt id)
            have hPt : PurW (w.heap.size + 1) wt q p := hPx.drew.drew.drew.drew.drew.keep0 hct
            have hcE : Chg (fun _ => False) w wt := (hcC.trans hcx (fun _ _ h => h)).drew.drew.drew.drew.drew.trans hct (fun _ _ h => h)
            have t4 : wt.cell? ⟨wq.heap.size, 4, none⟩ = some (.int .i64 (p.ac 4)) := by rw [hSt.cell]; rfl
            have t5 : wt.cell? ⟨wq.heap.size, 5, none⟩ = some (.int .i64 (p.ac 5)) := by rw [hSt.cell]; rfl
            clear r0 r1 r2 r3 r4 r5 hct hSx hPx
            refine ⟨t4, ?_⟩
            go_wp2
            refine ⟨by kernel_rfl, ?_, ?_⟩
            · intro _ w9 h
              have h : w9.cell? ⟨wq.heap.size, 4, none⟩ = some (.int .i64 (p.ac 4)) := h
              go_simp
            go_wp2_with (go_at_call 13; refine (reserved_w hPt).mono ?_; rintro e w' ⟨rfl, rfl⟩)
            refine ⟨t4, ?_⟩
            refine ⟨t5, ?_⟩
            go_wp2
            refine ⟨by kernel_rfl, ?_, ?_⟩
            · intro _ w9 h
              have h : w9.cell? ⟨wq.heap.size, 5, none⟩ = some (.int .i64 (p.ac 5)) := h
              go_simp
            go_wp2_with (go_at_call 14; refine (takings_w hPt).mono ?_; rintro e w' ⟨rfl, rfl⟩)
            refine ⟨t5, ?_⟩
            go_wp2
            refine ⟨by kernel_rfl, ?_⟩
            go_wp2
            go_ret
            exact ⟨rfl, hcE⟩
end Go.Proofs.Ytbmpjndagponoaa
