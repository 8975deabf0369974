/-
  The reference's purse in memory; 'move' by its contract.
-/
import Derived.Test.YtjgnnefhnddecaaArrF
import Derived.Test.YtjgnnefhnddecaaEntM
import Derived.Test.YtjgnnefhnddecaaMayRef
import Derived.Test.YtjgnnefhnddecaaPurseN
import Derived.Test.YtjgnnefhnddecaaPurseA
import Derived.LoopTactic
namespace Go.Proofs.Ytjgnnefhnddecaa
open Go.RowKit Go.Maps

/-- Where the reference's purse lies: a block of a type, so many cells, the first 1012 of them the purse's, and what the others are. -/
structure QEnv where
  T : TypeId
  n : Nat
  g : Nat → Value
  h : 1012 ≤ n
  ne : 84 ≠ T
  ne1 : 45 ≠ T
  ne2 : 31 ≠ T
def qCell (ac : Int → Int) (en : Int → Ent) (lv : Value) (n : Nat) : Value := if n < 6 then .int .i64 (ac n) else if n < 1011 then entCell (en (((n - 6) / 5 : Nat) : Int)) ((n - 6) % 5) else lv
def qovl (g : Nat → Value) (ac : Int → Int) (en : Int → Ent) (lv : Value) (i : Nat) : Value := if i < 1012 then qCell ac en lv i else g i
variable {R : QEnv}
/-- The block alone. -/
def QBlk (R : QEnv) (w : World) (x : Nat) (ac : Int → Int) (en : Int → Ent) (lv : Value) : Prop := Blk w x R.T (arrF R.n (qovl R.g ac en lv))
/-- The reference's purse; lv: its moves. -/
structure QAt (R : QEnv) (w : World) (x : Nat) (lv : Value) (p : Pur) : Prop where
  blk : QBlk R w x p.ac p.en lv
  own : w.ownsRow 0 84 4 lv p.ln.length (p.ln.flatMap Mv.cells)
theorem QAt.ne {w : World} {x : Nat} {lv : Value} {p : Pur} (h : QAt R w x lv p) : lv.ownBlock ≠ some x := own_ne h.own h.blk R.ne
theorem QAt.chg {w w' : World} {x : Nat} {lv : Value} {p : Pur} {S : Nat → Prop} (h : QAt R w x lv p) (hc : Chg S w w') (hn : ¬ S x) (hl : ∀ k, lv.ownBlock = some k → ¬ S k) : QAt R w' x lv p :=
  ⟨Blk.chg h.blk hc hn, own_chg h.own hc hl⟩
section
variable {w : World} {x : Nat} {ac : Int → Int} {en : Int → Ent} {lv : Value}
theorem QBlk.cell0 (h : QBlk R w x ac en lv) (i : Nat) (hi : i < 1012) : w.cell? ⟨x, i, none⟩ = some (qCell ac en lv i) := by
  rw [Blk.cell h, arrF_get _ _ _ (Nat.lt_of_lt_of_le hi R.h)]
  unfold qovl
  rw [if_pos hi]
theorem QBlk.acc (h : QBlk R w x ac en lv) (i : Nat) (hi : i < 6) : w.cell? ⟨x, i, none⟩ = some (.int .i64 (ac i)) := by
  rw [h.cell0 i (by omega)]
  unfold qCell
  rw [if_pos hi]
theorem QBlk.lin (h : QBlk R w x ac en lv) : w.cell? ⟨x, 1011, none⟩ = some lv := by
  rw [h.cell0 1011 (by omega)]
  rfl
theorem QBlk.ent (h : QBlk R w x ac en lv) (i j : Nat) (hi : i ≤ 200) (hj : j < 5) : w.cell? ⟨x, 6 + i * 5 + j, none⟩ = some (entCell (en (i : Int)) j) := by
  rw [h.cell0 _ (by omega)]
  unfold qCell
  rw [if_neg (by omega), if_pos (by omega)]
  have e1 : (6 + i * 5 + j - 6) / 5 = i := by omega
  have e2 : (6 + i * 5 + j - 6) % 5 = j := by omega
  rw [e1, e2]
theorem QBlk.cells (h : QBlk R w x ac en lv) (i : Nat) (hi : i ≤ 200) {y : Ent} (hy : en (i : Int) = y) :
    w.cell? ⟨x, 6 + i * 5, none⟩ = some (.int .i64 y.st) ∧ w.cell? ⟨x, 6 + i * 5 + 1, none⟩ = some (.int .i64 y.un) ∧ w.cell? ⟨x, 6 + i * 5 + 2, none⟩ = some (.int .i64 y.til) ∧
      w.cell? ⟨x, 6 + i * 5 + 3, none⟩ = some (.int .i64 y.cu) ∧ w.cell? ⟨x, 6 + i * 5 + 4, none⟩ = some (.int .i64 y.am) := by
  rw [← hy]
  exact ⟨h.ent i 0 hi (by omega), h.ent i 1 hi (by omega), h.ent i 2 hi (by omega), h.ent i 3 hi (by omega), h.ent i 4 hi (by omega)⟩
theorem QBlk.frozen (h : QBlk R w x ac en lv) (i : Nat) : w.frozen? ⟨x, i, none⟩ = false := Blk.frozen h i
theorem QBlk.setAc (h : QBlk R w x ac en lv) (i : Nat) (hi : i < 6) (v : Int) : QBlk R (w.setCell ⟨x, i, none⟩ (.int .i64 v)) x (upd ac (i : Int) v) en lv := by
  have h1 := Blk.set h i (.int .i64 v)
  rw [arrF_set] at h1
  refine (congrArg (fun z => Blk _ x _ z) (arrF_congr R.n _ _ (fun n _ => ?_))).mp h1
  unfold qovl qCell upd
  by_cases hn : n = i
  · subst hn
    rw [if_pos rfl, if_pos (by omega), if_pos hi, if_pos rfl]
  · rw [if_neg hn]
    split
    · split
      · rw [if_neg (by omega)]
      · rfl
    · rfl
theorem QBlk.setLn (h : QBlk R w x ac en lv) (lv' : Value) : QBlk R (w.setCell ⟨x, 1011, none⟩ lv') x ac en lv' := by
  have h1 := Blk.set h 1011 lv'
  rw [arrF_set] at h1
  refine (congrArg (fun z => Blk _ x _ z) (arrF_congr R.n _ _ (fun n _ => ?_))).mp h1
  unfold qovl qCell
  by_cases hn : n = 1011
  · subst hn
    rw [if_pos rfl, if_pos (by omega), if_neg (by omega), if_neg (by omega)]
  · rw [if_neg hn]
    split
    · split
      · rfl
      · split
        · rfl
        · omega
    · rfl
theorem QBlk.put (h : QBlk R w x ac en lv) (i : Nat) (hi : i ≤ 200) (e : Ent) :
    QBlk R (((((w.setCell ⟨x, 6 + i * 5, none⟩ (.int .i64 e.st)).setCell ⟨x, 6 + i * 5 + 1, none⟩ (.int .i64 e.un)).setCell ⟨x, 6 + i * 5 + 2, none⟩ (.int .i64 e.til)).setCell ⟨x, 6 + i * 5 + 3, none⟩ (.int .i64 e.cu)).setCell ⟨x, 6 + i * 5 + 4, none⟩ (.int .i64 e.am)) x ac (fun k => if k = (i : Int) then e else en k) lv := by
  have h5 := ((((Blk.set h (6 + i * 5) (.int .i64 e.st)).set (6 + i * 5 + 1) (.int .i64 e.un)).set (6 + i * 5 + 2) (.int .i64 e.til)).set (6 + i * 5 + 3) (.int .i64 e.cu)).set (6 + i * 5 + 4) (.int .i64 e.am)
  simp only [arrF_set] at h5
  unfold QBlk
  refine (congrArg (fun a => Blk _ x _ a) (arrF_congr R.n _ _ (fun n _ => ?_))).mp h5
  unfold qovl
  by_cases hlt : n < 1012
  case neg => rw [if_neg hlt, if_neg hlt, if_neg (by omega), if_neg (by omega), if_neg (by omega), if_neg (by omega), if_neg (by omega)]
  rw [if_pos hlt, if_pos hlt]
  unfold qCell
  by_cases hn0 : n < 6
  · rw [if_neg (by omega), if_neg (by omega), if_neg (by omega), if_neg (by omega), if_neg (by omega), if_pos hn0, if_pos hn0]
  rw [if_neg hn0, if_neg hn0]
  by_cases hn1 : n < 1011
  case neg => rw [if_neg (by omega), if_neg (by omega), if_neg (by omega), if_neg (by omega), if_neg (by omega), if_neg hn1, if_neg hn1]
  rw [if_pos hn1, if_pos hn1]
  dsimp only
  by_cases hd : (n - 6) / 5 = i
  · have hc : (n - 6) % 5 = 0 ∨ (n - 6) % 5 = 1 ∨ (n - 6) % 5 = 2 ∨ (n - 6) % 5 = 3 ∨ (n - 6) % 5 = 4 := by omega
    rw [if_pos (show (((n - 6) / 5 : Nat) : Int) = (i : Int) by omega)]
    rcases hc with hc | hc | hc | hc | hc
    · rw [if_neg (by omega), if_neg (by omega), if_neg (by omega), if_neg (by omega), if_pos (by omega), hc]; rfl
    · rw [if_neg (by omega), if_neg (by omega), if_neg (by omega), if_pos (by omega), hc]; rfl
    · rw [if_neg (by omega), if_neg (by omega), if_pos (by omega), hc]; rfl
    · rw [if_neg (by omega), if_pos (by omega), hc]; rfl
    · rw [if_pos (by omega), hc]; rfl
  · rw [if_neg (by omega), if_neg (by omega), if_neg (by omega), if_neg (by omega), if_neg (by omega), if_neg (by omega)]
/-- The first cell of a booking alone. -/
theorem QBlk.put0 (h : QBlk R w x ac en lv) (i : Nat) (hi : i ≤ 200) (e : Ent) (he : e = { en (i : Int) with st := e.st }) : QBlk R (w.setCell ⟨x, 6 + i * 5, none⟩ (.int .i64 e.st)) x ac (fun k => if k = (i : Int) then e else en k) lv := by
  have h5 := Blk.set h (6 + i * 5) (.int .i64 e.st)
  simp only [arrF_set] at h5
  unfold QBlk
  refine (congrArg (fun a => Blk _ x _ a) (arrF_congr R.n _ _ (fun n _ => ?_))).mp h5
  unfold qovl
  by_cases hlt : n < 1012
  case neg => rw [if_neg hlt, if_neg hlt, if_neg (by omega)]
  rw [if_pos hlt, if_pos hlt]
  unfold qCell
  by_cases hn0 : n < 6
  · rw [if_neg (by omega), if_pos hn0, if_pos hn0]
  rw [if_neg hn0, if_neg hn0]
  by_cases hn1 : n < 1011
  case neg => rw [if_neg (by omega), if_neg hn1, if_neg hn1]
  rw [if_pos hn1, if_pos hn1]
  dsimp only
  by_cases hd : (n - 6) / 5 = i
  · rw [if_pos (show (((n - 6) / 5 : Nat) : Int) = (i : Int) by omega)]
    by_cases hc : (n - 6) % 5 = 0
    · rw [if_pos (by omega), hc]; rfl
    · rw [if_neg (by omega), hd]
      unfold entCell
      rw [if_neg hc, if_neg hc, he]
  · rw [if_neg (by omega), if_neg (by omega)]
end

theorem slice_own {w : World} {base n : Nat} {e : TypeId} {size : Nat} {v : Value} {xs : List Value} (h : w.ownsRow base e size v (n + 1) xs) : ∃ g c, v = .slice (some ⟨g, 0, none⟩) (n + 1) c := by
  rcases h.2 with ⟨_, h⟩ | ⟨g, c, _, rfl, _⟩
  · exact absurd h (by omega)
  · exact ⟨g, c, rfl⟩
/-- Money goes, no booking is told. -/
def Pur.mv (p : Pur) (b fr to am : Int) : Pur := { p with ac := mvd p.ac fr to am, ln := p.ln ++ [⟨b, fr, to, am⟩] }
theorem infoQLine : (Try.prog.info? 84).map (fun i => (i.zero, i.size, i.bytes)) = some (some (.agg #[.int .i64 0, .int .i64 0, .int .i64 0, .int .i64 0]), 4, 32) := by kernel_rfl

set_option maxRecDepth 100000 in
set_option maxHeartbeats 1000000 in
theorem rq_move {w : World} {x : Nat} {lv : Value} {p : Pur} (h : QAt R w x lv p) (b : Int) (fr to : Nat) (am : Int) (hfr : fr < 6) (hto : to < 6)
    (ham0 : 0 ≤ am) (ham1 : am ≤ 1099511627776) (hf0 : -1125899906842624 ≤ p.ac fr) (hf1 : p.ac fr ≤ 1125899906842624) (ht0 : -1125899906842624 ≤ p.ac to) (ht1 : p.ac to ≤ 1125899906842624) (hne : fr ≠ to) (hlen : p.ln.length ≤ 1000000) :
    Calls Try.prog 33 #[.pointer (some ⟨x, 0, none⟩), .int .i64 b, .int .i64 fr, .int .i64 to, .int .i64 am] w fun e w' => e = .returned (.tuple #[]) ∧
      ∃ lv', QAt R w' x lv' (p.mv b fr to am) ∧ Chg (fun i => i = x ∨ lv.ownBlock = some i) w w' ∧ (lv'.ownBlock = lv.ownBlock ∨ ∃ k, lv'.ownBlock = some k ∧ w.heap.size ≤ k) := by
  have cfr := h.blk.acc fr hfr
  have ffr := h.blk.frozen fr
  have bfr : (0 : Int) ≤ fr ∧ (fr : Int) < 6 := by omega
  have bto : (0 : Int) ≤ to ∧ (to : Int) < 6 := by omega
  obtain ⟨bfr0, bfr1⟩ := bfr
  obtain ⟨bto0, bto1⟩ := bto
  have cto2 := (h.blk.setAc fr hfr (p.ac fr - am)).acc to hto
  have fto2 := (h.blk.setAc fr hfr (p.ac fr - am)).frozen to
  have hB4 := (h.blk.setAc fr hfr (p.ac fr - am)).setAc to hto (p.ac to + am)
  rw [mvd_upd] at hB4
  have hup : upd p.ac (fr : Int) (p.ac fr - am) (to : Int) = p.ac to := by unfold upd; rw [if_neg (by omega)]
  rw [hup] at cto2
  clear hup
  have hC4 : Chg (fun i => i = x) w ((w.setCell ⟨x, fr, none⟩ (.int .i64 (p.ac fr - am))).setCell ⟨x, to, none⟩ (.int .i64 (p.ac to + am))).drew.drew := (((Chg.refl (fun i => i = x) w).setCell (.inl rfl) _).setCell (.inl rfl) _).drew.drew
  have hxl := h.ne
  go_enter Try.func33, Try.ntmps33
  go_wp2
  refine wp_region_plan (by kernel_rfl) [{ fl := [0, 1, 2, 3, 4, 5, 6, 7, 8, 9, 10, 11, 12], ef := 13 }] [] (by kernel_rfl) (fun _ _ => True) ?_
  simp only [wpPlan, longOK, keepOK, opsAt_cons, opsAt_nil, consO_some, List.getElem?_toArray, List.getElem?_cons_succ, List.getElem?_cons_zero, true_and]
  go_wp2_with fail
  refine ⟨by kernel_rfl, ?_⟩
  go_wp2_with fail
  refine ⟨by kernel_rfl, ?_⟩
  go_wp2_with fail
  refine wp_region_plan (by kernel_rfl) [{ fl := [0, 1, 2, 3, 4, 5, 6, 7, 8, 9, 10, 11, 12], ef := 13 }] [] (by kernel_rfl) (fun _ _ => True) ?_
  simp only [wpPlan, longOK, keepOK, opsAt_cons, opsAt_nil, consO_some, List.getElem?_toArray, List.getElem?_cons_succ, List.getElem?_cons_zero, true_and]
  go_wp2_with fail
  refine ⟨by kernel_rfl, ?_⟩
  go_wp2_with fail
  refine ⟨by kernel_rfl, ?_⟩
  have hB4 : QBlk R ((w.setCell ⟨x, fr, none⟩ (.int .i64 (p.ac fr - am))).setCell ⟨x, to, none⟩ (.int .i64 (p.ac to + am))).drew.drew x (mvd p.ac fr to am) p.en lv := hB4
  have hW4 := own_chg (w' := ((w.setCell ⟨x, fr, none⟩ (.int .i64 (p.ac fr - am))).setCell ⟨x, to, none⟩ (.int .i64 (p.ac to + am))).drew.drew) h.own hC4 (fun k hk e => hxl (by rw [hk, e]))
  clear cfr ffr cto2 fto2
  generalize ((w.setCell ⟨x, fr, none⟩ (.int .i64 (p.ac fr - am))).setCell ⟨x, to, none⟩ (.int .i64 (p.ac to + am))).drew.drew = w4 at *
  have cL := hB4.lin
  have hcA := (Chg.refl (fun _ => False) w4).alloc (.cells #[.int .i64 b, .int .i64 fr, .int .i64 to, .int .i64 am] 84)
  have hW4a := own_chg hW4 hcA (fun _ _ => id)
  have hB4a : QBlk R (w4.alloc (.cells #[.int .i64 b, .int .i64 fr, .int .i64 to, .int .i64 am] 84)) x _ _ _ := Blk.chg hB4 hcA id
  have hnews := row_cells w4 84 [.int .i64 b, .int .i64 fr, .int .i64 to, .int .i64 am]
  obtain ⟨i0, hi, hz0, hz1, hz2⟩ := info_parts infoQLine
  have hmx : p.ln.length + 1 ≤ maxLen := by unfold maxLen; omega
  go_wp2_with (at_builtin; go_loud (refine wpList_append_own_at _ rfl _ _ 33 rfl 0 84 i0 (.agg #[.int .i64 0, .int .i64 0, .int .i64 0, .int .i64 0]) 4 32 Try.underlying33 hi hz0 hz1 hz2 rfl (by decide) lv p.ln.length (p.ln.flatMap Mv.cells) rfl (by exact hW4a) ⟨w4.heap.size, 0, none⟩ 1 1 [.int .i64 b, .int .i64 fr, .int .i64 to, .int .i64 am] rfl rfl (by exact hnews) (by intro u hu; simp at hu; rcases hu with rfl | rfl | rfl | rfl <;> rfl) hmx (by omega) (by omega) ?_; intro v' w5 hown5 hgr5 _ hloc5; have hc5 := own_grown hgr5; have hB5 : QBlk R w5 x _ _ _ := Blk.chg hB4a hc5 hxl; have f5 := hB5.frozen 1011; have c5 := hB5.lin; obtain ⟨g5, cp5, rfl⟩ : ∃ g c, v' = .slice (some ⟨g, 0, none⟩) (p.ln.length + 1) c := slice_own hown5; clear hgr5 hnews cL))
  obtain ⟨v', hv'⟩ : ∃ v', Value.slice (some ⟨g5, 0, none⟩) (p.ln.length + 1) cp5 = v' := ⟨_, rfl⟩
  rw [hv'] at hown5 hloc5 ⊢
  have hB6 := hB5.setLn v'
  have hC5 : Chg (fun i => i = x ∨ lv.ownBlock = some i) w w5 := ((hC4.mono (T := fun i => i = x ∨ lv.ownBlock = some i) (fun _ _ h => .inl h)).trans ((hcA.mono (T := fun i => lv.ownBlock = some i) (fun _ _ h => h.elim)).trans hc5 (fun _ _ h => h)) (fun _ _ h => .inr h))
  have hz := (hC4.trans hcA (fun _ _ h => h.elim)).size
  refine bodyPost_end (v := .tuple #[]) (by simp [results, Try.results33, go_sem]) rfl ⟨rfl, v', ⟨hB6, ?_⟩, hC5.setCell (p := ⟨x, 1011, none⟩) (.inl (.inl rfl)) v', hloc5.imp id fun h => ⟨_, h, hz⟩⟩
  have h6 := own_chg hown5 ((Chg.refl (fun i => i = x) w5).setCell (p := ⟨x, 1011, none⟩) (.inl rfl) v') (fun k hk e => own_ne hown5 hB5 R.ne (by rw [hk, e]))
  simpa [Pur.mv, List.flatMap_append, Mv.cells] using h6

theorem rq_move_i {w : World} {x : Nat} {lv : Value} {p : Pur} (h : QAt R w x lv p) (b fr to am : Int) (hfr : 0 ≤ fr ∧ fr < 6) (hto : 0 ≤ to ∧ to < 6)
    (ham0 : 0 ≤ am) (ham1 : am ≤ 1099511627776) (hf : 0 ≤ p.ac fr ∧ p.ac fr ≤ 1125899906842624) (ht : 0 ≤ p.ac to ∧ p.ac to ≤ 1125899906842624) (hne : fr ≠ to) (hlen : p.ln.length ≤ 1000000) :
    Calls Try.prog 33 #[.pointer (some ⟨x, 0, none⟩), .int .i64 b, .int .i64 fr, .int .i64 to, .int .i64 am] w fun e w' => e = .returned (.tuple #[]) ∧
      ∃ lv', QAt R w' x lv' (p.mv b fr to am) ∧ Chg (fun i => i = x ∨ lv.ownBlock = some i) w w' ∧ (lv'.ownBlock = lv.ownBlock ∨ ∃ k, lv'.ownBlock = some k ∧ w.heap.size ≤ k) := by
  obtain ⟨a, rfl⟩ : ∃ a : Nat, fr = a := ⟨fr.toNat, by omega⟩
  obtain ⟨c, rfl⟩ : ∃ c : Nat, to = c := ⟨to.toNat, by omega⟩
  exact rq_move h b a c am (by omega) (by omega) ham0 ham1 (by omega) hf.2 (by omega) ht.2 (by omega) hlen

theorem own_lt0 {w : World} {base : Nat} {e : TypeId} {size n : Nat} {v : Value} {xs : List Value} (h : w.ownsRow base e size v n xs) : ∀ k, v.ownBlock = some k → k < w.heap.size := by
  intro k hk
  rcases h.2 with ⟨h0, _⟩ | ⟨g', c', cur, h0, _, hh, _⟩
  · rw [h0] at hk; cases hk
  · rw [h0] at hk
    simp [Value.ownBlock] at hk
    subst hk
    exact (Array.getElem?_eq_some_iff.1 hh).1
theorem set_self {p : Pur} {b : Int} {e : Ent} (h : p.en b = e) : p.set b e = p := by
  unfold Pur.set
  cases p
  dsimp only at *
  congr 1
  funext i
  split
  · rename_i hi; rw [hi, h]
  · rfl
theorem QAt.drew {w : World} {x : Nat} {lv : Value} {p : Pur} (h : QAt R w x lv p) : QAt R w.drew x lv p := h.chg ((Chg.refl (fun _ => False) w).drew) id (fun _ _ => id)
theorem Chg.put5 {S : Nat → Prop} {w w' : World} (h : Chg S w w') {x n : Nat} (hx : S x) (a b c d e : Value) :
    Chg S w (((((w'.setCell ⟨x, n, none⟩ a).setCell ⟨x, n + 1, none⟩ b).setCell ⟨x, n + 2, none⟩ c).setCell ⟨x, n + 3, none⟩ d).setCell ⟨x, n + 4, none⟩ e) :=
  ((((h.setCell (.inl hx) _).setCell (.inl hx) _).setCell (.inl hx) _).setCell (.inl hx) _).setCell (.inl hx) _
theorem QAt.put {w : World} {x : Nat} {lv : Value} {p : Pur} (h : QAt R w x lv p) (i : Nat) (hi : i ≤ 200) (e : Ent) :
    QAt R (((((w.setCell ⟨x, 6 + i * 5, none⟩ (.int .i64 e.st)).setCell ⟨x, 6 + i * 5 + 1, none⟩ (.int .i64 e.un)).setCell ⟨x, 6 + i * 5 + 2, none⟩ (.int .i64 e.til)).setCell ⟨x, 6 + i * 5 + 3, none⟩ (.int .i64 e.cu)).setCell ⟨x, 6 + i * 5 + 4, none⟩ (.int .i64 e.am)) x lv (p.set i e) :=
  ⟨h.blk.put i hi e, own_chg h.own ((Chg.refl (fun i => i = x) w).put5 rfl _ _ _ _ _) (fun k hk e => h.ne (by rw [hk, e]))⟩
theorem QAt.put0 {w : World} {x : Nat} {lv : Value} {p : Pur} (h : QAt R w x lv p) (i : Nat) (hi : i ≤ 200) (e : Ent) (he : e = { p.en (i : Int) with st := e.st }) :
    QAt R (w.setCell ⟨x, 6 + i * 5, none⟩ (.int .i64 e.st)) x lv (p.set i e) :=
  ⟨h.blk.put0 i hi e he, own_chg h.own ((Chg.refl (fun i => i = x) w).setCell (.inl rfl) _) (fun k hk e => h.ne (by rw [hk, e]))⟩
end Go.Proofs.Ytjgnnefhnddecaa
