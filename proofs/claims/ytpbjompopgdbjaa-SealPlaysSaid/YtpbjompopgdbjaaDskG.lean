/-
  disk: Append by its contract.
-/
import Derived.Test.YtpbjompopgdbjaaZDskD
namespace Go.Proofs.Ytpbjompopgdbjaa
open Go.RowKit Go.Maps

theorem put_put (D : Dsk) (n : Nam) (f g : Fil) : (D.put n f).put n g = D.put n g := by
  unfold Dsk.put
  simp only [upd_same, Option.isSome_some, if_true]
  congr 1
  funext m
  unfold upd
  split <;> rfl

/-- A file behind 'f.b = append(f.b, b...)'. -/
theorem fil_after {S : Nat → Prop} {w w' : World} {d md : Nat} {pl : Nam → Nat × Nat} {D : Dsk} (h : DiskAt S w d md pl D) {n : Nam} {f : Fil} (hf : D.fl n = some f) {ao ao' : Option Addr} {off' cap' rb' cp : Nat} {b : List UInt8}
    (hB : Blk w (pl n).1 84 #[.slice ao f.bs.length cp, .int .i64 f.sy]) (hne : 0 < cp → (pl n).2 ≠ (pl n).1) (hR' : RowB w' ao' off' cap' rb' (f.bs ++ b)) (hc : Chg (fun i => i = (pl n).2 ∧ 0 < cp) w w')
    (hrb : (rb' = (pl n).2 ∧ cap' = cp) ∨ (w.heap.size ≤ rb' ∧ rb' < w'.heap.size)) (hS : ∀ i, w.heap.size ≤ i → S i) (hu : (D.used : Int) + b.length ≤ D.room) :
    DiskAt S (w'.setCell ⟨(pl n).1, 0, none⟩ (.slice ao' (f.bs ++ b).length cap')) d md (upd pl n ((pl n).1, rb')) (D.put n ⟨f.bs ++ b, f.sy⟩) ∧ Chg S w (w'.setCell ⟨(pl n).1, 0, none⟩ (.slice ao' (f.bs ++ b).length cap')) := by
  have hs := some_isSome hf
  have hfne := h.fne hs
  have hlo := h.lo n hs
  have hsf := h.sf n hs
  have hsyn := h.good.syn n f hf
  have hB' : Blk w' (pl n).1 84 #[.slice ao f.bs.length cp, .int .i64 f.sy] := hB.chg hc (fun ⟨e, h0⟩ => hne h0 e.symm)
  have hcc : Chg (Two pl n) w (w'.setCell ⟨(pl n).1, 0, none⟩ (.slice ao' (f.bs ++ b).length cap')) := (hc.mono (fun i _ hi => .inr hi.1) : Chg (Two pl n) w w').setCell (.inl (.inl rfl)) _
  have hrn : rb' ≠ (pl n).1 ∨ cap' = 0 := by
    rcases hrb with ⟨e1, e2⟩ | h1
    · rcases Nat.eq_zero_or_pos cp with h0 | h0
      · right; omega
      · left; rw [e1]; exact hne h0
    · left; omega
  have hF : FilAt (w'.setCell ⟨(pl n).1, 0, none⟩ (.slice ao' (f.bs ++ b).length cap')) (pl n).1 rb' ⟨f.bs ++ b, f.sy⟩ := by
    refine ⟨ao', off', cap', hB'.set 0 _, hR'.keep (by simp) (fun h0 => Below.heap_setCell w' _ _ rb' (by
      rcases hrn with h1 | h1
      · exact fun e => h1 e
      · omega)), fun h0 => by
      rcases hrn with h1 | h1
      · exact h1
      · omega⟩
  have hu2 := Dsk.used_put h.good n ⟨f.bs ++ b, f.sy⟩
  rw [hf] at hu2
  have hu2 : (D.put n ⟨f.bs ++ b, f.sy⟩).used + f.bs.length = D.used + (f.bs ++ b).length := hu2
  rw [List.length_append] at hu2
  have hG' : (D.put n ⟨f.bs ++ b, f.sy⟩).Good := h.good.put (h.good.nam n hs) (by show f.sy ≤ (f.bs ++ b).length; rw [List.length_append]; omega) (by omega)
  refine ⟨h.turn hf hcc (fun i hi => hi) ?_ ?_ hF ?_ hG', hcc.mono (fun i _ hi => ?_)⟩
  · rintro (e | e)
    · exact hfne.1 e.symm
    · exact hlo.1 e.symm
  · rintro (e | e)
    · exact hfne.2.1 e.symm
    · exact hlo.2.1 e.symm
  · rcases hrb with ⟨e1, _⟩ | h1
    · exact .inl e1
    · exact .inr ⟨h1.1, by simpa using h1.2, hS _ h1.1⟩
  · rcases hi with e | e
    · rw [e]; exact hsf.1
    · rw [e]; exact hsf.2

set_option maxRecDepth 100000 in
theorem dsk_append_nil (w : World) (n : Nam) (a : Option Addr) (l c : Nat) :
    Calls Try.prog 19 #[.pointer none, encStr n, .slice a l c] w fun e w' => e = .returned (.int .i64 5) ∧ w' = w := by
  go_enter Try.func19, Try.ntmps19
  go_wp2_with fail
  go_ret
  exact ⟨rfl, rfl⟩
set_option maxRecDepth 100000 in
theorem dsk_append_may {S : Nat → Prop} {w : World} {d md : Nat} {pl : Nam → Nat × Nat} {D : Dsk} (h : DiskAt S w d md pl D) (n : Nam) (hm : may n = false) (a : Option Addr) (l c : Nat) :
    Calls Try.prog 19 #[.pointer (some ⟨d, 0, none⟩), encStr n, .slice a l c] w fun e w' => e = .returned (.int .i64 1) ∧ w' = w := by
  have hdd := h.blk.lt
  go_enter Try.func19, Try.ntmps19
  go_wp2_with fail
  refine (dsk_may w n).mono ?_
  rintro e w' ⟨rfl, rfl⟩
  rw [hm]
  go_wp2_with fail
  go_ret
  exact ⟨rfl, rfl⟩

set_option maxRecDepth 100000 in
set_option maxHeartbeats 1000000 in
theorem dsk_append_full {S : Nat → Prop} {w : World} {d md : Nat} {pl : Nam → Nat × Nat} {D : Dsk} (h : DiskAt S w d md pl D) (hmx : D.ks.length ≤ 1000000) (n : Nam) (hm : may n = true) (a : Option Addr) (l c : Nat) (hl : D.room - D.used < l) :
    Calls Try.prog 19 #[.pointer (some ⟨d, 0, none⟩), encStr n, .slice a l c] w fun e w' => e = .returned (.int .i64 4) ∧ Chg (fun _ => False) w w' := by
  have hG := h.good
  have hfit := hG.fit
  have hrm := hG.rm
  have cells : ∀ w9 : World, w9.heap[d]? = w.heap[d]? → w9.cell? ⟨d, 1, none⟩ = some (.int .i64 D.room) := by
    intro w9 h9
    rw [(h.blk.keep h9).cell]; rfl
  have hch := Lib.hid cells
  have c1 := cells w rfl
  clear cells
  go_enter Try.func19, Try.ntmps19
  go_wp2_with fail
  refine (dsk_may w n).mono ?_
  rintro e w' ⟨rfl, rfl⟩
  rw [hm]
  go_wp2_with fail
  refine wp_region_plan (by kernel_rfl) [{ fl := [0, 1, 2, 3, 4, 5, 6], long := [1, 5], ef := 7, keep := [1, 5] }] [8, 9, 10] (by kernel_rfl) (fun _ w9 => w9.heap[d]? = w'.heap[d]?) ?_
  simp only [wpPlan, longOK, keepOK, opsAt_cons, opsAt_nil, consO_some, List.getElem?_toArray, List.getElem?_cons_succ, List.getElem?_cons_zero, and_true]
  refine ⟨⟨rfl, rfl⟩, ?_⟩
  go_wp2_with fail
  refine ⟨by kernel_rfl, ⟨?_, ?_⟩, ?_⟩
  · intro _ w9 h9
    clear h9
    go_simp
  · intro _ w9 h9
    have c9 := hch.out w9 h9
    clear h9
    go_simp
  go_wp2_with fail
  refine (dsk_used (h.chg ((Chg.refl (fun _ => False) w').drew) (fun _ _ => id)) hmx).mono ?_
  rintro e w2 ⟨rfl, hc2⟩
  have hc2 : Chg (fun _ => False) w' w2 := ((Chg.refl (fun _ => False) w').drew).trans hc2 (fun _ _ h => h)
  have hb2 : w2.heap[d]? = w'.heap[d]? := hc2.block d h.blk.lt id
  have hb2h := Lib.hid hb2
  clear hb2
  go_wp2_with fail
  refine ⟨⟨hb2h.out, hb2h.out⟩, ?_⟩
  go_wp2_with fail
  refine ⟨by kernel_rfl, ?_⟩
  go_wp2_with fail
  go_ret
  exact ⟨rfl, hc2⟩

set_option maxRecDepth 100000 in
set_option maxHeartbeats 1000000 in
theorem dsk_append_old {S : Nat → Prop} {w : World} {d md : Nat} {pl : Nam → Nat × Nat} {D : Dsk} (h : DiskAt S w d md pl D) (hS : ∀ i, w.heap.size ≤ i → S i) (hmx : D.ks.length ≤ 1000000) (n : Nam) (hm : may n = true) (a : Option Addr) (b : List UInt8) (c : Nat)
    (hsrc : ∀ w', Chg S w w' → Src Try.prog 1 31 (.slice a b.length c) b.length (bcells b) w') (hl : (b.length : Int) ≤ D.room - D.used) {f : Fil} (hf : D.fl n = some f) :
    Calls Try.prog 19 #[.pointer (some ⟨d, 0, none⟩), encStr n, .slice a b.length c] w fun e w' => e = .returned (.int .i64 0) ∧ DiskW S w' d (D.put n ⟨f.bs ++ b, f.sy⟩) ∧ Chg S w w' := by
  have hG := h.good
  have hfit := hG.fit
  have hrm := hG.rm
  have hnl : n.length ≤ maxLen := by have := hG.nam n (some_isSome hf); unfold maxLen; omega
  have hlen := Dsk.len_le hG n
  rw [hf] at hlen
  have hlen : f.bs.length ≤ D.used := hlen
  have cells : ∀ w9 : World, w9.heap[d]? = w.heap[d]? → w9.cell? ⟨d, 1, none⟩ = some (.int .i64 D.room) := by
    intro w9 h9
    rw [(h.blk.keep h9).cell]; rfl
  have hch := Lib.hid cells
  have c1 := cells w rfl
  clear cells
  go_enter Try.func19, Try.ntmps19
  go_wp2_with fail
  refine (dsk_may w n).mono ?_
  rintro e w' ⟨rfl, rfl⟩
  rw [hm]
  go_wp2_with fail
  refine wp_region_plan (by kernel_rfl) [{ fl := [0, 1, 2, 3, 4, 5, 6], long := [1, 5], ef := 7, keep := [1, 5] }] [8, 9, 10] (by kernel_rfl) (fun _ w9 => w9.heap[d]? = w'.heap[d]?) ?_
  simp only [wpPlan, longOK, keepOK, opsAt_cons, opsAt_nil, consO_some, List.getElem?_toArray, List.getElem?_cons_succ, List.getElem?_cons_zero, and_true]
  refine ⟨⟨rfl, rfl⟩, ?_⟩
  go_wp2_with fail
  refine ⟨by kernel_rfl, ⟨?_, ?_⟩, ?_⟩
  · intro _ w9 h9
    clear h9
    go_simp
  · intro _ w9 h9
    have c9 := hch.out w9 h9
    clear h9
    go_simp
  go_wp2_with fail
  refine (dsk_used (h.chg ((Chg.refl (fun _ => False) w').drew) (fun _ _ => id)) hmx).mono ?_
  rintro e w2 ⟨rfl, hc2⟩
  have hc2 : Chg (fun _ => False) w' w2 := ((Chg.refl (fun _ => False) w').drew).trans hc2 (fun _ _ h => h)
  have hb2 : w2.heap[d]? = w'.heap[d]? := hc2.block d h.blk.lt id
  have hb2h := Lib.hid hb2
  clear hb2
  go_wp2_with fail
  refine ⟨⟨hb2h.out, hb2h.out⟩, ?_⟩
  go_wp2_with fail
  refine ⟨by kernel_rfl, ?_⟩
  have h2 := h.chg hc2 (fun _ _ => id)
  have hcS2 : Chg S w' w2 := hc2.mono (fun _ _ h => h.elim)
  have c0 : w2.cell? ⟨d, 0, none⟩ = some (.map (some md)) := by rw [h2.blk.cell]; rfl
  have hlk := h2.look (w1 := w2) rfl n hnl (some ⟨(pl n).1, 0, none⟩) (by rw [hf]; rfl)
  obtain ⟨ao, off, cp, hB, hR, hne⟩ := h2.fil n f hf
  have c2 : w2.cell? ⟨(pl n).1, 0, none⟩ = some (.slice ao f.bs.length cp) := by rw [hB.cell]; rfl
  have hs2 := hsrc w2 hcS2
  have hcSh := Lib.hid hcS2
  clear hsrc c1 hcS2
  have hz2 := hc2.size
  go_wp2_with (at_builtin; refine wpList_append_row rfl _ _ rfl hR rfl _ b rfl hs2 (by omega) ?_)
  intro ao' off' cap' rb' w5 hR' hc' hrb
  have f5 : w5.frozen? ⟨(pl n).1, 0, none⟩ = false := (hB.chg hc' (fun ⟨e, h0⟩ => hne h0 e.symm)).frozen 0
  have g5 : w5.cell? ⟨(pl n).1, 0, none⟩ = some (.slice ao f.bs.length cp) := by rw [(hB.chg hc' (fun ⟨e, h0⟩ => hne h0 e.symm)).cell]; rfl
  obtain ⟨hD, hcF⟩ := fil_after h2 hf hB hne hR' hc' hrb (fun i hi => hS i (Nat.le_trans hz2 hi)) (by omega)
  simp only [List.length_append] at hD hcF
  clear c0 hlk c2 hs2
  go_wp2_with fail
  go_ret
  exact ⟨rfl, ⟨md, _, hD⟩, hcSh.out.trans hcF (fun _ _ h => h)⟩
set_option maxRecDepth 100000 in
set_option maxHeartbeats 1000000 in
theorem dsk_append_new {S : Nat → Prop} {w : World} {d md : Nat} {pl : Nam → Nat × Nat} {D : Dsk} (h : DiskAt S w d md pl D) (hS : ∀ i, w.heap.size ≤ i → S i) (hmx : D.ks.length ≤ 1000000) (n : Nam) (hm : may n = true) (a : Option Addr) (b : List UInt8) (c : Nat)
    (hsrc : ∀ w', Chg S w w' → Src Try.prog 1 31 (.slice a b.length c) b.length (bcells b) w') (hl : (b.length : Int) ≤ D.room - D.used) (hf : D.fl n = none) :
    Calls Try.prog 19 #[.pointer (some ⟨d, 0, none⟩), encStr n, .slice a b.length c] w fun e w' => e = .returned (.int .i64 0) ∧ DiskW S w' d (D.put n ⟨b, 0⟩) ∧ Chg S w w' := by
  have hG := h.good
  have hfit := hG.fit
  have hrm := hG.rm
  have hnm : 1 ≤ n.length ∧ n.length ≤ 20 := by simpa [may] using hm
  have hnl : n.length ≤ maxLen := by unfold maxLen; omega
  have cells : ∀ w9 : World, w9.heap[d]? = w.heap[d]? → w9.cell? ⟨d, 1, none⟩ = some (.int .i64 D.room) := by
    intro w9 h9
    rw [(h.blk.keep h9).cell]; rfl
  have hch := Lib.hid cells
  have c1 := cells w rfl
  clear cells
  go_enter Try.func19, Try.ntmps19
  go_wp2_with fail
  refine (dsk_may w n).mono ?_
  rintro e w' ⟨rfl, rfl⟩
  rw [hm]
  go_wp2_with fail
  refine wp_region_plan (by kernel_rfl) [{ fl := [0, 1, 2, 3, 4, 5, 6], long := [1, 5], ef := 7, keep := [1, 5] }] [8, 9, 10] (by kernel_rfl) (fun _ w9 => w9.heap[d]? = w'.heap[d]?) ?_
  simp only [wpPlan, longOK, keepOK, opsAt_cons, opsAt_nil, consO_some, List.getElem?_toArray, List.getElem?_cons_succ, List.getElem?_cons_zero, and_true]
  refine ⟨⟨rfl, rfl⟩, ?_⟩
  go_wp2_with fail
  refine ⟨by kernel_rfl, ⟨?_, ?_⟩, ?_⟩
  · intro _ w9 h9
    clear h9
    go_simp
  · intro _ w9 h9
    have c9 := hch.out w9 h9
    clear h9
    go_simp
  go_wp2_with fail
  refine (dsk_used (h.chg ((Chg.refl (fun _ => False) w').drew) (fun _ _ => id)) hmx).mono ?_
  rintro e w2 ⟨rfl, hc2⟩
  have hc2 : Chg (fun _ => False) w' w2 := ((Chg.refl (fun _ => False) w').drew).trans hc2 (fun _ _ h => h)
  have hb2 : w2.heap[d]? = w'.heap[d]? := hc2.block d h.blk.lt id
  have hb2h := Lib.hid hb2
  clear hb2
  go_wp2_with fail
  refine ⟨⟨hb2h.out, hb2h.out⟩, ?_⟩
  go_wp2_with fail
  refine ⟨by kernel_rfl, ?_⟩
  have h2 := h.chg hc2 (fun _ _ => id)
  have hcS2 : Chg S w' w2 := hc2.mono (fun _ _ h => h.elim)
  have c0 : w2.cell? ⟨d, 0, none⟩ = some (.map (some md)) := by rw [h2.blk.cell]; rfl
  have hlk := h2.look (w1 := w2) rfl n hnl none (by rw [hf]; rfl)
  have hcA : Chg (fun _ => False) w2 (w2.alloc (.cells #[.slice none 0 0, .int .i64 0] 84)) := (Chg.refl _ w2).alloc _
  have hA := h2.chg hcA (fun _ _ => id)
  have hBA := Blk.new w2 84 #[.slice none 0 0, .int .i64 0]
  have cA : (w2.alloc (.cells #[.slice none 0 0, .int .i64 0] 84)).cell? ⟨d, 0, none⟩ = some (.map (some md)) := by rw [hA.blk.cell]; rfl
  obtain ⟨w4, hrun4, hM4, hc4⟩ := map_put hA n hnl w2.heap.size
  have hdl := h2.blk.lt
  have hml := h2.map.lt
  have hz2 := hc2.size
  have hzA : (w2.alloc (.cells #[.slice none 0 0, .int .i64 0] 84)).heap.size = w2.heap.size + 1 := by simp
  have hz4 := hc4.size
  have hB4 : Blk w4 w2.heap.size 84 #[.slice none 0 0, .int .i64 0] := hBA.chg hc4 (fun e => by omega)
  have hF4 : FilAt w4 w2.heap.size w2.heap.size ⟨[], 0⟩ := ⟨none, 0, 0, hB4, rowB_nil _ _ _ _, fun h => by omega⟩
  have hu0 := Dsk.used_put hG n ⟨[], 0⟩
  rw [hf] at hu0
  have hu0 : (D.put n ⟨[], 0⟩).used + 0 = D.used + 0 := hu0
  have hG4 : (D.put n ⟨[], 0⟩).Good := hG.put hnm (Nat.le_refl _) (by omega)
  have hD4 := hA.add (n := n) (f := ⟨[], 0⟩) hc4 hM4 hF4 ⟨hS _ hz2, hS _ hz2⟩ (fun m hm _ => by
    have h1 := h2.fne hm
    have h3 := h2.lo m hm
    refine ⟨?_, ?_, ?_, ?_⟩ <;> omega) ⟨by omega, by omega, by omega⟩ hG4
  have hcS4 : Chg S w' w4 := (hcS2.trans hcA (fun _ _ h => h.elim)).trans hc4 (fun i _ e => e ▸ h.sm)
  have e4 : (D.put n ⟨[], 0⟩).fl n = some ⟨[], 0⟩ := upd_same _ _ _
  have p4 : (upd pl n (w2.heap.size, w2.heap.size) n) = (w2.heap.size, w2.heap.size) := upd_same _ _ _
  have hs4 := hsrc w4 hcS4
  have c4 : w4.cell? ⟨w2.heap.size, 0, none⟩ = some (.slice none 0 0) := by rw [hB4.cell]; rfl
  have hcSh := Lib.hid hcS4
  clear hsrc c1 hcS2 hcS4 hF4 hG4 hM4 hc4 hcA hA hBA
  go_wp2_with (at_builtin; refine wpList_append_row rfl _ _ rfl (rowB_nil w4 none 0 w2.heap.size) rfl _ b rfl hs4 (by simp; omega) ?_)
  intro ao' off' cap' rb' w5 hR' hc' hrb
  have hB5 := hB4.chg hc' id
  have f5 : w5.frozen? ⟨w2.heap.size, 0, none⟩ = false := hB5.frozen 0
  have g5 : w5.cell? ⟨w2.heap.size, 0, none⟩ = some (.slice none 0 0) := by rw [hB5.cell]; rfl
  have hfa := fil_after (b := b) (cp := 0) (ao := none) (ao' := ao') (off' := off') (cap' := cap') (rb' := rb') hD4 e4 (by rw [p4]; exact hB4) (fun h => by omega) hR' (hc'.mono (fun _ _ h => h.elim)) (by rw [p4]; exact hrb) (fun i hi => hS i (by omega)) (by show ((D.put n ⟨[], 0⟩).used : Int) + b.length ≤ D.room; omega)
  rw [p4, put_put] at hfa
  obtain ⟨hD, hcF⟩ := hfa
  simp only [List.nil_append] at hD hcF
  clear c0 hlk c4 hs4 cA hrun4
  go_wp2_with fail
  go_ret
  exact ⟨rfl, ⟨md, _, hD⟩, hcSh.out.trans hcF (fun _ _ h => h)⟩

theorem dsk_append {S : Nat → Prop} {w : World} {d md : Nat} {pl : Nam → Nat × Nat} {D : Dsk} (h : DiskAt S w d md pl D) (hS : ∀ i, w.heap.size ≤ i → S i) (hmx : D.ks.length ≤ 1000000) (n : Nam) (a : Option Addr) (b : List UInt8) (c : Nat)
    (hsrc : ∀ w', Chg S w w' → Src Try.prog 1 31 (.slice a b.length c) b.length (bcells b) w') :
    Calls Try.prog 19 #[.pointer (some ⟨d, 0, none⟩), encStr n, .slice a b.length c] w fun e w' => e = .returned (.int .i64 (D.append n b).1) ∧ DiskW S w' d (D.append n b).2 ∧ Chg S w w' := by
  unfold Dsk.append
  cases hm : may n with
  | false =>
    rw [if_pos rfl]
    refine (dsk_append_may h n hm a b.length c).mono ?_
    rintro e w' ⟨rfl, rfl⟩
    exact ⟨rfl, ⟨md, pl, h⟩, Chg.refl _ _⟩
  | true =>
    rw [if_neg (by simp)]
    by_cases hl : D.room - D.used < b.length
    · rw [if_pos hl]
      refine (dsk_append_full h hmx n hm a b.length c hl).mono ?_
      rintro e w' ⟨rfl, hc⟩
      exact ⟨rfl, ⟨md, pl, h.chg hc (fun _ _ => id)⟩, hc.mono (fun _ _ h => h.elim)⟩
    · rw [if_neg hl]
      cases hf : D.fl n with
      | none =>
        have := dsk_append_new h hS hmx n hm a b c hsrc (by omega) hf
        simpa only [bsF, syF, List.nil_append] using this
      | some f =>
        have := dsk_append_old h hS hmx n hm a b c hsrc (by omega) hf
        simpa only [bsF, syF] using this
end Go.Proofs.Ytpbjompopgdbjaa
