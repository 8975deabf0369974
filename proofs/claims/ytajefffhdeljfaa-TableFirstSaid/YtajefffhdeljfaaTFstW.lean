/-
  layer 11: TableFirst, its walk. (Printed by wip/tools/gentfst.py.)
-/
import Derived.Test.YtajefffhdeljfaaTabP
import Derived.Test.YtajefffhdeljfaaPutH
import Derived.Test.YtajefffhdeljfaaMayRef
import Derived.Deep.DeepCutAuto
import Derived.Deep.CutBlock
namespace Go.Proofs.Ytajefffhdeljfaa
open Go.RowKit Go.Maps

theorem tkeys_put {f : Tab} (hk : ∀ p, f p ≠ 0 → (1 ≤ p.1 ∧ p.1 ≤ 200) ∧ (1 ≤ p.2 ∧ p.2 ≤ 6)) {p : Int × Int} (hp : (1 ≤ p.1 ∧ p.1 ≤ 200) ∧ (1 ≤ p.2 ∧ p.2 ≤ 6)) (h0 : f p = 0) {a : Int} (ha : a ≠ 0) :
    (tkeys (upd f p a)).length = (tkeys f).length + 1 := by
  have hk2 : ∀ q, upd f p a q ≠ 0 → (1 ≤ q.1 ∧ q.1 ≤ 200) ∧ (1 ≤ q.2 ∧ q.2 ≤ 6) := fun q hq => by
    by_cases e : q = p
    · subst e; exact hp
    · rw [upd_other _ _ _ _ e] at hq; exact hk q hq
  have hperm : (tkeys (upd f p a)).Perm (p :: tkeys f) := by
    refine (List.perm_ext_iff_of_nodup (tkeys_nodup _) (List.nodup_cons.2 ⟨fun h => (tkeys_ne hk p).1 h h0, tkeys_nodup f⟩)).2 fun q => ?_
    rw [tkeys_ne hk2, List.mem_cons, tkeys_ne hk]
    by_cases e : q = p
    · subst e; simp [upd_same, ha]
    · simp [upd_other _ _ _ _ e, e]
  have := hperm.length_eq
  simpa using this

theorem put_nil (w : World) (o : POp) (a : Int) : Calls Try.prog 19 #[.pointer none, o.val, .int .i64 a] w fun e w' => e = .returned (.bool false) ∧ Chg (fun _ => False) w w' := by
  go_enter Try.func19, Try.ntmps19
  unfold POp.val
  go_wp2_with fail
  refine wp_region_plan (by kernel_rfl) [{ fl := [0, 1, 2, 3], ef := 4 }, { fl := [5, 6, 7, 8, 9, 10, 11, 12, 13, 14, 15, 16, 17, 18, 20], ef := 19 }, { fl := [], ef := 21 }] [22, 23] (by kernel_rfl) (fun _ _ => True) ?_
  simp only [wpPlan, longOK, keepOK, opsAt_cons, opsAt_nil, consO_some, List.getElem?_toArray, List.getElem?_cons_succ, List.getElem?_cons_zero, and_true, true_and]
  go_wp2_with fail
  refine ⟨by kernel_rfl, ?_⟩
  go_wp2_with fail
  refine ⟨by kernel_rfl, ?_⟩
  go_wp2_with fail
  refine ⟨by kernel_rfl, ?_⟩
  go_wp2_with fail
  refine ⟨by kernel_rfl, ?_⟩
  go_wp2_with fail
  go_ret
  exact ⟨rfl, ((Chg.refl _ w).alloc _).drew⟩
theorem find_nil (w : World) (o : POp) : Calls Try.prog 22 #[.pointer none, o.val] w fun e w' => e = .returned (.tuple #[.int .i64 0, .bool false]) ∧ Chg (fun _ => False) w w' := by
  go_enter Try.func22, Try.ntmps22
  unfold POp.val
  go_wp2
  go_ret2
  exact ⟨rfl, (Chg.refl _ w).alloc _⟩
theorem len_nil (w : World) : Calls Try.prog 21 #[.pointer none] w fun e w' => e = .returned (.int .i64 0) ∧ w' = w := by
  go_enter Try.func21, Try.ntmps21
  go_wp2
  go_ret
  exact ⟨rfl, rfl⟩

set_option maxRecDepth 100000 in
set_option maxHeartbeats 8000000 in
theorem tfst_walk (w : World) (ad : Option Addr) (cap : Nat) (l : List PA) (hl : PutsIn w ad l) :
    Calls Try.prog 6 #[.slice ad l.length cap] w fun e w' => e = .returned (.bool true) ∧ Chg (fun _ => False) w w' := by
  have hmx := hl.len
  unfold maxLen at hmx
  go_enter Try.func6, Try.ntmps6
  go_wp2_with fail
  refine (tabNew w).mono ?_
  rintro e w0 ⟨t, mt, rfl, hT0, hc0, ht, hmt⟩
  have hc0 : Chg (fun i => w.heap.size ≤ i) w w0 := hc0.mono (fun _ _ h => h.elim)
  go_upto_block 0 with (fail)
  go_cut [4] (fun _ wx => ∃ f, TabAt wx t mt f ∧ Chg (fun i => w.heap.size ≤ i) w wx)
  case first =>
    go_wp2_with fail
    go_loopw [4] (fun v4 wr => ∃ (k : Nat) (f : Tab), v4 = .int .i64 k ∧ k ≤ l.length ∧ k ≤ 60 ∧ TabAt wr t mt f ∧ Chg (fun i => w.heap.size ≤ i) w wr) (fun v4 _ => 60 - (RowKit.intOf v4).toNat)
    case atStart => exact ⟨0, _, rfl, Nat.zero_le _, Nat.zero_le _, hT0, hc0⟩
    case round =>
      clear hT0 hc0
      obtain ⟨k, f, rfl, hk1, hk2, hT, hck⟩ := hrel
      have hlen := tkeys_len f
      by_cases hlt : k < l.length ∧ k < 60
      · obtain ⟨hlt1, hlt2⟩ := hlt
        obtain ⟨o, ho⟩ : ∃ o, l[k]? = some o := ⟨_, List.getElem?_eq_getElem hlt1⟩
        obtain ⟨⟨hib, hik⟩, a, rfl, hab, _⟩ := hl.at_ k o ho
        obtain ⟨⟨kd, bk, un, cu, am⟩, an⟩ := o
        simp only at hib hik
        have acell : ∀ w9, Chg (fun i => w.heap.size ≤ i) w w9 → w9.cell? (a.add (k * 6)) = some (.int .i64 kd) ∧ w9.cell? ⟨(a.add (k * 6)).block, (a.add (k * 6)).off + 1, none⟩ = some (.int .i64 bk) ∧ w9.cell? ⟨(a.add (k * 6)).block, (a.add (k * 6)).off + 2, none⟩ = some (.int .i64 un) ∧ w9.cell? ⟨(a.add (k * 6)).block, (a.add (k * 6)).off + 3, none⟩ = some (.int .i64 cu) ∧ w9.cell? ⟨(a.add (k * 6)).block, (a.add (k * 6)).off + 4, none⟩ = some (.int .i64 am) ∧ w9.cell? ⟨(a.add (k * 6)).block, (a.add (k * 6)).off + 5, none⟩ = some (.int .i64 an) := fun w9 h9 => by
          have hcF : Chg (fun _ => False) w w9 := h9.mono (fun i hi h => by omega)
          obtain ⟨_, a', ha', _, hat⟩ := (hl.chg hcF (fun i _ h => h)).at_ k _ ho
          cases ha'
          exact ⟨hat 0 _ rfl, hat 1 _ rfl, hat 2 _ rfl, hat 3 _ rfl, hat 4 _ rfl, hat 5 _ rfl⟩
        have ach := Lib.hid acell
        obtain ⟨a0, a1, a2, a3, a4, a5⟩ := acell wr hck
        clear acell ho hab
        have hcA : Chg (fun _ => False) wr (wr.alloc (.cells #[.int .i64 kd, .int .i64 bk, .int .i64 un, .int .i64 cu, .int .i64 am] 45)) := (Chg.refl _ wr).alloc _
        have hE := Blk.new wr 45 #[.int .i64 kd, .int .i64 bk, .int .i64 un, .int .i64 cu, .int .i64 am]
        have hTA := hT.chg hcA id id
        have hckA := hck.trans hcA (fun _ _ h => h.elim)
        have hEt := hE.ne hTA.blk (by decide)
        have hEm : mt ≠ wr.heap.size := hTA.map.ne hE
        by_cases hf : f (bk, kd) = 0
        · cases hm : mayOp ⟨kd, bk, un, cu, am⟩ with
          | false =>
            have hp : tPut f ⟨kd, bk, un, cu, am⟩ an = (false, f) := by unfold tPut; rw [if_neg (fun h => by rw [hm] at h; exact absurd h.1.1 (by decide))]
            have hfA := Lib.hid hf
            have hmh := Lib.hid hm
            clear hf hm
            go_wp2_with fail
            generalize wr.alloc (.cells #[.int .i64 kd, .int .i64 bk, .int .i64 un, .int .i64 cu, .int .i64 am] 45) = wA at *
            generalize wr.heap.size = E at *
            clear hT hck hcA a0 a1 a2 a3 a4 a5
            have ecell : ∀ w9 : World, w9.heap[E]? = wA.heap[E]? → w9.cell? ⟨E, 0, none⟩ = some (.int .i64 kd) ∧ w9.cell? ⟨E, 1, none⟩ = some (.int .i64 bk) ∧ w9.cell? ⟨E, 2, none⟩ = some (.int .i64 un) ∧ w9.cell? ⟨E, 3, none⟩ = some (.int .i64 cu) ∧ w9.cell? ⟨E, 4, none⟩ = some (.int .i64 am) := fun w9 h9 => by
              have h2 := Blk.keep hE h9
              refine ⟨?_, ?_, ?_, ?_, ?_⟩ <;> rw [h2.cell] <;> rfl
            have ech := Lib.hid ecell
            clear ecell
            have hEl := hE.lt
            refine (find_as wA t mt f ⟨kd, bk, un, cu, am⟩ 0 hTA hib hik hfA.out).mono ?_
            rintro e w1 ⟨rfl, hc1⟩
            have hT1 := hTA.chg hc1 id id
            have hck1 := hckA.trans hc1 (fun _ _ h => h.elim)
            have hk1' := Lib.hid (hc1.block E hEl id)
            clear hTA hckA hc1
            obtain ⟨e0, e1, e2, e3, e4⟩ := ech.out w1 hk1'.out
            obtain ⟨a0, a1, a2, a3, a4, a5⟩ := ach.out w1 hck1
            go_wp2_with fail
            refine (len_keys w1 t mt f hT1).mono ?_
            rintro e w2 ⟨rfl, rfl⟩
            go_wp2_with fail
            refine wp_region_plan (by kernel_rfl) [{ fl := [0, 1, 2, 3, 4, 5, 6], ef := 7 }] [8] (by kernel_rfl) (fun _ _ => True) ?_
            simp only [wpPlan, longOK, keepOK, opsAt_cons, opsAt_nil, consO_some, List.getElem?_toArray, List.getElem?_cons_succ, List.getElem?_cons_zero, and_true, true_and]
            go_wp2_with fail
            refine ⟨by kernel_rfl, ?_⟩
            go_wp2_with fail
            clear e0 e1 e2 e3 e4 a0 a1 a2 a3 a4 a5
            have hput := tput_any w2.drew t mt f ⟨kd, bk, un, cu, am⟩ an (hT1.chg (Chg.refl (fun _ => False) w2).drew id id)
            rw [hp] at hput
            refine hput.mono ?_
            rintro e w3 ⟨rfl, hT3, hc3⟩
            have hck3 := hck1.drew.trans hc3 (fun i _ h => by omega)
            have hk3 := Lib.hid ((hc3.block E (Array.getElem?_eq_some_iff.1 (hk1'.out.trans hE)).1 (by omega)).trans hk1'.out)
            clear hput hp hT1 hck1 hc3 hk1'
            obtain ⟨e0, e1, e2, e3, e4⟩ := ech.out w3 hk3.out
            obtain ⟨a0, a1, a2, a3, a4, a5⟩ := ach.out w3 hck3
            simp only at hT3
            go_wp2_with fail
            refine ⟨by kernel_rfl, ?_⟩
            go_wp2_with fail
            refine (mayRef_any ⟨kd, bk, un, cu, am⟩ w3).mono ?_
            rintro e w4 ⟨rfl, hc4⟩
            rw [hmh.out]
            have hT4 := hT3.chg hc4 id id
            have hck4 := hck3.trans hc4 (fun _ _ h => h.elim)
            have hk4 := Lib.hid ((hc4.block E (by have := (Array.getElem?_eq_some_iff.1 (hk3.out.trans hE)).1; omega) id).trans hk3.out)
            clear hT3 hck3 hc4 hk3 e0 e1 e2 e3 e4 a0 a1 a2 a3 a4 a5
            obtain ⟨e0, e1, e2, e3, e4⟩ := ech.out w4 hk4.out
            obtain ⟨a0, a1, a2, a3, a4, a5⟩ := ach.out w4 hck4
            go_wp2_with fail
            refine (find_as w4 t mt f ⟨kd, bk, un, cu, am⟩ 0 hT4 hib hik hfA.out).mono ?_
            rintro e w5 ⟨rfl, hc5⟩
            have hT5 := hT4.chg hc5 id id
            have hck5 := hck4.trans hc5 (fun _ _ h => h.elim)
            clear hT4 hck4 hc5 e0 e1 e2 e3 e4 a0 a1 a2 a3 a4 a5
            obtain ⟨a0, a1, a2, a3, a4, a5⟩ := ach.out w5 hck5
            go_wp2_with fail
            refine (len_keys w5 t mt _ hT5).mono ?_
            rintro e w6 ⟨rfl, rfl⟩
            go_wp2_with fail
            go_roundw
            case rel => exact ⟨k + 1, _, by go_num, by omega, by omega, hT5, hck5⟩
            case measure => simp [RowKit.intOf]; omega
          | true =>
            by_cases h1 : an = 1
            · subst h1
              have hp : tPut f ⟨kd, bk, un, cu, am⟩ 1 = (true, upd f (bk, kd) 1) := by unfold tPut; rw [if_pos ⟨⟨hm, by omega⟩, hf⟩]
              have hpl := tkeys_put hT.keys (p := (bk, kd)) ⟨mayOp_bk hm, mayOp_kd hm⟩ hf (a := 1) (by decide)
              have hfA := Lib.hid hf
              have hmh := Lib.hid hm
              clear hf hm
              go_wp2_with fail
              generalize wr.alloc (.cells #[.int .i64 kd, .int .i64 bk, .int .i64 un, .int .i64 cu, .int .i64 am] 45) = wA at *
              generalize wr.heap.size = E at *
              clear hT hck hcA a0 a1 a2 a3 a4 a5
              have ecell : ∀ w9 : World, w9.heap[E]? = wA.heap[E]? → w9.cell? ⟨E, 0, none⟩ = some (.int .i64 kd) ∧ w9.cell? ⟨E, 1, none⟩ = some (.int .i64 bk) ∧ w9.cell? ⟨E, 2, none⟩ = some (.int .i64 un) ∧ w9.cell? ⟨E, 3, none⟩ = some (.int .i64 cu) ∧ w9.cell? ⟨E, 4, none⟩ = some (.int .i64 am) := fun w9 h9 => by
                have h2 := Blk.keep hE h9
                refine ⟨?_, ?_, ?_, ?_, ?_⟩ <;> rw [h2.cell] <;> rfl
              have ech := Lib.hid ecell
              clear ecell
              have hEl := hE.lt
              refine (find_as wA t mt f ⟨kd, bk, un, cu, am⟩ 0 hTA hib hik hfA.out).mono ?_
              rintro e w1 ⟨rfl, hc1⟩
              have hT1 := hTA.chg hc1 id id
              have hck1 := hckA.trans hc1 (fun _ _ h => h.elim)
              have hk1' := Lib.hid (hc1.block E hEl id)
              clear hTA hckA hc1
              obtain ⟨e0, e1, e2, e3, e4⟩ := ech.out w1 hk1'.out
              obtain ⟨a0, a1, a2, a3, a4, a5⟩ := ach.out w1 hck1
              go_wp2_with fail
              refine (len_keys w1 t mt f hT1).mono ?_
              rintro e w2 ⟨rfl, rfl⟩
              go_wp2_with fail
              refine wp_region_plan (by kernel_rfl) [{ fl := [0, 1, 2, 3, 4, 5, 6], ef := 7 }] [8] (by kernel_rfl) (fun _ _ => True) ?_
              simp only [wpPlan, longOK, keepOK, opsAt_cons, opsAt_nil, consO_some, List.getElem?_toArray, List.getElem?_cons_succ, List.getElem?_cons_zero, and_true, true_and]
              go_wp2_with fail
              refine ⟨by kernel_rfl, ?_⟩
              go_wp2_with fail
              clear e0 e1 e2 e3 e4 a0 a1 a2 a3 a4 a5
              have hput := tput_any w2.drew t mt f ⟨kd, bk, un, cu, am⟩ 1 (hT1.chg (Chg.refl (fun _ => False) w2).drew id id)
              rw [hp] at hput
              refine hput.mono ?_
              rintro e w3 ⟨rfl, hT3, hc3⟩
              have hck3 := hck1.drew.trans hc3 (fun i _ h => by omega)
              have hk3 := Lib.hid ((hc3.block E (Array.getElem?_eq_some_iff.1 (hk1'.out.trans hE)).1 (by omega)).trans hk1'.out)
              clear hput hp hT1 hck1 hc3 hk1'
              obtain ⟨e0, e1, e2, e3, e4⟩ := ech.out w3 hk3.out
              obtain ⟨a0, a1, a2, a3, a4, a5⟩ := ach.out w3 hck3
              simp only at hT3
              go_wp2_with fail
              refine ⟨by kernel_rfl, ?_⟩
              go_wp2_with fail
              refine (mayRef_any ⟨kd, bk, un, cu, am⟩ w3).mono ?_
              rintro e w4 ⟨rfl, hc4⟩
              rw [hmh.out]
              have hT4 := hT3.chg hc4 id id
              have hck4 := hck3.trans hc4 (fun _ _ h => h.elim)
              have hk4 := Lib.hid ((hc4.block E (by have := (Array.getElem?_eq_some_iff.1 (hk3.out.trans hE)).1; omega) id).trans hk3.out)
              clear hT3 hck3 hc4 hk3 e0 e1 e2 e3 e4 a0 a1 a2 a3 a4 a5
              obtain ⟨e0, e1, e2, e3, e4⟩ := ech.out w4 hk4.out
              obtain ⟨a0, a1, a2, a3, a4, a5⟩ := ach.out w4 hck4
              go_wp2_with fail
              refine (find_as w4 t mt (upd f (bk, kd) 1) ⟨kd, bk, un, cu, am⟩ 1 hT4 hib hik (upd_same _ _ _)).mono ?_
              rintro e w5 ⟨rfl, hc5⟩
              have hT5 := hT4.chg hc5 id id
              have hck5 := hck4.trans hc5 (fun _ _ h => h.elim)
              clear hT4 hck4 hc5 e0 e1 e2 e3 e4 a0 a1 a2 a3 a4 a5
              obtain ⟨a0, a1, a2, a3, a4, a5⟩ := ach.out w5 hck5
              go_wp2_with fail
              refine (len_keys w5 t mt _ hT5).mono ?_
              rintro e w6 ⟨rfl, rfl⟩
              rw [hpl]
              go_wp2_with fail
              go_roundw
              case rel => exact ⟨k + 1, _, by go_num, by omega, by omega, hT5, hck5⟩
              case measure => simp [RowKit.intOf]; omega
            · by_cases h2 : an = 2
              · subst h2
                have hp : tPut f ⟨kd, bk, un, cu, am⟩ 2 = (true, upd f (bk, kd) 2) := by unfold tPut; rw [if_pos ⟨⟨hm, by omega⟩, hf⟩]
                have hpl := tkeys_put hT.keys (p := (bk, kd)) ⟨mayOp_bk hm, mayOp_kd hm⟩ hf (a := 2) (by decide)
                have hfA := Lib.hid hf
                have hmh := Lib.hid hm
                clear hf hm
                go_wp2_with fail
                generalize wr.alloc (.cells #[.int .i64 kd, .int .i64 bk, .int .i64 un, .int .i64 cu, .int .i64 am] 45) = wA at *
                generalize wr.heap.size = E at *
                clear hT hck hcA a0 a1 a2 a3 a4 a5
                have ecell : ∀ w9 : World, w9.heap[E]? = wA.heap[E]? → w9.cell? ⟨E, 0, none⟩ = some (.int .i64 kd) ∧ w9.cell? ⟨E, 1, none⟩ = some (.int .i64 bk) ∧ w9.cell? ⟨E, 2, none⟩ = some (.int .i64 un) ∧ w9.cell? ⟨E, 3, none⟩ = some (.int .i64 cu) ∧ w9.cell? ⟨E, 4, none⟩ = some (.int .i64 am) := fun w9 h9 => by
                  have h2 := Blk.keep hE h9
                  refine ⟨?_, ?_, ?_, ?_, ?_⟩ <;> rw [h2.cell] <;> rfl
                have ech := Lib.hid ecell
                clear ecell
                have hEl := hE.lt
                refine (find_as wA t mt f ⟨kd, bk, un, cu, am⟩ 0 hTA hib hik hfA.out).mono ?_
                rintro e w1 ⟨rfl, hc1⟩
                have hT1 := hTA.chg hc1 id id
                have hck1 := hckA.trans hc1 (fun _ _ h => h.elim)
                have hk1' := Lib.hid (hc1.block E hEl id)
                clear hTA hckA hc1
                obtain ⟨e0, e1, e2, e3, e4⟩ := ech.out w1 hk1'.out
                obtain ⟨a0, a1, a2, a3, a4, a5⟩ := ach.out w1 hck1
                go_wp2_with fail
                refine (len_keys w1 t mt f hT1).mono ?_
                rintro e w2 ⟨rfl, rfl⟩
                go_wp2_with fail
                refine wp_region_plan (by kernel_rfl) [{ fl := [0, 1, 2, 3, 4, 5, 6], ef := 7 }] [8] (by kernel_rfl) (fun _ _ => True) ?_
                simp only [wpPlan, longOK, keepOK, opsAt_cons, opsAt_nil, consO_some, List.getElem?_toArray, List.getElem?_cons_succ, List.getElem?_cons_zero, and_true, true_and]
                go_wp2_with fail
                refine ⟨by kernel_rfl, ?_⟩
                go_wp2_with fail
                clear e0 e1 e2 e3 e4 a0 a1 a2 a3 a4 a5
                have hput := tput_any w2.drew t mt f ⟨kd, bk, un, cu, am⟩ 2 (hT1.chg (Chg.refl (fun _ => False) w2).drew id id)
                rw [hp] at hput
                refine hput.mono ?_
                rintro e w3 ⟨rfl, hT3, hc3⟩
                have hck3 := hck1.drew.trans hc3 (fun i _ h => by omega)
                have hk3 := Lib.hid ((hc3.block E (Array.getElem?_eq_some_iff.1 (hk1'.out.trans hE)).1 (by omega)).trans hk1'.out)
                clear hput hp hT1 hck1 hc3 hk1'
                obtain ⟨e0, e1, e2, e3, e4⟩ := ech.out w3 hk3.out
                obtain ⟨a0, a1, a2, a3, a4, a5⟩ := ach.out w3 hck3
                simp only at hT3
                go_wp2_with fail
                refine ⟨by kernel_rfl, ?_⟩
                go_wp2_with fail
                refine (mayRef_any ⟨kd, bk, un, cu, am⟩ w3).mono ?_
                rintro e w4 ⟨rfl, hc4⟩
                rw [hmh.out]
                have hT4 := hT3.chg hc4 id id
                have hck4 := hck3.trans hc4 (fun _ _ h => h.elim)
                have hk4 := Lib.hid ((hc4.block E (by have := (Array.getElem?_eq_some_iff.1 (hk3.out.trans hE)).1; omega) id).trans hk3.out)
                clear hT3 hck3 hc4 hk3 e0 e1 e2 e3 e4 a0 a1 a2 a3 a4 a5
                obtain ⟨e0, e1, e2, e3, e4⟩ := ech.out w4 hk4.out
                obtain ⟨a0, a1, a2, a3, a4, a5⟩ := ach.out w4 hck4
                go_wp2_with fail
                refine (find_as w4 t mt (upd f (bk, kd) 2) ⟨kd, bk, un, cu, am⟩ 2 hT4 hib hik (upd_same _ _ _)).mono ?_
                rintro e w5 ⟨rfl, hc5⟩
                have hT5 := hT4.chg hc5 id id
                have hck5 := hck4.trans hc5 (fun _ _ h => h.elim)
                clear hT4 hck4 hc5 e0 e1 e2 e3 e4 a0 a1 a2 a3 a4 a5
                obtain ⟨a0, a1, a2, a3, a4, a5⟩ := ach.out w5 hck5
                go_wp2_with fail
                refine (len_keys w5 t mt _ hT5).mono ?_
                rintro e w6 ⟨rfl, rfl⟩
                rw [hpl]
                go_wp2_with fail
                go_roundw
                case rel => exact ⟨k + 1, _, by go_num, by omega, by omega, hT5, hck5⟩
                case measure => simp [RowKit.intOf]; omega
              · skip
                have hp : tPut f ⟨kd, bk, un, cu, am⟩ an = (false, f) := by unfold tPut; rw [if_neg (fun h => by have := h.1.2; omega)]
                have hb1 : (an == 1) = false := by simp; exact h1
                have hb2 : (an == 2) = false := by simp; exact h2
                have hfA := Lib.hid hf
                have hmh := Lib.hid hm
                clear hf hm h1 h2
                go_wp2_with fail
                generalize wr.alloc (.cells #[.int .i64 kd, .int .i64 bk, .int .i64 un, .int .i64 cu, .int .i64 am] 45) = wA at *
                generalize wr.heap.size = E at *
                clear hT hck hcA a0 a1 a2 a3 a4 a5
                have ecell : ∀ w9 : World, w9.heap[E]? = wA.heap[E]? → w9.cell? ⟨E, 0, none⟩ = some (.int .i64 kd) ∧ w9.cell? ⟨E, 1, none⟩ = some (.int .i64 bk) ∧ w9.cell? ⟨E, 2, none⟩ = some (.int .i64 un) ∧ w9.cell? ⟨E, 3, none⟩ = some (.int .i64 cu) ∧ w9.cell? ⟨E, 4, none⟩ = some (.int .i64 am) := fun w9 h9 => by
                  have h2 := Blk.keep hE h9
                  refine ⟨?_, ?_, ?_, ?_, ?_⟩ <;> rw [h2.cell] <;> rfl
                have ech := Lib.hid ecell
                clear ecell
                have hEl := hE.lt
                refine (find_as wA t mt f ⟨kd, bk, un, cu, am⟩ 0 hTA hib hik hfA.out).mono ?_
                rintro e w1 ⟨rfl, hc1⟩
                have hT1 := hTA.chg hc1 id id
                have hck1 := hckA.trans hc1 (fun _ _ h => h.elim)
                have hk1' := Lib.hid (hc1.block E hEl id)
                clear hTA hckA hc1
                obtain ⟨e0, e1, e2, e3, e4⟩ := ech.out w1 hk1'.out
                obtain ⟨a0, a1, a2, a3, a4, a5⟩ := ach.out w1 hck1
                go_wp2_with fail
                refine (len_keys w1 t mt f hT1).mono ?_
                rintro e w2 ⟨rfl, rfl⟩
                go_wp2_with fail
                refine wp_region_plan (by kernel_rfl) [{ fl := [0, 1, 2, 3, 4, 5, 6], ef := 7 }] [8] (by kernel_rfl) (fun _ _ => True) ?_
                simp only [wpPlan, longOK, keepOK, opsAt_cons, opsAt_nil, consO_some, List.getElem?_toArray, List.getElem?_cons_succ, List.getElem?_cons_zero, and_true, true_and]
                go_wp2_with fail
                refine ⟨by kernel_rfl, ?_⟩
                go_wp2_with fail
                clear e0 e1 e2 e3 e4 a0 a1 a2 a3 a4 a5
                have hput := tput_any w2.drew t mt f ⟨kd, bk, un, cu, am⟩ an (hT1.chg (Chg.refl (fun _ => False) w2).drew id id)
                rw [hp] at hput
                refine hput.mono ?_
                rintro e w3 ⟨rfl, hT3, hc3⟩
                have hck3 := hck1.drew.trans hc3 (fun i _ h => by omega)
                have hk3 := Lib.hid ((hc3.block E (Array.getElem?_eq_some_iff.1 (hk1'.out.trans hE)).1 (by omega)).trans hk1'.out)
                clear hput hp hT1 hck1 hc3 hk1'
                obtain ⟨e0, e1, e2, e3, e4⟩ := ech.out w3 hk3.out
                obtain ⟨a0, a1, a2, a3, a4, a5⟩ := ach.out w3 hck3
                simp only at hT3
                go_wp2_with fail
                refine ⟨by kernel_rfl, ?_⟩
                go_wp2_with fail
                refine (mayRef_any ⟨kd, bk, un, cu, am⟩ w3).mono ?_
                rintro e w4 ⟨rfl, hc4⟩
                rw [hmh.out]
                have hT4 := hT3.chg hc4 id id
                have hck4 := hck3.trans hc4 (fun _ _ h => h.elim)
                have hk4 := Lib.hid ((hc4.block E (by have := (Array.getElem?_eq_some_iff.1 (hk3.out.trans hE)).1; omega) id).trans hk3.out)
                clear hT3 hck3 hc4 hk3 e0 e1 e2 e3 e4 a0 a1 a2 a3 a4 a5
                obtain ⟨e0, e1, e2, e3, e4⟩ := ech.out w4 hk4.out
                obtain ⟨a0, a1, a2, a3, a4, a5⟩ := ach.out w4 hck4
                go_wp2_with fail
                refine (find_as w4 t mt f ⟨kd, bk, un, cu, am⟩ 0 hT4 hib hik hfA.out).mono ?_
                rintro e w5 ⟨rfl, hc5⟩
                have hT5 := hT4.chg hc5 id id
                have hck5 := hck4.trans hc5 (fun _ _ h => h.elim)
                clear hT4 hck4 hc5 e0 e1 e2 e3 e4 a0 a1 a2 a3 a4 a5
                obtain ⟨a0, a1, a2, a3, a4, a5⟩ := ach.out w5 hck5
                go_wp2_with fail
                refine (len_keys w5 t mt _ hT5).mono ?_
                rintro e w6 ⟨rfl, rfl⟩
                go_wp2_with fail
                go_roundw
                case rel => exact ⟨k + 1, _, by go_num, by omega, by omega, hT5, hck5⟩
                case measure => simp [RowKit.intOf]; omega
        · obtain ⟨A, hA⟩ : ∃ A, f (bk, kd) = A := ⟨_, rfl⟩
          have hA0 : (A == 0) = false := by simp [← hA]; exact hf
          have hp : tPut f ⟨kd, bk, un, cu, am⟩ an = (false, f) := by unfold tPut; rw [if_neg (fun h => hf h.2)]
          have hfA := Lib.hid hA
          clear hA hf
          go_wp2_with fail
          generalize wr.alloc (.cells #[.int .i64 kd, .int .i64 bk, .int .i64 un, .int .i64 cu, .int .i64 am] 45) = wA at *
          generalize wr.heap.size = E at *
          clear hT hck hcA a0 a1 a2 a3 a4 a5
          have ecell : ∀ w9 : World, w9.heap[E]? = wA.heap[E]? → w9.cell? ⟨E, 0, none⟩ = some (.int .i64 kd) ∧ w9.cell? ⟨E, 1, none⟩ = some (.int .i64 bk) ∧ w9.cell? ⟨E, 2, none⟩ = some (.int .i64 un) ∧ w9.cell? ⟨E, 3, none⟩ = some (.int .i64 cu) ∧ w9.cell? ⟨E, 4, none⟩ = some (.int .i64 am) := fun w9 h9 => by
            have h2 := Blk.keep hE h9
            refine ⟨?_, ?_, ?_, ?_, ?_⟩ <;> rw [h2.cell] <;> rfl
          have ech := Lib.hid ecell
          clear ecell
          have hEl := hE.lt
          refine (find_as wA t mt f ⟨kd, bk, un, cu, am⟩ A hTA hib hik hfA.out).mono ?_
          rintro e w1 ⟨rfl, hc1⟩
          have hT1 := hTA.chg hc1 id id
          have hck1 := hckA.trans hc1 (fun _ _ h => h.elim)
          have hk1' := Lib.hid (hc1.block E hEl id)
          clear hTA hckA hc1
          obtain ⟨e0, e1, e2, e3, e4⟩ := ech.out w1 hk1'.out
          obtain ⟨a0, a1, a2, a3, a4, a5⟩ := ach.out w1 hck1
          go_wp2_with fail
          refine (len_keys w1 t mt f hT1).mono ?_
          rintro e w2 ⟨rfl, rfl⟩
          go_wp2_with fail
          refine wp_region_plan (by kernel_rfl) [{ fl := [0, 1, 2, 3, 4, 5, 6], ef := 7 }] [8] (by kernel_rfl) (fun _ _ => True) ?_
          simp only [wpPlan, longOK, keepOK, opsAt_cons, opsAt_nil, consO_some, List.getElem?_toArray, List.getElem?_cons_succ, List.getElem?_cons_zero, and_true, true_and]
          go_wp2_with fail
          refine ⟨by kernel_rfl, ?_⟩
          go_wp2_with fail
          clear e0 e1 e2 e3 e4 a0 a1 a2 a3 a4 a5
          have hput := tput_any w2.drew t mt f ⟨kd, bk, un, cu, am⟩ an (hT1.chg (Chg.refl (fun _ => False) w2).drew id id)
          rw [hp] at hput
          refine hput.mono ?_
          rintro e w3 ⟨rfl, hT3, hc3⟩
          have hck3 := hck1.drew.trans hc3 (fun i _ h => by omega)
          have hk3 := Lib.hid ((hc3.block E (Array.getElem?_eq_some_iff.1 (hk1'.out.trans hE)).1 (by omega)).trans hk1'.out)
          clear hput hp hT1 hck1 hc3 hk1'
          obtain ⟨e0, e1, e2, e3, e4⟩ := ech.out w3 hk3.out
          obtain ⟨a0, a1, a2, a3, a4, a5⟩ := ach.out w3 hck3
          simp only at hT3
          go_wp2_with fail
          refine ⟨by kernel_rfl, ?_⟩
          go_wp2_with fail
          refine (find_as w3 t mt f ⟨kd, bk, un, cu, am⟩ A hT3 hib hik hfA.out).mono ?_
          rintro e w5 ⟨rfl, hc5⟩
          have hT5 := hT3.chg hc5 id id
          have hck5 := hck3.trans hc5 (fun _ _ h => h.elim)
          clear hT3 hck3 hc5 e0 e1 e2 e3 e4 a0 a1 a2 a3 a4 a5
          obtain ⟨a0, a1, a2, a3, a4, a5⟩ := ach.out w5 hck5
          go_wp2_with fail
          refine (len_keys w5 t mt _ hT5).mono ?_
          rintro e w6 ⟨rfl, rfl⟩
          go_wp2_with fail
          go_roundw
          case rel => exact ⟨k + 1, _, by go_num, by omega, by omega, hT5, hck5⟩
          case measure => simp [RowKit.intOf]; omega
      · go_wp2_with fail
        all_goals
          go_meet
          case rel => exact ⟨f, hT, hck⟩
  case rest =>
    clear hT0 hc0
    obtain ⟨f, hT, hck⟩ := hcut
    go_wp2_with fail
    refine (find_nil wc ⟨1, 1, 0, 0, 0⟩).mono ?_
    rintro e w1 ⟨rfl, hc1⟩
    go_wp2_with fail
    refine (told11 w1).mono ?_
    rintro e w2 ⟨rfl, hc2⟩
    go_wp2_with fail
    refine (put_nil w2 ⟨6, 1, 0, 0, 0⟩ 1).mono ?_
    rintro e w3 ⟨rfl, hc3⟩
    go_wp2_with fail
    refine (len_nil w3).mono ?_
    rintro e w4 ⟨rfl, rfl⟩
    go_wp2_with fail
    refine (keys_nil_any _).mono ?_
    rintro e w5 ⟨rfl, rfl⟩
    go_wp2_with fail
    go_ret
    exact ⟨rfl, (((hck.trans hc1 (fun _ _ h => h.elim)).trans hc2 (fun _ _ h => h.elim)).trans hc3 (fun _ _ h => h.elim)).mono (fun i hi h => by omega)⟩
end Go.Proofs.Ytajefffhdeljfaa
