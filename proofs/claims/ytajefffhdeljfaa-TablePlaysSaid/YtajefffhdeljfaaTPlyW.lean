/-
  layer 11: TablePlays, its walk.
-/
import Derived.Test.YtajefffhdeljfaaRTabB
import Derived.Test.YtajefffhdeljfaaTPlyP
import Derived.Test.YtajefffhdeljfaaPutH
import Derived.Deep.DeepCutAuto
import Derived.Deep.CutBlock
namespace Go.Proofs.Ytajefffhdeljfaa
open Go.RowKit Go.Maps

def T11E : TEnv := ⟨41, 1408, 0, fun _ => undef, Nat.le_refl _⟩
set_option maxRecDepth 100000 in
theorem rt_zero : Try.zeroCells41 = arrF 1408 (tovl T11E (fun _ => 0) 0) := by kernel_rfl

theorem tkeys_put {f : Tab} (hk : ∀ p, f p ≠ 0 → (1 ≤ p.1 ∧ p.1 ≤ 200) ∧ (1 ≤ p.2 ∧ p.2 ≤ 6)) {p : Int × Int} (hp : (1 ≤ p.1 ∧ p.1 ≤ 200) ∧ (1 ≤ p.2 ∧ p.2 ≤ 6)) (h0 : f p = 0) {a : Int} (ha : a ≠ 0) :
    (tkeys (upd f p a)).length = (tkeys f).length + 1 := by
  have hk2 : ∀ q, upd f p a q ≠ 0 → (1 ≤ q.1 ∧ q.1 ≤ 200) ∧ (1 ≤ q.2 ∧ q.2 ≤ 6) := fun q hq => by
    by_cases e : q = p
    · subst e; exact hp
    · rw [upd_other _ _ _ _ e] at hq; exact hk q hq
  have hperm : (tkeys (upd f p a)).Perm (p :: tkeys f) := by
    refine (List.perm_ext_iff_of_nodup (tkeys_nodup _) (List.nodup_cons.2 ⟨fun h => (tkeys_ne hk p).1 h h0, tkeys_nodup f⟩)).2 fun q => ?_
    rw [tkeys_ne hk2, List.mem_cons, tkeys_ne hk]
    by_cases e : q = p
    · subst e; simp [upd_same, ha]
    · simp [upd_other _ _ _ _ e, e]
  have := hperm.length_eq
  simpa using this

theorem tPut_len {f : Tab} (hk : ∀ p, f p ≠ 0 → (1 ≤ p.1 ∧ p.1 ≤ 200) ∧ (1 ≤ p.2 ∧ p.2 ≤ 6)) (o : POp) (a : Int) :
    ((tkeys (tPut f o a).2).length : Int) = if (tPut f o a).1 = true then ((tkeys f).length : Int) + 1 else (tkeys f).length := by
  unfold tPut
  split
  · rename_i h
    have := tkeys_put hk (p := (o.bk, o.kd)) ⟨mayOp_bk h.1.1, mayOp_kd h.1.1⟩ h.2 (a := a) (by have := h.1.2; omega)
    simp only [if_true]
    omega
  · simp

set_option maxRecDepth 100000 in
set_option maxHeartbeats 2000000 in
theorem tply_walk (w : World) (ad : Option Addr) (cap : Nat) (l : List PA) (hl : PutsIn w ad l) :
    Calls Try.prog 5 #[.slice ad l.length cap] w fun e w' => e = .returned (.bool true) ∧ Chg (fun _ => False) w w' := by
  have hmx := hl.len
  unfold maxLen at hmx
  have heq := eq2
  go_enter Try.func5, Try.ntmps5
  go_wp2_with fail
  refine (tabNew w).mono ?_
  rintro e w0 ⟨t, mt, rfl, hT0, hc0, ht, hmt⟩
  have hc0 : Chg (fun i => w.heap.size ≤ i) w w0 := hc0.mono (fun _ _ h => h.elim)
  go_upto_block 0 with (fail)
  rw [rt_zero]
  have hX0 : RTabAt T11E (w0.alloc (.cells (arrF 1408 (tovl T11E (fun _ => 0) 0)) 41)) w0.heap.size (fun _ => 0) (tkeys (fun _ => 0)).length := by
    have h0 : ((tkeys (fun _ => 0)).length : Int) = 0 := by
      rw [show tkeys (fun _ => 0) = [] from by unfold tkeys; rw [List.filter_eq_nil_iff]; intro a _; simp]
      rfl
    rw [h0]
    exact Blk.new w0 _ _
  have hcX := (Chg.refl (fun _ => False) w0).alloc (.cells (arrF 1408 (tovl T11E (fun _ => 0) 0)) 41)
  have hT1 := hT0.chg hcX id id
  have hck0 := hc0.trans hcX (fun _ _ h => h.elim)
  have hxz := hc0.size
  clear hT0 hc0 hcX
  generalize w0.alloc (.cells (arrF 1408 (tovl T11E (fun _ => 0) 0)) 41) = w1 at *
  generalize w0.heap.size = x at *
  generalize arrF 1408 (tovl T11E (fun _ => 0) 0) = zz
  go_cut [5] (fun _ wx => ∃ f, TabAt wx t mt f ∧ RTabAt T11E wx x f (tkeys f).length ∧ Ans f ∧ Chg (fun i => w.heap.size ≤ i) w wx)
  case first =>
    go_wp2_with fail
    go_loopw [5] (fun v5 wr => ∃ (k : Nat) (f : Tab), v5 = .int .i64 k ∧ k ≤ l.length ∧ k ≤ 80 ∧ TabAt wr t mt f ∧ RTabAt T11E wr x f (tkeys f).length ∧ Ans f ∧ Chg (fun i => w.heap.size ≤ i) w wr) (fun v5 _ => 80 - (RowKit.intOf v5).toNat)
    case atStart => exact ⟨0, _, rfl, Nat.zero_le _, Nat.zero_le _, hT1, hX0, fun _ => .inl rfl, hck0⟩
    case round =>
      clear hT1 hX0 hck0
      obtain ⟨k, f, rfl, hk1, hk2, hT, hX, hA, hck⟩ := hrel
      have hlen := tkeys_len f
      by_cases hlt : k < l.length ∧ k < 80
      · obtain ⟨hlt1, hlt2⟩ := hlt
        obtain ⟨o, ho⟩ : ∃ o, l[k]? = some o := ⟨_, List.getElem?_eq_getElem hlt1⟩
        obtain ⟨⟨hib, hik⟩, a, rfl, hab, _⟩ := hl.at_ k o ho
        obtain ⟨⟨kd, bk, un, cu, am⟩, an⟩ := o
        simp only at hib hik
        have acell : ∀ w9, Chg (fun i => w.heap.size ≤ i) w w9 → w9.cell? (a.add (k * 6)) = some (.int .i64 kd) ∧ w9.cell? ⟨(a.add (k * 6)).block, (a.add (k * 6)).off + 1, none⟩ = some (.int .i64 bk) ∧ w9.cell? ⟨(a.add (k * 6)).block, (a.add (k * 6)).off + 2, none⟩ = some (.int .i64 un) ∧ w9.cell? ⟨(a.add (k * 6)).block, (a.add (k * 6)).off + 3, none⟩ = some (.int .i64 cu) ∧ w9.cell? ⟨(a.add (k * 6)).block, (a.add (k * 6)).off + 4, none⟩ = some (.int .i64 am) ∧ w9.cell? ⟨(a.add (k * 6)).block, (a.add (k * 6)).off + 5, none⟩ = some (.int .i64 an) := fun w9 h9 => by
          have hcF : Chg (fun _ => False) w w9 := h9.mono (fun i hi h => by omega)
          obtain ⟨_, a', ha', _, hat⟩ := (hl.chg hcF (fun i _ h => h)).at_ k _ ho
          cases ha'
          exact ⟨hat 0 _ rfl, hat 1 _ rfl, hat 2 _ rfl, hat 3 _ rfl, hat 4 _ rfl, hat 5 _ rfl⟩
        have ach := Lib.hid acell
        obtain ⟨a0, a1, a2, a3, a4, a5⟩ := acell wr.drew hck.drew
        clear acell ho hab
        have hne1 := hT.blk.ne hX (by decide)
        have hne2 : mt ≠ x := hT.map.ne hX
        have hpl := tPut_len hT.keys ⟨kd, bk, un, cu, am⟩ an
        have hA' := hA.put ⟨kd, bk, un, cu, am⟩ an
        have hput := tput_any wr.drew t mt f ⟨kd, bk, un, cu, am⟩ an (hT.chg (Chg.refl (fun _ => False) wr).drew id id)
        have hrput := fun w9 (h9 : RTabAt T11E w9 x f (tkeys f).length) => rt_put_any (R := T11E) h9 ⟨kd, bk, un, cu, am⟩ an (by omega) (by omega)
        rw [← hpl] at hrput
        clear hpl hA hlen
        obtain ⟨r, hr⟩ : ∃ r, (tPut f ⟨kd, bk, un, cu, am⟩ an).1 = r := ⟨_, rfl⟩
        obtain ⟨g, hg⟩ : ∃ g, (tPut f ⟨kd, bk, un, cu, am⟩ an).2 = g := ⟨_, rfl⟩
        rw [hr, hg] at hput
        rw [hr, hg] at hrput
        rw [hg] at hA'
        clear hr hg
        have hput := Lib.hid hput
        have hrput := Lib.hid hrput
        go_wp2_with fail
        refine wp_region_plan (by kernel_rfl) [{ fl := [0, 1, 2, 3, 4, 5, 6, 7, 8, 9, 10, 12, 13, 14, 15, 16, 17, 18, 19, 20, 21, 22], long := [17, 22], ef := 11, keep := [17, 22] }, { fl := [], ef := 23 }, { fl := [24, 25, 26, 28, 29, 30, 31], long := [24, 31], ef := 27, keep := [24, 31] }] [32, 33] (by kernel_rfl) (fun i w9 => if i = 31 then w9.cell? ⟨x, 1407, none⟩ = some (.int .i64 (tkeys g).length) else Chg (fun i => w.heap.size ≤ i) w w9) ?_
        simp only [wpPlan, longOK, keepOK, opsAt_cons, opsAt_nil, consO_some, List.getElem?_toArray, List.getElem?_cons_succ, List.getElem?_cons_zero, and_true, true_and]
        refine ⟨⟨hck.drew, hck.drew⟩, ?_⟩
        go_wp2_with fail
        refine ⟨by kernel_rfl, ⟨?_, ?_⟩, ?_⟩
        · intro _ w9 h9
          obtain ⟨a0, a1, a2, a3, a4, a5⟩ := ach.out w9 h9
          clear h9
          go_simp
        · intro _ w9 h9
          obtain ⟨a0, a1, a2, a3, a4, a5⟩ := ach.out w9 h9
          clear h9
          go_simp
        go_wp2_with fail
        clear a0 a1 a2 a3 a4 a5
        refine hput.out.mono ?_
        rintro e w2 ⟨rfl, hT2, hc2⟩
        have hX2 := (show RTabAt T11E wr.drew x f _ from hX).chg hc2 (by omega)
        have hck2 := hck.drew.trans hc2 (fun i _ h => by omega)
        clear hX hck hc2 hput hT
        obtain ⟨a0, a1, a2, a3, a4, a5⟩ := ach.out w2 hck2
        go_wp2_with fail
        refine ⟨⟨hck2, hck2⟩, ?_⟩
        go_wp2_with fail
        refine ⟨by kernel_rfl, ?_⟩
        go_wp2_with fail
        clear a0 a1 a2 a3 a4 a5
        refine (hrput.out _ hX2).mono ?_
        rintro e w3 ⟨rfl, hX3, hc3⟩
        have hT3 := hT2.chg hc3 (by omega) (by omega)
        have hck3 := hck2.trans hc3 (fun i _ h => by omega)
        clear hX2 hck2 hc3 hrput hT2
        have hN3 : w3.cell? ⟨x, 1407, none⟩ = some (.int .i64 (tkeys g).length) := hX3.cnt
        have hlen := tkeys_len g
        go_wp2_with fail
        refine ⟨⟨hck3, hN3⟩, ?_⟩
        go_wp2_with fail
        refine ⟨by kernel_rfl, ⟨?_, ?_⟩, ?_⟩
        · intro _ w9 _
          go_simp
        · intro _ w9 h9
          have h9 : w9.cell? ⟨x, 1407, none⟩ = some (.int .i64 (tkeys g).length) := h9
          go_simp
        go_wp2_with fail
        refine (len_keys w3 t mt g hT3).mono ?_
        rintro e w4 ⟨rfl, rfl⟩
        go_wp2_with fail
        refine ⟨⟨hck3, hN3⟩, ?_⟩
        go_wp2_with fail
        refine ⟨by kernel_rfl, ?_⟩
        obtain ⟨a0, a1, a2, a3, a4, a5⟩ := ach.out w4 hck3
        go_wp2_with fail
        clear a0 a1 a2 a3 a4 a5
        obtain ⟨A, hAe⟩ : ∃ A, g (bk, kd) = A := ⟨_, rfl⟩
        have hAh := Lib.hid hAe
        clear hAe hN3
        refine (find_as w4 t mt g ⟨kd, bk, un, cu, am⟩ A hT3 hib hik hAh.out).mono ?_
        rintro e w5 ⟨rfl, hc5⟩
        have hT5 := hT3.chg hc5 id id
        have hX5 := hX3.chg hc5 id
        have hck5 := hck3.trans hc5 (fun _ _ h => h.elim)
        clear hT3 hX3 hck3 hc5
        obtain ⟨a0, a1, a2, a3, a4, a5⟩ := ach.out w5 hck5
        go_wp2_with fail
        clear a0 a1 a2 a3 a4 a5
        refine (rt_find_any (R := T11E) hX5 hT5.keys ⟨kd, bk, un, cu, am⟩ A hAh.out).mono ?_
        rintro e w6 ⟨rfl, hc6⟩
        have hT6 := hT5.chg hc6 id id
        have hX6 := hX5.chg hc6 id
        have hck6 := hck5.trans hc6 (fun _ _ h => h.elim)
        clear hT5 hX5 hck5 hc6
        go_wp2_with fail
        go_roundw
        case rel => exact ⟨k + 1, _, by go_num, by omega, by omega, hT6, hX6, hA', hck6⟩
        case measure => simp [RowKit.intOf]; omega
      · go_wp2_with fail
        all_goals
          go_meet
          case rel => exact ⟨f, hT, hX, hA, hck⟩
  case rest =>
    clear hT1 hX0 hck0
    obtain ⟨f, hT, hX, hA, hck⟩ := hcut
    go_wp2_with fail
    refine (keys_any hT).mono ?_
    rintro e w5 ⟨ad5, cap5, rfl, hK, hfr, hc5⟩
    have hX5 := hX.chg hc5 id
    have hck5 := hck.trans hc5 (fun _ _ h => h.elim)
    clear hX hck hc5
    have hlen := tkeys_len f
    go_wp2_with fail
    go_loopw [11, 12] (fun v11 v12 wr => ∃ b : Nat, v12 = .int .i64 (b + 1) ∧ v11 = .int .i64 (cntK f (b * 6)) ∧ b ≤ 200 ∧ wr = w5) (fun _ v12 _ => 400 - (RowKit.intOf v12).toNat)
    case atStart => exact ⟨0, rfl, by rw [Nat.zero_mul, cntK_zero]; rfl, by omega, rfl⟩
    case round =>
      obtain ⟨b, rfl, rfl, hb, rfl⟩ := hrel
      by_cases hbl : b < 200
      · have hb94 : decide ((b : Int) + 1 ≤ 200) = true := by simp; omega
        go_wp2_with fail
        clear hb94
        go_loopw [11, 13] (fun v11 v13 wx => ∃ j : Nat, v13 = .int .i64 (j + 1) ∧ v11 = .int .i64 (cntK f (b * 6 + j)) ∧ j ≤ 6 ∧ wx = wr) (fun _ v13 _ => 400 - (RowKit.intOf v13).toNat)
        case atStart => exact ⟨0, rfl, rfl, by omega, rfl⟩
        case round =>
          obtain ⟨j, rfl, rfl, hj, hwr⟩ := hrel
          subst hwr
          by_cases hjl : j < 6
          · have hc := hX5.cell (b + 1) (j + 1) (by omega) (by omega)
            have hkg : (((b + 1 : Nat) : Int), ((j + 1 : Nat) : Int)) = keyG (b * 6 + j) := by
              unfold keyG
              rw [show (b * 6 + j) / 6 = b by omega, show (b * 6 + j) % 6 = j by omega]
              simp
            rw [hkg] at hc
            have hc : wr.cell? ⟨x, (b + 1) * 7 + (j + 1), none⟩ = some (.int .i64 (f (keyG (b * 6 + j)))) := by rw [← hc]; congr 2; show _ = 0 + _ + _; omega
            have hm : b * 6 + j < 1200 := by omega
            by_cases hf : f (keyG (b * 6 + j)) = 0
            · have hmiss := cntK_miss f (b * 6 + j) hm hf
              rw [hf] at hc
              have hmissh := Lib.hid hmiss
              clear hmiss hf
              go_wp2_with fail
              go_roundw
              case rel => exact ⟨j + 1, by go_num, by rw [← Nat.add_assoc, hmissh.out], by omega, (by first | rfl | trivial)⟩
              case measure => simp [RowKit.intOf]; omega
            · have hhit := cntK_hit f (b * 6 + j) hm hf
              have hget := cntK_get f (b * 6 + j) hm hf
              have hlt := cntK_le f (b * 6 + j) hm hf
              obtain ⟨g, rfl, k0, k1⟩ := hK _ _ hget
              have hkg1 : (keyG (b * 6 + j)).1 = (b : Int) + 1 := by rw [← hkg]; simp
              have hkg2 : (keyG (b * 6 + j)).2 = (j : Int) + 1 := by rw [← hkg]; simp
              rw [hkg1] at k0
              rw [hkg2] at k1
              have hf0 : (f (keyG (b * 6 + j)) == 0) = false := by simp [hf]
              generalize f (keyG (b * 6 + j)) = A at *
              have hhith := Lib.hid hhit
              clear hhit hget hkg hkg1 hkg2 hf
              generalize cntK f (b * 6 + j) = N at *
              go_wp2_with fail
              go_roundw
              case rel => exact ⟨j + 1, by go_num, by rw [← Nat.add_assoc, hhith.out]; go_num, by omega, (by first | rfl | trivial)⟩
              case measure => simp [RowKit.intOf]; omega
          · have hj6 : j = 6 := by omega
            subst hj6
            go_wp2_with fail
            go_roundw
            case rel => exact ⟨b + 1, by go_num, by rw [show (b + 1) * 6 = b * 6 + 6 by omega], by omega, (by first | rfl | trivial)⟩
            case measure => simp [RowKit.intOf]; omega
      · have hb2 : b = 200 := by omega
        subst hb2
        rw [show (200 * 6) = 1200 from rfl, cntK_all]
        go_wp2_with fail
        refine (told11 wr).mono ?_
        rintro e w6 ⟨rfl, hc6⟩
        go_wp2_with fail
        go_ret
        exact ⟨rfl, (hck5.trans hc6 (fun _ _ h => h.elim)).mono (fun i hi h => by omega)⟩
end Go.Proofs.Ytajefffhdeljfaa
