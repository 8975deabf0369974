/-
  the reference's log: Open, its contract.
-/
import Derived.Test.YtpbjompopgdbjaaZRSeaG
import Derived.Deep.DeepCutAuto
import Derived.Deep.CutBlock
namespace Go.Proofs.Ytpbjompopgdbjaa
open Go.RowKit Go.Maps Go.Sort

theorem emL_cut2 {D : Dsk} {F : Fil} {n : Nat} (hf : D.fl nLog = some F) (h1 : 1 ≤ n) (h2 : n ≤ F.bs.length) : emL (D.cut nLog (n : Nat)).2 = false := by
  unfold emL Dsk.cut
  rw [hf]
  show (bsF ((if (n : Int) < 0 ∨ (F.bs.length : Int) < n then ((3 : Int), D) else (0, D.put nLog ⟨F.bs.take (n : Int).toNat, (n : Int).toNat⟩)).2.fl nLog)).isEmpty = false
  rw [if_neg (by omega)]
  show (bsF ((D.put nLog _).fl nLog)).isEmpty = false
  rw [dput_fl]
  show (F.bs.take n).isEmpty = false
  cases hb : F.bs.take n with
  | nil =>
    have := congrArg List.length hb
    rw [List.length_take, List.length_nil] at this
    omega
  | cons _ _ => rfl
theorem StrIn.keep3 {w w' : World} {ad : Option Addr} {l : List Rec} (h : StrIn w ad l) {S : Nat → Prop} (hc : Chg S w w') (hS : ∀ a, ad = some a → ¬ S a.block) : StrIn w' ad l := fun j s hj => by
  obtain ⟨h1, a, h2, h3, h4⟩ := h j s hj
  have hblk : (a.add j).block = a.block := by unfold Addr.add; split <;> rfl
  exact ⟨h1, a, h2, Nat.lt_of_lt_of_le h3 hc.size, (World.cell?_of_block (by rw [hblk]; exact hc.block _ h3 (hS a h2))).trans h4⟩

set_option maxRecDepth 100000 in
set_option maxHeartbeats 1000000 in
theorem rl_open {w : World} {base X : Nat} {v : Value} {D : Dsk} {age : Int} {st rs : List Rec} {so lo : Kept} {tl : List UInt8} (hR : RD w base X v D) (hG : D.Good) (hmx : D.ks.length ≤ 999000) (hbase : base ≤ w.heap.size) (h0 : 0 ≤ age) (h1 : age < 64)
    (hso : (so = none ∧ age = 0 ∧ st = []) ∨ so = some (age, st)) (hlo : (lo = none ∧ rs = []) ∨ lo = some (age, rs)) (hF1 : File (bsF (D.fl nSnap)) so.rows []) (hF2 : File (bsF (D.fl nLog)) lo.rows tl) :
    Calls Try.prog 23 #[.pointer (some ⟨X, 0, none⟩)] w fun e w' => ∃ (y : Nat) (a1 : Option Addr) (c1 : Nat) (a2 : Option Addr) (c2 : Nat) (v' : Value), e = .returned (.tuple #[.pointer (some ⟨y, 0, none⟩), .slice a1 st.length c1, .slice a2 rs.length c2]) ∧ StrIn w' a1 st ∧ StrIn w' a2 rs ∧
      RLAt w' base X y v' age rs.length (D.opened so lo) ∧ Chg (fun i => i = X ∨ v.ownBlock = some i) w w' ∧ (∀ k, v'.ownBlock = some k → v.ownBlock = some k ∨ w.heap.size ≤ k) ∧ w.heap.size ≤ y := by
  have hlen : ∀ n, (bsF (D.fl n)).length ≤ 1000000 := fun n => by
    have h2 := Dsk.len_le hG n
    have h3 := hG.fit
    have h4 := hG.rm
    rw [lenF_bs]
    omega
  have hl1 := hlen nSnap
  have hl2 := hlen nLog
  have hokl : ∀ b : Rec, okR b → b.length ≤ maxLen := fun b hb => by have := hb.2; unfold maxLen; omega
  have hXl : X < w.heap.size := by
    obtain ⟨l, h9, _⟩ := hR
    exact h9.blk.lt
  have hvl : ∀ k, v.ownBlock = some k → k < w.heap.size := fun k hk => by
    obtain ⟨l, h9, _⟩ := hR
    exact (h9.block hk).2.1
  obtain ⟨Da, hDa⟩ : ∃ Da, (D.remove nNext).2 = Da := ⟨_, rfl⟩
  have hGa := remove_good hG nNext
  rw [hDa] at hGa
  have e1 : Da.fl nSnap = D.fl nSnap := by rw [← hDa]; exact remove_ne D (Ne.symm (Ne.symm names_ne.2.1))
  have e2 : Da.fl nLog = D.fl nLog := by rw [← hDa]; exact remove_ne D names_ne.2.2
  rw [← e1] at hF1
  rw [← e2] at hF2
  have hl1 := hl1
  rw [← e1] at hl1
  rw [← e2] at hl2
  have hop : D.opened so lo = (Da.cut nLog (logEnd so lo : Nat)).2 := by unfold Dsk.opened; rw [hDa]
  rw [hop]
  have hstl : st.length ≤ 1000000 := by
    rcases hso with ⟨_, _, rfl⟩ | rfl
    · exact Nat.zero_le _
    · have := flat_long (nb age :: st)
      have h9 := congrArg List.length hF1.eq
      rw [List.length_append] at h9
      rw [List.length_cons] at this
      have h8 : (flat (Kept.rows (some (age, st)))).length = (flat (nb age :: st)).length := rfl
      omega
  obtain ⟨DF, hDF⟩ : ∃ DF, (Da.cut nLog (logEnd so lo : Nat)).2 = DF := ⟨_, rfl⟩
  rw [hDF]
  have HDF := Lib.hid hDF
  clear hlen hop e1 e2 hDF
  go_enter Try.func23, Try.ntmps23
  go_wp2_with fail
  refine (rd_remove hR hG (by omega) hbase nNext).mono ?_
  rw [hDa]
  rintro e w1 ⟨rfl, v1, hR1, hc1, ho1⟩
  clear hR
  have hBy := Blk.new w1 61 #[.pointer (some ⟨X, 0, none⟩), .int .i64 0, .int .i64 0, .bool false]
  have hcA : Chg (fun _ => False) w1 (w1.alloc (.cells #[.pointer (some ⟨X, 0, none⟩), .int .i64 0, .int .i64 0, .bool false] 61)) := (Chg.refl _ w1).alloc _
  have hR2 := hR1.keep2 hcA
  have hv1 : ∀ k, v1.ownBlock = some k → k < w1.heap.size ∧ k ≠ X := fun k hk => by
    obtain ⟨l, h9, _⟩ := hR1
    exact (h9.block hk).2
  have hz1 := hc1.size
  go_wp2_with fail
  generalize hy : w1.heap.size = y at *
  have hz2 := size_al w1 (.cells #[.pointer (some ⟨X, 0, none⟩), .int .i64 0, .int .i64 0, .bool false] 61)
  rw [hy] at hz2
  have hcw2 := hc1.trans hcA (fun _ _ h => h.elim)
  generalize w1.alloc (.cells #[.pointer (some ⟨X, 0, none⟩), .int .i64 0, .int .i64 0, .bool false] 61) = w2 at *
  obtain ⟨ec, hec⟩ : ∃ ec : Int, (if (Da.fl nSnap).isSome then (0 : Int) else 5) = ec := ⟨_, rfl⟩
  refine (rd_read hR2 hGa.1 (by omega) nSnap).mono ?_
  rw [hec]
  rintro e w3 ⟨rfl, rfl⟩
  clear hec
  go_wp2_with fail
  refine (rread_any _ hF1 hl1).mono ?_
  rintro e w3 ⟨v8, rfl, hT, hc3⟩
  have hc23 : Chg (fun _ => False) w2 w3 := ((Chg.refl (fun _ => False) w2).drew).trans hc3 (fun _ _ h => h)
  have hR3 := hR2.keep2 hc23
  have hB3 := hBy.chg hc23 id
  have hcw3 := hcw2.trans hc23 (fun _ _ h => h.elim)
  have hT : TxtO w3 (y + 1) v8 so.rows := by
    have : w2.drew.heap.size = y + 1 := hz2
    rw [this] at hT
    exact hT
  clear hc3 hR1 hR2 hBy hcA hc1 hcw2 hc23 hl1
  obtain ⟨ao8, cp8, rfl⟩ := hT.slice
  go_upto_if 30 with (fail)
  go_cut [8] (fun v8 wx => ∃ a1 c1, v8 = .slice a1 st.length c1 ∧ StrIn wx a1 st ∧ (∀ a, a1 = some a → y < a.block) ∧ Blk wx y 61 #[.pointer (some ⟨X, 0, none⟩), .int .i64 age, .int .i64 0, .bool false] ∧ RD wx base X v1 Da ∧ Chg (fun i => i = X ∨ v.ownBlock = some i) w wx)
  case first =>
    rcases hso with ⟨rfl, rfl, rfl⟩ | rfl
    · rw [show (Kept.rows none).length = 0 from rfl]
      rw [show (Kept.rows none).length = 0 from rfl] at hT
      have hbk : ∀ a, ao8 = some a → y < a.block := fun a e => by
        have := (hT.block (i := a.block) (by rw [e]; rfl)).1
        omega
      go_wp2_with fail
      go_meet
      case rel => exact ⟨ao8, cp8, rfl, fun j s hj => by simp at hj, hbk, hB3, hR3, hcw3⟩
    · have hTt : TxtO w3 (y + 1) (.slice ao8 (Kept.rows (some (age, st))).length cp8) (nb age :: st) := hT
      obtain ⟨a, cp, sa, sc, e, hsl, k0, hS1, hb, hlt, hsb⟩ := hTt.tail (fun s hs => hokl s (hF1.ok s hs))
      cases e
      rw [show (Kept.rows (some (age, st))).length = st.length + 1 from rfl]
      clear hT hTt hF1
      go_wp2_with fail
      refine (rgen_any _ age h0 h1).mono ?_
      rintro e w4 ⟨rfl, hc4⟩
      have hB4 := hB3.chg hc4 id
      have m1 : w4.cell? ⟨y, 1, none⟩ = some (.int .i64 0) := hB4.cell 1
      have z1 : w4.frozen? ⟨y, 1, none⟩ = false := hB4.frozen 1
      have hcs : Chg (fun i => i = y) w4 (w4.setCell ⟨y, 1, none⟩ (.int .i64 age)) := Chg.setCell (Chg.refl (fun i => i = y) w4) (.inl rfl) _
      have hB5 : Blk (w4.setCell ⟨y, 1, none⟩ (.int .i64 age)) y 61 #[.pointer (some ⟨X, 0, none⟩), .int .i64 age, .int .i64 0, .bool false] := hB4.set 1 (.int .i64 age)
      have hR5 := (hR3.keep2 hc4).chg2 hcs (fun e => by omega) (fun k hk e => by have := (hv1 k hk).1; omega)
      have hS5 := (hS1.keep3 hc4 (fun _ _ => id)).keep3 hcs (fun a' ha' e => by have := hsb a' ha'; omega)
      have hcw5 := Chg.setCell (hcw3.trans hc4 (fun _ _ h => h.elim)) (p := ⟨y, 1, none⟩) (.inr (by show w.heap.size ≤ y; omega)) (.int .i64 age)
      clear hB3 hR3 hcw3 hS1 hB4 hc4 hcs k0
      go_wp2_with fail
      go_meet
      case rel => exact ⟨sa, sc, rfl, hS5, fun a' ha' => by rw [hsb a' ha']; omega, hB5, hR5, hcw5⟩
  case rest =>
    obtain ⟨a1, c1, rfl, hS, hab, hB, hR, hcw⟩ := hcut
    obtain ⟨wq, hwq⟩ : ∃ wq : World, wq = wc := ⟨wc, rfl⟩
    subst hwq
    have hyz : y + 1 ≤ wq.heap.size := hB.lt
    have hsa : so.age = age := by
      rcases hso with ⟨rfl, rfl, _⟩ | rfl
      · rfl
      · rfl
    clear hB3 hR3 hcw3 hT hF1
    rcases hlo with ⟨rfl, rfl⟩ | rfl
    · have hDF : (Da.cut nLog 0).2 = DF := HDF.out
      cases hfl : Da.fl nLog with
      | none =>
        rw [hfl] at hF2 hl2
        go_wp2_with fail
        refine (rd_read hR hGa.1 (by omega) nLog).mono ?_
        rw [hfl]
        rw [show (none : Option Fil).isSome = false from rfl]
        rintro e w4 ⟨rfl, hw4⟩
        rw [hw4]
        clear hw4
        go_wp2_with fail
        refine (rread_any _ hF2 hl2).mono ?_
        rintro e w5 ⟨v11, rfl, hT, hc5⟩
        have hc15 : Chg (fun _ => False) wq w5 := ((Chg.refl (fun _ => False) wq).drew).trans hc5 (fun _ _ h => h)
        have hS5 := hS.keep3 hc15 (fun _ _ => id)
        have hB5 := hB.chg hc15 id
        have hR5 := hR.keep2 hc15
        have hcw5 := hcw.trans hc15 (fun _ _ h => h.elim)
        have hT : TxtO w5 (y + 1) v11 (Kept.rows none) := own_le hT (show y + 1 ≤ wq.drew.heap.size from hyz)
        clear hS hB hR hcw hc15 hc5
        obtain ⟨ao, cp, rfl⟩ := hT.slice
        have k1 : w5.cell? ⟨y, 1, none⟩ = some (.int .i64 age) := hB5.cell 1
        have d1 : w5.drew.cell? ⟨y, 1, none⟩ = some (.int .i64 age) := k1
        rw [show (Kept.rows none).length = 0 from rfl]
        rw [show (flat (Kept.rows none)).length = 0 from rfl]
        have m3 : w5.drew.cell? ⟨y, 3, none⟩ = some (.bool false) := hB5.cell 3
        have m2 : w5.drew.cell? ⟨y, 2, none⟩ = some (.int .i64 0) := hB5.cell 2
        have z3 : w5.drew.frozen? ⟨y, 3, none⟩ = false := hB5.frozen 3
        have z2 : w5.drew.frozen? ⟨y, 2, none⟩ = false := hB5.frozen 2
        have m2' : w5.cell? ⟨y, 2, none⟩ = some (.int .i64 0) := hB5.cell 2
        have z2' : w5.frozen? ⟨y, 2, none⟩ = false := hB5.frozen 2
        have m3' : w5.cell? ⟨y, 3, none⟩ = some (.bool false) := hB5.cell 3
        have z3' : w5.frozen? ⟨y, 3, none⟩ = false := hB5.frozen 3
        have hcs : Chg (fun i => i = y) w5 ((w5.drew.setCell ⟨y, 3, none⟩ (.bool true)).setCell ⟨y, 2, none⟩ (.int .i64 0)) := Chg.setCell (Chg.setCell ((Chg.refl (fun i => i = y) w5).drew) (.inl rfl) _) (.inl rfl) _
        have hem : emL DF = true := by rw [← hDF]; exact emL_cut Da
        have hRf : RD ((w5.drew.setCell ⟨y, 3, none⟩ (.bool true)).setCell ⟨y, 2, none⟩ (.int .i64 0)) base X v1 DF := by
          rw [← hDF, cut_gone hfl]
          exact hR5.chg2 hcs (fun e => by omega) (fun k hk e => by have := (hv1 k hk).1; omega)
        have hBf : Blk ((w5.drew.setCell ⟨y, 3, none⟩ (.bool true)).setCell ⟨y, 2, none⟩ (.int .i64 0)) y 61 #[.pointer (some ⟨X, 0, none⟩), .int .i64 age, .int .i64 ((0 : Nat) : Int), .bool (emL DF)] := by
          rw [hem]
          exact ((show Blk w5.drew y _ _ from hB5).set 3 (.bool true)).set 2 (.int .i64 0)
        have hSf := hS5.keep3 hcs (fun a e h => by have := hab a e; omega)
        have hcf := Chg.setCell (Chg.setCell (hcw5.drew) (p := ⟨y, 3, none⟩) (.inr (by show w.heap.size ≤ y; omega)) (.bool true)) (p := ⟨y, 2, none⟩) (.inr (by show w.heap.size ≤ y; omega)) (.int .i64 0)
        have hyw : w.heap.size ≤ y := by omega
        clear hB5 hR5 hS5 hT hcw5 hcs k1
        go_wp2_with fail
        refine wp_region_plan (by kernel_rfl) [{ fl := [0, 1, 2, 3, 4, 5, 6, 8, 9, 10, 11], long := [1, 11], ef := 7, keep := [11] }] [12, 13] (by kernel_rfl) (fun _ w9 => w9.cell? ⟨y, 1, none⟩ = some (.int .i64 age)) ?_
        simp only [wpPlan, longOK, keepOK, opsAt_cons, opsAt_nil, consO_some, List.getElem?_toArray, List.getElem?_cons_succ, List.getElem?_cons_zero, and_true, true_and]
        refine ⟨⟨d1, d1⟩, ?_⟩
        go_wp2_with fail
        refine ⟨by kernel_rfl, ⟨?_, ?_⟩, ?_⟩
        · intro _ w9 hw9
          go_simp
        · intro h9
          exact absurd h9 (by simp [Region.wanted, yielded, go_sem])
        go_wp2_with fail
        refine ⟨d1, ?_⟩
        go_wp2_with fail
        refine ⟨by kernel_rfl, ?_⟩
        go_wp2_with fail
        refine bodyPost_ret (v := .tuple #[.pointer (some ⟨y, 0, none⟩), .slice a1 st.length c1, .slice ao 0 cp]) (by simp [results, Try.results23, go_sem]) rfl ?_
        exact ⟨y, a1, c1, ao, cp, v1, rfl, hSf, fun j s hj => by simp at hj, ⟨hBf, hRf⟩, hcf, ho1, hyw⟩
      | some F =>
        rw [hfl] at hF2 hl2
        go_wp2_with fail
        refine (rd_read hR hGa.1 (by omega) nLog).mono ?_
        rw [hfl]
        rw [show (some F : Option Fil).isSome = true from rfl]
        rintro e w4 ⟨rfl, hw4⟩
        rw [hw4]
        clear hw4
        go_wp2_with fail
        refine (rread_any _ hF2 hl2).mono ?_
        rintro e w5 ⟨v11, rfl, hT, hc5⟩
        have hc15 : Chg (fun _ => False) wq w5 := ((Chg.refl (fun _ => False) wq).drew).trans hc5 (fun _ _ h => h)
        have hS5 := hS.keep3 hc15 (fun _ _ => id)
        have hB5 := hB.chg hc15 id
        have hR5 := hR.keep2 hc15
        have hcw5 := hcw.trans hc15 (fun _ _ h => h.elim)
        have hT : TxtO w5 (y + 1) v11 (Kept.rows none) := own_le hT (show y + 1 ≤ wq.drew.heap.size from hyz)
        clear hS hB hR hcw hc15 hc5
        obtain ⟨ao, cp, rfl⟩ := hT.slice
        have k1 : w5.cell? ⟨y, 1, none⟩ = some (.int .i64 age) := hB5.cell 1
        have d1 : w5.drew.cell? ⟨y, 1, none⟩ = some (.int .i64 age) := k1
        rw [show (Kept.rows none).length = 0 from rfl]
        rw [show (flat (Kept.rows none)).length = 0 from rfl]
        clear hT k1
        go_wp2_with fail
        refine wp_region_plan (by kernel_rfl) [{ fl := [0, 1, 2, 3, 4, 5, 6, 8, 9, 10, 11], long := [1, 11], ef := 7, keep := [11] }] [12, 13] (by kernel_rfl) (fun _ w9 => w9.cell? ⟨y, 1, none⟩ = some (.int .i64 age)) ?_
        simp only [wpPlan, longOK, keepOK, opsAt_cons, opsAt_nil, consO_some, List.getElem?_toArray, List.getElem?_cons_succ, List.getElem?_cons_zero, and_true, true_and]
        refine ⟨⟨d1, d1⟩, ?_⟩
        go_wp2_with fail
        refine ⟨by kernel_rfl, ⟨?_, ?_⟩, ?_⟩
        · intro _ w9 hw9
          go_simp
        · intro h9
          exact absurd h9 (by simp [Region.wanted, yielded, go_sem])
        go_wp2_with fail
        refine ⟨d1, ?_⟩
        go_wp2_with fail
        refine ⟨by kernel_rfl, ?_⟩
        go_wp2_with fail
        refine (rd_cut (hR5.keep2 ((Chg.refl _ w5).drew)) hGa.1 (by omega) nLog 0).mono ?_
        rw [hDF]
        rintro e w6 ⟨rfl, v6, hR6, hc6, ho6⟩
        have hB6 := (show Blk w5.drew y _ _ from hB5).chg hc6 (fun e => by
          rcases e with e | e
          · omega
          · have := (hv1 y e).1
            omega)
        have hnS : ∀ a' : Addr, y < a'.block → ¬ (a'.block = X ∨ v1.ownBlock = some a'.block) := fun a' h e => by
          rcases e with e | e
          · omega
          · have := (hv1 _ e).1
            omega
        have hS6 := (hS5.keep3 ((Chg.refl (fun _ => False) w5).drew) (fun _ _ => id)).keep3 hc6 (fun a' ha' => hnS a' (hab a' ha'))
        have hpt := post_trans hcw5.drew ho1 hc6 ho6
        have m3 : w6.cell? ⟨y, 3, none⟩ = some (.bool false) := hB6.cell 3
        have m2 : w6.cell? ⟨y, 2, none⟩ = some (.int .i64 0) := hB6.cell 2
        have z3 : w6.frozen? ⟨y, 3, none⟩ = false := hB6.frozen 3
        have z2 : w6.frozen? ⟨y, 2, none⟩ = false := hB6.frozen 2
        have hv6 : ∀ k, v6.ownBlock = some k → k ≠ y := fun k hk => by
          rcases ho6 k hk with h | h
          · have := (hv1 k h).1
            omega
          · have hy5 : y < w5.drew.heap.size := hB5.lt
            omega
        have hcs : Chg (fun i => i = y) w6 ((w6.setCell ⟨y, 3, none⟩ (.bool true)).setCell ⟨y, 2, none⟩ (.int .i64 0)) := Chg.setCell (Chg.setCell (Chg.refl (fun i => i = y) w6) (.inl rfl) _) (.inl rfl) _
        have hem : emL DF = true := by rw [← hDF]; exact emL_cut Da
        have hRf : RD ((w6.setCell ⟨y, 3, none⟩ (.bool true)).setCell ⟨y, 2, none⟩ (.int .i64 0)) base X v6 DF := hR6.chg2 hcs (fun e => by omega) (fun k hk e => hv6 k hk e)
        have hBf : Blk ((w6.setCell ⟨y, 3, none⟩ (.bool true)).setCell ⟨y, 2, none⟩ (.int .i64 0)) y 61 #[.pointer (some ⟨X, 0, none⟩), .int .i64 age, .int .i64 ((0 : Nat) : Int), .bool (emL DF)] := by
          rw [hem]
          exact (hB6.set 3 (.bool true)).set 2 (.int .i64 0)
        have hSf := hS6.keep3 hcs (fun a e h => by have := hab a e; omega)
        have hcf := Chg.setCell (Chg.setCell hpt.1 (p := ⟨y, 3, none⟩) (.inr (by show w.heap.size ≤ y; omega)) (.bool true)) (p := ⟨y, 2, none⟩) (.inr (by show w.heap.size ≤ y; omega)) (.int .i64 0)
        have hof := hpt.2
        have hyw : w.heap.size ≤ y := by omega
        clear hB5 hR5 hS5 hB6 hR6 hS6 hcw5 hcs hpt hc6 ho6
        go_wp2_with fail
        refine bodyPost_ret (v := .tuple #[.pointer (some ⟨y, 0, none⟩), .slice a1 st.length c1, .slice ao 0 cp]) (by simp [results, Try.results23, go_sem]) rfl ?_
        exact ⟨y, a1, c1, ao, cp, v6, rfl, hSf, fun j s hj => by simp at hj, ⟨hBf, hRf⟩, hcf, hof, hyw⟩
    · have hDF : (Da.cut nLog ((flat (nb age :: rs)).length : Nat)).2 = DF := by
        have h9 := HDF.out
        rw [show logEnd so (some (age, rs)) = (flat (nb age :: rs)).length by
          show (if age = so.age then _ else _) = _
          rw [if_pos hsa.symm]] at h9
        exact h9
      cases hfl : Da.fl nLog with
      | none =>
        exfalso
        rw [hfl] at hF2
        have h9 := congrArg List.length hF2.eq
        rw [List.length_append] at h9
        have h8 : (flat (Kept.rows (some (age, rs)))).length = (flat (nb age :: rs)).length := rfl
        have h7 := flat_pos (nb age) rs
        have h6 : (bsF none).length = 0 := rfl
        omega
      | some F =>
        rw [hfl] at hF2 hl2
        have hn1 : 1 ≤ (flat (nb age :: rs)).length := by have := flat_pos (nb age) rs; omega
        have hn2 : (flat (nb age :: rs)).length ≤ F.bs.length := by
          have h9 := congrArg List.length hF2.eq
          rw [List.length_append] at h9
          have h8 : (flat (Kept.rows (some (age, rs)))).length = (flat (nb age :: rs)).length := rfl
          have h7 : (bsF (some F)).length = F.bs.length := rfl
          omega
        go_wp2_with fail
        refine (rd_read hR hGa.1 (by omega) nLog).mono ?_
        rw [hfl]
        rw [show (some F : Option Fil).isSome = true from rfl]
        rintro e w4 ⟨rfl, hw4⟩
        rw [hw4]
        clear hw4
        go_wp2_with fail
        refine (rread_any _ hF2 hl2).mono ?_
        rintro e w5 ⟨v11, rfl, hT, hc5⟩
        have hc15 : Chg (fun _ => False) wq w5 := ((Chg.refl (fun _ => False) wq).drew).trans hc5 (fun _ _ h => h)
        have hS5 := hS.keep3 hc15 (fun _ _ => id)
        have hB5 := hB.chg hc15 id
        have hR5 := hR.keep2 hc15
        have hcw5 := hcw.trans hc15 (fun _ _ h => h.elim)
        have hT : TxtO w5 (y + 1) v11 (nb age :: rs) := own_le hT (show y + 1 ≤ wq.drew.heap.size from hyz)
        clear hS hB hR hcw hc15 hc5
        obtain ⟨a, cp, sa, sc, rfl, hsl, k0, hS1, hb, hlt, hsb⟩ := hT.tail (fun s hs => hokl s (hF2.ok s hs))
        have habs : ∀ a', sa = some a' → y < a'.block := fun a' e => by rw [hsb a' e]; omega
        rw [show (flat (Kept.rows (some (age, rs)))).length = (flat (nb age :: rs)).length from rfl]
        obtain ⟨NF, hNF⟩ : ∃ NF, (flat (nb age :: rs)).length = NF := ⟨_, rfl⟩
        rw [hNF] at hDF hn1 hn2 ⊢
        have k1 : w5.cell? ⟨y, 1, none⟩ = some (.int .i64 age) := hB5.cell 1
        have d1 : w5.drew.cell? ⟨y, 1, none⟩ = some (.int .i64 age) := k1
        have d0 : w5.drew.cell? a = some (encStr (nb age)) := k0
        clear hT hF2 hNF hsb hb
        go_wp2_with fail
        refine wp_region_plan (by kernel_rfl) [{ fl := [0, 1, 2, 3, 4, 5, 6, 8, 9, 10, 11], long := [1, 11], ef := 7, keep := [11] }] [12, 13] (by kernel_rfl) (fun _ w9 => w9.cell? ⟨y, 1, none⟩ = some (.int .i64 age)) ?_
        simp only [wpPlan, longOK, keepOK, opsAt_cons, opsAt_nil, consO_some, List.getElem?_toArray, List.getElem?_cons_succ, List.getElem?_cons_zero, and_true, true_and]
        refine ⟨⟨d1, d1⟩, ?_⟩
        go_wp2_with fail
        refine ⟨by kernel_rfl, ⟨?_, ?_⟩, ?_⟩
        · intro _ w9 hw9
          go_simp
        · intro _ w9 hw9
          go_simp
        go_wp2_with fail
        refine (rgen_any _ age h0 h1).mono ?_
        rintro e w5g ⟨rfl, hcg⟩
        have hcg : Chg (fun _ => False) w5 w5g := ((Chg.refl (fun _ => False) w5).drew).trans hcg (fun _ _ h => h)
        replace hS5 := hS5.keep3 hcg (fun _ _ => id)
        replace hB5 := hB5.chg hcg id
        replace hR5 := hR5.keep2 hcg
        replace hcw5 := hcw5.trans hcg (fun _ _ h => h.elim)
        replace hS1 := hS1.keep3 hcg (fun _ _ => id)
        have dg : w5g.cell? ⟨y, 1, none⟩ = some (.int .i64 age) := hB5.cell 1
        clear k0 k1 d0 d1 hcg
        go_wp2_with fail
        refine ⟨dg, ?_⟩
        go_wp2_with fail
        refine ⟨by kernel_rfl, ?_⟩
        go_wp2_with fail
        refine (rd_cut hR5 hGa.1 (by omega) nLog (NF : Nat)).mono ?_
        rw [hDF]
        rintro e w6 ⟨rfl, v6, hR6, hc6, ho6⟩
        have hB6 := hB5.chg hc6 (fun e => by
          rcases e with e | e
          · omega
          · have := (hv1 y e).1
            omega)
        have hnS : ∀ a' : Addr, y < a'.block → ¬ (a'.block = X ∨ v1.ownBlock = some a'.block) := fun a' h e => by
          rcases e with e | e
          · omega
          · have := (hv1 _ e).1
            omega
        have hS6 := hS5.keep3 hc6 (fun a' ha' => hnS a' (hab a' ha'))
        have hpt := post_trans hcw5 ho1 hc6 ho6
        have m3 : w6.cell? ⟨y, 3, none⟩ = some (.bool false) := hB6.cell 3
        have m2 : w6.cell? ⟨y, 2, none⟩ = some (.int .i64 0) := hB6.cell 2
        have z3 : w6.frozen? ⟨y, 3, none⟩ = false := hB6.frozen 3
        have z2 : w6.frozen? ⟨y, 2, none⟩ = false := hB6.frozen 2
        have hv6 : ∀ k, v6.ownBlock = some k → k ≠ y := fun k hk => by
          rcases ho6 k hk with h | h
          · have := (hv1 k h).1
            omega
          · have hy5 : y < w5g.heap.size := hB5.lt
            omega
        have hcs : Chg (fun i => i = y) w6 ((w6.setCell ⟨y, 3, none⟩ (.bool false)).setCell ⟨y, 2, none⟩ (.int .i64 rs.length)) := Chg.setCell (Chg.setCell (Chg.refl (fun i => i = y) w6) (.inl rfl) _) (.inl rfl) _
        have hem : emL DF = false := by rw [← hDF]; exact emL_cut2 hfl hn1 hn2
        have hRf : RD ((w6.setCell ⟨y, 3, none⟩ (.bool false)).setCell ⟨y, 2, none⟩ (.int .i64 rs.length)) base X v6 DF := hR6.chg2 hcs (fun e => by omega) (fun k hk e => hv6 k hk e)
        have hBf : Blk ((w6.setCell ⟨y, 3, none⟩ (.bool false)).setCell ⟨y, 2, none⟩ (.int .i64 rs.length)) y 61 #[.pointer (some ⟨X, 0, none⟩), .int .i64 age, .int .i64 rs.length, .bool (emL DF)] := by
          rw [hem]
          exact (hB6.set 3 (.bool false)).set 2 (.int .i64 rs.length)
        have hTf := (hS1.keep3 hc6 (fun a' ha' => hnS a' (habs a' ha'))).keep3 hcs (fun a e h => by have := habs a e; omega)
        have hSf := hS6.keep3 hcs (fun a e h => by have := hab a e; omega)
        have hcf := Chg.setCell (Chg.setCell hpt.1 (p := ⟨y, 3, none⟩) (.inr (by show w.heap.size ≤ y; omega)) (.bool false)) (p := ⟨y, 2, none⟩) (.inr (by show w.heap.size ≤ y; omega)) (.int .i64 rs.length)
        have hof := hpt.2
        have hyw : w.heap.size ≤ y := by omega
        clear hB5 hR5 hS5 hB6 hR6 hS6 hcw5 hcs hpt hc6 ho6
        go_wp2_with fail
        refine bodyPost_ret (v := .tuple #[.pointer (some ⟨y, 0, none⟩), .slice a1 st.length c1, .slice sa rs.length sc]) (by simp [results, Try.results23, go_sem]) rfl ?_
        exact ⟨y, a1, c1, sa, sc, v6, rfl, hSf, hTf, ⟨hBf, hRf⟩, hcf, hof, hyw⟩
end Go.Proofs.Ytpbjompopgdbjaa
