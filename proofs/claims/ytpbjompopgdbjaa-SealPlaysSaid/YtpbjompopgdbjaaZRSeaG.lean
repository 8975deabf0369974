/-
  the reference's log: Put of what may not be, Sync, Save.
-/
import Derived.Test.YtpbjompopgdbjaaRSeaF
import Derived.Test.YtpbjompopgdbjaaZRDskI
namespace Go.Proofs.Ytpbjompopgdbjaa
open Go.RowKit Go.Maps Go.Sort

theorem may_len {n : Nam} (h : may n = true) : 1 ≤ n.length ∧ n.length ≤ 20 := by
  unfold may at h
  simpa using h
theorem Dsk.Good.append {D : Dsk} (hG : D.Good) (n : Nam) (b : List UInt8) : (D.append n b).2.Good := by
  unfold Dsk.append
  split
  · exact hG
  · rename_i hm
    split
    · exact hG
    · rename_i hf
      exact good_app hG (may_len (by simpa using hm)) hf
theorem Dsk.Good.sync {D : Dsk} (hG : D.Good) (n : Nam) : (D.sync n).2.Good := by
  unfold Dsk.sync
  cases hf : D.fl n with
  | none => exact hG
  | some f =>
    have hu := Dsk.used_put hG n ⟨f.bs, f.bs.length⟩
    rw [hf] at hu
    have hu : (D.put n ⟨f.bs, f.bs.length⟩).used + f.bs.length = D.used + f.bs.length := hu
    have := hG.fit
    exact hG.put (hG.nam n (by rw [hf]; rfl)) (Nat.le_refl _) (by omega)
theorem Dsk.Good.rename {D : Dsk} (hG : D.Good) (a b : Nam) : (D.rename a b).2.Good := by
  unfold Dsk.rename
  cases hf : D.fl a with
  | none => exact hG
  | some f =>
    show (if may b = false then ((1 : Int), D) else (0, (D.del a).put b f)).2.Good
    split
    · exact hG
    · rename_i hm
      exact ren_good hG hf (may_len (by simpa using hm))

/-- Steps of the reference's disk, one behind the other, beside the log's block. -/
structure RCh (w wj : World) (base X y : Nat) (v vj : Value) (cs : Array Value) (D : Dsk) : Prop where
  rd : RD wj base X vj D
  chg : Chg (fun i => i = X ∨ v.ownBlock = some i) w wj
  own : ∀ k, vj.ownBlock = some k → v.ownBlock = some k ∨ w.heap.size ≤ k
  blk : Blk wj y 61 cs
theorem RCh.keep {w wj wk : World} {base X y : Nat} {v vj : Value} {cs : Array Value} {D : Dsk} (h : RCh w wj base X y v vj cs D) (hc : Chg (fun _ => False) wj wk) : RCh w wk base X y v vj cs D :=
  ⟨h.rd.keep2 hc, h.chg.trans hc (fun _ _ h => h.elim), h.own, h.blk.chg hc id⟩
theorem RCh.step {w wj wk : World} {base X y : Nat} {v vj : Value} {cs : Array Value} {D D' : Dsk} (h : RCh w wj base X y v vj cs D) (hX : y ≠ X) (hv : ∀ k, v.ownBlock = some k → k ≠ y) (hy : y < w.heap.size) (hP : RDPost wj wk base X vj D') : ∃ vk, RCh w wk base X y v vk cs D' := by
  obtain ⟨vk, hR, hc, ho⟩ := hP
  have ht := post_trans h.chg h.own hc ho
  refine ⟨vk, hR, ht.1, ht.2, h.blk.chg hc (fun e => ?_)⟩
  rcases e with e | e
  · exact hX e
  · rcases h.own y e with e | e
    · exact hv y e rfl
    · omega
theorem RLAt.start {w : World} {base X y : Nat} {v : Value} {age : Int} {n : Nat} {D : Dsk} (h : RLAt w base X y v age n D) : RCh w w base X y v v #[.pointer (some ⟨X, 0, none⟩), .int .i64 age, .int .i64 n, .bool (emL D)] D :=
  ⟨h.rd, Chg.refl _ w, fun k hk => .inl hk, h.blk⟩
theorem RCh.post {w wj : World} {base X y : Nat} {v vj : Value} {age : Int} {n : Nat} {D : Dsk} (h : RCh w wj base X y v vj #[.pointer (some ⟨X, 0, none⟩), .int .i64 age, .int .i64 n, .bool (emL D)] D) : RLPost w wj base X y v age n D :=
  ⟨vj, ⟨h.blk, h.rd⟩, h.chg.mono (fun _ _ h => .inl h), h.own⟩

set_option maxRecDepth 100000 in
theorem rl_put_bad (w : World) (y : Nat) (b : List UInt8) (hb : b.length < 1 ∨ 1000 < b.length) (hl : b.length ≤ maxLen) :
    Calls Try.prog 24 #[.pointer (some ⟨y, 0, none⟩), encStr b] w fun e w' => e = .returned (.int .i64 1) ∧ w' = w := by
  unfold maxLen at hl
  by_cases h1 : b.length < 1
  · go_enter Try.func24, Try.ntmps24
    go_wp2_with fail
    go_ret
    exact ⟨rfl, rfl⟩
  · have h2 : 1000 < b.length := by omega
    go_enter Try.func24, Try.ntmps24
    go_wp2_with fail
    go_ret
    exact ⟨rfl, rfl⟩

theorem emL_sync (D : Dsk) : emL (D.sync nLog).2 = emL D := by
  unfold emL Dsk.sync
  cases hf : D.fl nLog with
  | none => rw [hf]
  | some f =>
    show (bsF ((D.put nLog ⟨f.bs, f.bs.length⟩).fl nLog)).isEmpty = _
    rw [dput_fl]
    rfl
set_option maxRecDepth 100000 in
theorem rl_sync {w : World} {base X y : Nat} {v : Value} {age : Int} {n : Nat} {D : Dsk} (h : RLAt w base X y v age n D) (hG : D.Good) (hmx : D.ks.length ≤ 1000000) :
    Calls Try.prog 25 #[.pointer (some ⟨y, 0, none⟩)] w fun e w' => e = .returned (.int .i64 0) ∧ RLPost w w' base X y v age n (D.sync nLog).2 := by
  have c0 : w.cell? ⟨y, 0, none⟩ = some (.pointer (some ⟨X, 0, none⟩)) := h.blk.cell 0
  have hne := h.ne
  have hy := h.blk.lt
  go_enter Try.func25, Try.ntmps25
  go_wp2_with fail
  refine (rd_sync h.rd hG hmx nLog).mono ?_
  rintro e w1 ⟨rfl, hP⟩
  obtain ⟨v1, hC⟩ := h.start.step hne.1 hne.2 hy hP
  have fin : RLPost w w1 base X y v age n (D.sync nLog).2 := by
    rw [← emL_sync D] at hC
    exact hC.post
  clear hC hP
  go_wp2_with fail
  go_ret
  exact ⟨rfl, fin⟩
end Go.Proofs.Ytpbjompopgdbjaa

namespace Go.Proofs.Ytpbjompopgdbjaa
open Go.RowKit Go.Maps Go.Sort

theorem saved_of {D : Dsk} (hnx : D.fl nNext = none) (age : Int) (st : List Rec) : ∃ r D1, D.append nNext (flat (nb (age + 1) :: st)) = (r, D1) ∧
    ((r = 4 ∧ D1 = D ∧ D.saved age st = (4, D)) ∨ (r = 0 ∧ D.saved age st = (0, ((((D1.sync nNext).2.rename nNext nSnap).2).cut nLog 0).2))) := by
  have hm : may nNext = true := by decide
  by_cases hfull : D.room - D.used < (flat (nb (age + 1) :: st)).length
  · refine ⟨4, D, app_full hm hfull, .inl ⟨rfl, rfl, ?_⟩⟩
    unfold Dsk.saved
    rw [remove_none hnx, app_full hm hfull]
    show (if (4 : Int) = 0 then _ else _) = _
    rw [if_neg (by decide), remove_none hnx]
  · refine ⟨0, _, app_ok hm hfull, .inr ⟨rfl, ?_⟩⟩
    unfold Dsk.saved
    rw [remove_none hnx, app_ok hm hfull]
    show (if (0 : Int) = 0 then _ else _) = _
    rw [if_pos rfl]
theorem emL_cut (D : Dsk) : emL (D.cut nLog 0).2 = true := by
  unfold emL Dsk.cut
  cases hf : D.fl nLog with
  | none =>
    show (bsF (D.fl nLog)).isEmpty = true
    rw [hf]
    rfl
  | some f =>
    show (bsF ((if (0 : Int) < 0 ∨ (f.bs.length : Int) < 0 then ((3 : Int), D) else (0, D.put nLog ⟨f.bs.take (0 : Int).toNat, (0 : Int).toNat⟩)).2.fl nLog)).isEmpty = true
    rw [if_neg (by omega)]
    show (bsF ((D.put nLog _).fl nLog)).isEmpty = true
    rw [dput_fl]
    rfl
theorem cut_gone {D : Dsk} (h : D.fl nLog = none) : (D.cut nLog 0).2 = D := by
  unfold Dsk.cut
  rw [h]
theorem flat_lenR : ∀ (l : List Rec), (∀ b ∈ l, b.length ≤ 1000) → (flat l).length ≤ 1006 * l.length
  | [], _ => Nat.le_refl _
  | b :: l, h => by
    have h1 := flat_lenR l (fun x hx => h x (List.mem_cons_of_mem _ hx))
    have h2 := h b (List.mem_cons_self ..)
    rw [flat_cons, List.length_append, frm_len, List.length_cons]
    omega
theorem flat_grow (a : Rec) (l : List Rec) {k : Nat} {b : Rec} (hb : l[k]? = some b) : flat (a :: l.take (k + 1)) = flat (a :: l.take k) ++ frm b := by
  rw [List.take_add_one, hb]
  show flat (a :: (l.take k ++ [b])) = _
  rw [← List.cons_append, flat_app, flat_one]

theorem kA (D : Dsk) (n : Nam) (b : List UInt8) : (D.append n b).2.ks.length ≤ D.ks.length + 1 := by
  unfold Dsk.append
  split
  · exact Nat.le_succ _
  · split
    · exact Nat.le_succ _
    · exact dput_ks_le _ _ _
theorem kS (D : Dsk) (n : Nam) : (D.sync n).2.ks.length ≤ D.ks.length + 1 := by
  unfold Dsk.sync
  split
  · exact Nat.le_succ _
  · exact dput_ks_le _ _ _
theorem kR (D : Dsk) (a b : Nam) : (D.rename a b).2.ks.length ≤ D.ks.length + 1 := by
  unfold Dsk.rename
  split
  · exact Nat.le_succ _
  · split
    · exact Nat.le_succ _
    · have h1 : (D.del a).ks.length ≤ D.ks.length := List.length_erase_le
      exact Nat.le_trans (dput_ks_le _ _ _) (by omega)
theorem RCh.saved {w wj : World} {base X y : Nat} {v vj : Value} {age : Int} {n : Nat} {em : Bool} {D : Dsk} (h : RCh w wj base X y v vj #[.pointer (some ⟨X, 0, none⟩), .int .i64 age, .int .i64 n, .bool em] D) (he : emL D = true) (hX : y ≠ X) (hv : ∀ k, v.ownBlock = some k → k ≠ y) (hy : y < w.heap.size) :
    RLPost w (((wj.setCell ⟨y, 1, none⟩ (.int .i64 (age + 1))).setCell ⟨y, 2, none⟩ (.int .i64 0)).setCell ⟨y, 3, none⟩ (.bool true)) base X y v (age + 1) 0 D := by
  have hcs : Chg (fun i => i = y) wj (((wj.setCell ⟨y, 1, none⟩ (.int .i64 (age + 1))).setCell ⟨y, 2, none⟩ (.int .i64 0)).setCell ⟨y, 3, none⟩ (.bool true)) := Chg.setCell (Chg.setCell (Chg.setCell (Chg.refl (fun i => i = y) wj) (.inl rfl) _) (.inl rfl) _) (.inl rfl) _
  refine ⟨vj, ⟨?_, h.rd.chg2 hcs (fun e => hX e.symm) (fun k hk e => ?_)⟩, (h.chg.mono (T := fun i => (i = X ∨ v.ownBlock = some i) ∨ i = y) (fun _ _ h => .inl h)).trans hcs (fun _ _ e => .inr e), h.own⟩
  · rw [he]
    exact ((h.blk.set 1 (.int .i64 (age + 1))).set 2 (.int .i64 0)).set 3 (.bool true)
  · subst e
    rcases h.own k hk with e | e
    · exact hv k e rfl
    · omega

set_option maxRecDepth 100000 in
set_option maxHeartbeats 2000000 in
theorem rl_save_bad {w : World} {base X y : Nat} {v : Value} {age : Int} {n : Nat} {D : Dsk} (h : RLAt w base X y v age n D) (h0 : 0 ≤ age) (h1 : age + 1 < 64) {a0 : Option Addr} {st : List Rec} (hs : StrIn w a0 st) (c : Nat) (hsl : st.length ≤ 100) (hbad : ∃ b, b ∈ st ∧ ¬ okR b) :
    Calls Try.prog 26 #[.pointer (some ⟨y, 0, none⟩), .slice a0 st.length c] w fun e w' => e = .returned (.int .i64 1) ∧ Chg (fun _ => False) w w' := by
  have c1 : w.cell? ⟨y, 1, none⟩ = some (.int .i64 age) := h.blk.cell 1
  have hag := nb_small (v := age + 1) (by omega) (by omega)
  have Hbad := Lib.hid hbad
  clear hbad h
  go_enter Try.func26, Try.ntmps26
  go_wp2_with fail
  refine (refInt_any w (age + 1) (by omega) (by omega)).mono ?_
  rintro e w2 ⟨rfl, hc2⟩
  rw [show Value.string (bstr (nb (age + 1))) = encStr (nb (age + 1)) from rfl]
  go_wp2_with fail
  refine (rframe_any w2 (nb (age + 1)) hag.2).mono ?_
  rintro e w3 ⟨rfl, hc3⟩
  have hc := hc2.trans hc3 (fun _ _ h => h)
  clear hc2 hc3 c1
  rw [show frm (nb (age + 1)) = flat (nb (age + 1) :: st.take 0) by rw [List.take_zero, flat_one]]
  go_wp2_with fail
  go_loopw [5, 6] (fun v5 v6 wr => ∃ k : Nat, v6 = .int .i64 k ∧ k ≤ st.length ∧ (∀ (j : Nat) (b : Rec), j < k → st[j]? = some b → okR b) ∧ v5 = encStr (flat (nb (age + 1) :: st.take k)) ∧ Chg (fun _ => False) w wr) (fun _ v6 _ => 2000 - (RowKit.intOf v6).toNat)
  case atStart => exact ⟨0, rfl, Nat.zero_le _, fun j b h => absurd h (Nat.not_lt_zero _), rfl, hc⟩
  case round =>
    clear hc
    obtain ⟨k, rfl, hk, hpre, rfl, hcr⟩ := hrel
    have hlen := flat_lenR (nb (age + 1) :: st.take k) (fun b hb => by
      rcases List.mem_cons.1 hb with rfl | hb
      · exact hag.2
      · obtain ⟨j, hj, rfl⟩ := List.getElem_of_mem hb
        rw [List.length_take] at hj
        exact (hpre j _ (by omega) (by rw [List.getElem_take]; exact List.getElem?_eq_getElem (by omega))).2)
    rw [List.length_cons, List.length_take] at hlen
    by_cases hkl : k < st.length
    · obtain ⟨b, hb⟩ : ∃ b, st[k]? = some b := ⟨_, List.getElem?_eq_getElem hkl⟩
      obtain ⟨hbm, a, rfl, hk0⟩ := hs.at hcr (fun _ _ => id) hb
      unfold maxLen at hbm
      have hgr := flat_grow (nb (age + 1)) st hb
      have Hb := Lib.hid (And.intro hb hgr)
      obtain ⟨PK, hPK⟩ : ∃ PK, flat (nb (age + 1) :: st.take k) = PK := ⟨_, rfl⟩
      rw [hPK] at hlen ⊢
      have HPK := Lib.hid hPK
      have hlen2 : PK.length ≤ 200000 := by omega
      clear hb hgr hPK hlen
      by_cases hb1 : b.length < 1
      · go_wp2_with fail
        go_ret
        exact ⟨rfl, hcr⟩
      by_cases hb2 : 1000 < b.length
      · go_wp2_with fail
        go_ret
        exact ⟨rfl, hcr⟩
      go_wp2_with fail
      refine (rframe_any wr b (by omega)).mono ?_
      rintro e w4 ⟨rfl, hc4⟩
      have hcr4 := hcr.trans hc4 (fun _ _ h => h)
      have hfb := frm_len b
      obtain ⟨C, hC⟩ : ∃ C, frm b = C := ⟨_, rfl⟩
      rw [hC] at hfb ⊢
      have HC := Lib.hid hC
      clear hC hcr hc4 hk0
      go_wp2_with fail
      rw [str_app]
      go_roundw
      case rel =>
        refine ⟨k + 1, by go_num, by omega, fun j x hj hx => ?_, by rw [Hb.out.2, HPK.out, HC.out], hcr4⟩
        by_cases hjk : j = k
        · subst hjk
          rw [Hb.out.1] at hx
          cases hx
          exact ⟨by omega, by omega⟩
        · exact hpre j x (by omega) hx
      case measure => simp [RowKit.intOf]; omega
    · exfalso
      obtain ⟨b, hb, hno⟩ := Hbad.out
      obtain ⟨j, hj, rfl⟩ := List.getElem_of_mem hb
      exact hno (hpre j _ (by omega) (List.getElem?_eq_getElem hj))
set_option maxRecDepth 100000 in
set_option maxHeartbeats 2000000 in
theorem rl_save {w : World} {base X y : Nat} {v : Value} {age : Int} {n : Nat} {D : Dsk} (h : RLAt w base X y v age n D) (hG : D.Good) (hmx : D.ks.length ≤ 999000) (hbase : base ≤ w.heap.size) (hnx : D.fl nNext = none) (h0 : 0 ≤ age) (h1 : age + 1 < 64) {a0 : Option Addr} {st : List Rec} (hs : StrIn w a0 st) (c : Nat) (hsl : st.length ≤ 100) (hok : ∀ b ∈ st, okR b) :
    Calls Try.prog 26 #[.pointer (some ⟨y, 0, none⟩), .slice a0 st.length c] w fun e w' => e = .returned (.int .i64 (D.saved age st).1) ∧ RLPost w w' base X y v (newAge (D.saved age st).1 age) (newLen (D.saved age st).1 n) (D.saved age st).2 := by
  have c1 : w.cell? ⟨y, 1, none⟩ = some (.int .i64 age) := h.blk.cell 1
  have hag := nb_small (v := age + 1) (by omega) (by omega)
  have Hok := Lib.hid hok
  have hne := h.ne
  have hy := h.blk.lt
  have Hst := Lib.hid h.start
  obtain ⟨r, D1, hap, hsv⟩ := saved_of hnx age st
  have Hap := Lib.hid (And.intro hap hsv)
  have hfail : D.saved age st = (4, D) → ∀ w', (∃ vk, RCh w w' base X y v vk #[.pointer (some ⟨X, 0, none⟩), .int .i64 age, .int .i64 n, .bool (emL D)] D) → RLPost w w' base X y v (newAge (D.saved age st).1 age) (newLen (D.saved age st).1 n) (D.saved age st).2 := fun e w' ⟨vk, hC⟩ => by
    rw [e]
    exact hC.post
  have Hfail := Lib.hid hfail
  obtain ⟨R, hR⟩ : ∃ R, D.saved age st = R := ⟨_, rfl⟩
  rw [hR] at Hap Hfail ⊢
  clear hok h hap hsv hfail hR
  go_enter Try.func26, Try.ntmps26
  go_wp2_with fail
  refine (refInt_any w (age + 1) (by omega) (by omega)).mono ?_
  rintro e w2 ⟨rfl, hc2⟩
  rw [show Value.string (bstr (nb (age + 1))) = encStr (nb (age + 1)) from rfl]
  go_wp2_with fail
  refine (rframe_any w2 (nb (age + 1)) hag.2).mono ?_
  rintro e w3 ⟨rfl, hc3⟩
  have hc := hc2.trans hc3 (fun _ _ h => h)
  clear hc2 hc3 c1
  rw [show frm (nb (age + 1)) = flat (nb (age + 1) :: st.take 0) by rw [List.take_zero, flat_one]]
  go_wp2_with fail
  go_loopw [5, 6] (fun v5 v6 wr => ∃ k : Nat, v6 = .int .i64 k ∧ k ≤ st.length ∧ (∀ (j : Nat) (b : Rec), j < k → st[j]? = some b → okR b) ∧ v5 = encStr (flat (nb (age + 1) :: st.take k)) ∧ Chg (fun _ => False) w wr) (fun _ v6 _ => 2000 - (RowKit.intOf v6).toNat)
  case atStart => exact ⟨0, rfl, Nat.zero_le _, fun j b h => absurd h (Nat.not_lt_zero _), rfl, hc⟩
  case round =>
    clear hc
    obtain ⟨k, rfl, hk, hpre, rfl, hcr⟩ := hrel
    have hlen := flat_lenR (nb (age + 1) :: st.take k) (fun b hb => by
      rcases List.mem_cons.1 hb with rfl | hb
      · exact hag.2
      · obtain ⟨j, hj, rfl⟩ := List.getElem_of_mem hb
        rw [List.length_take] at hj
        exact (hpre j _ (by omega) (by rw [List.getElem_take]; exact List.getElem?_eq_getElem (by omega))).2)
    rw [List.length_cons, List.length_take] at hlen
    by_cases hkl : k < st.length
    · obtain ⟨b, hb⟩ : ∃ b, st[k]? = some b := ⟨_, List.getElem?_eq_getElem hkl⟩
      obtain ⟨hbm, a, rfl, hk0⟩ := hs.at hcr (fun _ _ => id) hb
      unfold maxLen at hbm
      have hgr := flat_grow (nb (age + 1)) st hb
      have Hb := Lib.hid (And.intro hb hgr)
      obtain ⟨PK, hPK⟩ : ∃ PK, flat (nb (age + 1) :: st.take k) = PK := ⟨_, rfl⟩
      rw [hPK] at hlen ⊢
      have HPK := Lib.hid hPK
      have hlen2 : PK.length ≤ 200000 := by omega
      clear hb hgr hPK hlen
      have hokb := Hok.out b (List.mem_of_getElem? Hb.out.1)
      have hb1 := hokb.1
      have hb2 := hokb.2
      clear hokb
      go_wp2_with fail
      refine (rframe_any wr b (by omega)).mono ?_
      rintro e w4 ⟨rfl, hc4⟩
      have hcr4 := hcr.trans hc4 (fun _ _ h => h)
      have hfb := frm_len b
      obtain ⟨C, hC⟩ : ∃ C, frm b = C := ⟨_, rfl⟩
      rw [hC] at hfb ⊢
      have HC := Lib.hid hC
      clear hC hcr hc4 hk0
      go_wp2_with fail
      rw [str_app]
      go_roundw
      case rel =>
        refine ⟨k + 1, by go_num, by omega, fun j x hj hx => ?_, by rw [Hb.out.2, HPK.out, HC.out], hcr4⟩
        by_cases hjk : j = k
        · subst hjk
          rw [Hb.out.1] at hx
          cases hx
          exact ⟨by omega, by omega⟩
        · exact hpre j x (by omega) hx
      case measure => simp [RowKit.intOf]; omega
    · have hke : k = st.length := by omega
      subst hke
      rw [List.take_length] at hlen ⊢
      obtain ⟨PK, hPK⟩ : ∃ PK, flat (nb (age + 1) :: st) = PK := ⟨_, rfl⟩
      rw [hPK] at hlen Hap ⊢
      have hlen2 : PK.length ≤ 200000 := by have := List.length_take_le st.length st; omega
      have hC0 := Hst.out.keep hcr
      have k0 : wr.cell? ⟨y, 0, none⟩ = some (.pointer (some ⟨X, 0, none⟩)) := hC0.blk.cell 0
      clear hlen hPK hpre
      go_wp2_with fail
      refine (rd_append hC0.rd hG (by omega) (Nat.le_trans hbase hcr.size) nNext (by decide) PK (by omega)).mono ?_
      rw [Hap.out.1]
      rintro e w4 ⟨rfl, hP4⟩
      obtain ⟨v4, hC4⟩ := hC0.step hne.1 hne.2 hy hP4
      have k4 : w4.cell? ⟨y, 0, none⟩ = some (.pointer (some ⟨X, 0, none⟩)) := hC4.blk.cell 0
      have hb4 := Nat.le_trans hbase hC4.chg.size
      have hG1 : D1.Good := by
        have := hG.append nNext PK
        rw [Hap.out.1] at this
        exact this
      clear hP4 hC0 k0
      rcases Hap.out.2 with ⟨rfl, e1, e2⟩ | ⟨rfl, e2⟩
      · subst e1
        go_wp2_with fail
        refine (rd_remove hC4.rd hG (by omega) hb4 nNext).mono ?_
        rw [show (D1.remove nNext) = (5, D1) by unfold Dsk.remove; rw [hnx]]
        rintro e w5 ⟨rfl, hP5⟩
        obtain ⟨v5, hC5⟩ := hC4.step hne.1 hne.2 hy hP5
        have fin := Hfail.out e2 w5 ⟨v5, hC5⟩
        clear hC4 hP5 k4
        go_wp2_with fail
        go_ret
        exact ⟨by rw [e2]; rfl, fin⟩
      · have hk1 : D1.ks.length ≤ 999001 := by
          have := kA D nNext PK
          rw [Hap.out.1] at this
          have this : D1.ks.length ≤ D.ks.length + 1 := this
          omega
        have hk2 : (D1.sync nNext).2.ks.length ≤ 999002 := Nat.le_trans (kS D1 nNext) (by omega)
        have hk3 : ((D1.sync nNext).2.rename nNext nSnap).2.ks.length ≤ 999003 := Nat.le_trans (kR _ nNext nSnap) (by omega)
        have hG2 := hG1.sync nNext
        have hG3 := hG2.rename nNext nSnap
        have he4 := emL_cut ((D1.sync nNext).2.rename nNext nSnap).2
        go_wp2_with fail
        refine (rd_sync hC4.rd hG1 (by omega) nNext).mono ?_
        rintro e w5 ⟨rfl, hP5⟩
        obtain ⟨v5, hC5⟩ := hC4.step hne.1 hne.2 hy hP5
        have k5 : w5.cell? ⟨y, 0, none⟩ = some (.pointer (some ⟨X, 0, none⟩)) := hC5.blk.cell 0
        have hb5 := Nat.le_trans hbase hC5.chg.size
        clear hC4 hP5 k4 hb4
        generalize (D1.sync nNext).2 = D2 at *
        go_wp2_with fail
        refine (rd_rename hC5.rd hG2 (by omega) hb5 nNext nSnap (by decide)).mono ?_
        rintro e w6 ⟨rfl, hP6⟩
        obtain ⟨v6, hC6⟩ := hC5.step hne.1 hne.2 hy hP6
        clear hC5 hP6 k5 hb5
        have k6 : w6.cell? ⟨y, 0, none⟩ = some (.pointer (some ⟨X, 0, none⟩)) := hC6.blk.cell 0
        generalize (D2.rename nNext nSnap).2 = D3 at *
        go_wp2_with fail
        refine (rd_read hC6.rd hG3 (by omega) nLog).mono ?_
        rintro e w7 ⟨rfl, hw7⟩
        rw [hw7]
        have hC7 := hC6.keep ((Chg.refl _ w6).drew)
        clear hC6 k6 hw7
        cases hf : D3.fl nLog with
        | none =>
          rw [cut_gone hf] at e2 he4
          have fin := hC7.saved he4 hne.1 hne.2 hy
          have m1 : w6.drew.cell? ⟨y, 1, none⟩ = some (.int .i64 age) := hC7.blk.cell 1
          have m2 : w6.drew.cell? ⟨y, 2, none⟩ = some (.int .i64 n) := hC7.blk.cell 2
          have m3 : w6.drew.cell? ⟨y, 3, none⟩ = some (.bool (emL D)) := hC7.blk.cell 3
          have z1 : w6.drew.frozen? ⟨y, 1, none⟩ = false := hC7.blk.frozen 1
          have z2 : w6.drew.frozen? ⟨y, 2, none⟩ = false := hC7.blk.frozen 2
          have z3 : w6.drew.frozen? ⟨y, 3, none⟩ = false := hC7.blk.frozen 3
          generalize w6.drew = w8 at *
          rw [show (none : Option Fil).isSome = false from rfl]
          subst e2
          clear hC7 Hap Hfail
          go_wp2_with fail
          go_ret
          exact ⟨rfl, fin⟩
        | some F =>
          have k7 : w6.drew.cell? ⟨y, 0, none⟩ = some (.pointer (some ⟨X, 0, none⟩)) := hC7.blk.cell 0
          generalize w6.drew = w8 at *
          rw [show (some F).isSome = true from rfl]
          go_wp2_with fail
          refine (rd_cut hC7.rd hG3 (by omega) nLog 0).mono ?_
          rintro e w9 ⟨rfl, hP9⟩
          obtain ⟨v9, hC9⟩ := hC7.step hne.1 hne.2 hy hP9
          have fin := hC9.saved he4 hne.1 hne.2 hy
          have m1 : w9.cell? ⟨y, 1, none⟩ = some (.int .i64 age) := hC9.blk.cell 1
          have m2 : w9.cell? ⟨y, 2, none⟩ = some (.int .i64 n) := hC9.blk.cell 2
          have m3 : w9.cell? ⟨y, 3, none⟩ = some (.bool (emL D)) := hC9.blk.cell 3
          have z1 : w9.frozen? ⟨y, 1, none⟩ = false := hC9.blk.frozen 1
          have z2 : w9.frozen? ⟨y, 2, none⟩ = false := hC9.blk.frozen 2
          have z3 : w9.frozen? ⟨y, 3, none⟩ = false := hC9.blk.frozen 3
          subst e2
          clear hC7 hC9 hP9 k7 Hap Hfail
          go_wp2_with fail
          go_ret
          exact ⟨rfl, fin⟩
end Go.Proofs.Ytpbjompopgdbjaa

namespace Go.Proofs.Ytpbjompopgdbjaa
open Go.RowKit Go.Maps Go.Sort

/-- Open. -/
theorem Pre.reopen2 {D : Dsk} {age : Int} {st recs : List Rec} {sy : Nat} (h : Pre D age st recs sy) : ∃ (so lo : Kept) (tl : List UInt8) (j : Nat) (D' : Dsk), so.ok ∧ lo.ok ∧ so.age = age ∧ so.st = st ∧ File (bsF (D.fl nSnap)) so.rows [] ∧ File (bsF (D.fl nLog)) lo.rows tl ∧
    logRecs so lo = recs.take j ∧ sy ≤ j ∧ j ≤ recs.length ∧ D.opened so lo = D' ∧ Rep D' age st (recs.take j) (recs.take j).length ∧ D'.room = D.room ∧ ((so = none ∧ age = 0 ∧ st = []) ∨ so = some (age, st)) ∧ ((lo = none ∧ recs.take j = []) ∨ lo = some (age, recs.take j)) := by
  have hag := h.ag
  have hagm := h.agm
  have hgen := ok_gen hag (by omega)
  have hso : ∃ so : Kept, so.ok ∧ so.age = age ∧ so.st = st ∧ File (bsF (D.fl nSnap)) so.rows [] ∧ ((so = none ∧ age = 0 ∧ st = []) ∨ so = some (age, st)) := by
    rcases h.snap with ⟨h1, h2, h3⟩ | h1
    · subst h1 h2
      exact ⟨none, fun _ _ e => (by cases e), rfl, rfl, ⟨by rw [h3]; rfl, fun b hb => (by cases hb), .inl rfl⟩, .inl ⟨rfl, rfl, rfl⟩⟩
    · refine ⟨some (age, st), fun a l e => (by cases e; exact ⟨hag, by omega⟩), rfl, rfl, ⟨by rw [h1]; show _ = flat (nb age :: st) ++ []; rw [List.append_nil]; rfl, fun b hb => ?_, .inl rfl⟩, .inr rfl⟩
      rcases List.mem_cons.1 hb with rfl | hb
      · exact hgen
      · exact h.oks b hb
  obtain ⟨so, so1, so2, so3, so4, so5⟩ := hso
  obtain ⟨n, hn, hsy⟩ := h.log
  obtain ⟨k, t, hk, hF, hle, hlt⟩ := flat_cut (nb age :: recs) (fun b hb => by
    rcases List.mem_cons.1 hb with rfl | hb
    · exact hgen
    · exact h.okr b hb) n
  rw [← hn] at hF
  obtain ⟨D1, e1, g1, n1, o1, k1, r1⟩ := remove_next h.good h.ks
  have ol := o1 nLog names_ne.2.2
  have os := o1 nSnap names_ne.2.1
  have fin : ∀ (E : Nat) (recs' : List Rec), E ≤ (bsF (D1.fl nLog)).length → (∀ b ∈ recs', okR b) → (((bsF (D1.fl nLog)).take E = [] ∧ recs' = []) ∨ ((bsF (D1.fl nLog)).take E = flat (nb age :: recs') ∧ E = (flat (nb age :: recs')).length)) →
      ∃ D', (D1.cut nLog (E : Int)).2 = D' ∧ Rep D' age st recs' recs'.length ∧ D'.room = D.room := by
    intro E recs' hE hok hcase
    obtain ⟨D', e2, g2, b2, y2, o2, k2, r2⟩ := cut_log g1 E hE
    refine ⟨D', e2, ⟨g2, hag, hagm, h.oks, hok, ?_, ?_, ⟨Nat.le_refl _, ?_⟩, ?_, fun m hm => ?_⟩, r2.trans r1⟩
    · rw [o2 _ names_ne.1, os]
      exact h.snap
    · rw [b2]
      exact hcase.imp id And.left
    · rw [y2, List.take_length]
      rcases hcase with ⟨_, hc⟩ | ⟨_, hc⟩
      · left; rw [hc]; rfl
      · right; rw [hc]; exact Nat.le_refl _
    · rw [o2 _ (Ne.symm names_ne.2.2)]
      exact n1
    · rcases k2 m hm with hm | hm
      · exact k1 m hm
      · exact .inr hm
  match k, hk, hF, hle, hlt with
  | 0, _, hF, _, hlt =>
    have hs0 : sy = 0 := by
      rcases hsy with h1 | h1
      · exact h1
      · have h2 := hlt (by simp)
        have h3 := flat_take_mono (nb age :: recs.take sy) (i := 1) (j := (nb age :: recs.take sy).length) (by simp)
        rw [List.take_length] at h3
        have e : (nb age :: recs.take sy).take 1 = (nb age :: recs).take (0 + 1) := rfl
        rw [e] at h3
        omega
    obtain ⟨D', q1, q2, q3⟩ := fin 0 [] (Nat.zero_le _) (fun b hb => (by cases hb)) (.inl ⟨rfl, rfl⟩)
    refine ⟨so, none, t, 0, D', so1, fun _ _ e => (by cases e), so2, so3, so4, hF, rfl, by omega, Nat.zero_le _, ?_, q2, q3, so5, .inl ⟨rfl, rfl⟩⟩
    unfold Dsk.opened
    rw [e1]
    exact q1
  | j + 1, hk, hF, _, hlt =>
    have hj : j ≤ recs.length := by rw [List.length_cons] at hk; omega
    have hFe := hF.eq
    have hrows : (nb age :: recs).take (j + 1) = nb age :: recs.take j := rfl
    rw [hrows] at hF hFe
    have hsj : sy ≤ j := by
      rcases Nat.lt_or_ge j sy with h1 | h1
      · exfalso
        have hsl := h.syl
        have h2 := hlt (by rw [List.length_cons]; omega)
        rcases hsy with h3 | h3
        · omega
        · have h4 := flat_take_mono (nb age :: recs) (i := j + 1 + 1) (j := sy + 1) (by omega)
          have e4 : (nb age :: recs).take (sy + 1) = nb age :: recs.take sy := rfl
          rw [e4] at h4
          omega
      · exact h1
    have hEl : (flat (nb age :: recs.take j)).length ≤ (bsF (D1.fl nLog)).length := by rw [ol, hFe, List.length_append]; omega
    obtain ⟨D', q1, q2, q3⟩ := fin (flat (nb age :: recs.take j)).length (recs.take j) hEl (fun b hb => h.okr b (List.mem_of_mem_take hb)) (.inr ⟨by rw [ol, hFe, List.take_left], rfl⟩)
    refine ⟨so, some (age, recs.take j), t, j, D', so1, fun a l e => (by cases e; exact ⟨hag, by omega⟩), so2, so3, so4, hF, ?_, hsj, hj, ?_, q2, q3, so5, .inr rfl⟩
    · show (if age = so.age then _ else _) = _
      rw [if_pos so2.symm]
    · unfold Dsk.opened
      rw [e1, show logEnd so (some (age, recs.take j)) = (flat (nb age :: recs.take j)).length by
        show (if age = so.age then _ else _) = _
        rw [if_pos so2.symm]]
      exact q1

/-- The texts behind the first. -/
theorem TxtO.tail {w : World} {base : Nat} {v : Value} {b : Rec} {l : List Rec} (h : TxtO w base v (b :: l)) (hl : ∀ s ∈ (b :: l), s.length ≤ maxLen) : ∃ ao cp sa sc, v = .slice (some ao) (l.length + 1) cp ∧ (∀ w9, (Instr.slice 30 (.slice (some ao) (l.length + 1) cp) (some (.int .i64 1)) none none).run Try.prog w9 = .ok (.slice sa l.length sc) w9) ∧
    w.cell? ao = some (encStr b) ∧ StrIn w sa l ∧ base ≤ ao.block ∧ ao.block < w.heap.size ∧ ∀ a, sa = some a → a.block = ao.block := by
  obtain ⟨ad, cp, hv, hS, hB⟩ := h.strIn hl
  obtain ⟨_, a, ha, hlt, hc⟩ := hS 0 b rfl
  subst ha
  have hle : l.length + 1 ≤ cp := by
    rw [hv] at h
    rcases h.2 with ⟨e, _⟩ | ⟨g, cap, cur, e, _, _, h1, _⟩
    · cases e
    · cases e; exact h1
  have h0 : w.cell? a = some (encStr b) := by
    have e : a.add 0 = a := by unfold Addr.add; rfl
    rw [e] at hc
    exact hc
  by_cases hcp : cp = 1
  · have hl0 : l = [] := List.eq_nil_of_length_eq_zero (by omega)
    subst hl0
    subst hcp
    refine ⟨a, 1, some a, 0, hv, fun w9 => ?_, h0, fun j s hj => by simp at hj, (hB a rfl).1, hlt, fun a' e => by cases e; rfl⟩
    show (Instr.slice 30 (.slice (some a) 1 1) (some (.int .i64 1)) none none).run Try.prog w9 = .ok (.slice (some a) 0 0) w9
    clear hv h hS hB hc
    go_simp
  · refine ⟨a, cp, some (a.add 1), cp - 1, hv, fun w9 => ?_, h0, fun j s hj => ?_, (hB a rfl).1, hlt, fun a' e => by cases e; unfold Addr.add; rfl⟩
    · clear hv h hS hB hc h0
      generalize l.length = L at *
      go_simp
      try (intro h9; exfalso; omega)
    · obtain ⟨q1, a', q2, q3, q4⟩ := hS (j + 1) s hj
      cases q2
      refine ⟨q1, _, rfl, by show (a.add 1).block < _; rw [show (a.add 1).block = a.block by unfold Addr.add; rfl]; exact q3, ?_⟩
      rw [Go.Deep.add_add, Nat.add_comm]
      exact q4
end Go.Proofs.Ytpbjompopgdbjaa
