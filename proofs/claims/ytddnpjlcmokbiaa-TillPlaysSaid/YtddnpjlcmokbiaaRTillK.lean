/-
  till: bytes as a string, what may not be; the reference's till: Bytes; how many answers there are.
-/
import Derived.Test.YtddnpjlcmokbiaaRTillN
import Derived.Test.YtddnpjlcmokbiaaRTabK
import Derived.Test.YtddnpjlcmokbiaaRPurG
import Derived.Test.YtddnpjlcmokbiaaTillG
import Derived.Test.YtddnpjlcmokbiaaTillB
import Derived.Test.YtddnpjlcmokbiaaPurseF
namespace Go.Proofs.Ytddnpjlcmokbiaa
open Go.RowKit Go.Maps

theorem tabB_len {f : Tab} (hA : Ans f) : (tabB f).length ≤ 40000 := by
  unfold tabB
  rw [List.length_append, ← tkB_all]
  have h1 := tkB_len hA 1200 (Nat.le_refl _)
  have h2 := tkeys_len f
  have h3 := nb_len (v := ((tkeys f).length : Int)) (by omega)
  omega
theorem tillB_ne (p : Pur) (f : Tab) : tillB p f ≠ [] := by
  unfold tillB
  intro h
  exact p.bytes_ne (List.append_eq_nil_iff.1 h).1
theorem TillW.keys {S : Nat → Prop} {w : World} {b : Nat} {p : Pur} {f : Tab} (h : TillW S w b p f) : ∀ p, f p ≠ 0 → (1 ≤ p.1 ∧ p.1 ≤ 200) ∧ (1 ≤ p.2 ∧ p.2 ≤ 6) := by
  obtain ⟨lb, mb, lv, t, mt, h1, h2, h3, _⟩ := h
  exact h3.keys

theorem till_bytesG {S : Nat → Prop} {w : World} {b : Nat} {p : Pur} {f : Tab} {T : Int} (hW : TillW S w b p f) (hG : p.Good T) (hT : T ≤ 1125899906842624) (hA : Ans f) :
    Calls Try.prog 19 #[.pointer (some ⟨b, 0, none⟩)] w fun e w' => ∃ g n cap, e = .returned (.slice (some ⟨g, 0, none⟩) n cap) ∧ g < w'.heap.size ∧
      (∀ w9 : World, w9.heap[g]? = w'.heap[g]? → (convert 58 9 (.slice (some ⟨g, 0, none⟩) n cap)).run Try.prog w9 = .ok (.string (bstr (tillB p f))) w9) ∧ Chg (fun _ => False) w w' := by
  refine (till_bytes hW hG hT hA).mono ?_
  rintro e w' ⟨v, rfl, hown, hc⟩
  obtain ⟨g, cap, rfl, _, hlt, hcell⟩ := bytes_cells hown (tillB_ne p f)
  refine ⟨g, _, cap, rfl, hlt, fun w9 h9 => bytes_str (fun j u hj => ?_), hc⟩
  have h1 := hcell j u hj
  have hb : ((⟨g, 0, none⟩ : Addr).add j).block = g := by unfold Addr.add; split <;> rfl
  exact (World.cell?_of_block (by rw [hb]; exact h9)).trans h1

theorem till_ans {S : Nat → Prop} {w : World} {b : Nat} {p : Pur} {f : Tab} (hW : TillW S w b p f) :
    Calls Try.prog 17 #[.pointer (some ⟨b, 0, none⟩)] w fun e w' => e = .returned (.int .i64 (tkeys f).length) ∧ w' = w :=
  till_answers hW (tkeys f) (tkeys_nodup f) (tkeys_ne hW.keys)

set_option maxRecDepth 100000 in
set_option maxHeartbeats 1000000 in
theorem rl_bytes {w : World} {x : Nat} {lv : Value} {p : Pur} {f : Tab} {c T : Int} (h : RTillAt w x lv p f c) (hG : p.Good T) (hT : T ≤ 1125899906842624) (hA : Ans f) (hc : c = (tkeys f).length) :
    Calls Try.prog 20 #[.pointer (some ⟨x, 0, none⟩)] w fun e w' => e = .returned (.string (bstr (tillB p f))) ∧ Chg (fun _ => False) w w' := by
  have hl1 := Pur.bytes_len hG hT hG.key
  have hl2 := tabB_len hA
  have z1 : (bstr p.bytes).size ≤ 9000 := by rw [bstr_size]; exact hl1
  have z2 : (bstr (tabB f)).size ≤ 40000 := by rw [bstr_size]; exact hl2
  have hd := (Chg.refl (fun _ => False) w).drew
  have hX := h.chg hd id (fun _ _ => id)
  have h1 := Lib.hid (rq_bytes hX.purse.blk hG hT)
  have h2 := Lib.hid (fun w9 (h9 : Chg (fun _ => False) w w9) => rt_bytes (h.chg h9 id (fun _ _ => id)).table hA hc)
  have hs := bstr_append p.bytes (tabB f)
  have hsh := Lib.hid hs
  clear hl1 hl2 hX hs hc
  go_enter Try.func20, Try.ntmps20
  go_wp2_with fail
  refine wp_region_plan (by kernel_rfl) [{ fl := [0, 1, 2, 4, 5, 6], ef := 3 }, { fl := [], ef := 7 }] [8, 9] (by kernel_rfl) (fun _ _ => True) ?_
  simp only [wpPlan, longOK, keepOK, opsAt_cons, opsAt_nil, consO_some, List.getElem?_toArray, List.getElem?_cons_succ, List.getElem?_cons_zero, and_true, true_and]
  go_wp2_with fail
  refine ⟨by kernel_rfl, ?_⟩
  go_wp2_with fail
  refine h1.out.mono ?_
  rintro e w2 ⟨rfl, hc2⟩
  have hc2 := hd.trans hc2 (fun _ _ h => h)
  go_wp2_with fail
  refine ⟨by kernel_rfl, ?_⟩
  go_wp2_with fail
  refine (h2.out w2 hc2).mono ?_
  rintro e w3 ⟨rfl, hc3⟩
  go_wp2_with fail
  refine ⟨by kernel_rfl, ?_⟩
  go_wp2_with fail
  go_ret
  refine ⟨?_, hc2.trans hc3 (fun _ _ h => h)⟩
  rw [hsh.out]
  rfl

set_option maxRecDepth 100000 in
set_option maxHeartbeats 4000000 in
theorem purse_bad (w : World) (a b c d : Int) (h : (inF a && inF b && inF c && inF d) = false) :
    Calls Try.prog 5 #[.agg #[.int .i64 a, .int .i64 b, .int .i64 c, .int .i64 d]] w fun e w' => e = .returned (.tuple #[.pointer none, .int .i64 1]) ∧ Chg (fun _ => False) w w' := by
  have hmm := @run_makeMap Try.prog
  have i0 : ∀ w1, (Instr.index 22 (.agg #[.int .i64 a, .int .i64 b, .int .i64 c, .int .i64 d]) (.int .i64 0)).run Try.prog w1 = .ok (.int .i64 a) w1 := fun w1 => by kernel_rfl
  have i1 : ∀ w1, (Instr.index 22 (.agg #[.int .i64 a, .int .i64 b, .int .i64 c, .int .i64 d]) (.int .i64 1)).run Try.prog w1 = .ok (.int .i64 b) w1 := fun w1 => by kernel_rfl
  have i2 : ∀ w1, (Instr.index 22 (.agg #[.int .i64 a, .int .i64 b, .int .i64 c, .int .i64 d]) (.int .i64 2)).run Try.prog w1 = .ok (.int .i64 c) w1 := fun w1 => by kernel_rfl
  have i3 : ∀ w1, (Instr.index 22 (.agg #[.int .i64 a, .int .i64 b, .int .i64 c, .int .i64 d]) (.int .i64 3)).run Try.prog w1 = .ok (.int .i64 d) w1 := fun w1 => by kernel_rfl
  have hcc : ∀ o1 o2 o3, Chg (fun _ => False) w (((w.alloc o1).alloc o2).alloc o3) := fun _ _ _ => (((Chg.refl _ w).alloc _).alloc _).alloc _
  have hch := Lib.hid hcc
  clear hcc
  by_cases ha : a < 0 ∨ 1099511627776 < a
  · skip
    clear h
    rcases ha with ha | ha
    all_goals
      go_enter Try.func5, Try.ntmps5
      go_wp2
      refine wp_loop_rounds 5 ?_
      rw [rounds_succ]; go_wp2
      go_ret2
      exact ⟨rfl, hch.out _ _ _⟩
  by_cases hb : b < 0 ∨ 1099511627776 < b
  · skip
    have ha1 : 0 ≤ a ∧ a ≤ 1099511627776 := by omega
    obtain ⟨ha1, ha2⟩ := ha1
    clear h ha
    rcases hb with hb | hb
    all_goals
      go_enter Try.func5, Try.ntmps5
      go_wp2
      refine wp_loop_rounds 5 ?_
      rw [rounds_succ]; go_wp2
      rw [rounds_succ]; go_wp2
      go_ret2
      exact ⟨rfl, hch.out _ _ _⟩
  by_cases hc : c < 0 ∨ 1099511627776 < c
  · skip
    have ha1 : 0 ≤ a ∧ a ≤ 1099511627776 := by omega
    obtain ⟨ha1, ha2⟩ := ha1
    have hb1 : 0 ≤ b ∧ b ≤ 1099511627776 := by omega
    obtain ⟨hb1, hb2⟩ := hb1
    clear h ha hb
    rcases hc with hc | hc
    all_goals
      go_enter Try.func5, Try.ntmps5
      go_wp2
      refine wp_loop_rounds 5 ?_
      rw [rounds_succ]; go_wp2
      rw [rounds_succ]; go_wp2
      rw [rounds_succ]; go_wp2
      go_ret2
      exact ⟨rfl, hch.out _ _ _⟩
  · have hd : d < 0 ∨ 1099511627776 < d := by unfold inF at h; simp at h; omega
    have ha1 : 0 ≤ a ∧ a ≤ 1099511627776 := by omega
    obtain ⟨ha1, ha2⟩ := ha1
    have hb1 : 0 ≤ b ∧ b ≤ 1099511627776 := by omega
    obtain ⟨hb1, hb2⟩ := hb1
    have hc1 : 0 ≤ c ∧ c ≤ 1099511627776 := by omega
    obtain ⟨hc1, hc2⟩ := hc1
    clear h ha hb hc
    rcases hd with hd | hd
    all_goals
      go_enter Try.func5, Try.ntmps5
      go_wp2
      refine wp_loop_rounds 5 ?_
      rw [rounds_succ]; go_wp2
      rw [rounds_succ]; go_wp2
      rw [rounds_succ]; go_wp2
      rw [rounds_succ]; go_wp2
      go_ret2
      exact ⟨rfl, hch.out _ _ _⟩

set_option maxRecDepth 100000 in
theorem tillNew_no (w : World) (a b c d : Int) (h : (inF a && inF b && inF c && inF d) = false) :
    Calls Try.prog 13 #[.agg #[.int .i64 a, .int .i64 b, .int .i64 c, .int .i64 d]] w fun e w' => e = .returned (.tuple #[.pointer none, .int .i64 1]) ∧ Chg (fun _ => False) w w' := by
  have hh := Lib.hid h
  clear h
  have hcA := (Chg.refl (fun _ => False) w).alloc (.cells #[.int .i64 a, .int .i64 b, .int .i64 c, .int .i64 d] 22)
  go_enter Try.func13, Try.ntmps13
  go_wp2_with fail
  refine (purse_bad _ a b c d hh.out).mono ?_
  rintro e w1 ⟨rfl, hc1⟩
  go_wp2_with fail
  go_ret2
  exact ⟨rfl, hcA.trans hc1 (fun _ _ h => h)⟩

theorem upd_keys {f : Tab} (hk : ∀ p, f p ≠ 0 → (1 ≤ p.1 ∧ p.1 ≤ 200) ∧ (1 ≤ p.2 ∧ p.2 ≤ 6)) {p : Int × Int} (hp : (1 ≤ p.1 ∧ p.1 ≤ 200) ∧ (1 ≤ p.2 ∧ p.2 ≤ 6)) (h0 : f p = 0) {a : Int} (ha : a ≠ 0) :
    (tkeys (upd f p a)).length = (tkeys f).length + 1 := by
  have hk2 : ∀ q, upd f p a q ≠ 0 → (1 ≤ q.1 ∧ q.1 ≤ 200) ∧ (1 ≤ q.2 ∧ q.2 ≤ 6) := fun q hq => by
    by_cases e : q = p
    · subst e; exact hp
    · rw [upd_other _ _ _ _ e] at hq; exact hk q hq
  have hperm : (tkeys (upd f p a)).Perm (p :: tkeys f) := by
    refine (List.perm_ext_iff_of_nodup (tkeys_nodup _) (List.nodup_cons.2 ⟨fun h => (tkeys_ne hk p).1 h h0, tkeys_nodup f⟩)).2 fun q => ?_
    rw [tkeys_ne hk2, List.mem_cons, tkeys_ne hk]
    by_cases e : q = p
    · subst e; simp [upd_same, ha]
    · simp [upd_other _ _ _ _ e, e]
  have := hperm.length_eq
  simpa using this
theorem tAsk_cnt {p : Pur} {f : Tab} {o : POp} {r : Int} {n : Bool} {p' : Pur} {f' : Tab} (hk : ∀ p, f p ≠ 0 → (1 ≤ p.1 ∧ p.1 ≤ 200) ∧ (1 ≤ p.2 ∧ p.2 ≤ 6)) (h : tAsk p f o = (r, n, p', f')) :
    ((tkeys f').length : Int) = if n = true then ((tkeys f).length : Int) + 1 else (tkeys f).length := by
  unfold tAsk at h
  split at h
  · cases h; rfl
  · rename_i h1
    split at h
    · cases h; rfl
    · rename_i h2
      cases h
      have hm : mayOp o = true := by
        cases hm : mayOp o with
        | true => rfl
        | false => exact absurd (.inl hm) h1
      have := upd_keys hk (p := (o.bk, o.kd)) ⟨mayOp_bk hm, mayOp_kd hm⟩ (by simpa using h2) (a := (p.act o).1) (by have := p.act_res2 o; omega)
      rw [if_pos rfl]
      omega
theorem tAsk_ans {p : Pur} {f : Tab} {o : POp} {r : Int} {n : Bool} {p' : Pur} {f' : Tab} (hA : Ans f) (h : tAsk p f o = (r, n, p', f')) : Ans f' := by
  unfold tAsk at h
  split at h
  · cases h; exact hA
  · split at h
    · cases h; exact hA
    · cases h
      intro q
      by_cases e : q = (o.bk, o.kd)
      · subst e
        rw [upd_same]
        exact .inr (p.act_res2 o)
      · rw [upd_other _ _ _ _ e]
        exact hA q
end Go.Proofs.Ytddnpjlcmokbiaa
