/-
  SealKeeps: its walk.
-/
import Derived.Test.YtpbjompopgdbjaaSealK
import Derived.Deep.DeepCutAuto
import Derived.Deep.CutBlock
namespace Go.Proofs.Ytpbjompopgdbjaa
open Go.RowKit Go.Maps

theorem flat_bnd (c : Nat) : ∀ (l : List Rec), (∀ b ∈ l, b.length ≤ c) → (flat l).length ≤ (6 + c) * l.length
  | [], _ => Nat.le_refl _
  | b :: l, h => by
    have h1 := flat_bnd c l (fun x hx => h x (List.mem_cons_of_mem _ hx))
    have h2 := h b (List.mem_cons_self ..)
    rw [flat_cons, List.length_append, frm_len, List.length_cons, Nat.mul_succ]
    omega
/-- What holds ahead of each step. -/
def KeepI (w : World) (g0 d B1 k : Nat) (v11 v12 v13 : Value) (wr : World) : Prop :=
  ∃ (sy age : Nat) (st recs : List Rec) (Pk : Nat → Prop) (ao : Option Addr) (cp : Nat), v13 = .int .i64 sy ∧ v11 = .slice ao st.length cp ∧ StrIn wr ao st ∧ (∀ a, ao = some a → st ≠ [] → Pk a.block ∧ a.block ≠ g0 ∧ ∀ q, v12.ownBlock = some q → a.block ≠ q) ∧ TxtO wr B1 v12 recs ∧ (∀ q, v12.ownBlock = some q → Pk q) ∧ (∀ q, q < w.heap.size → Pk q) ∧
    recs.length ≤ k ∧ age ≤ k ∧ (∀ b ∈ recs, 1 ≤ b.length ∧ b.length ≤ 100) ∧ st.length ≤ 6 ∧ (∀ b ∈ st, 1 ≤ b.length ∧ b.length ≤ 100) ∧ SealW Pk wr g0 d 1000000 age st recs sy ∧ B1 ≤ wr.heap.size ∧ Chg (fun q => ¬ q < w.heap.size) w wr

set_option maxRecDepth 100000 in
set_option maxHeartbeats 4000000 in
theorem skep_walk (w : World) (a0 : Option Addr) (c0 : Nat) (l0 : List LOp) (h0 : LOpsIn w a0 l0) (n1 : Int) (hn1 : -9223372036854775808 ≤ n1 ∧ n1 ≤ 9223372036854775807) :
    Calls Try.prog 3 #[.slice a0 l0.length c0, .int .i64 n1] w fun e w' => e = .returned (.bool true) ∧ Chg (fun _ => False) w w' := by
  have fin : ∀ wq, Chg (fun i => ¬ i < w.heap.size) w wq → Chg (fun _ => False) w wq := fun wq hc => hc.mono (fun i hi h => h hi)
  have told : ∀ wq, Chg (fun i => ¬ i < w.heap.size) w wq → Calls Try.prog 11 #[] wq fun e w' => e = .returned (.bool true) ∧ Chg (fun _ => False) w w' := fun wq hq => (told6 wq).mono (by
    rintro e w' ⟨rfl, hc⟩
    exact ⟨rfl, fin _ (hq.trans hc (fun _ _ h => h.elim))⟩)
  have htold := Lib.hid told
  clear told
  go_enter Try.func3, Try.ntmps3
  go_wp2_with fail
  refine (s_new w 1000000 (by omega)).mono ?_
  rintro e w0 ⟨d, rfl, hD0, hc0⟩
  have hc0 : Chg (fun i => ¬ i < w.heap.size) w w0 := hc0.mono (fun _ _ h => h.elim)
  go_wp2_with fail
  refine (s_open hD0).mono ?_
  rintro e w1 ⟨j, g0, ad1, cp1, ad2, cp2, _, hj, rfl, B, hB, hBg, _, _, hS, hc1⟩
  have hc1 := hc0.trans hc1 (fun i hi hs h => hs h)
  have hj0 : j = 0 := Nat.le_zero.1 hj
  subst hj0
  have hS : SealW (fun i => i < w.heap.size ∨ B i) w1 g0 d 1000000 0 [] [] 0 := hS
  rw [show (([] : List Rec).take 0).length = 0 from rfl, show ([] : List Rec).length = 0 from rfl]
  have hg0 := (hB g0 hBg).1
  have hg1 := (hB g0 hBg).2.2
  obtain ⟨B1, hB1⟩ : ∃ B1, B1 = w1.heap.size := ⟨_, rfl⟩
  have hgB : g0 < B1 := by omega
  have hwB : w.heap.size ≤ B1 := by have := hc1.size; omega
  have hK0 : KeepI w g0 d B1 0 (.slice none 0 0) (.slice none 0 0) (.int .i64 0) w1 :=
    ⟨0, 0, [], [], _, none, 0, rfl, rfl, fun j s hj => by simp at hj, fun a ha => (by cases ha), TxtO.nil _ _, fun q hq => (by simp [Value.ownBlock] at hq), fun q hq => .inl hq, Nat.le_refl _, Nat.le_refl _, fun b hb => (by cases hb), Nat.zero_le _, fun b hb => (by cases hb), hS, by omega, hc1⟩
  clear hS hc1 hc0 hD0 hB1 hg1 hB hBg
  go_upto_block 0 with (fail)
  go_cut [11, 12, 13, 14, 15] (fun v11 v12 v13 _ _ wx => KeepI w g0 d B1 40 v11 v12 v13 wx)
  case first =>
    go_wp2_with fail
    go_loopw [11, 12, 13, 14, 15] (fun v11 v12 v13 v14 _ wr => ∃ k : Nat, v14 = .int .i64 k ∧ k ≤ l0.length ∧ k ≤ 40 ∧ KeepI w g0 d B1 k v11 v12 v13 wr) (fun _ _ _ v14 _ _ => 100 - (RowKit.intOf v14).toNat)
    case atStart => exact ⟨0, rfl, Nat.zero_le _, Nat.zero_le _, hK0⟩
    case round =>
      clear hK0
      obtain ⟨k, rfl, hk1, hk2, sy, age, st, recs, Pk, ao, cp, rfl, rfl, hSt, hSb, hT, hPv, hPw, hrk, hak, hrb, hstl, hsb, hS, hBr, hcr⟩ := hrel
      obtain ⟨at0, ct0, rfl⟩ := hT.slice
      by_cases hlt : k < l0.length ∧ k < 40
      · obtain ⟨hlt1, hlt2⟩ := hlt
        obtain ⟨o, ho⟩ : ∃ o, l0[k]? = some o := ⟨_, List.getElem?_eq_getElem hlt1⟩
        obtain ⟨a, ab, cb, al, cl, rfl, q0, q1, q2, q3, hbm, hnb, hbB, hbL⟩ := h0.at_ hcr (fun i hi h => h hi) ho
        obtain ⟨kd, n, b, l⟩ := o
        simp only at q0 q1 q2 q3 hbm hnb hbB hbL
        have q1 : wr.cell? ⟨(a.add (k * 4)).block, (a.add (k * 4)).off + 1, none⟩ = some (.int .i64 n) := q1
        have q2 : wr.cell? ⟨(a.add (k * 4)).block, (a.add (k * 4)).off + 2, none⟩ = some (.slice ab b.length cb) := q2
        have q3 : wr.cell? ⟨(a.add (k * 4)).block, (a.add (k * 4)).off + 3, none⟩ = some (.slice al l.length cl) := q3
        have hcA : Chg (fun _ => False) wr (wr.alloc (.cells #[.int .i64 kd, .int .i64 n, .slice ab b.length cb, .slice al l.length cl] 33)) := (Chg.refl _ wr).alloc _
        have hE := Blk.new wr 33 #[.int .i64 kd, .int .i64 n, .slice ab b.length cb, .slice al l.length cl]
        have hzA := size_al wr (.cells #[.int .i64 kd, .int .i64 n, .slice ab b.length cb, .slice al l.length cl] 33)
        clear ho
        go_wp2_with fail
        have hOb := Lib.hid hbB
        have hOl := Lib.hid hbL
        have hcrA := hcr.trans hcA (fun _ _ h => h.elim)
        have hLA := hbL.chg hcrA (fun i hi h => h hi)
        have hStA := hSt.keep hcA (fun _ _ _ => id)
        have hTA := hT.chg hcA (fun _ _ _ => id)
        clear hbB hbL hSt hT hcr q0 q1 q2 q3
        generalize wr.alloc (.cells #[.int .i64 kd, .int .i64 n, .slice ab b.length cb, .slice al l.length cl] 33) = wA at *
        generalize hEq : wr.heap.size = E at *
        refine (few_any ⟨kd, n, b, l⟩ cb cl hLA hbm).mono ?_
        rintro e w2 ⟨rfl, hc2⟩
        have hcr2 := hcrA.trans hc2 (fun _ _ h => h.elim)
        cases hf : LOp.few ⟨kd, n, b, l⟩ with
        | false =>
          go_wp2_with fail
          refine (htold.out _ hcr2).mono ?_
          rintro e w3 ⟨rfl, hc3⟩
          go_wp2_with fail
          go_ret
          exact ⟨rfl, hc3⟩
        | true =>
          obtain ⟨hf1, hf2, hf3⟩ := (LOp.few_iff _).1 hf
          simp only at hf1 hf2 hf3
          have Hf3 := Lib.hid hf3
          obtain ⟨P2, hP2⟩ : ∃ P2 : Nat → Prop, P2 = fun q => Pk q ∨ (E ≤ q ∧ q < w2.heap.size) := ⟨_, rfl⟩
          have hz2 := hc2.size
          have hE2 := hE.chg hc2 id
          have hPs : ∀ q, Pk q → P2 q := fun q hq => by rw [hP2]; exact .inl hq
          have hPE : P2 E := by rw [hP2]; exact .inr ⟨Nat.le_refl _, by omega⟩
          have hS2 : SealW P2 w2 g0 d 1000000 age st recs sy := hS.more (hcA.trans hc2 (fun _ _ h => h)) (fun q hq => by
            rw [hP2] at hq
            rcases hq with h | h
            · exact .inl h
            · exact .inr ⟨by omega, h.2⟩) (hPs _ hS.pg)
          have hSt2 := hStA.keep hc2 (fun _ _ _ => id)
          have hT2 := hTA.chg hc2 (fun _ _ _ => id)
          have f0 : w2.cell? ⟨E, 0, none⟩ = some (.int .i64 kd) := hE2.cell 0
          have f2 : w2.cell? ⟨E, 2, none⟩ = some (.slice ab b.length cb) := hE2.cell 2
          have f3 : w2.cell? ⟨E, 3, none⟩ = some (.slice al l.length cl) := hE2.cell 3
          have hEg : E ≠ g0 := by omega
          have hB2 : B1 ≤ w2.heap.size := by omega
          have hPv2 : ∀ q, (Value.slice at0 recs.length ct0).ownBlock = some q → P2 q := fun q hq => hPs q (hPv q hq)
          have hPw2 : ∀ q, q < w.heap.size → P2 q := fun q hq => hPs q (hPw q hq)
          have hSb2 : ∀ a, ao = some a → st ≠ [] → P2 a.block ∧ a.block ≠ g0 ∧ ∀ q, (Value.slice at0 recs.length ct0).ownBlock = some q → a.block ≠ q := fun a ha hn => ⟨hPs _ (hSb a ha hn).1, (hSb a ha hn).2⟩
          have hfs := flat_bnd 100 st (fun x hx => (hsb x hx).2)
          have hfr := flat_bnd 100 recs (fun x hx => (hrb x hx).2)
          have Hfl := Lib.hid (And.intro hfs hfr)
          clear hcA hE hcrA hS hLA hStA hTA hc2 hf hf3 hP2 hPs hPv hPw hSb hz2 hzA hBr hEq hfs hfr
          have trans3 : ∀ w3, Chg (fun i => ¬ P2 i ∨ i = g0) w2 w3 → Chg (fun i => ¬ i < w.heap.size) w w3 ∧ StrIn w3 ao st ∧ TxtO w3 B1 (.slice at0 recs.length ct0) recs ∧ w3.cell? ⟨E, 2, none⟩ = some (.slice ab b.length cb) ∧ w3.cell? ⟨E, 3, none⟩ = some (.slice al l.length cl) ∧ B1 ≤ w3.heap.size := fun w3 hc3 => by
            have hE3 := hE2.chg hc3 (fun hs => by
              rcases hs with hs | hs
              · exact hs hPE
              · exact hEg hs)
            refine ⟨hcr2.trans hc3 (fun q hq hs h => ?_), hSt2.keep hc3 (fun a ha hn hs => ?_), own_chg hT2 hc3 (fun q hq hs => ?_), hE3.cell 2, hE3.cell 3, by have := hc3.size; omega⟩
            · rcases hs with hs | rfl
              · exact hs (hPw2 q h)
              · exact hg0 h
            · rcases hs with hs | hs
              · exact hs (hSb2 a ha hn).1
              · exact (hSb2 a ha hn).2.1 hs
            · rcases hs with hs | rfl
              · exact hs (hPv2 q hq)
              · have := (hT2.block hq).1
                omega
          have Tr := Lib.hid trans3
          clear trans3
          by_cases h0k : kd = 0
          · subst h0k
            by_cases hb0 : b.length < 1
            · go_wp2_with fail
              refine (s_putB hS2 ab b.length cb (.inl hb0) hbm).mono ?_
              rintro e w3 ⟨rfl, rfl⟩
              go_wp2_with fail
              go_roundw
              case rel => exact ⟨k + 1, by go_num, by omega, by omega, sy, age, st, recs, P2, ao, cp, rfl, rfl, hSt2, hSb2, hT2, hPv2, hPw2, by omega, by omega, hrb, hstl, hsb, hS2, hB2, hcr2⟩
              case measure => simp [RowKit.intOf]; omega
            · go_wp2_with fail
              refine (s_put hS2 (hOb.out.chg hcr2 (fun i hi h => h hi)) cb ⟨by omega, by omega⟩ (by omega) ?_).mono ?_
              · have h1 := Hfl.out.1
                have h2 := Hfl.out.2
                omega
              rintro e w3 ⟨rfl, hS3, hc3⟩
              obtain ⟨hcr3, hSt3, hT3, g2, _, hB3⟩ := Tr.out w3 hc3
              have hv := (hOb.out.chg hcr3 (fun i hi h => h hi)).conv b.length (Nat.le_refl _) cb (w' := w3) (fun i _ => rfl)
              rw [List.take_length] at hv
              have hcB : Chg (fun _ => False) w3 (w3.alloc (.cells #[encStr b] 9)) := (Chg.refl _ w3).alloc _
              have HT := Lib.hid (hT3.chg hcB (fun _ _ _ => id))
              have hcell : (w3.alloc (.cells #[encStr b] 9)).cell? ⟨w3.heap.size, 0, none⟩ = some (encStr b) := by rw [(Blk.new w3 _ _).cell]; rfl
              have hcrB := hcr3.trans hcB (fun _ _ h => h.elim)
              have hStB := hSt3.keep hcB (fun _ _ _ => id)
              have hob : ∀ q, (Value.slice at0 recs.length ct0).ownBlock = some q → P2 q ∧ q ≠ g0 ∧ ¬ q < w.heap.size := fun q hq => by
                have := hT3.block hq
                exact ⟨hPv2 q hq, by omega, by omega⟩
              clear hT3 hT2 hSt2 hS2 hE2 f2 f3 hcr2 hSt3 Tr hc3
              go_wp2_with (at_builtin; go_loud (refine wpList_append_txt2 rfl _ _ rfl (by exact HT.out) rfl rfl (by exact hcell) (by rw [size_al]; omega) (by omega) ?_; intro v' w5 hv5 hc5 hvv hnb; obtain ⟨ad5, cp5, rfl⟩ := hvv))
              have hc5 : Chg (fun i => (Value.slice at0 recs.length ct0).ownBlock = some i) (w3.alloc (.cells #[encStr b] 9)) w5 := hc5
              have hcw5 := hcrB.trans hc5 (fun i _ hk => (hob i hk).2.2)
              have hz5 := hc5.size
              rw [size_al] at hz5
              have hSt5 := hStB.keep hc5 (fun a ha hn hs => (hSb2 a ha hn).2.2 _ hs rfl)
              have hS5 : SealW (fun q => P2 q ∨ (w3.heap.size ≤ q ∧ q < w5.heap.size)) w5 g0 d 1000000 age st (recs ++ [b]) sy :=
                hS3.touch ((hcB.mono (fun _ _ h => h.elim)).trans hc5 (fun i _ h => ⟨(hob i h).1, (hob i h).2.1⟩)) (fun _ h => h) (.inl hS3.pg)
              have hPv5 : ∀ q, (Value.slice (some ad5) (recs.length + 1) cp5).ownBlock = some q → (P2 q ∨ (w3.heap.size ≤ q ∧ q < w5.heap.size)) ∧ ∀ a, ao = some a → st ≠ [] → a.block ≠ q := fun q hq => by
                rcases hnb with hn | hn
                · rw [hn] at hq
                  exact ⟨.inl (hob q hq).1, fun a ha hs => (hSb2 a ha hs).2.2 q hq⟩
                · have h2 := (hv5.block hq).2
                  rw [hn] at hq
                  cases hq
                  have hlt : ∀ a, ao = some a → st ≠ [] → a.block < (w3.alloc (.cells #[encStr b] 9)).heap.size := fun a ha hs => hStB.lt ha hs
                  rw [size_al] at h2 hlt ⊢
                  exact ⟨.inr ⟨by omega, h2⟩, fun a ha hs he => by have := hlt a ha hs; omega⟩
              go_roundw
              case rel => exact ⟨k + 1, by go_num, by omega, by omega, sy, age, st, recs ++ [b], _, ao, cp, rfl, rfl, hSt5, fun a ha hn => ⟨.inl (hSb2 a ha hn).1, (hSb2 a ha hn).2.1, fun q hq => (hPv5 q hq).2 a ha hn⟩, hv5, fun q hq => (hPv5 q hq).1, fun q hq => .inl (hPw2 q hq), by rw [List.length_append]; show _ + 1 ≤ _; omega, by omega, fun x hx => by
                  rcases List.mem_append.1 hx with hx | hx
                  · exact hrb x hx
                  · simp at hx; subst hx; exact ⟨by omega, hf1⟩, hstl, hsb, hS5, by omega, hcw5⟩
              case measure => simp [RowKit.intOf]; omega
          by_cases h1k : kd = 1
          · subst h1k
            go_wp2_with fail
            refine (s_sync hS2).mono ?_
            rintro e w3 ⟨rfl, hS3, hc3⟩
            obtain ⟨hcr3, hSt3, hT3, _, _, hB3⟩ := Tr.out w3 (hc3.mono (fun _ _ h => .inl h))
            clear hT2 hSt2 hS2 hE2 f2 f3 hcr2 Tr hc3
            go_wp2_with fail
            go_roundw
            case rel => exact ⟨k + 1, by go_num, by omega, by omega, recs.length, age, st, recs, P2, ao, cp, rfl, rfl, hSt3, hSb2, hT3, hPv2, hPw2, by omega, by omega, hrb, hstl, hsb, hS3, hB3, hcr3⟩
            case measure => simp [RowKit.intOf]; omega
          by_cases h2k : kd = 2
          · subst h2k
            by_cases hok : ∀ x ∈ l, 1 ≤ x.length
            · have Hok := Lib.hid hok
              clear hok
              go_wp2_with fail
              refine (s_save hS2 (hOl.out.chg hcr2 (fun i hi h => h hi)) cl (by omega) (fun x hx => ⟨Hok.out x hx, by have := Hf3.out x hx; omega⟩) (by omega) ?_).mono ?_
              · have h1 := Hfl.out.1
                have h2 := Hfl.out.2
                have h3 := flat_bnd 100 l (fun x hx => Hf3.out x hx)
                omega
              rintro e w3 ⟨rfl, hS3, hc3⟩
              obtain ⟨hcr3, _, _, _, g3, hB3⟩ := Tr.out w3 hc3
              clear hT2 hSt2 hS2 hE2 f2 f3 hcr2 Tr hc3
              go_wp2_with fail
              refine (texts_any (hOl.out.chg hcr3 (fun i hi h => h hi)) cl (by omega)).mono ?_
              rintro e w4 ⟨ao4, cp4, rfl, hSt4, hb4, hc4⟩
              have hcr4 := hcr3.trans hc4 (fun _ _ h => h.elim)
              have hz4 := hc4.size
              have hS4 : SealW (fun q => P2 q ∨ (w3.heap.size ≤ q ∧ q < w4.heap.size)) w4 g0 d 1000000 ((age + 1 : Nat) : Int) l [] 0 := by
                have e : ((age + 1 : Nat) : Int) = (age : Int) + 1 := by omega
                rw [e]
                exact hS3.more hc4 (fun _ h => h) (.inl hS3.pg)
              clear hS3 hc4 hcr3
              go_wp2_with fail
              go_roundw
              case rel => exact ⟨k + 1, by go_num, by omega, by omega, 0, age + 1, l, [], _, ao4, cp4, rfl, rfl, hSt4, fun a ha hn => ⟨.inr ⟨hb4 a ha, hSt4.lt ha hn⟩, fun he => (by have := hb4 a ha; omega), fun q hq => (by simp [Value.ownBlock] at hq)⟩, TxtO.nil _ _, fun q hq => (by simp [Value.ownBlock] at hq), fun q hq => .inl (hPw2 q hq), Nat.zero_le _, by omega, fun b hb => (by cases hb), hf2, fun x hx => ⟨Hok.out x hx, Hf3.out x hx⟩, hS4, by omega, hcr4⟩
              case measure => simp [RowKit.intOf]; omega
            · have hbad : ∃ x, x ∈ l ∧ ¬ okR x := by
                apply Classical.byContradiction
                intro hn
                exact hok (fun x hx => (Classical.byContradiction (fun h => hn ⟨x, hx, fun ho => h ho.1⟩) : 1 ≤ x.length))
              clear hok
              have Hbad := Lib.hid hbad
              clear hbad
              go_wp2_with fail
              refine (s_saveB hS2 (hOl.out.chg hcr2 (fun i hi h => h hi)) cl (by omega) Hbad.out).mono ?_
              rintro e w3 ⟨rfl, hc3⟩
              obtain ⟨hcr3, hSt3, hT3, _, _, hB3⟩ := Tr.out w3 (hc3.mono (fun _ _ h => h.elim))
              have hS3 := hS2.keep hc3
              clear hT2 hSt2 hS2 hE2 f2 f3 hcr2 Tr hc3
              go_wp2_with fail
              go_roundw
              case rel => exact ⟨k + 1, by go_num, by omega, by omega, sy, age, st, recs, P2, ao, cp, rfl, rfl, hSt3, hSb2, hT3, hPv2, hPw2, by omega, by omega, hrb, hstl, hsb, hS3, hB3, hcr3⟩
              case measure => simp [RowKit.intOf]; omega
          · go_wp2_with fail
            go_roundw
            case rel => exact ⟨k + 1, by go_num, by omega, by omega, sy, age, st, recs, P2, ao, cp, rfl, rfl, hSt2, hSb2, hT2, hPv2, hPw2, by omega, by omega, hrb, hstl, hsb, hS2, hB2, hcr2⟩
            case measure => simp [RowKit.intOf]; omega
      · go_wp2_with fail
        all_goals
          go_meet
          case rel => exact ⟨sy, age, st, recs, Pk, ao, cp, rfl, rfl, hSt, hSb, hT, hPv, hPw, by omega, by omega, hrb, hstl, hsb, hS, hBr, hcr⟩
  case rest =>
    clear hK0
    obtain ⟨sy, age, st, recs, Pk, ao, cp, rfl, rfl, hSt, hSb, hT, hPv, hPw, hrk, hak, hrb, hstl, hsb, hS, hBr, hcr⟩ := hcut
    obtain ⟨at0, ct0, rfl⟩ := hT.slice
    have hfs := flat_bnd 100 st (fun x hx => (hsb x hx).2)
    have hfr := flat_bnd 100 recs (fun x hx => (hrb x hx).2)
    have Hfl := Lib.hid (And.intro hfs hfr)
    have Hrb := Lib.hid hrb
    clear hfs hfr hrb hsb
    go_wp2_with fail
    refine (s_crash hS n1 hn1).mono ?_
    rintro e w3 ⟨rfl, hP3, hc3⟩
    have hcr3 := hcr.trans hc3 (fun q hq hs h => hs (hPw q h))
    have hSt3 := hSt.keep hc3 (fun a ha hn hs => hs (hSb a ha hn).1)
    have hT3 : TxtO w3 B1 _ recs := own_chg hT hc3 (fun q hq hs => hs (hPv q hq))
    clear hS hcr hSt hT hc3
    go_wp2_with fail
    refine (s_open hP3).mono ?_
    rintro e w4 ⟨j, g2, ad3, cp3, ad4, cp4, hj1, hj2, rfl, B2, hB2, hg2B, hr4, hq4, hS4, hc4⟩
    have hjl : (recs.take j).length = j := by rw [List.length_take]; omega
    have hcr4 := hcr3.trans hc4 (fun q hq hs h => hs (hPw q h))
    have hSt4 := hSt3.keep hc4 (fun a ha hn hs => hs (hSb a ha hn).1)
    have hT4 : TxtO w4 B1 _ recs := own_chg hT3 hc4 (fun q hq hs => hs (hPv q hq))
    obtain ⟨ta, tc, eT, hTs, _⟩ := hT4.strIn (fun b hb => by have := (Hrb.out b hb).2; unfold maxLen; omega)
    cases eT
    have hcap := hT4.cap
    rw [hjl]
    rw [hjl] at hS4
    obtain ⟨R, hR⟩ : ∃ R, recs.take j = R := ⟨_, rfl⟩
    have hRf : (flat R).length ≤ (flat recs).length := by
      have := flat_take_mono recs (i := j) (j := recs.length) hj2
      rw [List.take_length, hR] at this
      exact this
    have hTs := hTs.take j
    rw [hR] at hjl hq4 hS4 hTs
    have hg2P := (hB2 g2 hg2B).1
    have Hj := Lib.hid (And.intro hj1 hj2)
    have hj3 : ¬ ((j : Int) < sy) := by omega
    have hj4 : ¬ ((recs.length : Int) < j) := by omega
    clear hP3 hcr3 hSt3 hT3 hc4 hT4 hR hj1 hj2
    go_wp2_with fail
    refine (Texts_eq hr4.rowsB hSt4 _ _ (by omega)).mono ?_
    rintro e w5 ⟨rfl, hc5⟩
    have hcr5 := hcr4.trans hc5 (fun _ _ h => h.elim)
    have hSt5 := hSt4.keep hc5 (fun _ _ _ => id)
    have hTs5 := hTs.keep hc5 (fun _ _ _ => id)
    have hq5 := hq4.chg hc5 (fun _ _ => id)
    have hS5 := hS4.keep hc5
    clear hcr4 hSt4 hTs hr4 hq4 hS4 hc5
    have heq := fun c1 c2 => Texts_eq hq5.rowsB hTs5 c1 c2 (by omega)
    rw [hjl] at heq
    have Heq := Lib.hid heq
    clear heq
    go_wp2_with fail
    refine (Heq.out _ _).mono ?_
    rintro e w6 ⟨rfl, hc6⟩
    have hcr6 := hcr5.trans hc6 (fun _ _ h => h.elim)
    have hSt6 := hSt5.keep hc6 (fun _ _ _ => id)
    have hS6 := hS5.keep hc6
    clear Heq hcr5 hSt5 hTs5 hq5 hS5 hc6 hcap
    have hcv : (convert 31 31 (.slice (some ⟨w6.heap.size, 0, none⟩) 4 4)).run Try.prog (w6.alloc (.cells #[.int .u8 109, .int .u8 111, .int .u8 114, .int .u8 101] 5)) = .ok (.slice (some ⟨w6.heap.size, 0, none⟩) 4 4) (w6.alloc (.cells #[.int .u8 109, .int .u8 111, .int .u8 114, .int .u8 101] 5 (4, 5))) :=
      Lib.run_convert_bytes_const w6 _ _ _ 4 4 Try.underlying31 Try.underlying5
    have hcA : Chg (fun _ => False) w6 (w6.alloc (.cells #[.int .u8 109, .int .u8 111, .int .u8 114, .int .u8 101] 5 (4, 5))) := (Chg.refl _ w6).alloc _
    have hRA := (rowB_const w6 [109, 111, 114, 101] (by decide) #[.int .u8 109, .int .u8 111, .int .u8 114, .int .u8 101] (4, 5) rfl).byt
    have hS6 := hS6.keep hcA
    have hSt6 := hSt6.keep hcA (fun _ _ _ => id)
    have hcr6 := hcr6.trans hcA (fun _ _ h => h.elim)
    go_wp2_with fail
    generalize w6.alloc (.cells #[.int .u8 109, .int .u8 111, .int .u8 114, .int .u8 101] 5 (4, 5)) = wA at *
    refine (s_put hS6 hRA _ ⟨by decide, by decide⟩ (by omega) ?_).mono ?_
    · have h1 := Hfl.out.1
      have h2 := Hfl.out.2
      have h4 : ([109, 111, 114, 101] : List UInt8).length = 4 := rfl
      omega
    rintro e w7 ⟨rfl, hS7, hc7⟩
    have hcr7 := hcr6.trans hc7 (fun q hq hs h => by
      rcases hs with hs | rfl
      · exact hs (.inl (hPw q h))
      · exact hg2P (hPw _ h))
    have hSt7 := hSt6.keep hc7 (fun a ha hn hs => by
      rcases hs with hs | hs
      · exact hs (.inl (hSb a ha hn).1)
      · exact hg2P (by rw [← hs]; exact (hSb a ha hn).1))
    clear hcv hcA hRA hS6 hSt6 hcr6 hc7
    go_wp2_with fail
    refine (s_sync hS7).mono ?_
    rintro e w8 ⟨rfl, hS8, hc8⟩
    have hcr8 := hcr7.trans hc8 (fun q hq hs h => hs (.inl (hPw q h)))
    have hSt8 := hSt7.keep hc8 (fun a ha hn hs => hs (.inl (hSb a ha hn).1))
    clear hS7 hSt7 hcr7 hc8
    go_wp2_with fail
    refine (s_crash hS8 0 (by omega)).mono ?_
    rintro e w9 ⟨rfl, hP9, hc9⟩
    have hcr9 := hcr8.trans hc9 (fun q hq hs h => hs (.inl (hPw q h)))
    have hSt9 := hSt8.keep hc9 (fun a ha hn hs => hs (.inl (hSb a ha hn).1))
    clear hS8 hSt8 hcr8 hc9
    go_wp2_with fail
    refine (s_open hP9).mono ?_
    rintro e wa ⟨j2, g3, ad5, cp5, ad6, cp6, hi1, hi2, rfl, B3, hB3, _, hr, hz, _, hc⟩
    have hln : (R ++ [[109, 111, 114, 101]]).length = j + 1 := by rw [List.length_append, hjl]; rfl
    have hj2 : j2 = (R ++ [[109, 111, 114, 101]]).length := by omega
    subst hj2
    rw [List.take_length] at hz
    have hln2 : (List.take (R ++ [[109, 111, 114, 101]]).length (R ++ [[109, 111, 114, 101]])).length = j + 1 := by rw [List.take_length, hln]
    rw [hln2]
    have hcra := hcr9.trans hc (fun q hq hs h => hs (.inl (hPw q h)))
    have hSta := hSt9.keep hc (fun a ha hn hs => hs (.inl (hSb a ha hn).1))
    clear hP9 hSt9 hcr9 hc hln2 hln hi1 hi2
    go_wp2_with fail
    refine (told6 wa).mono ?_
    rintro e wb ⟨rfl, hcb⟩
    have hcrb := hcra.trans hcb (fun _ _ h => h.elim)
    have hStb := hSta.keep hcb (fun _ _ _ => id)
    have hrb := hr.chg hcb (fun _ _ => id)
    have hzb := hz.chg hcb (fun _ _ => id)
    clear hcra hSta hr hz hcb
    go_wp2_with fail
    refine (Texts_eq hrb.rowsB hStb _ _ (by omega)).mono ?_
    rintro e wc2 ⟨rfl, hcc⟩
    have hcrc := hcrb.trans hcc (fun _ _ h => h.elim)
    have hzc := hzb.chg hcc (fun _ _ => id)
    clear hcrb hStb hrb hzb hcc
    obtain ⟨aa, az, oa, ca, ra, rfl, _, _, m0, hRa, _, _⟩ := hzc j [109, 111, 114, 101] (by rw [List.getElem?_append_right (by omega), hjl, Nat.sub_self]; rfl)
    have v1 : (convert 31 9 (.slice az 4 ca)).run Try.prog wc2 = .ok (.string ⟨#[109, 111, 114, 101]⟩) wc2 := conv_str hRa
    have m0 : wc2.cell? (aa.add j) = some (.slice az 4 ca) := m0
    clear hzc hRa hjl
    go_wp2_with fail
    go_ret
    exact ⟨rfl, fin _ hcrc⟩
end Go.Proofs.Ytpbjompopgdbjaa
