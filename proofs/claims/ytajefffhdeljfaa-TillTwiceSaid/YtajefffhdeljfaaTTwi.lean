/-
  layer 13: what comes again is answered as it was.
-/
import Derived.Test.YtajefffhdeljfaaTillG
import Derived.Test.YtajefffhdeljfaaRefI
import Derived.Test.YtajefffhdeljfaaTillT
import Derived.Test.YtajefffhdeljfaaInts
import Derived.Test.YtajefffhdeljfaaArrG
import Derived.Deep.DeepCutAuto
import Derived.Deep.CutBlock
namespace Go.Proofs.Ytajefffhdeljfaa
open Go.RowKit Go.Maps

theorem rep_self {p p' : Pur} {f f' : Tab} {o : POp} {r : Int} {n : Bool} (h : tAsk p f o = (r, n, p', f')) : tAsk p' f' o = (r, false, p', f') := by
  by_cases hno : mayOp o = false ∨ o.kd < 4
  · rw [tAsk_no hno] at h
    cases h
    exact tAsk_no hno
  · have hm : mayOp o = true := by
      cases hm : mayOp o with
      | true => rfl
      | false => exact absurd (.inl hm) hno
    have h4 : 4 ≤ o.kd := by omega
    by_cases hf : f (o.bk, o.kd) = 0
    · rw [tAsk_new hm h4 hf] at h
      cases h
      have hr := p.act_res2 o
      have hu : upd f (o.bk, o.kd) (p.act o).1 (o.bk, o.kd) = (p.act o).1 := upd_same _ _ _
      rw [tAsk_old hm h4 (by rw [hu]; omega), hu]
    · rw [tAsk_old hm h4 hf] at h
      cases h
      exact tAsk_old hm h4 hf
theorem rep_keep {p p' : Pur} {f f' : Tab} {o o' : POp} {r a : Int} {n : Bool} (h : tAsk p f o = (r, n, p', f')) (h' : tAsk p f o' = (a, false, p, f)) : tAsk p' f' o' = (a, false, p', f') := by
  by_cases hno' : mayOp o' = false ∨ o'.kd < 4
  · rw [tAsk_no hno'] at h' ⊢
    cases h'
    rfl
  · have hm' : mayOp o' = true := by
      cases hm : mayOp o' with
      | true => rfl
      | false => exact absurd (.inl hm) hno'
    have h4' : 4 ≤ o'.kd := by omega
    by_cases hf' : f (o'.bk, o'.kd) = 0
    · rw [tAsk_new hm' h4' hf'] at h'
      cases h'
    · rw [tAsk_old hm' h4' hf'] at h'
      have ha : f (o'.bk, o'.kd) = a := by simpa using congrArg Prod.fst h'
      by_cases hno : mayOp o = false ∨ o.kd < 4
      · rw [tAsk_no hno] at h
        cases h
        rw [tAsk_old hm' h4' hf', ha]
      · have hm : mayOp o = true := by
          cases hm : mayOp o with
          | true => rfl
          | false => exact absurd (.inl hm) hno
        have h4 : 4 ≤ o.kd := by omega
        by_cases hf : f (o.bk, o.kd) = 0
        · rw [tAsk_new hm h4 hf] at h
          cases h
          have hne : (o'.bk, o'.kd) ≠ (o.bk, o.kd) := fun e => hf' (by rw [e]; exact hf)
          have hu : upd f (o.bk, o.kd) (p.act o).1 (o'.bk, o'.kd) = f (o'.bk, o'.kd) := upd_other _ _ _ _ hne
          rw [tAsk_old hm' h4' (by rw [hu]; exact hf'), hu, ha]
        · rw [tAsk_old hm h4 hf] at h
          cases h
          rw [tAsk_old hm' h4' hf', ha]
theorem ans_ask {p p' : Pur} {f f' : Tab} {o : POp} {r : Int} {n : Bool} (h : tAsk p f o = (r, n, p', f')) (hA : Ans f) : Ans f' := by
  unfold tAsk at h
  split at h
  · cases h; exact hA
  split at h
  · cases h; exact hA
  · cases h
    intro q
    unfold upd
    split
    · exact .inr (p.act_res2 o)
    · exact hA q

/-- Blocks from B on that are not the slice's. -/
def Off (B : Nat) (v : Value) (i : Nat) : Prop := B ≤ i ∧ v.ownBlock ≠ some i
theorem TillW.far {S T : Nat → Prop} {w w' : World} {b : Nat} {p : Pur} {f : Tab} (h : TillW S w b p f) (hc : Chg T w w') (hs : ∀ i, S i → ¬ T i) : TillW S w' b p f := by
  obtain ⟨lb, mb, lv, t, mt, h1, h2, h3, h4, a1, a2, a3, a4, a5, a6⟩ := h
  exact ⟨lb, mb, lv, t, mt, h1.chg hc (hs _ a1), h2.chg hc (hs _ a2) (hs _ a3) (fun k hk => hs _ (a4 k hk)), h3.chg hc (hs _ a5) (hs _ a6), h4, a1, a2, a3, a4, a5, a6⟩

theorem tillB_ne (p : Pur) (f : Tab) : tillB p f ≠ [] := by
  have := nb_ne (p.ac 0)
  unfold tillB Pur.bytes Pur.hdB
  simp [this]
theorem till_bytesG {S : Nat → Prop} {w : World} {b : Nat} {p : Pur} {f : Tab} {T : Int} (hW : TillW S w b p f) (hG : p.Good T) (hT : T ≤ 1125899906842624) (hA : Ans f) :
    Calls Try.prog 27 #[.pointer (some ⟨b, 0, none⟩)] w fun e w' => ∃ g n cap, e = .returned (.slice (some ⟨g, 0, none⟩) n cap) ∧ g < w'.heap.size ∧
      (∀ w9 : World, w9.heap[g]? = w'.heap[g]? → (convert 74 9 (.slice (some ⟨g, 0, none⟩) n cap)).run Try.prog w9 = .ok (.string (bstr (tillB p f))) w9) ∧ Chg (fun _ => False) w w' := by
  refine (till_bytes hW hG hT hA).mono ?_
  rintro e w' ⟨v, rfl, hown, hc⟩
  obtain ⟨g, cap, rfl, _, hlt, hcell⟩ := bytes_cells hown (tillB_ne p f)
  refine ⟨g, _, cap, rfl, hlt, fun w9 h9 => bytes_str (fun j u hj => ?_), hc⟩
  have h1 := hcell j u hj
  have hb : ((⟨g, 0, none⟩ : Addr).add j).block = g := by unfold Addr.add; split <;> rfl
  exact (World.cell?_of_block (by rw [hb]; exact h9)).trans h1

set_option maxRecDepth 100000 in
theorem ask_nil (w : World) (o : POp) : Calls Try.prog 12 #[.pointer none, o.val] w fun e w' => e = .returned (.tuple #[.int .i64 2, .bool false]) ∧ Chg (fun _ => False) w w' := by
  go_enter Try.func12, Try.ntmps12
  unfold POp.val
  go_wp2_with fail
  go_ret2
  exact ⟨rfl, ((Chg.refl _ w).alloc _).alloc _⟩
theorem bytes_nil (w : World) : Calls Try.prog 27 #[.pointer none] w fun e w' => e = .returned (.slice none 0 0) ∧ w' = w := by
  go_enter Try.func27, Try.ntmps27
  go_wp2
  go_ret
  exact ⟨rfl, rfl⟩
theorem answers_nil (w : World) : Calls Try.prog 28 #[.pointer none] w fun e w' => e = .returned (.int .i64 0) ∧ w' = w := by
  go_enter Try.func28, Try.ntmps28
  go_wp2
  go_ret
  exact ⟨rfl, rfl⟩
theorem purse_nil (w : World) : Calls Try.prog 14 #[.pointer none] w fun e w' => e = .returned (.pointer none) ∧ w' = w := by
  go_enter Try.func14, Try.ntmps14
  go_wp2
  go_ret
  exact ⟨rfl, rfl⟩
end Go.Proofs.Ytajefffhdeljfaa

namespace Go.Proofs.Ytajefffhdeljfaa
open Go.RowKit Go.Maps

theorem infoIntT : (Try.prog.info? 3).map (fun i => (i.zero, i.size, i.bytes)) = some (some (.int .i64 0), 1, 8) := by kernel_rfl

/-- What was asked so far is answered as it was. -/
def Told (l : List POp) (ans : List Int) (p : Pur) (f : Tab) : Prop := ∀ (j : Nat) (o : POp) (a : Int), l[j]? = some o → ans[j]? = some a → tAsk p f o = (a, false, p, f)
theorem Told.step {l : List POp} {ans : List Int} {p p' : Pur} {f f' : Tab} (h : Told l ans p f) {k : Nat} {o : POp} {r : Int} {n : Bool} (hk : ans.length = k) (ho : l[k]? = some o) (ha : tAsk p f o = (r, n, p', f')) : Told l (ans ++ [r]) p' f' := by
  intro j o' a hj hja
  by_cases hlt : j < ans.length
  · rw [List.getElem?_append_left hlt] at hja
    exact rep_keep ha (h j o' a hj hja)
  · have hjl := (List.getElem?_eq_some_iff.1 hja).1
    simp at hjl
    have hjk : j = k := by omega
    subst hjk
    rw [ho] at hj
    cases hj
    rw [List.getElem?_append_right (by omega)] at hja
    simp [hk] at hja
    subst hja
    exact rep_self ha

set_option maxRecDepth 100000 in
set_option maxHeartbeats 2000000 in
theorem ttwi_walk (w : World) (ad : Option Addr) (cap : Nat) (l : List POp) (ad2 : Option Addr) (cap2 : Nat) (q : List Int) (hl : OpsIn w ad l) (hq : IntsIn w ad2 q) :
    Calls Try.prog 8 #[.slice ad l.length cap, .slice ad2 q.length cap2] w fun e w' => e = .returned (.bool true) ∧ Chg (fun _ => False) w w' := by
  have hmx := hl.len
  have hmx2 := hq.len
  unfold maxLen at hmx hmx2
  obtain ⟨f0, hf0, hv0⟩ : ∃ f0 : Int → Int, (∀ i, 0 ≤ i → i ≤ 3 → 0 ≤ f0 i ∧ f0 i ≤ 1099511627776) ∧ fundsVal f0 = .agg #[.int .i64 500, .int .i64 50, .int .i64 5, .int .i64 0] :=
    ⟨fun i => if i = 0 then 500 else if i = 1 then 50 else if i = 2 then 5 else 0, fun i _ _ => by simp only; split <;> (try split) <;> (try split) <;> omega, rfl⟩
  have hG0 : (Pur.new f0).Good (f0 0 + f0 1 + f0 2 + f0 3) := Pur.new_good fun i h1 h2 => (hf0 i h1 h2).1
  have hnew := tillNew w f0 hf0
  rw [hv0] at hnew
  obtain ⟨T, hT⟩ : ∃ T, f0 0 + f0 1 + f0 2 + f0 3 = T := ⟨_, rfl⟩
  have hT2 : T ≤ 1125899906842624 := by
    have h0 := hf0 0 (by omega) (by omega)
    have h1 := hf0 1 (by omega) (by omega)
    have h2 := hf0 2 (by omega) (by omega)
    have h3 := hf0 3 (by omega) (by omega)
    omega
  rw [hT] at hG0
  have hln0 : (Pur.new f0).ln.length ≤ 0 := Nat.le_refl _
  clear hT hf0 hv0
  generalize Pur.new f0 = p0 at *
  go_enter Try.func8, Try.ntmps8
  go_wp2_with fail
  refine hnew.mono ?_
  rintro e w2 ⟨b, rfl, hW0, hc0⟩
  have hck0 : Chg (fun i => w.heap.size ≤ i) w w2 := hc0.mono (fun _ _ h => h.elim)
  have hW0 : TillW (Off w.heap.size (.slice none 0 0)) w2 b p0 (fun _ => 0) := hW0.mono (fun i h => ⟨h, by simp [Value.ownBlock]⟩)
  have hA0 : Ans (fun _ : Int × Int => (0 : Int)) := fun _ => .inl rfl
  have hR0 : w2.ownsRow w.heap.size 3 1 (.slice none 0 0) 0 (([] : List Int).map encI) := ⟨rfl, .inl ⟨rfl, rfl⟩⟩
  have hH0 : Told l [] p0 (fun _ => 0) := fun j o a _ h => by simp at h
  clear hnew hc0
  go_upto_block 0 with (fail)
  go_cut [7, 8] (fun v7 _ wx => ∃ (vs : Value) (ans : List Int) (p : Pur) (f : Tab), vs = v7 ∧ wx.ownsRow w.heap.size 3 1 vs ans.length (ans.map encI) ∧ TillW (Off w.heap.size vs) wx b p f ∧ p.Good T ∧ p.ln.length ≤ 40 ∧ Ans f ∧ Told l ans p f ∧ ans.length ≤ l.length ∧ ans.length ≤ 40 ∧ Chg (fun i => w.heap.size ≤ i) w wx)
  case first =>
    go_wp2_with fail
    go_loopw [7, 8] (fun v7 v8 wr => ∃ (k : Nat) (vs : Value) (ans : List Int) (p : Pur) (f : Tab), vs = v7 ∧ v8 = .int .i64 k ∧ k ≤ l.length ∧ k ≤ 40 ∧ ans.length = k ∧ wr.ownsRow w.heap.size 3 1 vs ans.length (ans.map encI) ∧ TillW (Off w.heap.size vs) wr b p f ∧ p.Good T ∧ p.ln.length ≤ k ∧ Ans f ∧ Told l ans p f ∧ Chg (fun i => w.heap.size ≤ i) w wr) (fun _ v8 _ => 40 - (RowKit.intOf v8).toNat)
    case atStart => exact ⟨0, _, [], p0, _, rfl, rfl, Nat.zero_le _, Nat.zero_le _, rfl, hR0, hW0, hG0, hln0, hA0, hH0, hck0⟩
    case round =>
      clear hW0 hG0 hln0 hA0 hR0 hH0 hck0
      obtain ⟨k, vs, ans, p, f, hvs, rfl, hk1, hk2, hak, hR, hW, hG, hln, hA, hH, hck⟩ := hrel
      subst hvs
      by_cases hlt : k < l.length ∧ k < 40
      · obtain ⟨hlt1, hlt2⟩ := hlt
        obtain ⟨o, ho⟩ : ∃ o, l[k]? = some o := ⟨_, List.getElem?_eq_getElem hlt1⟩
        have hcF : Chg (fun _ => False) w wr := hck.mono (fun i hi h => by omega)
        obtain ⟨a, rfl, hab, hat⟩ := (hl.chg hcF (fun i _ h => h)).at_ k o ho
        have a0 : wr.cell? (a.add (k * 5)) = some (.int .i64 o.kd) := hat 0 _ rfl
        have a1 : wr.cell? ⟨(a.add (k * 5)).block, (a.add (k * 5)).off + 1, none⟩ = some (.int .i64 o.bk) := hat 1 _ rfl
        have a2 : wr.cell? ⟨(a.add (k * 5)).block, (a.add (k * 5)).off + 2, none⟩ = some (.int .i64 o.un) := hat 2 _ rfl
        have a3 : wr.cell? ⟨(a.add (k * 5)).block, (a.add (k * 5)).off + 3, none⟩ = some (.int .i64 o.cu) := hat 3 _ rfl
        have a4 : wr.cell? ⟨(a.add (k * 5)).block, (a.add (k * 5)).off + 4, none⟩ = some (.int .i64 o.am) := hat 4 _ rfl
        clear hat hcF
        obtain ⟨r, n, p', f', ht⟩ : ∃ r n p' f', tAsk p f o = (r, n, p', f') := ⟨_, _, _, _, rfl⟩
        have hG' := tAsk_good (f := f) hG o
        have hln' := tAsk_len p f o
        have hA' := ans_ask ht hA
        have hH' := hH.step hak ho ht
        rw [ht] at hG' hln'
        simp only at hG' hln'
        have hask := Lib.hid (ask_any (Off w.heap.size vs) wr b p f o T hW hG hT2 (by omega) r n p' f' ht)
        have hown : ∀ i, vs.ownBlock = some i → i < wr.heap.size := own_ltP hR
        clear ho ht hW hG hH hA
        go_wp2_with fail
        refine hask.out.mono ?_
        rintro e w3 ⟨rfl, hW3, hc3⟩
        have hz3 := hc3.size
        have hzw := hck.size
        have hR3 := own_chg hR hc3 (fun j hj h => h.2 hj)
        have hW3 : TillW (Off w.heap.size vs) w3 b p' f' := hW3.mono (fun i h => by
          rcases h with h | h
          · exact h
          · exact ⟨by omega, fun e => by have := hown i e; omega⟩)
        have hck3 := hck.trans hc3 (fun i _ h => h.1)
        have hcA := (Chg.refl (fun _ => False) w3).alloc (.cells #[.int .i64 r] 3)
        have hRA := own_chg hR3 hcA (fun _ _ => id)
        have hWA := (hW3.here).keep hcA
        have hckA := hck3.trans hcA (fun _ _ h => h.elim)
        have hnews := Lib.hid (row_cells w3 3 [.int .i64 r])
        have hRAh := Lib.hid hRA
        have hzA := hck3.size
        obtain ⟨i0, hi, hz0, hz1, hz2⟩ := info_parts infoIntT
        clear hR hck hc3 hask hR3 hW3 hcA hRA a0 a1 a2 a3 a4
        go_wp2_with (at_builtin; go_loud (refine wpList_append_own_at _ rfl _ _ 53 rfl w.heap.size 3 i0 (.int .i64 0) 1 8 Try.underlying53 hi hz0 hz1 hz2 rfl (by decide) vs ans.length (ans.map encI) rfl (by exact hRAh.out) ⟨w3.heap.size, 0, none⟩ 1 1 [.int .i64 r] rfl rfl (by exact hnews.out) (by intro u hu; simp at hu; subst hu; rfl) (by unfold maxLen; omega) (by omega) (by rw [alloc_size]; omega) ?_; intro v9 w9 hown9 hgr9 _ hloc9))
        have hc9 := own_grown hgr9
        have hW9 := hWA.far hc9 (fun i h e => h.1.2 e)
        have hck9 := hckA.trans hc9 (fun i _ h => by have := (hRAh.out.lt i h).1; omega)
        go_roundw
        case rel =>
          refine ⟨k + 1, v9, ans ++ [r], p', f', rfl, by go_num, by omega, by omega, by simp [hak], ?_, hW9.mono (fun i h => ⟨h.1.1, fun e => ?_⟩), hG', by omega, hA', hH', hck9⟩
          · rw [List.length_append, List.map_append]
            exact hown9
          · rcases hloc9 with h0 | h0
            · rw [h0] at e; exact h.1.2 e
            · rw [h0, alloc_size] at e
              cases e
              have := h.2
              omega
        case measure => simp [RowKit.intOf]; omega
      · go_wp2_with fail
        all_goals
          go_meet
          case rel => exact ⟨vs, ans, p, f, rfl, hR, hW, hG, by omega, hA, hH, by omega, by omega, hck⟩
  case rest =>
    clear hW0 hG0 hln0 hA0 hR0 hH0 hck0
    obtain ⟨vs, ans, p, f, hvs, hR, hW, hG, hln, hA, hH, hal, hal2, hck⟩ := hcut
    subst hvs
    go_wp2_with fail
    refine (till_bytesG hW hG hT2 hA).mono ?_
    rintro e w3 ⟨g3, n3, cap3, rfl, hg3, hcv, hc3⟩
    have hW3 := hW.keep hc3
    have hR3 := own_chg hR hc3 (fun _ _ => id)
    have hck3 := hck.trans hc3 (fun _ _ h => h.elim)
    have hcv3 := hcv w3 rfl
    clear hW hR hck hc3 hcv hg3
    obtain ⟨ad3, cap4, rfl⟩ : ∃ ad3 cap4, vs = .slice ad3 ans.length cap4 := by
      rcases hR3.2 with ⟨rfl, h⟩ | ⟨g, cp, _, rfl, _⟩
      · exact ⟨_, _, by rw [h]⟩
      · exact ⟨_, _, rfl⟩
    go_upto_block 2 with (fail)
    clear hcv3
    go_cut [12] (fun _ wx => TillW (Off w.heap.size (.slice ad3 ans.length cap4)) wx b p f ∧ Chg (Off w.heap.size (.slice ad3 ans.length cap4)) w3 wx)
    case first =>
      go_wp2_with fail
      go_loopw [12] (fun v12 wr => ∃ j : Nat, v12 = .int .i64 j ∧ j ≤ q.length ∧ j ≤ 40 ∧ TillW (Off w.heap.size (.slice ad3 ans.length cap4)) wr b p f ∧ Chg (Off w.heap.size (.slice ad3 ans.length cap4)) w3 wr) (fun v12 _ => 40 - (RowKit.intOf v12).toNat)
      case atStart => exact ⟨0, rfl, Nat.zero_le _, Nat.zero_le _, hW3, Chg.refl _ _⟩
      case round =>
        clear hW3
        obtain ⟨j, rfl, hj1, hj2, hW, hcj⟩ := hrel
        by_cases hlt : j < q.length ∧ j < 40 ∧ 0 < ans.length
        · obtain ⟨hlt1, hlt2, hlt3⟩ := hlt
          have hckr := hck3.trans hcj (fun i _ h => h.1)
          have hcF : Chg (fun _ => False) w wr := hckr.mono (fun i hi h => by omega)
          obtain ⟨x, hx⟩ : ∃ x, q[j]? = some x := ⟨_, List.getElem?_eq_getElem hlt1⟩
          obtain ⟨d, rfl, hdb, hdat⟩ := (hq.chg hcF (fun i _ h => h)).at_ j x hx
          have hmk := modK x ans.length (by omega)
          obtain ⟨kk, hkk⟩ : ∃ kk : Nat, wrap64 ((IntKind.u64.wrap x).tmod (ans.length : Int)) = kk := ⟨(wrap64 ((IntKind.u64.wrap x).tmod (ans.length : Int))).toNat, by omega⟩
          rw [hkk] at hmk
          have hkl : kk < ans.length := by omega
          obtain ⟨o, ho⟩ : ∃ o, l[kk]? = some o := ⟨_, List.getElem?_eq_getElem (by omega)⟩
          obtain ⟨A, hAk⟩ : ∃ A, ans[kk]? = some A := ⟨_, List.getElem?_eq_getElem hkl⟩
          have htA := hH kk o A ho hAk
          obtain ⟨a, rfl, hab, hat⟩ := (hl.chg hcF (fun i _ h => h)).at_ kk o ho
          have a0 : wr.cell? (a.add (kk * 5)) = some (.int .i64 o.kd) := hat 0 _ rfl
          have a1 : wr.cell? ⟨(a.add (kk * 5)).block, (a.add (kk * 5)).off + 1, none⟩ = some (.int .i64 o.bk) := hat 1 _ rfl
          have a2 : wr.cell? ⟨(a.add (kk * 5)).block, (a.add (kk * 5)).off + 2, none⟩ = some (.int .i64 o.un) := hat 2 _ rfl
          have a3 : wr.cell? ⟨(a.add (kk * 5)).block, (a.add (kk * 5)).off + 3, none⟩ = some (.int .i64 o.cu) := hat 3 _ rfl
          have a4 : wr.cell? ⟨(a.add (kk * 5)).block, (a.add (kk * 5)).off + 4, none⟩ = some (.int .i64 o.am) := hat 4 _ rfl
          have hask := Lib.hid (ask_any (Off w.heap.size (.slice ad3 ans.length cap4)) wr b p f o T hW hG hT2 (by omega) A false p f htA)
          have hRr := own_chg hR3 hcj (fun k hk h => h.2 hk)
          have hown : ∀ i, (Value.slice ad3 ans.length cap4).ownBlock = some i → i < wr.heap.size := own_ltP hRr
          clear hat ho htA hW hcF hx
          go_wp2_with fail
          clear a0 a1 a2 a3 a4 hmk hdat
          refine hask.out.mono ?_
          rintro e w5 ⟨rfl, hW5, hc5⟩
          have hR5 := own_chg hRr hc5 (fun k hk h => h.2 hk)
          have hzr := hckr.size
          have hW5 : TillW (Off w.heap.size (.slice ad3 ans.length cap4)) w5 b p f := hW5.mono (fun i h => by
            rcases h with h | h
            · exact h
            · exact ⟨by omega, fun e => by have := hown i e; omega⟩)
          rcases hR5.2 with ⟨_, h0⟩ | ⟨g5, cp5, _, hv5, _⟩
          · omega
          injection hv5 with hv5 _ hv6
          subst hv5
          subst hv6
          have m0 : w5.cell? ⟨g5, kk, none⟩ = some (.int .i64 A) := by
            have h := own_cells_i hR5 kk _ (by rw [List.getElem?_map, hAk]; rfl)
            rw [addr_add0] at h
            exact h
          have hcj5 := hcj.trans hc5 (fun _ _ h => h)
          clear hask hRr hc5 hR5 hcj hAk
          go_wp2_with fail
          go_roundw
          case rel => exact ⟨j + 1, by go_num, by omega, by omega, hW5, hcj5⟩
          case measure => simp [RowKit.intOf]; omega
        · go_wp2_with fail
          all_goals
            go_meet
            case rel => exact ⟨hW, hcj⟩
    case rest =>
      clear hW3
      obtain ⟨hW, hcj⟩ := hcut
      have hckr := hck3.trans hcj (fun i _ h => h.1)
      go_wp2_with fail
      refine (ask_nil _ ⟨6, 1, 0, 0, 0⟩).mono ?_
      rintro e w5 ⟨rfl, hc5⟩
      go_wp2_with fail
      refine (told13 w5).mono ?_
      rintro e w6 ⟨rfl, hc6⟩
      have hW6 := (hW.keep hc5).keep hc6
      have hck6 := (hckr.trans hc5 (fun _ _ h => h.elim)).trans hc6 (fun _ _ h => h.elim)
      clear hW hcj hckr hc5 hc6
      go_wp2_with fail
      refine (till_bytesG hW6 hG hT2 hA).mono ?_
      rintro e w7 ⟨g7, n7, cap7, rfl, hg7, hcv, hc7⟩
      have hcv7 := hcv w7 rfl
      have hck7 := hck6.trans hc7 (fun _ _ h => h.elim)
      clear hW6 hck6 hcv hg7 hc7
      go_wp2_with fail
      clear hcv7
      refine (bytes_nil w7).mono ?_
      rintro e w8 ⟨rfl, rfl⟩
      go_wp2_with fail
      refine (answers_nil _).mono ?_
      rintro e w8 ⟨rfl, rfl⟩
      go_wp2_with fail
      refine (purse_nil _).mono ?_
      rintro e w8 ⟨rfl, rfl⟩
      go_wp2_with fail
      go_ret
      exact ⟨rfl, hck7.mono (fun i hi h => by omega)⟩
end Go.Proofs.Ytajefffhdeljfaa
