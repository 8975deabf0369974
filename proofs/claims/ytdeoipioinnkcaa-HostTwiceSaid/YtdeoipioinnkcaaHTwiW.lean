/-
  layer 12: HostTwice, its walk.
-/
import Derived.Test.YtdeoipioinnkcaaHTwiP
import Derived.Test.YtdeoipioinnkcaaHostT
import Derived.Test.YtdeoipioinnkcaaSopH
import Derived.Test.YtdeoipioinnkcaaInts
import Derived.Test.YtdeoipioinnkcaaArrG
import Derived.Deep.DeepCutAuto
import Derived.Deep.CutBlock
namespace Go.Proofs.Ytdeoipioinnkcaa
open Go.RowKit Go.Maps

/-- What was asked so far is answered as it was. -/
def HTold (l : List SOp) (ans : List Int) (s : Stk) (f : Tab) : Prop := ∀ (j : Nat) (o : SOp) (a : Int), l[j]? = some o → ans[j]? = some a → ∀ t, okT t → hAsk s f o.o t = (a, false, s, f)
theorem HTold.step {l : List SOp} {ans : List Int} {s s' : Stk} {f f' : Tab} (h : HTold l ans s f) {k : Nat} {o : SOp} {r t : Int} {n : Bool} (hk : ans.length = k) (ho : l[k]? = some o) (ht : okT t) (ha : hAsk s f o.o t = (r, n, s', f')) : HTold l (ans ++ [r]) s' f' := by
  intro j o' a hj hja t' ht'
  by_cases hlt : j < ans.length
  · rw [List.getElem?_append_left hlt] at hja
    exact hrep_keep ht ht' ha (h j o' a hj hja t' ht')
  · have hjl := (List.getElem?_eq_some_iff.1 hja).1
    simp at hjl
    have hjk : j = k := by omega
    subst hjk
    rw [ho] at hj
    cases hj
    rw [List.getElem?_append_right (by omega)] at hja
    simp [hk] at hja
    subst hja
    exact hrep_self ht ht' ha

set_option maxRecDepth 100000 in
set_option maxHeartbeats 2000000 in
theorem htwi_walk (w : World) (ad : Option Addr) (cap : Nat) (l : List SOp) (ad2 : Option Addr) (cap2 : Nat) (q : List Int) (hl : SopsIn w ad l) (hq : IntsIn w ad2 q) :
    Calls Try.prog 5 #[.slice ad l.length cap, .slice ad2 q.length cap2] w fun e w' => e = .returned (.bool true) ∧ Chg (fun _ => False) w w' := by
  have hmx := hl.len
  have hmx2 := hq.len
  unfold maxLen at hmx hmx2
  have hnew := hostNew w 15 2 (by omega) (by omega)
  have hG0 : (Stk.new 15 2).Good := Stk.Good.new (by omega) (by omega)
  generalize Stk.new 15 2 = p0 at *
  go_enter Try.func5, Try.ntmps5
  go_wp2_with fail
  refine hnew.mono ?_
  rintro e w2 ⟨b, rfl, hW0, hc0⟩
  have hck0 : Chg (fun i => w.heap.size ≤ i) w w2 := hc0.mono (fun _ _ h => h.elim)
  have hW0 := hW0.here
  have hz2 := hc0.size
  generalize hHe : w2.heap.size = H at *
  have hHz : H ≤ w2.heap.size := by omega
  have hA0 : Ans (fun _ : Int × Int => (0 : Int)) := fun _ => .inl rfl
  have hR0 : w2.ownsRow H 3 1 (.slice none 0 0) 0 (([] : List Int).map encI) := ⟨rfl, .inl ⟨rfl, rfl⟩⟩
  have hH0 : HTold l [] p0 (fun _ => 0) := fun j o a _ h => by simp at h
  clear hnew hc0 hHe
  go_upto_block 0 with (fail)
  go_cut [7, 8, 9] (fun v7 v8 _ wx => ∃ (t : Int) (vs : Value) (ans : List Int) (p : Stk) (f : Tab), v7 = .int .i64 t ∧ vs = v8 ∧ 0 ≤ t ∧ t ≤ 1200 ∧ wx.ownsRow H 3 1 vs ans.length (ans.map encI) ∧ HostW (fun i => w.heap.size ≤ i ∧ i < H) wx b p f ∧ p.Good ∧ Ans f ∧ HTold l ans p f ∧ ans.length ≤ l.length ∧ ans.length ≤ 40 ∧ H ≤ wx.heap.size ∧ Chg (fun i => w.heap.size ≤ i) w wx)
  case first =>
    go_wp2_with fail
    go_loopw [7, 8, 9] (fun v7 v8 v9 wr => ∃ (k : Nat) (t : Int) (vs : Value) (ans : List Int) (p : Stk) (f : Tab), v7 = .int .i64 t ∧ vs = v8 ∧ v9 = .int .i64 k ∧ k ≤ l.length ∧ k ≤ 40 ∧ 0 ≤ t ∧ t ≤ 30 * k ∧ ans.length = k ∧ wr.ownsRow H 3 1 vs ans.length (ans.map encI) ∧ HostW (fun i => w.heap.size ≤ i ∧ i < H) wr b p f ∧ p.Good ∧ Ans f ∧ HTold l ans p f ∧ H ≤ wr.heap.size ∧ Chg (fun i => w.heap.size ≤ i) w wr) (fun _ _ v9 _ => 40 - (RowKit.intOf v9).toNat)
    case atStart => exact ⟨0, 0, _, [], p0, _, rfl, rfl, rfl, Nat.zero_le _, Nat.zero_le _, by omega, by omega, rfl, hR0, hW0, hG0, hA0, hH0, hHz, hck0⟩
    case round =>
      clear hW0 hG0 hA0 hR0 hH0 hck0 hHz
      obtain ⟨k, t, vs, ans, p, f, rfl, hvs, rfl, hk1, hk2, ht0, ht1, hak, hR, hW, hG, hA, hH, hHz, hck⟩ := hrel
      subst hvs
      by_cases hlt : k < l.length ∧ k < 40
      · obtain ⟨hlt1, hlt2⟩ := hlt
        obtain ⟨o, ho⟩ : ∃ o, l[k]? = some o := ⟨_, List.getElem?_eq_getElem hlt1⟩
        have hcF : Chg (fun _ => False) w wr := hck.mono (fun i hi h => by omega)
        obtain ⟨a, rfl, hab, hat⟩ := (hl.chg hcF (fun i _ h => h)).at_ k o ho
        have a1 : wr.cell? ⟨(a.add (k * 9)).block, (a.add (k * 9)).off + 1, none⟩ = some (.int .i64 o.o.kd) := hat 1 _ rfl
        have a2 : wr.cell? ⟨(a.add (k * 9)).block, (a.add (k * 9)).off + 2, none⟩ = some (.int .i64 o.o.bk) := hat 2 _ rfl
        have a3 : wr.cell? ⟨(a.add (k * 9)).block, (a.add (k * 9)).off + 3, none⟩ = some (.int .i64 o.o.un) := hat 3 _ rfl
        have a4 : wr.cell? ⟨(a.add (k * 9)).block, (a.add (k * 9)).off + 4, none⟩ = some (.int .i64 o.o.cu) := hat 4 _ rfl
        have a5 : wr.cell? ⟨(a.add (k * 9)).block, (a.add (k * 9)).off + 5, none⟩ = some (.int .i64 o.o.am) := hat 5 _ rfl
        have a6 : wr.cell? ⟨(a.add (k * 9)).block, (a.add (k * 9)).off + 6, none⟩ = some (.int .i64 o.d) := hat 6 _ rfl
        clear hat hcF
        obtain ⟨m, hm⟩ : ∃ m, wrap64 ((IntKind.u64.wrap o.d).tmod 30) = m := ⟨_, rfl⟩
        have hmb := modK o.d 30 (by omega)
        rw [hm] at hmb
        obtain ⟨hm0, hm1⟩ := hmb
        have htm : okT (t + m) := ⟨by omega, by omega⟩
        obtain ⟨r, n, p', f', ht⟩ : ∃ r n p' f', hAsk p f o.o (t + m) = (r, n, p', f') := ⟨_, _, _, _, rfl⟩
        have hG' := hAsk_good (f := f) hG o.o (t + m)
        have hA' := hans_ask ht hA
        have hH' := hH.step hak ho htm ht
        rw [ht] at hG'
        simp only at hG'
        have hask := Lib.hid (hask_any (fun i => w.heap.size ≤ i ∧ i < H) wr b p f o.o (t + m) hW hG r n p' f' ht)
        clear ho ht hW hG hH hA
        go_wp2_with fail
        refine hask.out.mono ?_
        rintro e w3 ⟨rfl, hW3, hc3⟩
        have hz3 := hc3.size
        have hzw := hck.size
        have hR3 := own_chg hR hc3 (fun j hj h => by have := (hR.lt j hj).1; omega)
        have hck3 := hck.trans hc3 (fun i _ h => h.1)
        have hcA := (Chg.refl (fun _ => False) w3).alloc (.cells #[.int .i64 r] 3)
        have hRA := own_chg hR3 hcA (fun _ _ => id)
        have hWA := hW3.keep hcA
        have hckA := hck3.trans hcA (fun _ _ h => h.elim)
        have hnews := Lib.hid (row_cells w3 3 [.int .i64 r])
        have hRAh := Lib.hid hRA
        have hzA := hck3.size
        obtain ⟨i0, hi, hz0, hz1, hz2⟩ := info_parts infoInt
        clear hR hck hc3 hask hR3 hW3 hcA hRA a1 a2 a3 a4 a5 a6
        go_wp2_with (at_builtin; go_loud (refine wpList_append_own_at _ rfl _ _ 23 rfl H 3 i0 (.int .i64 0) 1 8 Try.underlying23 hi hz0 hz1 hz2 rfl (by decide) vs ans.length (ans.map encI) rfl (by exact hRAh.out) ⟨w3.heap.size, 0, none⟩ 1 1 [.int .i64 r] rfl rfl (by exact hnews.out) (by intro u hu; simp at hu; subst hu; rfl) (by unfold maxLen; omega) (by omega) (by rw [alloc_size]; omega) ?_; intro v9 w9 hown9 hgr9 _ hloc9))
        have hc9 := own_grown hgr9
        have hW9 := hWA.keepX hc9 (fun i h e => by have := (hRAh.out.lt i e).1; omega)
        have hck9 := hckA.trans hc9 (fun i _ h => by have := (hRAh.out.lt i h).1; omega)
        go_roundw
        case rel =>
          have hzg := hgr9.size
          rw [alloc_size] at hzg
          refine ⟨k + 1, t + m, v9, ans ++ [r], p', f', rfl, rfl, by go_num, by omega, by omega, by omega, by omega, by simp [hak], ?_, hW9, hG', hA', hH', by omega, hck9⟩
          rw [List.length_append, List.map_append]
          exact hown9
        case measure => simp [RowKit.intOf]; omega
      · go_wp2_with fail
        all_goals
          go_meet
          case rel => exact ⟨t, vs, ans, p, f, rfl, rfl, ht0, by omega, hR, hW, hG, hA, hH, by omega, by omega, hHz, hck⟩
  case rest =>
    clear hW0 hG0 hA0 hR0 hH0 hck0 hHz
    obtain ⟨t, vs, ans, p, f, rfl, hvs, ht0, ht1, hR, hW, hG, hA, hH, hal, hal2, hHz, hck⟩ := hcut
    subst hvs
    go_wp2_with fail
    refine (host_bytesG hW hG hA).mono ?_
    rintro e w3 ⟨g3, n3, cap3, rfl, hg3, hcv, hc3⟩
    have hW3 := hW.keep hc3
    have hR3 := own_chg hR hc3 (fun _ _ => id)
    have hck3 := hck.trans hc3 (fun _ _ h => h.elim)
    have hcv3 := hcv w3 rfl
    clear hW hR hck hc3 hcv hg3
    obtain ⟨ad3, cap4, rfl⟩ : ∃ ad3 cap4, vs = .slice ad3 ans.length cap4 := by
      rcases hR3.2 with ⟨rfl, h⟩ | ⟨g, cp, _, rfl, _⟩
      · exact ⟨_, _, by rw [h]⟩
      · exact ⟨_, _, rfl⟩
    go_upto_block 2 with (fail)
    clear hcv3
    go_cut [13] (fun _ wx => HostW (fun i => w.heap.size ≤ i ∧ i < H) wx b p f ∧ Chg (fun i => w.heap.size ≤ i ∧ i < H) w3 wx)
    case first =>
      go_wp2_with fail
      go_loopw [13] (fun v13 wr => ∃ j : Nat, v13 = .int .i64 j ∧ j ≤ q.length ∧ j ≤ 40 ∧ HostW (fun i => w.heap.size ≤ i ∧ i < H) wr b p f ∧ Chg (fun i => w.heap.size ≤ i ∧ i < H) w3 wr) (fun v13 _ => 40 - (RowKit.intOf v13).toNat)
      case atStart => exact ⟨0, rfl, Nat.zero_le _, Nat.zero_le _, hW3, Chg.refl _ _⟩
      case round =>
        clear hW3
        obtain ⟨j, rfl, hj1, hj2, hW, hcj⟩ := hrel
        by_cases hlt : j < q.length ∧ j < 40 ∧ 0 < ans.length
        · obtain ⟨hlt1, hlt2, hlt3⟩ := hlt
          have hckr := hck3.trans hcj (fun i _ h => h.1)
          have hcF : Chg (fun _ => False) w wr := hckr.mono (fun i hi h => by omega)
          obtain ⟨x, hx⟩ : ∃ x, q[j]? = some x := ⟨_, List.getElem?_eq_getElem hlt1⟩
          obtain ⟨d, rfl, hdb, hdat⟩ := (hq.chg hcF (fun i _ h => h)).at_ j x hx
          have hmk := modK x ans.length (by omega)
          obtain ⟨kk, hkk⟩ : ∃ kk : Nat, wrap64 ((IntKind.u64.wrap x).tmod (ans.length : Int)) = kk := ⟨(wrap64 ((IntKind.u64.wrap x).tmod (ans.length : Int))).toNat, by omega⟩
          rw [hkk] at hmk
          have hkl : kk < ans.length := by omega
          obtain ⟨o, ho⟩ : ∃ o, l[kk]? = some o := ⟨_, List.getElem?_eq_getElem (by omega)⟩
          obtain ⟨A, hAk⟩ : ∃ A, ans[kk]? = some A := ⟨_, List.getElem?_eq_getElem hkl⟩
          have htA := hH kk o A ho hAk (t + j) ⟨by omega, by omega⟩
          obtain ⟨a, rfl, hab, hat⟩ := (hl.chg hcF (fun i _ h => h)).at_ kk o ho
          have a1 : wr.cell? ⟨(a.add (kk * 9)).block, (a.add (kk * 9)).off + 1, none⟩ = some (.int .i64 o.o.kd) := hat 1 _ rfl
          have a2 : wr.cell? ⟨(a.add (kk * 9)).block, (a.add (kk * 9)).off + 2, none⟩ = some (.int .i64 o.o.bk) := hat 2 _ rfl
          have a3 : wr.cell? ⟨(a.add (kk * 9)).block, (a.add (kk * 9)).off + 3, none⟩ = some (.int .i64 o.o.un) := hat 3 _ rfl
          have a4 : wr.cell? ⟨(a.add (kk * 9)).block, (a.add (kk * 9)).off + 4, none⟩ = some (.int .i64 o.o.cu) := hat 4 _ rfl
          have a5 : wr.cell? ⟨(a.add (kk * 9)).block, (a.add (kk * 9)).off + 5, none⟩ = some (.int .i64 o.o.am) := hat 5 _ rfl
          have a6 : wr.cell? ⟨(a.add (kk * 9)).block, (a.add (kk * 9)).off + 6, none⟩ = some (.int .i64 o.d) := hat 6 _ rfl
          have hask := Lib.hid (hask_any (fun i => w.heap.size ≤ i ∧ i < H) wr b p f o.o (t + j) hW hG A false p f htA)
          have hRr := own_chg hR3 hcj (fun k hk h => by have := (hR3.lt k hk).1; omega)
          clear hat ho htA hW hcF hx
          go_wp2_with fail
          clear a1 a2 a3 a4 a5 a6 hmk hdat
          refine hask.out.mono ?_
          rintro e w5 ⟨rfl, hW5, hc5⟩
          have hR5 := own_chg hRr hc5 (fun k hk h => by have := (hRr.lt k hk).1; omega)
          have hzr := hckr.size
          rcases hR5.2 with ⟨_, h0⟩ | ⟨g5, cp5, _, hv5, _⟩
          · omega
          injection hv5 with hv5 _ hv6
          subst hv5
          subst hv6
          have m0 : w5.cell? ⟨g5, kk, none⟩ = some (.int .i64 A) := by
            have h := own_cells_i hR5 kk _ (by rw [List.getElem?_map, hAk]; rfl)
            rw [addr_add0] at h
            exact h
          have hcj5 := hcj.trans hc5 (fun _ _ h => h)
          clear hask hRr hc5 hR5 hcj hAk
          go_wp2_with fail
          go_roundw
          case rel => exact ⟨j + 1, by go_num, by omega, by omega, hW5, hcj5⟩
          case measure => simp [RowKit.intOf]; omega
        · go_wp2_with fail
          all_goals
            go_meet
            case rel => exact ⟨hW, hcj⟩
    case rest =>
      clear hW3
      obtain ⟨hW, hcj⟩ := hcut
      have hckr := hck3.trans hcj (fun i _ h => h.1)
      go_wp2_with fail
      refine (hask_nil _ ⟨3, 1, 0, 0, 0⟩ 5).mono ?_
      rintro e w5 ⟨rfl, hc5⟩
      go_wp2_with fail
      refine (told12 w5).mono ?_
      rintro e w6 ⟨rfl, hc6⟩
      have hW6 := (hW.keep hc5).keep hc6
      have hck6 := (hckr.trans hc5 (fun _ _ h => h.elim)).trans hc6 (fun _ _ h => h.elim)
      clear hW hcj hckr hc5 hc6
      go_wp2_with fail
      refine (host_bytesG hW6 hG hA).mono ?_
      rintro e w7 ⟨g7, n7, cap7, rfl, hg7, hcv, hc7⟩
      have hcv7 := hcv w7 rfl
      have hck7 := hck6.trans hc7 (fun _ _ h => h.elim)
      clear hW6 hck6 hcv hg7 hc7
      go_wp2_with fail
      clear hcv7
      refine (hbytes_nil w7).mono ?_
      rintro e w8 ⟨rfl, rfl⟩
      go_wp2_with fail
      refine (hanswers_nil _).mono ?_
      rintro e w8 ⟨rfl, rfl⟩
      go_wp2_with fail
      refine (hsweep_nil _ 5).mono ?_
      rintro e w8 ⟨rfl, rfl⟩
      go_wp2_with fail
      refine (hstock_nil _).mono ?_
      rintro e w8 ⟨rfl, rfl⟩
      go_wp2_with fail
      go_ret
      exact ⟨rfl, hck7.mono (fun i hi h => by omega)⟩
end Go.Proofs.Ytdeoipioinnkcaa
