/-
  host: Bytes by its contract.
-/
import Derived.Test.YtkbnojjmpmlgjaaGreatHostB
import Derived.Test.YtkbnojjmpmlgjaaGreatTabG
import Derived.Test.YtkbnojjmpmlgjaaGreatZStockJ
import Derived.Test.YtkbnojjmpmlgjaaGreatRHostA
import Derived.Test.YtkbnojjmpmlgjaaGreatRTabK
import Derived.Test.YtkbnojjmpmlgjaaGreatInts
namespace Go.Proofs.YtkbnojjmpmlgjaaGreat
open Go.RowKit Go.Maps

def hostB (s : Stk) (f : Tab) : List UInt8 := s.bytes ++ tabB f

theorem entT_len {f : Tab} (hA : Ans f) (hk : ∀ p, f p ≠ 0 → (1 ≤ p.1 ∧ p.1 ≤ 200) ∧ (1 ≤ p.2 ∧ p.2 ≤ 6)) : ((tkeys f).flatMap (entT f)).length ≤ 48000 := by
  have h := flat_lenG (f := entT f) (c := 40) (tkeys f) (fun p hp => by
    have hp := hk p ((tkeys_ne hk p).1 hp)
    have hap := hA p
    have h1 := nb_len (v := p.1) (by omega)
    have h2 := nb_len (v := p.2) (by omega)
    have h3 := nb_len (v := f p) (by omega)
    unfold entT
    simp only [List.length_append]
    omega)
  have := tkeys_len f
  omega
theorem Stk.bytes_len {s : Stk} (hG : s.Good) (hk : ∀ k, (s.en k).st ≠ 0 → 1 ≤ k ∧ k ≤ 200) : s.bytes.length ≤ 9000 := by
  have h := flat_len (f := s.entB) (c := 40) (bookings s.en) (fun x hx => entB_len hG (hk x ((bookings_mem s.en hk x).1 hx)))
  have hb := bookings_len s.en
  have hc := hG.cap
  have ho := hG.over
  have h0 := nb_len (v := s.cap) (by omega)
  have h1 := nb_len (v := s.over) (by omega)
  unfold Stk.bytes
  simp only [List.length_append]
  omega

set_option maxRecDepth 100000 in
set_option maxHeartbeats 2000000 in
theorem host_bytes {S : Nat → Prop} {w : World} {b : Nat} {s : Stk} {f : Tab} (hW : HostW S w b s f) (hG : s.Good) (hA : Ans f) :
    Calls Tryz.prog 13 #[.pointer (some ⟨b, 0, none⟩)] w fun e w' => ∃ v, e = .returned v ∧ w'.ownsRow w.heap.size 5 1 v (hostB s f).length ((hostB s f).map encB) ∧ Chg (fun _ => False) w w' := by
  obtain ⟨lb, mb, t, mt, hB0, hP0, hT0, hne, _⟩ := hW
  have hbz := hB0.lt
  have htz := hT0.blk.lt
  have hmz := hT0.map.lt
  have hWr := Wr.new (w := w) (P := fun i => i < w.heap.size) (fun _ h => h)
  have hck0 := (Chg.refl (fun i => w.heap.size ≤ i) w).alloc (.cells #[.slice none 0 0] 73)
  have hkl := tkeys_len f
  have hnl := nb_len (v := (tkeys f).length) (by omega)
  have hent := entT_len hA hT0.keys
  have hpb := Stk.bytes_len hG hP0.keys
  have till : ∀ w9 : World, Chg (fun i => w.heap.size ≤ i) w w9 → Blk w9 b 66 #[.pointer (some ⟨lb, 0, none⟩), .pointer (some ⟨t, 0, none⟩)] ∧ StkAt w9 lb mb s ∧ TabAt w9 t mt f := fun w9 h => by
    have hlbz := hP0.blk.lt
    have hmbz := hP0.map.lt
    exact ⟨hB0.chg h (by omega), hP0.chg h (by omega) (by omega), hT0.chg h (by omega) (by omega)⟩
  have tillh := Lib.hid till
  obtain ⟨hB1, hP1, hT1⟩ := till _ hck0
  have hz1 := hck0.size
  clear till
  unfold hostB
  go_enter Tryz.func13, Tryz.ntmps13
  go_wp2_with fail
  generalize w.alloc (.cells #[.slice none 0 0] 73) = w1 at *
  refine (host_answers (S := fun _ => True) ⟨lb, mb, t, mt, hB1, hP1, hT1, hne, trivial, trivial, trivial, trivial, trivial⟩ (tkeys f) (tkeys_nodup f) (tkeys_ne hT1.keys)).mono ?_
  rintro e w2 ⟨rfl, rfl⟩
  go_wp2_with fail
  refine (hWr.int (fun i hi => by omega) hz1 _ (by omega) (by omega) (by simp)).mono ?_
  rintro e w3 ⟨rfl, hW3, hc3⟩
  have hck3 := hck0.trans hc3 (fun i _ h => h.1)
  obtain ⟨hB3, hP3, hT3⟩ := tillh.out _ hck3
  have c1 : w3.cell? ⟨b, 1, none⟩ = some (.pointer (some ⟨t, 0, none⟩)) := by rw [hB3.cell]; rfl
  clear hWr hck0 hc3 hB1 hP1 hT1
  go_wp2_with fail
  clear c1
  have hz3 := hck3.size
  refine (each_any hT3 hA hW3 htz hmz (fun i hi => by omega) hz3 (by simp; omega)).mono ?_
  rintro e w4 ⟨rfl, hW4, hc4⟩
  have hck4 := hck3.trans hc4 (fun i _ h => h.1)
  obtain ⟨hB4, hP4, hT4⟩ := tillh.out _ hck4
  have c0 : w4.cell? ⟨b, 0, none⟩ = some (.pointer (some ⟨lb, 0, none⟩)) := by rw [hB4.cell]; rfl
  clear hW3 hck3 hc4 hB3 hP3 hT3 hz3
  go_wp2_with fail
  clear c0
  refine (stk_bytes hP4 hG).mono ?_
  rintro e w5 ⟨v5, rfl, hown5, hc5⟩
  have hW5 := hW4.keep hc5
  have hck5 := hck4.trans hc5 (fun _ _ h => h.elim)
  have hz4 := hck4.size
  have hz5 := hc5.size
  clear hW4 hc5 hB4 hP4 hT4
  go_wp2_with fail
  have htb : [] ++ nb (tkeys f).length ++ (tkeys f).flatMap (entT f) = tabB f := by unfold tabB; simp
  rw [htb] at hW5
  have htl : (tabB f).length ≤ 50000 := by rw [← htb]; simp only [List.length_append, List.length_nil]; omega
  have htn : tabB f ≠ [] := by unfold tabB; have := nb_ne (tkeys f).length; simp [this]
  refine (hW5.bytes htn (by omega)).mono ?_
  rintro e w6 ⟨v6, rfl, hown6, hc6⟩
  have hown56 := own_chg hown5 hc6 (fun _ _ => id)
  have hck6 := hck5.trans hc6 (fun _ _ h => h.elim)
  obtain ⟨g6, cap6, rfl⟩ : ∃ g cap, v6 = .slice (some ⟨g, 0, none⟩) (tabB f).length cap := by
    rcases hown6.2 with ⟨_, h⟩ | ⟨g, cp, _, rfl, _⟩
    · exact absurd (List.eq_nil_of_length_eq_zero h) htn
    · exact ⟨_, _, rfl⟩
  have hcell6 := Lib.hid (own_cells_i hown6)
  have hone6 := Lib.hid (show ∀ u ∈ (tabB f).map encB, u.oneCell' = true by
    intro u hu
    obtain ⟨b, _, rfl⟩ := List.mem_map.1 hu
    rfl)
  have hz6 := hc6.size
  obtain ⟨i0, hi, hz0, hz1', hz2⟩ := info_parts infoByte
  have hnz5 : v5.ownBlock = none ∨ ∃ k, v5.ownBlock = some k ∧ w4.heap.size ≤ k := by
    cases hv : v5.ownBlock with
    | none => exact .inl rfl
    | some k => exact .inr ⟨k, rfl, (hown5.lt k hv).1⟩
  have hown56h := Lib.hid (ownsRow_base_a hown56 (show w.heap.size ≤ w4.heap.size by omega))
  clear hown5 hown6 hown56 hW5 htb hc6
  generalize hTB : tabB f = TB at *
  generalize hPB : s.bytes = PB at *
  have hTBh := Lib.hid hTB
  have hPBh := Lib.hid hPB
  clear hTB hPB
  go_wp2_with (at_builtin; go_loud (refine wpList_append_own_at _ rfl _ _ 54 rfl w.heap.size 5 i0 (.int .u8 0) 1 1 Tryz.underlying54 hi hz0 hz1' hz2 rfl (by decide) v5 PB.length (PB.map encB) rfl (by exact hown56h.out) ⟨g6, 0, none⟩ TB.length cap6 (TB.map encB) rfl (by simp) (by exact hcell6.out) (by exact hone6.out) (by unfold maxLen; omega) (by omega) (by omega) ?_; intro v' w7 hown7 hgr7 _ hloc7))
  go_ret
  refine ⟨v', rfl, by rw [← hTBh.out, ← hPBh.out] at hown7; simpa using hown7, ((hck6.trans (own_grown hgr7) (fun i _ h => ?_)).mono (fun i hi h => ?_))⟩
  · rcases hnz5 with h0 | ⟨k, hk, hkz⟩
    · rw [h0] at h; cases h
    · rw [hk] at h; cases h; omega
  · omega
end Go.Proofs.YtkbnojjmpmlgjaaGreat

namespace Go.Proofs.YtkbnojjmpmlgjaaGreat
open Go.RowKit Go.Maps

/-- Times that may be. -/
def okT (t : Int) : Prop := 0 ≤ t ∧ t ≤ 1099511627776
theorem noT {o : POp} {t : Int} (ht : okT t) : (mayOp o = false ∨ 3 < o.kd ∨ t < 0 ∨ 1099511627776 < t) ↔ (mayOp o = false ∨ 3 < o.kd) := by
  unfold okT at ht
  constructor
  · rintro (h | h | h | h)
    · exact .inl h
    · exact .inr h
    · omega
    · omega
  · rintro (h | h)
    · exact .inl h
    · exact .inr (.inl h)
theorem hrep_self {s s' : Stk} {f f' : Tab} {o : POp} {r t t' : Int} {n : Bool} (ht : okT t) (ht' : okT t') (h : hAsk s f o t = (r, n, s', f')) : hAsk s' f' o t' = (r, false, s', f') := by
  by_cases hno : mayOp o = false ∨ 3 < o.kd
  · rw [hAsk_no ((noT ht).2 hno)] at h
    cases h
    exact hAsk_no ((noT ht').2 hno)
  · have hm : mayOp o = true := by
      cases hm : mayOp o with
      | true => rfl
      | false => exact absurd (.inl hm) hno
    have h3 : o.kd ≤ 3 := by omega
    by_cases hf : f (o.bk, o.kd) = 0
    · rw [hAsk_new hm h3 ht.1 ht.2 hf] at h
      cases h
      have hr := s.act_res2 o t
      have hu : upd f (o.bk, o.kd) (s.act o t).1 (o.bk, o.kd) = (s.act o t).1 := upd_same _ _ _
      rw [hAsk_old hm h3 ht'.1 ht'.2 (by rw [hu]; omega), hu]
    · rw [hAsk_old hm h3 ht.1 ht.2 hf] at h
      cases h
      exact hAsk_old hm h3 ht'.1 ht'.2 hf
theorem hrep_keep {s s' : Stk} {f f' : Tab} {o o' : POp} {r a t t' : Int} {n : Bool} (ht : okT t) (ht' : okT t') (h : hAsk s f o t = (r, n, s', f')) (h' : hAsk s f o' t' = (a, false, s, f)) : hAsk s' f' o' t' = (a, false, s', f') := by
  by_cases hno' : mayOp o' = false ∨ 3 < o'.kd
  · rw [hAsk_no ((noT ht').2 hno')] at h' ⊢
    cases h'
    rfl
  · have hm' : mayOp o' = true := by
      cases hm : mayOp o' with
      | true => rfl
      | false => exact absurd (.inl hm) hno'
    have h3' : o'.kd ≤ 3 := by omega
    by_cases hf' : f (o'.bk, o'.kd) = 0
    · rw [hAsk_new hm' h3' ht'.1 ht'.2 hf'] at h'
      cases h'
    · rw [hAsk_old hm' h3' ht'.1 ht'.2 hf'] at h'
      have ha : f (o'.bk, o'.kd) = a := by simpa using congrArg Prod.fst h'
      by_cases hno : mayOp o = false ∨ 3 < o.kd
      · rw [hAsk_no ((noT ht).2 hno)] at h
        cases h
        rw [hAsk_old hm' h3' ht'.1 ht'.2 hf', ha]
      · have hm : mayOp o = true := by
          cases hm : mayOp o with
          | true => rfl
          | false => exact absurd (.inl hm) hno
        have h3 : o.kd ≤ 3 := by omega
        by_cases hf : f (o.bk, o.kd) = 0
        · rw [hAsk_new hm h3 ht.1 ht.2 hf] at h
          cases h
          have hne : (o'.bk, o'.kd) ≠ (o.bk, o.kd) := fun e => hf' (by rw [e]; exact hf)
          have hu : upd f (o.bk, o.kd) (s.act o t).1 (o'.bk, o'.kd) = f (o'.bk, o'.kd) := upd_other _ _ _ _ hne
          rw [hAsk_old hm' h3' ht'.1 ht'.2 (by rw [hu]; exact hf'), hu, ha]
        · rw [hAsk_old hm h3 ht.1 ht.2 hf] at h
          cases h
          rw [hAsk_old hm' h3' ht'.1 ht'.2 hf', ha]
theorem hans_ask {s s' : Stk} {f f' : Tab} {o : POp} {r t : Int} {n : Bool} (h : hAsk s f o t = (r, n, s', f')) (hA : Ans f) : Ans f' := by
  unfold hAsk at h
  split at h
  · cases h; exact hA
  split at h
  · cases h; exact hA
  · cases h
    intro q
    unfold upd
    split
    · exact .inr (s.act_res2 o t)
    · exact hA q

theorem hostB_ne (s : Stk) (f : Tab) : hostB s f ≠ [] := by
  have := nb_ne s.cap
  unfold hostB Stk.bytes
  simp [this]
theorem host_bytesG {S : Nat → Prop} {w : World} {b : Nat} {s : Stk} {f : Tab} (hW : HostW S w b s f) (hG : s.Good) (hA : Ans f) :
    Calls Tryz.prog 13 #[.pointer (some ⟨b, 0, none⟩)] w fun e w' => ∃ g n cap, e = .returned (.slice (some ⟨g, 0, none⟩) n cap) ∧ g < w'.heap.size ∧
      (∀ w9 : World, w9.heap[g]? = w'.heap[g]? → (convert 54 9 (.slice (some ⟨g, 0, none⟩) n cap)).run Tryz.prog w9 = .ok (.string (bstr (hostB s f))) w9) ∧ Chg (fun _ => False) w w' := by
  refine (host_bytes hW hG hA).mono ?_
  rintro e w' ⟨v, rfl, hown, hc⟩
  obtain ⟨g, cap, rfl, _, hlt, hcell⟩ := bytes_cells hown (hostB_ne s f)
  refine ⟨g, _, cap, rfl, hlt, fun w9 h9 => bytes_str (fun j u hj => ?_), hc⟩
  have h1 := hcell j u hj
  have hb : ((⟨g, 0, none⟩ : Addr).add j).block = g := by unfold Addr.add; split <;> rfl
  exact (World.cell?_of_block (by rw [hb]; exact h9)).trans h1

set_option maxRecDepth 100000 in
theorem hask_nil (w : World) (o : POp) (t : Int) : Calls Tryz.prog 9 #[.pointer none, o.val, .int .i64 t] w fun e w' => e = .returned (.tuple #[.int .i64 2, .bool false]) ∧ Chg (fun _ => False) w w' := by
  go_enter Tryz.func9, Tryz.ntmps9
  unfold POp.val
  go_wp2_with fail
  go_ret2
  exact ⟨rfl, (((Chg.refl _ w).alloc _).alloc _).alloc _⟩
theorem hbytes_nil (w : World) : Calls Tryz.prog 13 #[.pointer none] w fun e w' => e = .returned (.slice none 0 0) ∧ w' = w := by
  go_enter Tryz.func13, Tryz.ntmps13
  go_wp2
  go_ret
  exact ⟨rfl, rfl⟩
theorem hanswers_nil (w : World) : Calls Tryz.prog 11 #[.pointer none] w fun e w' => e = .returned (.int .i64 0) ∧ w' = w := by
  go_enter Tryz.func11, Tryz.ntmps11
  go_wp2
  go_ret
  exact ⟨rfl, rfl⟩
theorem hsweep_nil (w : World) (t : Int) : Calls Tryz.prog 7 #[.pointer none, .int .i64 t] w fun e w' => e = .returned (.slice none 0 0) ∧ w' = w := by
  go_enter Tryz.func7, Tryz.ntmps7
  go_wp2
  go_ret
  exact ⟨rfl, rfl⟩
theorem hstock_nil (w : World) : Calls Tryz.prog 12 #[.pointer none] w fun e w' => e = .returned (.pointer none) ∧ w' = w := by
  go_enter Tryz.func12, Tryz.ntmps12
  go_wp2
  go_ret
  exact ⟨rfl, rfl⟩
end Go.Proofs.YtkbnojjmpmlgjaaGreat

namespace Go.Proofs.YtkbnojjmpmlgjaaGreat
open Go.RowKit Go.Maps

theorem tabB_len {f : Tab} (hA : Ans f) : (tabB f).length ≤ 40000 := by
  unfold tabB
  rw [List.length_append, ← tkB_all]
  have h1 := tkB_len hA 1200 (Nat.le_refl _)
  have h2 := tkeys_len f
  have h3 := nb_len (v := ((tkeys f).length : Int)) (by omega)
  omega
def mayStk (c o : Int) : Bool := decide (0 ≤ c) && decide (c ≤ 1000000) && decide (0 ≤ o) && decide (o ≤ 1000000)
set_option maxRecDepth 100000 in
theorem mayStock_any (w : World) (c o : Int) : Calls Tryz.prog 5 #[.agg #[.int .i64 c, .int .i64 o]] w fun e w' => e = .returned (.bool (mayStk c o)) ∧ Chg (fun _ => False) w w' := by
  by_cases h1 : 0 ≤ c <;> by_cases h2 : c ≤ 1000000 <;> by_cases h3 : 0 ≤ o <;> by_cases h4 : o ≤ 1000000
  all_goals try (exfalso; omega)
  all_goals
    go_enter Tryz.func5, Tryz.ntmps5
    go_wp2
    go_ret
    exact ⟨by unfold mayStk; simp [*], (Chg.refl _ w).alloc _⟩

set_option maxRecDepth 100000 in
theorem stk_bad (w : World) (c o : Int) (h : mayStk c o = false) :
    Calls Tryz.prog 17 #[.agg #[.int .i64 c, .int .i64 o]] w fun e w' => e = .returned (.tuple #[.pointer none, .int .i64 1]) ∧ Chg (fun _ => False) w w' := by
  have hc : c < 0 ∨ 1000000 < c ∨ o < 0 ∨ 1000000 < o := by unfold mayStk at h; simp at h; omega
  clear h
  by_cases h1 : c < 0
  · clear hc
    go_enter Tryz.func17, Tryz.ntmps17
    go_wp2
    go_ret2
    exact ⟨rfl, (Chg.refl _ w).alloc _⟩
  by_cases h2 : 1000000 < c
  · clear hc
    go_enter Tryz.func17, Tryz.ntmps17
    go_wp2
    go_ret2
    exact ⟨rfl, (Chg.refl _ w).alloc _⟩
  by_cases h3 : o < 0
  · clear hc
    go_enter Tryz.func17, Tryz.ntmps17
    go_wp2
    go_ret2
    exact ⟨rfl, (Chg.refl _ w).alloc _⟩
  have h4 : 1000000 < o := by omega
  clear hc
  go_enter Tryz.func17, Tryz.ntmps17
  go_wp2
  go_ret2
  exact ⟨rfl, (Chg.refl _ w).alloc _⟩

theorem intsIn_own {w : World} {base : Nat} {v : Value} {g : List Int} (h : w.ownsRow base 3 1 v g.length (g.map encI)) (hlen : g.length ≤ maxLen) : ∃ ad cap, v = .slice ad g.length cap ∧ IntsIn w ad g := by
  rcases h.2 with ⟨rfl, h0⟩ | ⟨b, cap, cur, rfl, hb, hh, r⟩
  · refine ⟨none, 0, by rw [h0], hlen, fun k n hk => ?_⟩
    have := (List.getElem?_eq_some_iff.1 hk).1
    omega
  · refine ⟨_, _, rfl, hlen, fun k n hk => ⟨_, rfl, (Array.getElem?_eq_some_iff.1 hh).1, ?_⟩⟩
    exact own_cells_i h k _ (by rw [List.getElem?_map, hk]; rfl)
theorem IntsIn.chgB {w w' : World} {ad : Option Addr} {l : List Int} {S : Nat → Prop} (h : IntsIn w ad l) (hc : Chg S w w') (hs : ∀ a, ad = some a → ¬ S a.block) : IntsIn w' ad l :=
  ⟨h.len, fun k n hk => by
    obtain ⟨a, ha, hb, hj⟩ := h.at_ k n hk
    refine ⟨a, ha, Nat.lt_of_lt_of_le hb hc.size, ?_⟩
    have : (a.add k).block = a.block := by unfold Addr.add; split <;> rfl
    rw [hc.cell (by rw [this]; exact hb) (by rw [this]; exact hs a ha)]
    exact hj⟩
theorem intsIn_ownB {w : World} {base : Nat} {v : Value} {g : List Int} (h : w.ownsRow base 3 1 v g.length (g.map encI)) (hlen : g.length ≤ maxLen) : ∃ ad cap, v = .slice ad g.length cap ∧ IntsIn w ad g ∧ ∀ a, ad = some a → base ≤ a.block := by
  obtain ⟨ad, cap, rfl, hI⟩ := intsIn_own h hlen
  refine ⟨ad, cap, rfl, hI, fun a ha => ?_⟩
  subst ha
  exact (h.lt a.block rfl).1
theorem Stk.Good.sweepLen {s : Stk} (_h : s.Good) (t : Int) : (s.sweep t).1.length ≤ 200 := by
  unfold Stk.sweep
  split
  · simp
  · have h1 := sweepL_len t (bookings s.en) ([], s)
    have h2 := bookings_len s.en
    unfold Stk.sweepL
    simp at h1
    omega

theorem upd_tkeys {f : Tab} (hk : ∀ p, f p ≠ 0 → (1 ≤ p.1 ∧ p.1 ≤ 200) ∧ (1 ≤ p.2 ∧ p.2 ≤ 6)) {p : Int × Int} (hp : (1 ≤ p.1 ∧ p.1 ≤ 200) ∧ (1 ≤ p.2 ∧ p.2 ≤ 6)) (h0 : f p = 0) {a : Int} (ha : a ≠ 0) :
    (tkeys (upd f p a)).length = (tkeys f).length + 1 := by
  have hk2 : ∀ q, upd f p a q ≠ 0 → (1 ≤ q.1 ∧ q.1 ≤ 200) ∧ (1 ≤ q.2 ∧ q.2 ≤ 6) := fun q hq => by
    by_cases e : q = p
    · subst e; exact hp
    · rw [upd_other _ _ _ _ e] at hq; exact hk q hq
  have hperm : (tkeys (upd f p a)).Perm (p :: tkeys f) := by
    refine (List.perm_ext_iff_of_nodup (tkeys_nodup _) (List.nodup_cons.2 ⟨fun h => (tkeys_ne hk p).1 h h0, tkeys_nodup f⟩)).2 fun q => ?_
    rw [tkeys_ne hk2, List.mem_cons, tkeys_ne hk]
    by_cases e : q = p
    · subst e; simp [upd_same, ha]
    · simp [upd_other _ _ _ _ e, e]
  have := hperm.length_eq
  simpa using this

set_option maxRecDepth 100000 in
theorem hostNew_no (w : World) (c o : Int) (h : mayStk c o = false) :
    Calls Tryz.prog 4 #[.agg #[.int .i64 c, .int .i64 o]] w fun e w' => e = .returned (.tuple #[.pointer none, .int .i64 1]) ∧ Chg (fun _ => False) w w' := by
  have hh := Lib.hid h
  clear h
  have hcA := (Chg.refl (fun _ => False) w).alloc (.cells #[.int .i64 c, .int .i64 o] 23)
  go_enter Tryz.func4, Tryz.ntmps4
  go_wp2_with fail
  refine (stk_bad _ c o hh.out).mono ?_
  rintro e w1 ⟨rfl, hc1⟩
  go_wp2_with fail
  go_ret2
  exact ⟨rfl, hcA.trans hc1 (fun _ _ h => h)⟩

theorem HostW.keys {S : Nat → Prop} {w : World} {b : Nat} {s : Stk} {f : Tab} (h : HostW S w b s f) : ∀ p, f p ≠ 0 → (1 ≤ p.1 ∧ p.1 ≤ 200) ∧ (1 ≤ p.2 ∧ p.2 ≤ 6) := by
  obtain ⟨lb, mb, t, mt, h1, h2, h3, _⟩ := h
  exact h3.keys
theorem host_ans {S : Nat → Prop} {w : World} {b : Nat} {s : Stk} {f : Tab} (hW : HostW S w b s f) :
    Calls Tryz.prog 11 #[.pointer (some ⟨b, 0, none⟩)] w fun e w' => e = .returned (.int .i64 (tkeys f).length) ∧ w' = w :=
  host_answers hW (tkeys f) (tkeys_nodup f) (tkeys_ne hW.keys)
theorem hAsk_cnt {s : Stk} {f : Tab} {o : POp} {t r : Int} {n : Bool} {s' : Stk} {f' : Tab} (hk : ∀ p, f p ≠ 0 → (1 ≤ p.1 ∧ p.1 ≤ 200) ∧ (1 ≤ p.2 ∧ p.2 ≤ 6)) (h : hAsk s f o t = (r, n, s', f')) :
    ((tkeys f').length : Int) = if n = true then ((tkeys f).length : Int) + 1 else (tkeys f).length := by
  unfold hAsk at h
  split at h
  · cases h; rfl
  · rename_i h1
    split at h
    · cases h; rfl
    · rename_i h2
      cases h
      have hm : mayOp o = true := by
        cases hm : mayOp o with
        | true => rfl
        | false => exact absurd (.inl hm) h1
      have := upd_tkeys hk (p := (o.bk, o.kd)) ⟨mayOp_bk hm, mayOp_kd hm⟩ (by simpa using h2) (a := (s.act o t).1) (by have := s.act_res2 o t; omega)
      rw [if_pos rfl]
      omega

set_option maxRecDepth 100000 in
set_option maxHeartbeats 1000000 in
theorem rh_bytes {w : World} {x : Nat} {s : Stk} {f : Tab} {c : Int} (h : RHostAt w x s f c) (hG : s.Good) (hA : Ans f) (hc : c = (tkeys f).length) :
    Calls Tryz.prog 14 #[.pointer (some ⟨x, 0, none⟩)] w fun e w' => e = .returned (.string (bstr (hostB s f))) ∧ Chg (fun _ => False) w w' := by
  have hl1 := Stk.bytes_len hG hG.key
  have hl2 := tabB_len hA
  have z1 : (bstr s.bytes).size ≤ 9000 := by rw [bstr_size]; exact hl1
  have z2 : (bstr (tabB f)).size ≤ 40000 := by rw [bstr_size]; exact hl2
  have hd := (Chg.refl (fun _ => False) w).drew
  have hX := h.chg hd id
  have h1 := Lib.hid (ref_bytes hX.stock hG)
  have h2 := Lib.hid (fun w9 (h9 : Chg (fun _ => False) w w9) => rt_bytes (h.chg h9 id).table hA hc)
  have hs := bstr_append s.bytes (tabB f)
  have hsh := Lib.hid hs
  clear hl1 hl2 hX hs hc
  go_enter Tryz.func14, Tryz.ntmps14
  go_wp2_with fail
  refine wp_region_plan (by kernel_rfl) [{ fl := [0, 1, 2, 4, 5, 6], ef := 3 }, { fl := [], ef := 7 }] [8, 9] (by kernel_rfl) (fun _ _ => True) ?_
  simp only [wpPlan, longOK, keepOK, opsAt_cons, opsAt_nil, consO_some, List.getElem?_toArray, List.getElem?_cons_succ, List.getElem?_cons_zero, and_true, true_and]
  go_wp2_with fail
  refine ⟨by kernel_rfl, ?_⟩
  go_wp2_with fail
  refine h1.out.mono ?_
  rintro e w2 ⟨rfl, hc2⟩
  have hc2 := hd.trans hc2 (fun _ _ h => h)
  go_wp2_with fail
  refine ⟨by kernel_rfl, ?_⟩
  go_wp2_with fail
  refine (h2.out w2 hc2).mono ?_
  rintro e w3 ⟨rfl, hc3⟩
  go_wp2_with fail
  refine ⟨by kernel_rfl, ?_⟩
  go_wp2_with fail
  go_ret
  refine ⟨?_, hc2.trans hc3 (fun _ _ h => h)⟩
  rw [hsh.out]
  rfl

set_option maxRecDepth 100000 in
theorem rh_zero2 (C O : Int) : (Tryz.zeroCells41.setIfInBounds 0 (.int .i64 C)).setIfInBounds 1 (.int .i64 O) = arrF 2415 (rhCell (Stk.new C O) (fun _ => 0) 0) := by kernel_rfl
end Go.Proofs.YtkbnojjmpmlgjaaGreat
