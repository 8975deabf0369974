/-
  texts: slices of strings that are filled; sojournlaw6.texts, sojournlaw4.Texts by their contracts.
-/
import Derived.Test.YtpbjompopgdbjaaZSealX
import Derived.Test.YtpbjompopgdbjaaRowN
import Derived.Test.YtpbjompopgdbjaaRSeaB
namespace Go.Proofs.Ytpbjompopgdbjaa
open Go.RowKit Go.Maps

/-- A slice of strings that is being filled. -/
def TxtO (w : World) (base : Nat) (v : Value) (l : List Rec) : Prop := w.ownsRow base 9 1 v l.length (l.map encStr)
theorem TxtO.nil (w : World) (base : Nat) : TxtO w base (.slice none 0 0) [] := ⟨by simp, .inl ⟨rfl, rfl⟩⟩
theorem TxtO.chg {w w' : World} {base : Nat} {v : Value} {l : List Rec} (h : TxtO w base v l) {S : Nat → Prop} (hc : Chg S w w') (hS : ∀ i, base ≤ i → i < w.heap.size → ¬ S i) : TxtO w' base v l := own_chg h hc (fun k hk => by
  rcases h.2 with ⟨rfl, _⟩ | ⟨g, cap, cur, rfl, hb, hh, _⟩
  · simp [Value.ownBlock] at hk
  · simp [Value.ownBlock] at hk
    subst hk
    exact hS _ hb (Array.getElem?_eq_some_iff.1 hh).1)
theorem TxtO.strIn {w : World} {base : Nat} {v : Value} {l : List Rec} (h : TxtO w base v l) (hl : ∀ s ∈ l, s.length ≤ maxLen) : ∃ ad cap, v = .slice ad l.length cap ∧ StrIn w ad l ∧ ∀ a, ad = some a → base ≤ a.block ∧ a.block < w.heap.size := by
  rcases h.2 with ⟨rfl, h0⟩ | ⟨g, cap, cur, rfl, hb, hh, _, _, _, ht⟩
  · refine ⟨none, 0, by rw [h0], fun j s hj => ?_, fun a ha => by cases ha⟩
    rw [List.eq_nil_of_length_eq_zero h0] at hj
    simp at hj
  · have hg := (Array.getElem?_eq_some_iff.1 hh).1
    refine ⟨_, cap, rfl, fun j s hj => ⟨hl s (List.mem_of_getElem? hj), _, rfl, hg, ?_⟩, fun a ha => by cases ha; exact ⟨hb, hg⟩⟩
    have hjl := (List.getElem?_eq_some_iff.1 hj).1
    have h1 : (l.map encStr)[j]? = some (encStr s) := by rw [List.getElem?_map, hj]; rfl
    rw [← ht, List.getElem?_take_of_lt (by omega)] at h1
    rw [addr_at, Nat.zero_add, cell_of_row w g j cur _ (0, 0) hh, ← h1]
    simp
theorem infoT : (Try.prog.info? 9).map (fun i => (i.zero, i.size, i.bytes)) = some (some (encStr []), 1, 16) := by kernel_rfl
theorem infoT_parts : ∃ i, Try.prog.info? 9 = some i ∧ i.zero = some (encStr []) ∧ i.size = 1 ∧ i.bytes = 16 := by
  have h := infoT
  cases hi : Try.prog.info? 9 with
  | none => rw [hi] at h; cases h
  | some i =>
    rw [hi] at h
    simp only [Option.map_some, Option.some.injEq, Prod.mk.injEq] at h
    exact ⟨i, rfl, h.1, h.2.1, h.2.2⟩
/-- 'append(out, s)'. -/
theorem wpList_append_txt {w : World} {ops : Array Oper} {rest : List Oper} {o : Oper} {a : Act} {Q : Exit → Act → World → Prop} (hgd : o.guard = none) (s x : Operand)
    (ho : o.op = .call { callee := .builtin .append, args := #[s, x], argTypes := #[30, 30] })
    {base : Nat} {v : Value} {l : List Rec} (h : TxtO w base v l) (hv : a.eval s = v) {b : Rec} {g : Nat} (hx : a.eval x = .slice (some ⟨g, 0, none⟩) 1 1) (hcell : w.cell? ⟨g, 0, none⟩ = some (encStr b)) (hbase : base ≤ w.heap.size) (hl : l.length ≤ 1000000)
    (hK : ∀ v' w', TxtO w' base v' (l ++ [b]) → Chg (fun i => v.ownBlock = some i) w w' → (∃ ad cap, v' = .slice (some ad) (l.length + 1) cap) → wpList Try.prog ops Q rest (a.put o.dst v') w') : wpList Try.prog ops Q (o :: rest) a w := by
  obtain ⟨i, hi, hz, h1, h2⟩ := infoT_parts
  refine wpList_append_own_at _ hgd s x 30 ho base 9 i _ 1 16 Try.underlying30 hi hz h1 h2 rfl (by decide) v l.length (l.map encStr) hv h ⟨g, 0, none⟩ 1 1 [encStr b] hx rfl ?_ ?_ (by unfold maxLen; omega) (by omega) hbase ?_
  · intro j y hj
    match j, hj with
    | 0, hj =>
      simp at hj
      subst hj
      simpa [Addr.add] using hcell
    | j + 1, hj => simp at hj
  · intro y hy
    simp at hy
    subst hy
    rfl
  · intro v' w' hown' hgr _ _
    refine hK v' w' ?_ (own_grown hgr) ?_
    · unfold TxtO
      rw [List.length_append, List.map_append]
      exact hown'
    · rcases hown'.2 with ⟨_, h0⟩ | ⟨g, cap, _, rfl, _⟩
      · omega
      · exact ⟨_, cap, rfl⟩

set_option maxRecDepth 100000 in
set_option maxHeartbeats 1000000 in
/-- Two lists that are alike. -/
theorem Texts_eq {w : World} {a0 b0 : Option Addr} {l : List Rec} (ha : RowsB w a0 l) (hb : StrIn w b0 l) (c1 c2 : Nat) (hl : l.length ≤ 1000000) :
    Calls Try.prog 17 #[.slice a0 l.length c1, .slice b0 l.length c2] w fun e w' => e = .returned (.bool true) ∧ Chg (fun _ => False) w w' := by
  go_enter Try.func17, Try.ntmps17
  go_wp2_with fail
  go_loopw [5] (fun v5 wr => ∃ k : Nat, v5 = .int .i64 k ∧ k ≤ l.length ∧ Chg (fun _ => False) w wr) (fun v5 _ => 2000000 - (RowKit.intOf v5).toNat)
  case atStart => exact ⟨0, rfl, Nat.zero_le _, Chg.refl _ _⟩
  case round =>
    obtain ⟨k, rfl, hk, hcr⟩ := hrel
    by_cases hkl : k < l.length
    · obtain ⟨s, hs⟩ : ∃ s, l[k]? = some s := ⟨_, List.getElem?_eq_getElem hkl⟩
      have hd := hcr.drew
      obtain ⟨_, a, ao, c, rfl, _, k0, hby⟩ := (ha.chg hd (fun _ _ => id)) k s hs
      obtain ⟨_, b, rfl, k1⟩ := hb.at hd (fun _ _ => id) hs
      have hv := hby.conv s.length (Nat.le_refl _) c (fun i _ => rfl)
      rw [List.take_length] at hv
      have Hall := Lib.hid (fun w9 : World => fun (h9 : ∀ i, i < wr.drew.heap.size → w9.heap[i]? = wr.drew.heap[i]?) => hby.conv s.length (Nat.le_refl _) c h9)
      clear hs
      go_wp2_with fail
      refine wp_region_plan (by kernel_rfl) [{ fl := [0, 1, 2, 3, 5, 6, 7, 8], long := [8], ef := 4, keep := [8] }, { fl := [], ef := 9 }] [] (by kernel_rfl) (fun _ w9 => w9 = wr.drew) ?_
      simp only [wpPlan, longOK, keepOK, opsAt_cons, opsAt_nil, consO_some, List.getElem?_toArray, List.getElem?_cons_succ, List.getElem?_cons_zero, and_true, true_and]
      generalize wr.drew = w2 at *
      go_wp2_with fail
      refine ⟨by kernel_rfl, ?_, ?_⟩
      · intro _ w9 h9
        subst h9
        go_simp
      go_wp2_with fail
      refine ⟨trivial, ?_⟩
      go_wp2_with fail
      refine ⟨by kernel_rfl, ?_⟩
      go_wp2_with fail
      refine ⟨by kernel_rfl, ?_⟩
      go_wp2_with fail
      go_roundw
      case rel => exact ⟨k + 1, by go_num, by omega, hd⟩
      case measure => simp [RowKit.intOf]; omega
    · have hke : k = l.length := by omega
      subst hke
      go_wp2_with fail
      go_ret
      exact ⟨rfl, hcr⟩

set_option maxRecDepth 100000 in
set_option maxHeartbeats 1000000 in
theorem texts_any {w : World} {ad : Option Addr} {l : List Rec} (h : RowsB w ad l) (c : Nat) (hl : l.length ≤ 1000000) :
    Calls Try.prog 15 #[.slice ad l.length c] w fun e w' => ∃ ao cp, e = .returned (.slice ao l.length cp) ∧ StrIn w' ao l ∧ (∀ a, ao = some a → w.heap.size ≤ a.block) ∧ Chg (fun _ => False) w w' := by
  go_enter Try.func15, Try.ntmps15
  go_wp2_with fail
  go_loopw [3, 4] (fun v3 v4 wr => ∃ k : Nat, v4 = .int .i64 k ∧ k ≤ l.length ∧ TxtO wr w.heap.size v3 (l.take k) ∧ Chg (fun _ => False) w wr) (fun _ v4 _ => 2000000 - (RowKit.intOf v4).toNat)
  case atStart => exact ⟨0, rfl, Nat.zero_le _, TxtO.nil _ _, Chg.refl _ _⟩
  case round =>
    obtain ⟨k, rfl, hk, hT, hcr⟩ := hrel
    have hkl : (l.take k).length = k := by rw [List.length_take]; omega
    obtain ⟨ao, cp, rfl⟩ : ∃ ao cp, u3 = .slice ao k cp := by
      rcases hT.2 with ⟨h1, h0⟩ | ⟨g, cap, _, h1, _⟩
      · rw [hkl] at h0
        exact ⟨none, 0, by rw [h1, h0]⟩
      · rw [hkl] at h1
        exact ⟨_, _, h1⟩
    by_cases hlt : k < l.length
    · obtain ⟨s, hs⟩ : ∃ s, l[k]? = some s := ⟨_, List.getElem?_eq_getElem hlt⟩
      obtain ⟨_, a, bo, cb, rfl, _, k0, hby⟩ := (h.chg hcr (fun _ _ => id)) k s hs
      have hv := hby.conv s.length (Nat.le_refl _) cb (w' := wr) (fun i _ => rfl)
      rw [List.take_length] at hv
      have hsn : l.take (k + 1) = l.take k ++ [s] := by rw [List.take_add_one, hs]; rfl
      have Hsn := Lib.hid (And.intro hsn hkl)
      have hcA : Chg (fun _ => False) wr (wr.alloc (.cells #[encStr s] 9)) := (Chg.refl _ wr).alloc _
      have HT := Lib.hid (hT.chg hcA (fun _ _ _ => id))
      have hcell : (wr.alloc (.cells #[encStr s] 9)).cell? ⟨wr.heap.size, 0, none⟩ = some (encStr s) := by rw [(Blk.new wr _ _).cell]; rfl
      have hcrA := hcr.trans hcA (fun _ _ h => h)
      have hzr := hcr.size
      have hob : ∀ i, (Value.slice ao k cp).ownBlock = some i → w.heap.size ≤ i := fun i hi => by
        rcases hT.2 with ⟨h1, _⟩ | ⟨g, cap, _, h1, hb, _⟩
        · rw [h1] at hi; cases hi
        · rw [h1] at hi
          simp [Value.ownBlock] at hi
          omega
      clear hs hsn hT hkl
      go_wp2_with (at_builtin; go_loud (refine wpList_append_txt rfl _ _ rfl (by exact HT.out) rfl rfl (by exact hcell) (by rw [size_al]; omega) (by rw [Hsn.out.2]; omega) ?_; intro v' w5 hv5 hc5 hvv; obtain ⟨ad5, cp5, rfl⟩ := hvv))
      have hc5 : Chg (fun i => (Value.slice ao k cp).ownBlock = some i) _ w5 := hc5
      have hcw5 := ((hcrA.mono (fun _ _ h => h.elim) : Chg (fun i => w.heap.size ≤ i) w _).trans hc5 (fun i _ hk => hob i hk)).mono (T := fun _ => False) (fun i hi hk => by omega)
      rw [← Hsn.out.1, Hsn.out.2] at hv5
      go_roundw
      case rel => exact ⟨k + 1, by go_num, by omega, hv5, hcw5⟩
      case measure => simp [RowKit.intOf]; omega
    · have hke : k = l.length := by omega
      subst hke
      rw [List.take_length] at hT
      obtain ⟨ad, cap, e, hs, hb⟩ := hT.strIn (fun s hs => by
        obtain ⟨i, hi, rfl⟩ := List.getElem_of_mem hs
        exact (h i _ (List.getElem?_eq_getElem hi)).1)
      cases e
      go_wp2_with fail
      go_ret
      exact ⟨ao, cp, rfl, hs, fun a ha => (hb a ha).1, hcr⟩
end Go.Proofs.Ytpbjompopgdbjaa

namespace Go.Proofs.Ytpbjompopgdbjaa
open Go.RowKit Go.Maps

theorem DiskX.touch {P : Nat → Prop} {w w' : World} {d : Nat} {D : Dsk} (h : DiskX P w d D) (hc : Chg P w w') {Q : Nat → Prop} (hQ : ∀ i, Q i → P i ∨ (w.heap.size ≤ i ∧ i < w'.heap.size)) : DiskX Q w' d D := by
  obtain ⟨S, ⟨md, pl, hD⟩, hP⟩ := h
  refine ⟨fun i => S i ∧ i < w.heap.size, ⟨md, pl, hD.inside.chg hc (fun i hs hp => (hP i hp).1 hs.1)⟩, fun i hi => ?_⟩
  have hz := hc.size
  rcases hQ i hi with h1 | h1
  · exact ⟨fun h2 => (hP i h1).1 h2.1, by have := (hP i h1).2; omega⟩
  · exact ⟨fun h2 => by omega, h1.2⟩
section
variable {P : Nat → Prop} {w w' : World} {g d sy : Nat} {room age : Int} {st recs : List Rec}
theorem SealW.pg (h : SealW P w g d room age st recs sy) : P g := by
  obtain ⟨D, h1, h2, h3, h4, h5⟩ := h
  exact h2
theorem SealW.touch (h : SealW P w g d room age st recs sy) (hc : Chg (fun i => P i ∧ i ≠ g) w w') {Q : Nat → Prop} (hQ : ∀ i, Q i → P i ∨ (w.heap.size ≤ i ∧ i < w'.heap.size)) (hg : Q g) : SealW Q w' g d room age st recs sy := by
  obtain ⟨D, h1, h2, h3, h4, h5⟩ := h
  exact ⟨D, h1.touch (hc.mono (fun i _ h => h.1)) hQ, hg, Blk.chg h3 hc (fun h => h.2 rfl), h4, h5⟩
end
theorem TxtO.block {w : World} {base : Nat} {v : Value} {l : List Rec} (h : TxtO w base v l) {i : Nat} (hi : v.ownBlock = some i) : base ≤ i ∧ i < w.heap.size := by
  rcases h.2 with ⟨rfl, _⟩ | ⟨g, cap, cur, rfl, hb, hh, _⟩
  · simp [Value.ownBlock] at hi
  · simp [Value.ownBlock] at hi
    subst hi
    exact ⟨hb, (Array.getElem?_eq_some_iff.1 hh).1⟩
theorem TxtO.slice {w : World} {base : Nat} {v : Value} {l : List Rec} (h : TxtO w base v l) : ∃ ao cp, v = .slice ao l.length cp := by
  rcases h.2 with ⟨h1, h0⟩ | ⟨g, cap, _, h1, _⟩
  · exact ⟨none, 0, by rw [h1, h0]⟩
  · exact ⟨_, _, h1⟩
/-- Append to texts: the new block is the old one, or the next. -/
theorem wpList_append_txt2 {w : World} {ops : Array Oper} {rest : List Oper} {o : Oper} {a : Act} {Q : Exit → Act → World → Prop} (hgd : o.guard = none) (s x : Operand)
    (ho : o.op = .call { callee := .builtin .append, args := #[s, x], argTypes := #[30, 30] })
    {base : Nat} {v : Value} {l : List Rec} (h : TxtO w base v l) (hv : a.eval s = v) {b : Rec} {g : Nat} (hx : a.eval x = .slice (some ⟨g, 0, none⟩) 1 1) (hcell : w.cell? ⟨g, 0, none⟩ = some (encStr b)) (hbase : base ≤ w.heap.size) (hl : l.length ≤ 1000000)
    (hK : ∀ v' w', TxtO w' base v' (l ++ [b]) → Chg (fun i => v.ownBlock = some i) w w' → (∃ ad cap, v' = .slice (some ad) (l.length + 1) cap) → (v'.ownBlock = v.ownBlock ∨ v'.ownBlock = some w.heap.size) → wpList Try.prog ops Q rest (a.put o.dst v') w') : wpList Try.prog ops Q (o :: rest) a w := by
  obtain ⟨i, hi, hz, h1, h2⟩ := infoT_parts
  refine wpList_append_own_at _ hgd s x 30 ho base 9 i _ 1 16 Try.underlying30 hi hz h1 h2 rfl (by decide) v l.length (l.map encStr) hv h ⟨g, 0, none⟩ 1 1 [encStr b] hx rfl ?_ ?_ (by unfold maxLen; omega) (by omega) hbase ?_
  · intro j y hj
    match j, hj with
    | 0, hj =>
      simp at hj
      subst hj
      simpa [Addr.add] using hcell
    | j + 1, hj => simp at hj
  · intro y hy
    simp at hy
    subst hy
    rfl
  · intro v' w' hown' hgr _ hob
    refine hK v' w' ?_ (own_grown hgr) ?_ hob
    · unfold TxtO
      rw [List.length_append, List.map_append]
      exact hown'
    · rcases hown'.2 with ⟨_, h0⟩ | ⟨g, cap, _, rfl, _⟩
      · omega
      · exact ⟨_, cap, rfl⟩

end Go.Proofs.Ytpbjompopgdbjaa

namespace Go.Proofs.Ytpbjompopgdbjaa
open Go.RowKit Go.Maps

theorem File.pre {bs : List UInt8} {l : List (List UInt8)} {t : List UInt8} (h : File bs l t) {k : Nat} {b : List UInt8} (hb : l[k]? = some b) : bs = flat (l.take k) ++ (frm b ++ (flat (l.drop (k + 1)) ++ t)) := by
  have hk := (List.getElem?_eq_some_iff.1 hb).1
  have e : l = l.take k ++ (b :: l.drop (k + 1)) := by
    have h1 := (List.take_append_drop k l).symm
    rw [List.drop_eq_getElem_cons hk, (List.getElem?_eq_some_iff.1 hb).2] at h1
    exact h1
  rw [h.eq]
  conv => lhs; rw [e]
  rw [flat_app, flat_cons]
  simp [List.append_assoc]
theorem flat_snoc (l : List (List UInt8)) {k : Nat} {b : List UInt8} (hb : l[k]? = some b) : (flat (l.take (k + 1))).length = (flat (l.take k)).length + 6 + b.length := by
  rw [List.take_add_one, hb, flat_app]
  show (flat (l.take k) ++ flat [b]).length = _
  rw [flat_one, List.length_append, frm_len]
  omega
theorem flat_long : ∀ l : List (List UInt8), 6 * l.length ≤ (flat l).length
  | [] => Nat.le_refl _
  | b :: l => by
    have := flat_long l
    rw [flat_cons, List.length_append, frm_len, List.length_cons]
    omega

set_option maxRecDepth 100000 in
set_option maxHeartbeats 2000000 in
theorem rread_any (w : World) {bs : List UInt8} {l : List (List UInt8)} {t : List UInt8} (hF : File bs l t) (hlen : bs.length ≤ 1000000) :
    Calls Try.prog 42 #[encStr bs] w fun e w' => ∃ v, e = .returned (.tuple #[v, .int .i64 (flat l).length]) ∧ TxtO w' w.heap.size v l ∧ Chg (fun _ => False) w w' := by
  have hfl : (flat l).length ≤ bs.length := by rw [hF.eq, List.length_append]; omega
  have hll := flat_long l
  go_enter Try.func42, Try.ntmps42
  go_wp2_with fail
  go_loopw [4, 5, 6, 7] (fun v4 v5 _ _ wr => ∃ k : Nat, v5 = .int .i64 (flat (l.take k)).length ∧ k ≤ l.length ∧ TxtO wr w.heap.size v4 (l.take k) ∧ Chg (fun _ => False) w wr) (fun _ v5 _ _ _ => 2000000 - (RowKit.intOf v5).toNat)
  case atStart => exact ⟨0, rfl, Nat.zero_le _, TxtO.nil _ _, Chg.refl _ _⟩
  case round =>
    obtain ⟨k, rfl, hk, hT, hcr⟩ := hrel
    have hkl : (l.take k).length = k := by rw [List.length_take]; omega
    obtain ⟨ao, cp, e4⟩ := hT.slice
    rw [hkl] at e4
    subst e4
    by_cases hlt : k < l.length
    · obtain ⟨b, hb⟩ : ∃ b, l[k]? = some b := ⟨_, List.getElem?_eq_getElem hlt⟩
      have hpre := hF.pre hb
      have hok := hF.ok b (List.mem_of_getElem? hb)
      have hone := Lib.hid (rone_yes wr hpre hok hlen)
      have hsn := flat_snoc l hb
      have htk : l.take (k + 1) = l.take k ++ [b] := by rw [List.take_add_one, hb]; rfl
      have hmono := flat_take_mono l (i := k + 1) (j := l.length) (by omega)
      rw [List.take_length] at hmono
      have Hsn := Lib.hid (And.intro hsn (And.intro htk hkl))
      obtain ⟨p, hp⟩ : ∃ p, (flat (l.take k)).length = p := ⟨_, rfl⟩
      have Hp := Lib.hid hp
      rw [hp] at hone hsn ⊢
      have hbnd : p + 6 + b.length ≤ 1000000 := by omega
      have hokl := hok.1
      clear hpre hb hok hsn htk hmono hp
      go_wp2_with fail
      refine hone.out.mono ?_
      rintro e w3 ⟨rfl, hc3⟩
      have hT3 := hT.chg hc3 (fun _ _ _ => id)
      have hcr3 := hcr.trans hc3 (fun _ _ h => h)
      have hcA : Chg (fun _ => False) w3 (w3.alloc (.cells #[encStr b] 9)) := (Chg.refl _ w3).alloc _
      have HT := Lib.hid (hT3.chg hcA (fun _ _ _ => id))
      have hcell : (w3.alloc (.cells #[encStr b] 9)).cell? ⟨w3.heap.size, 0, none⟩ = some (encStr b) := by rw [(Blk.new w3 _ _).cell]; rfl
      have hcrA := hcr3.trans hcA (fun _ _ h => h)
      have hz3 := hcr3.size
      have hob : ∀ i, (Value.slice ao k cp).ownBlock = some i → w.heap.size ≤ i := fun i hi => (hT3.block hi).1
      have hlk : (l.take k).length ≤ 1000000 := by rw [hkl]; omega
      clear hT hT3 hcr hcr3 hc3 hone hkl
      go_wp2_with (at_builtin; go_loud (refine wpList_append_txt2 rfl _ _ rfl (by exact HT.out) rfl rfl (by exact hcell) (by rw [size_al]; omega) hlk ?_; intro v' w5 hv5 hc5 hvv hnb; obtain ⟨ad5, cp5, rfl⟩ := hvv))
      have hc5 : Chg (fun i => (Value.slice ao k cp).ownBlock = some i) (w3.alloc (.cells #[encStr b] 9)) w5 := hc5
      have hcw5 := ((hcrA.mono (fun _ _ h => h.elim) : Chg (fun i => w.heap.size ≤ i) w _).trans hc5 (fun i _ hk => hob i hk)).mono (T := fun _ => False) (fun i hi hk => by omega)
      rw [← Hsn.out.2.1, Hsn.out.2.2] at hv5
      go_wp2_with fail
      go_roundw
      case rel => exact ⟨k + 1, by rw [Hsn.out.1, Hp.out]; push_cast; rfl, by omega, hv5, hcw5⟩
      case measure => simp [RowKit.intOf]; omega
    · have hke : k = l.length := by omega
      subst hke
      rw [List.take_length] at hT ⊢
      have hone := Lib.hid (rone_no wr hF.eq hF.tr hlen)
      obtain ⟨p, hp⟩ : ∃ p, (flat l).length = p := ⟨_, rfl⟩
      have Hp := Lib.hid hp
      rw [hp] at hone ⊢
      clear hp
      go_wp2_with fail
      refine hone.out.mono ?_
      rintro e w3 ⟨rfl, hc3⟩
      have hT3 := hT.chg hc3 (fun _ _ _ => id)
      have hcr3 := hcr.trans hc3 (fun _ _ h => h)
      clear hT hcr hone hc3
      go_wp2_with fail
      go_ret2
      exact ⟨.slice ao l.length cp, by rw [Hp.out]; rfl, hT3, hcr3⟩
end Go.Proofs.Ytpbjompopgdbjaa
