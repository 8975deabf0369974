/-
  the reference's disk: Crash.
-/
import Derived.Test.YtpbjompopgdbjaaZRDskI
namespace Go.Proofs.Ytpbjompopgdbjaa
open Go.RowKit Go.Maps Go.Sort

section
variable {w : World} {base n cp : Nat} {ao : Option Addr} {m : List RF}
theorem own_file (h : w.ownsRow base 65 3 (.slice ao n cp) m.length (fcells m)) {i : Nat} {f : RF} (hi : m[i]? = some f) : ∃ g, ao = some ⟨g, 0, none⟩ ∧ n = m.length ∧ base ≤ g ∧ g < w.heap.size ∧ w.cell? ⟨g, i * 3 + 1, none⟩ = some (encStr f.s) ∧ w.cell? ⟨g, i * 3 + 2, none⟩ = some (.int .i64 f.sy) ∧
    (∀ k, w.frozen? ⟨g, k, none⟩ = false) := by
  have hl := (List.getElem?_eq_some_iff.1 hi).1
  rcases h.2 with ⟨e, h0⟩ | ⟨g, cap, cur, e, hb, hh, h1, h2, h3, h4⟩
  · omega
  · cases e
    have hB : Blk w g 65 cur := hh
    have hc : ∀ j u, f.row[j]? = some u → w.cell? ⟨g, i * 3 + j, none⟩ = some u := fun j u hj => by
      have h5 := fcells_get hi j u hj
      have h6 := (List.getElem?_eq_some_iff.1 h5).1
      rw [fcells_len] at h6
      rw [hB.cell, ← Array.getElem?_toList, ← h5, ← h4, List.getElem?_take_of_lt h6]
    exact ⟨g, rfl, rfl, hb, hB.lt, hc 1 _ rfl, hc 2 _ rfl, fun k => hB.frozen k⟩
theorem own_set {g : Nat} (h : w.ownsRow base 65 3 (.slice (some ⟨g, 0, none⟩) n cp) m.length (fcells m)) {i : Nat} {f f' : RF} (hi : m[i]? = some f) {j : Nat} (hj : j < 3) {u : Value} (hr : f'.row = f.row.set j u) :
    (w.setCell ⟨g, i * 3 + j, none⟩ u).ownsRow base 65 3 (.slice (some ⟨g, 0, none⟩) n cp) (m.set i f').length (fcells (m.set i f')) := by
  rcases h.2 with ⟨e, h0⟩ | ⟨g2, cap, cur, e, hb, hh, h1, h2, h3, h4⟩
  · cases e
  · cases e
    have hB : Blk w g 65 cur := hh
    refine ⟨by rw [fcells_len], .inr ⟨g, cp, cur.setIfInBounds (i * 3 + j) u, by rw [List.length_set], hb, hB.set (i * 3 + j) u, by rw [List.length_set]; exact h1, h2, by rw [Array.size_setIfInBounds]; exact h3, ?_⟩⟩
    rw [Array.toList_setIfInBounds, List.length_set, List.take_set, h4]
    exact fcells_set m i f f' j u hi hj hr
end
theorem RDAt.all {w : World} {base X n cp : Nat} {ao : Option Addr} {room : Int} {l : List RF} (h : RDAt w base X (.slice ao n cp) room l) : FilesIn w ao l := by
  intro j u hj
  rcases h.own.2 with ⟨e, h0⟩ | ⟨g2, cap, cur, e, hb, hh, h1, h2, h3, h4⟩
  · have : l = [] := List.eq_nil_of_length_eq_zero h0
    subst this
    simp [fcells] at hj
  · cases e
    have hB : Blk w g2 65 cur := hh
    have h6 := (List.getElem?_eq_some_iff.1 hj).1
    rw [fcells_len] at h6
    exact ⟨_, rfl, by rw [addr_at, hB.cell, Nat.zero_add, ← Array.getElem?_toList, ← hj, ← h4, List.getElem?_take_of_lt h6]⟩

theorem str_cut (l : List UInt8) (k : Nat) : Value.string ((⟨l.toArray⟩ : ByteArray).extract 0 k) = encStr (l.take k) := by
  rw [str_take]

set_option maxRecDepth 100000 in
set_option maxHeartbeats 4000000 in
theorem rd_crash {w : World} {base X : Nat} {v : Value} {D : Dsk} (h : RD w base X v D) (hG : D.Good) (hmx : D.ks.length ≤ 1000000) (hbase : base ≤ w.heap.size) (keep : Int) :
    Calls Try.prog 27 #[.pointer (some ⟨X, 0, none⟩), .int .i64 keep] w fun e w' => e = .returned (.tuple #[]) ∧ RDPost w w' base X v (D.crash keep) := by
  obtain ⟨l, hA, hI⟩ := h
  have hl : l.length ≤ 1000000 := by rw [hI.len hG]; exact hmx
  have hsz : ∀ f ∈ l, f.s.length ≤ 1000000 ∧ f.sy ≤ f.s.length := fun f hf => by
    obtain ⟨F, hF, q1, q2⟩ := (hI.mem f).1 hf
    have h1 := Dsk.len_le hG f.nm
    have h2 := hG.fit
    have h3 := hG.rm
    have h4 := hG.syn f.nm F hF
    rw [hF] at h1
    have h1 : F.bs.length ≤ D.used := h1
    rw [q1, q2]
    omega
  have Hsz := Lib.hid hsz
  have hIc := hI.crash keep
  obtain ⟨ao, cp, hv⟩ := hA.slice
  subst hv
  have c1 := hA.c1
  have iE := Ins.new (Chg.refl (fun _ => False) w)
  have hAE := hA.keep iE.chg
  have hall := hAE.all
  have c1E := hAE.c1
  have hXl : X < w.heap.size := hA.blk.lt
  have hBX : ∀ w', Chg (fun _ => False) w w' → Blk w' X 55 #[.int .i64 D.room, .slice ao l.length cp] := fun w' hc => (hA.keep hc).blk
  have HBX := Lib.hid hBX
  clear hBX hsz hI hA hAE
  go_enter Try.func27, Try.ntmps27
  go_wp2_with (at_builtin; go_loud (refine wpList_append_file (m := l) rfl _ _ rfl (by exact iE.own) rfl rfl rfl (by exact hall) (by exact iE.chg.size) (by simp; omega) ?_; intro v1 w1 hv1 hc1 hb1))
  have iP := iE.app hv1 hc1
  rw [List.nil_append] at iP
  obtain ⟨ao1, cp1, e1⟩ : ∃ ao1 cp1, v1 = .slice ao1 l.length cp1 := by
    rcases iP.own.2 with ⟨rfl, h0⟩ | ⟨g, cp, _, rfl, _⟩
    · exact ⟨none, 0, by rw [h0]⟩
    · exact ⟨_, _, rfl⟩
  subst e1
  clear hv1 hc1 hb1 iE hall c1E c1
  go_wp2_with fail
  go_loopw [5, 6] (fun v5 _ wr => ∃ k : Nat, v5 = .int .i64 k ∧ k ≤ l.length ∧ Ins w wr (.slice ao1 l.length cp1) ((l.take k).map (crashR keep) ++ l.drop k)) (fun v5 _ _ => 2000000 - (RowKit.intOf v5).toNat)
  case atStart => exact ⟨0, rfl, Nat.zero_le _, by simpa using iP⟩
  case round =>
    clear iP
    obtain ⟨k, rfl, hk, hIk⟩ := hrel
    by_cases hkl : k < l.length
    · obtain ⟨f, hf⟩ : ∃ f, l[k]? = some f := ⟨_, List.getElem?_eq_getElem hkl⟩
      have hdrop : l.drop k = f :: l.drop (k + 1) := by
        rw [List.drop_eq_getElem_cons hkl]
        congr 1
        exact (List.getElem?_eq_some_iff.1 hf).2
      obtain ⟨A, hAe⟩ : ∃ A, (l.take k).map (crashR keep) = A := ⟨_, rfl⟩
      have hAl : A.length = k := by rw [← hAe]; simp; omega
      obtain ⟨st, hst⟩ : ∃ st, stay keep ⟨f.s, f.sy⟩ = st := ⟨_, rfl⟩
      have hnext : (l.take (k + 1)).map (crashR keep) ++ l.drop (k + 1) = A ++ (⟨f.nm, f.s.take st, st⟩ : RF) :: l.drop (k + 1) := by
        rw [List.take_add_one, hf, List.map_append, hAe, ← hst]
        simp [crashR, RF.of, crashF]
      rw [hAe, hdrop] at hIk
      have hmid : (A ++ f :: l.drop (k + 1))[k]? = some f := by
        have := get_mid A (l.drop (k + 1)) f
        rw [hAl] at this
        exact this
      have hbnd := Hsz.out f (List.mem_of_getElem? hf)
      have hchg := hIk.chg
      obtain ⟨g, e, hn, hgb, hgl, k1, k2, kz⟩ := own_file hIk.own hmid
      subst e
      have kz1 := kz (k * 3 + 1)
      have kz2 := kz (k * 3 + 2)
      have hS1 := fun (w9 : World) (h9 : Ins w w9 (.slice (some ⟨g, 0, none⟩) l.length cp1) (A ++ f :: l.drop (k + 1))) => own_set (j := 1) (u := encStr (f.s.take st)) (f' := ⟨f.nm, f.s.take st, f.sy⟩) h9.own hmid (by decide) rfl
      have hset : (A ++ f :: l.drop (k + 1)).set k (⟨f.nm, f.s.take st, f.sy⟩ : RF) = A ++ (⟨f.nm, f.s.take st, f.sy⟩ : RF) :: l.drop (k + 1) := by
        have := set_mid A (l.drop (k + 1)) f (⟨f.nm, f.s.take st, f.sy⟩ : RF)
        rw [hAl] at this
        exact this
      have hset2 : (A ++ (⟨f.nm, f.s.take st, f.sy⟩ : RF) :: l.drop (k + 1)).set k (⟨f.nm, f.s.take st, st⟩ : RF) = A ++ (⟨f.nm, f.s.take st, st⟩ : RF) :: l.drop (k + 1) := by
        have := set_mid A (l.drop (k + 1)) (⟨f.nm, f.s.take st, f.sy⟩ : RF) (⟨f.nm, f.s.take st, st⟩ : RF)
        rw [hAl] at this
        exact this
      have hmid2 : (A ++ (⟨f.nm, f.s.take st, f.sy⟩ : RF) :: l.drop (k + 1))[k]? = some (⟨f.nm, f.s.take st, f.sy⟩ : RF) := by
        have := get_mid A (l.drop (k + 1)) (⟨f.nm, f.s.take st, f.sy⟩ : RF)
        rw [hAl] at this
        exact this
      have fin : Ins w ((wr.drew.drew.setCell ⟨g, k * 3 + 1, none⟩ (encStr (f.s.take st))).setCell ⟨g, k * 3 + 2, none⟩ (.int .i64 st)) (.slice (some ⟨g, 0, none⟩) l.length cp1) ((l.take (k + 1)).map (crashR keep) ++ l.drop (k + 1)) := by
        have h1 : Ins w wr.drew.drew (.slice (some ⟨g, 0, none⟩) l.length cp1) (A ++ f :: l.drop (k + 1)) := ⟨own_chg hIk.own ((Chg.refl (fun _ => False) wr).drew.drew) (fun _ _ => id), hchg.drew.drew⟩
        have h2 := hS1 _ h1
        rw [hset] at h2
        have h3 := own_set (j := 2) (u := .int .i64 st) (f' := ⟨f.nm, f.s.take st, st⟩) h2 hmid2 (by decide) rfl
        rw [hset2] at h3
        rw [hnext]
        exact ⟨h3, Chg.setCell (Chg.setCell (hchg.drew.drew) (.inr hgb) _) (.inr hgb) _⟩
      have Fin := Lib.hid fin
      have hlt : (f.s.take st).length = st := by
        rw [List.length_take]
        have : st ≤ f.s.length := by rw [← hst]; unfold stay; simp only; omega
        omega
      have hstl : st ≤ f.s.length := by rw [← hlt, List.length_take]; omega
      have hst2 : st = f.sy + min (max keep 0).toNat (f.s.length - f.sy) := hst.symm
      have Hst := Lib.hid hst2
      have kd1 : wr.drew.cell? ⟨g, k * 3 + 1, none⟩ = some (encStr f.s) := k1
      have kd2 : wr.drew.cell? ⟨g, k * 3 + 2, none⟩ = some (.int .i64 f.sy) := k2
      clear hf hdrop hAe hAl hst hnext hIk hmid hchg hn hS1 hset hset2 hmid2 fin hst2 hgb kz
      obtain ⟨hb1, hb2⟩ := hbnd
      go_wp2_with fail
      refine wp_region_plan (by kernel_rfl) [{ fl := [0, 1, 2, 3, 4, 5, 6, 7, 8, 9, 10, 11], long := [5], ef := 12 }] [] (by kernel_rfl) (fun _ _ => True) ?_
      simp only [wpPlan, longOK, keepOK, opsAt_cons, opsAt_nil, consO_some, List.getElem?_toArray, List.getElem?_cons_succ, List.getElem?_cons_zero, and_true, true_and]
      go_wp2_with fail
      refine ⟨by kernel_rfl, ?_, ?_⟩
      · intro _ w9 _
        go_simp
      go_wp2_with fail
      refine ⟨by kernel_rfl, ?_⟩
      by_cases hkk : keep < (f.s.length : Int) - f.sy
      · obtain ⟨K, hK⟩ : ∃ K : Nat, max keep 0 = (K : Int) := ⟨(max keep 0).toNat, by omega⟩
        have hT : (f.sy : Int) + K = st := by have := Hst.out; omega
        go_wp2_with fail
        refine wp_region_plan (by kernel_rfl) [{ fl := [0, 1, 2, 3, 4, 5, 6, 7, 8, 9, 10, 11, 12, 13, 14, 15, 16], long := [14], ef := 17 }] [] (by kernel_rfl) (fun _ _ => True) ?_
        simp only [wpPlan, longOK, keepOK, opsAt_cons, opsAt_nil, consO_some, List.getElem?_toArray, List.getElem?_cons_succ, List.getElem?_cons_zero, and_true, true_and]
        go_wp2_with fail
        refine ⟨by kernel_rfl, ?_, ?_⟩
        · intro _ w9 _
          go_simp
          try omega
        go_wp2_with fail
        refine ⟨by kernel_rfl, ?_⟩
        rw [str_cut]
        go_wp2_with fail
        go_roundw
        case rel => exact ⟨k + 1, by go_num, by omega, Fin.out⟩
        case measure => simp [RowKit.intOf]; omega
      · obtain ⟨K, hK⟩ : ∃ K : Nat, (f.s.length : Int) - f.sy = (K : Int) := ⟨f.s.length - f.sy, by omega⟩
        have hT : (f.sy : Int) + K = st := by have := Hst.out; omega
        go_wp2_with fail
        refine wp_region_plan (by kernel_rfl) [{ fl := [0, 1, 2, 3, 4, 5, 6, 7, 8, 9, 10, 11, 12, 13, 14, 15, 16], long := [14], ef := 17 }] [] (by kernel_rfl) (fun _ _ => True) ?_
        simp only [wpPlan, longOK, keepOK, opsAt_cons, opsAt_nil, consO_some, List.getElem?_toArray, List.getElem?_cons_succ, List.getElem?_cons_zero, and_true, true_and]
        go_wp2_with fail
        refine ⟨by kernel_rfl, ?_, ?_⟩
        · intro _ w9 _
          go_simp
          try omega
        go_wp2_with fail
        refine ⟨by kernel_rfl, ?_⟩
        rw [str_cut]
        go_wp2_with fail
        go_roundw
        case rel => exact ⟨k + 1, by go_num, by omega, Fin.out⟩
        case measure => simp [RowKit.intOf]; omega
    · have hke : k = l.length := by omega
      subst hke
      rw [List.take_length, List.drop_length, List.append_nil] at hIk
      have hcB := HBX.out _ hIk.chg
      have c1C : wr.cell? ⟨X, 1, none⟩ = some (.slice ao l.length cp) := hcB.cell 1
      have fzC : wr.frozen? ⟨X, 1, none⟩ = false := hcB.frozen 1
      have hst := rd_store (base := base) hcB (own_le hIk.own hbase)
      have fin : RDPost w (wr.setCell ⟨X, 1, none⟩ (.slice ao1 l.length cp1)) base X (.slice ao l.length cp) (D.crash keep) := by
        refine ⟨_, ⟨_, hst, hIc⟩, Chg.setCell (hIk.chg.mono (fun _ _ h => h.elim)) (.inl (.inl rfl)) _, fun k hk => .inr (own_blk hIk.own hk).1⟩
      clear hIk hcB hst
      go_wp2_with fail
      go_end0
      exact ⟨rfl, fin⟩
end Go.Proofs.Ytpbjompopgdbjaa
