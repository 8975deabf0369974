/-
  till: Bytes by its contract.
-/
import Derived.Test.YtddnpjlcmokbiaaTillB
import Derived.Test.YtddnpjlcmokbiaaTabG
import Derived.Test.YtddnpjlcmokbiaaZSortK
namespace Go.Proofs.Ytddnpjlcmokbiaa
open Go.RowKit Go.Maps

def tillB (p : Pur) (f : Tab) : List UInt8 := p.bytes ++ tabB f

theorem entT_len {f : Tab} (hA : Ans f) (hk : ∀ p, f p ≠ 0 → (1 ≤ p.1 ∧ p.1 ≤ 200) ∧ (1 ≤ p.2 ∧ p.2 ≤ 6)) : ((tkeys f).flatMap (entT f)).length ≤ 48000 := by
  have h := flat_lenG (f := entT f) (c := 40) (tkeys f) (fun p hp => by
    have hp := hk p ((tkeys_ne hk p).1 hp)
    have hap := hA p
    have h1 := nb_len (v := p.1) (by omega)
    have h2 := nb_len (v := p.2) (by omega)
    have h3 := nb_len (v := f p) (by omega)
    unfold entT
    simp only [List.length_append]
    omega)
  have := tkeys_len f
  omega
theorem Pur.bytes_len {p : Pur} {T : Int} (hG : p.Good T) (hT : T ≤ 1125899906842624) (hk : ∀ k, (p.en k).st ≠ 0 → 1 ≤ k ∧ k ≤ 200) : p.bytes.length ≤ 9000 := by
  have h := flat_len (f := p.entB) (c := 40) (bookings p.en) (fun x hx => Pur.entB_len hG (hk x ((bookings_mem p.en hk x).1 hx)))
  have hb := bookings_len p.en
  have h0 := nb_len (v := p.ac 0) (by have := hG.bounds 0 (by omega) (by omega); omega)
  have h1 := nb_len (v := p.ac 1) (by have := hG.bounds 1 (by omega) (by omega); omega)
  have h2 := nb_len (v := p.ac 2) (by have := hG.bounds 2 (by omega) (by omega); omega)
  have h3 := nb_len (v := p.ac 3) (by have := hG.bounds 3 (by omega) (by omega); omega)
  have h4 := nb_len (v := p.ac 4) (by have := hG.bounds 4 (by omega) (by omega); omega)
  have h5 := nb_len (v := p.ac 5) (by have := hG.bounds 5 (by omega) (by omega); omega)
  unfold Pur.bytes Pur.hdB
  simp only [List.length_append]
  omega

set_option maxRecDepth 100000 in
set_option maxHeartbeats 2000000 in
theorem till_bytes {S : Nat → Prop} {w : World} {b : Nat} {p : Pur} {f : Tab} {T : Int} (hW : TillW S w b p f) (hG : p.Good T) (hT : T ≤ 1125899906842624) (hA : Ans f) :
    Calls Try.prog 19 #[.pointer (some ⟨b, 0, none⟩)] w fun e w' => ∃ v, e = .returned v ∧ w'.ownsRow w.heap.size 5 1 v (tillB p f).length ((tillB p f).map encB) ∧ Chg (fun _ => False) w w' := by
  obtain ⟨lb, mb, lv, t, mt, hB0, hP0, hT0, hne, _⟩ := hW
  have hbz := hB0.lt
  have htz := hT0.blk.lt
  have hmz := hT0.map.lt
  have hWr := Wr.new (w := w) (P := fun i => i < w.heap.size) (fun _ h => h)
  have hck0 := (Chg.refl (fun i => w.heap.size ≤ i) w).alloc (.cells #[.slice none 0 0] 86)
  have hkl := tkeys_len f
  have hnl := nb_len (v := (tkeys f).length) (by omega)
  have hent := entT_len hA hT0.keys
  have hpb := Pur.bytes_len hG hT hP0.keys
  have till : ∀ w9 : World, Chg (fun i => w.heap.size ≤ i) w w9 → Blk w9 b 82 #[.pointer (some ⟨lb, 0, none⟩), .pointer (some ⟨t, 0, none⟩)] ∧ PurAt w9 lb mb lv p ∧ TabAt w9 t mt f := fun w9 h => by
    have hlz : ∀ k, lv.ownBlock = some k → k < w.heap.size := own_ltP hP0.own
    have hlbz := hP0.blk.lt
    have hmbz := hP0.map.lt
    exact ⟨hB0.chg h (by omega), hP0.chg h (by omega) (by omega) (fun k hk h => by have := hlz k hk; omega), hT0.chg h (by omega) (by omega)⟩
  have tillh := Lib.hid till
  obtain ⟨hB1, hP1, hT1⟩ := till _ hck0
  have hz1 := hck0.size
  clear till
  unfold tillB
  go_enter Try.func19, Try.ntmps19
  go_wp2_with fail
  generalize w.alloc (.cells #[.slice none 0 0] 86) = w1 at *
  refine (till_answers (S := fun _ => True) ⟨lb, mb, lv, t, mt, hB1, hP1, hT1, hne, trivial, trivial, trivial, fun _ _ => trivial, trivial, trivial⟩ (tkeys f) (tkeys_nodup f) (tkeys_ne hT1.keys)).mono ?_
  rintro e w2 ⟨rfl, rfl⟩
  go_wp2_with fail
  refine (hWr.int (fun i hi => by omega) hz1 _ (by omega) (by omega) (by simp)).mono ?_
  rintro e w3 ⟨rfl, hW3, hc3⟩
  have hck3 := hck0.trans hc3 (fun i _ h => h.1)
  obtain ⟨hB3, hP3, hT3⟩ := tillh.out _ hck3
  have c1 : w3.cell? ⟨b, 1, none⟩ = some (.pointer (some ⟨t, 0, none⟩)) := by rw [hB3.cell]; rfl
  clear hWr hck0 hc3 hB1 hP1 hT1
  go_wp2_with fail
  clear c1
  have hz3 := hck3.size
  refine (each_any hT3 hA hW3 htz hmz (fun i hi => by omega) hz3 (by simp; omega)).mono ?_
  rintro e w4 ⟨rfl, hW4, hc4⟩
  have hck4 := hck3.trans hc4 (fun i _ h => h.1)
  obtain ⟨hB4, hP4, hT4⟩ := tillh.out _ hck4
  have c0 : w4.cell? ⟨b, 0, none⟩ = some (.pointer (some ⟨lb, 0, none⟩)) := by rw [hB4.cell]; rfl
  clear hW3 hck3 hc4 hB3 hP3 hT3 hz3
  go_wp2_with fail
  clear c0
  refine (pur_bytes hP4 hG hT).mono ?_
  rintro e w5 ⟨v5, rfl, hown5, hc5⟩
  have hW5 := hW4.keep hc5
  have hck5 := hck4.trans hc5 (fun _ _ h => h.elim)
  have hz4 := hck4.size
  have hz5 := hc5.size
  clear hW4 hc5 hB4 hP4 hT4
  go_wp2_with fail
  have htb : [] ++ nb (tkeys f).length ++ (tkeys f).flatMap (entT f) = tabB f := by unfold tabB; simp
  rw [htb] at hW5
  have htl : (tabB f).length ≤ 50000 := by rw [← htb]; simp only [List.length_append, List.length_nil]; omega
  have htn : tabB f ≠ [] := by unfold tabB; have := nb_ne (tkeys f).length; simp [this]
  refine (hW5.bytes htn (by omega)).mono ?_
  rintro e w6 ⟨v6, rfl, hown6, hc6⟩
  have hown56 := own_chg hown5 hc6 (fun _ _ => id)
  have hck6 := hck5.trans hc6 (fun _ _ h => h.elim)
  obtain ⟨g6, cap6, rfl⟩ : ∃ g cap, v6 = .slice (some ⟨g, 0, none⟩) (tabB f).length cap := by
    rcases hown6.2 with ⟨_, h⟩ | ⟨g, cp, _, rfl, _⟩
    · exact absurd (List.eq_nil_of_length_eq_zero h) htn
    · exact ⟨_, _, rfl⟩
  have hcell6 := Lib.hid (own_cells_i hown6)
  have hone6 := Lib.hid (show ∀ u ∈ (tabB f).map encB, u.oneCell' = true by
    intro u hu
    obtain ⟨b, _, rfl⟩ := List.mem_map.1 hu
    rfl)
  have hz6 := hc6.size
  obtain ⟨i0, hi, hz0, hz1', hz2⟩ := info_parts infoByte
  have hnz5 : v5.ownBlock = none ∨ ∃ k, v5.ownBlock = some k ∧ w4.heap.size ≤ k := by
    cases hv : v5.ownBlock with
    | none => exact .inl rfl
    | some k => exact .inr ⟨k, rfl, (hown5.lt k hv).1⟩
  have hown56h := Lib.hid (ownsRow_base_a hown56 (show w.heap.size ≤ w4.heap.size by omega))
  clear hown5 hown6 hown56 hW5 htb hc6
  generalize hTB : tabB f = TB at *
  generalize hPB : p.bytes = PB at *
  have hTBh := Lib.hid hTB
  have hPBh := Lib.hid hPB
  clear hTB hPB
  go_wp2_with (at_builtin; go_loud (refine wpList_append_own_at _ rfl _ _ 58 rfl w.heap.size 5 i0 (.int .u8 0) 1 1 Try.underlying58 hi hz0 hz1' hz2 rfl (by decide) v5 PB.length (PB.map encB) rfl (by exact hown56h.out) ⟨g6, 0, none⟩ TB.length cap6 (TB.map encB) rfl (by simp) (by exact hcell6.out) (by exact hone6.out) (by unfold maxLen; omega) (by omega) (by omega) ?_; intro v' w7 hown7 hgr7 _ hloc7))
  go_ret
  refine ⟨v', rfl, by rw [← hTBh.out, ← hPBh.out] at hown7; simpa using hown7, ((hck6.trans (own_grown hgr7) (fun i _ h => ?_)).mono (fun i hi h => ?_))⟩
  · rcases hnz5 with h0 | ⟨k, hk, hkz⟩
    · rw [h0] at h; cases h
    · rw [hk] at h; cases h; omega
  · omega
end Go.Proofs.Ytddnpjlcmokbiaa
