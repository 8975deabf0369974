/-
  The reference's purse: Bytes; a ledger's bytes as a string. (Printed by wip/tools/genrpurf.py.)
-/
import Derived.Test.YtddnpjlcmokbiaaZRTabA
import Derived.Test.YtddnpjlcmokbiaaRefI
import Derived.Test.YtddnpjlcmokbiaaZSortK
import Derived.Test.YtddnpjlcmokbiaaRPurN
import Derived.Test.YtddnpjlcmokbiaaZRegionE
import Derived.Test.YtddnpjlcmokbiaaZPurseH
import Derived.Test.YtddnpjlcmokbiaaPurseGr
import Derived.Test.YtddnpjlcmokbiaaZPackW
import Derived.Test.YtddnpjlcmokbiaaPurseK
import Derived.Test.YtddnpjlcmokbiaaArrG
namespace Go.Proofs.Ytddnpjlcmokbiaa
open Go.RowKit Go.Maps
variable {R : QEnv}

/-- The bookings 1..k that there are. -/
def bookN (en : Int → Ent) (k : Nat) : List Int := ((List.range k).map fun (i : Nat) => (i : Int) + 1).filter fun b => decide ((en b).st ≠ 0)
theorem bookN_succ (en : Int → Ent) (k : Nat) : bookN en (k + 1) = bookN en k ++ (if (en ((k : Int) + 1)).st = 0 then [] else [(k : Int) + 1]) := by
  unfold bookN
  rw [List.range_succ, List.map_append, List.filter_append]
  congr 1
  by_cases h : (en ((k : Int) + 1)).st = 0
  · simp [h]
  · simp [h]

theorem bstr_append (a b : List UInt8) : bstr a ++ bstr b = bstr (a ++ b) := by
  unfold bstr
  apply ByteArray.ext
  simp

theorem bstr_size (a : List UInt8) : (bstr a).size = a.length := by unfold bstr; simp [ByteArray.size]
theorem bsize (a b : ByteArray) : (a ++ b).size = a.size + b.size := by simp

def hdN (p : Pur) : Nat → List UInt8
  | 0 => []
  | k + 1 => hdN p k ++ nb (p.ac k)
theorem hdN_succ (p : Pur) (k : Nat) : hdN p (k + 1) = hdN p k ++ nb (p.ac k) := rfl
theorem hdN_6 (p : Pur) : hdN p 6 = p.hdB := by
  unfold Pur.hdB
  simp [hdN]
theorem hdN_len {p : Pur} {T : Int} (hG : p.Good T) (hT : T ≤ 1125899906842624) : ∀ k : Nat, k ≤ 6 → (hdN p k).length ≤ 10 * k
  | 0, _ => Nat.le_refl _
  | k + 1, h => by
    have h1 := hdN_len hG hT k (by omega)
    have h2 := hG.bounds k (by omega) (by omega)
    have h3 := nb_len (v := p.ac k) (by omega)
    rw [hdN_succ, List.length_append]
    omega

set_option maxRecDepth 100000 in
set_option maxHeartbeats 1000000 in
theorem rq_bytes {w : World} {x : Nat} {lv : Value} {p : Pur} {T : Int} (h : QBlk R w x p.ac p.en lv) (hG : p.Good T) (hT : T ≤ 1125899906842624) :
    Calls Try.prog 22 #[.pointer (some ⟨x, 0, none⟩)] w fun e w' => e = .returned (.string (bstr p.bytes)) ∧ Chg (fun _ => False) w w' := by
  have hen := fun k => Pur.entB_len hG (b := k)
  have hbd := hG.bounds
  have hhl : ∀ k : Nat, k ≤ 6 → (hdN p k).length ≤ 60 := fun k hk => by have := hdN_len hG hT k hk; omega
  go_enter Try.func22, Try.ntmps22
  go_wp2_with fail
  go_loopw [3, 4] (fun v3 v4 wr => ∃ k : Nat, k ≤ 6 ∧ v3 = .string (bstr (hdN p k)) ∧ v4 = .int .i64 k ∧ Chg (fun _ => False) w wr) (fun _ v4 _ => 6 - (RowKit.intOf v4).toNat)
  case atStart => exact ⟨0, Nat.zero_le _, rfl, rfl, Chg.refl _ _⟩
  case round =>
    obtain ⟨k, hk, rfl, rfl, hck⟩ := hrel
    have hX : QBlk R wr x p.ac p.en lv := Blk.chg h hck id
    by_cases hlt : k < 6
    · obtain ⟨A, hA⟩ : ∃ A, p.ac k = A := ⟨_, rfl⟩
      have hAb := hbd k (by omega) (by omega)
      have a0 := hX.acc k hlt
      have hs := hdN_succ p k
      have hl := hhl k hk
      rw [hA] at hAb a0 hs
      obtain ⟨hA0, hA1⟩ := hAb
      have hz := nb_len (v := A) (by omega)
      have zA : (bstr (nb A)).size ≤ 10 := by rw [bstr_size]; exact hz
      have zH : (bstr (hdN p k)).size ≤ 60 := by rw [bstr_size]; exact hl
      have hsh := Lib.hid hs
      obtain ⟨H, hH⟩ : ∃ H, hdN p k = H := ⟨_, rfl⟩
      rw [hH] at zH ⊢
      have hHh := Lib.hid hH
      have bk0 : (0 : Int) ≤ (k : Int) := by omega
      have bk1 : (k : Int) < 6 := by omega
      clear hA hs hl hH hX
      go_wp2_with fail
      refine (refInt_any _ A (by omega) (by omega)).mono ?_
      rintro e w2 ⟨rfl, hc2⟩
      have hck2 := hck.trans hc2 (fun _ _ h => h)
      go_wp2_with fail
      go_roundw
      case rel => exact ⟨k + 1, by omega, by rw [hsh.out, hHh.out, bstr_append], by go_num, hck2⟩
      case measure => simp [RowKit.intOf]; omega
    have hk6 : k = 6 := by omega
    subst hk6
    rw [hdN_6, show ((6 : Nat) : Int) = 6 from rfl]
    obtain ⟨pre, hpre⟩ : ∃ pre, p.hdB = pre := ⟨_, rfl⟩
    have hpl : pre.length ≤ 60 := by rw [← hpre, ← hdN_6]; exact hhl 6 (Nat.le_refl _)
    rw [hpre]
    have hpreh := Lib.hid hpre
    obtain ⟨wq, rfl⟩ : ∃ wq : World, wq = wr := ⟨wr, rfl⟩
    have hc2 := hck
    clear hpre hck hX hhl hbd
    go_wp2_with fail
    go_loopw [3, 5] (fun v3 v4 wr => ∃ k : Nat, k ≤ 200 ∧ v3 = .string (bstr (pre ++ (bookN p.en k).flatMap p.entB)) ∧ v4 = .int .i64 ((k : Int) + 1) ∧ Chg (fun _ => False) w wr) (fun _ v4 _ => 201 - (RowKit.intOf v4).toNat)
    case atStart => exact ⟨0, Nat.zero_le _, by simp [bookN], rfl, hc2⟩
    case round =>
      clear hc2
      obtain ⟨k, hk, rfl, rfl, hck⟩ := hrel
      have hX : QBlk R wr x p.ac p.en lv := Blk.chg h hck id
      have hbl : (bookN p.en k).length ≤ k := by unfold bookN; refine Nat.le_trans (List.length_filter_le _ _) ?_; simp
      have hfl := flat_len (f := p.entB) (c := 40) (bookN p.en k) (fun b hb => hen b (hG.key b (by
        unfold bookN at hb
        simpa using (List.mem_filter.1 hb).2)))
      have hzP : (bstr (pre ++ (bookN p.en k).flatMap p.entB)).size ≤ 10000 := by rw [bstr_size, List.length_append]; omega
      by_cases hlt : k < 200
      · have hbs := Lib.hid (bookN_succ p.en k)
        obtain ⟨y, hy⟩ : ∃ y, p.en ((k : Int) + 1) = y := ⟨_, rfl⟩
        obtain ⟨c0, c1, c2, c3, c4⟩ := hX.cells (k + 1) (by omega) (y := y) (by rw [← hy]; rfl)
        have hyb := hG.ent ((k : Int) + 1)
        rw [hy] at hyb
        obtain ⟨y0, y1, y2, y3, y4, y5⟩ := hyb
        have hentB : p.entB ((k : Int) + 1) = nb ((k : Int) + 1) ++ nb y.st ++ nb y.cu ++ nb y.am := by unfold Pur.entB; rw [hy]
        have hentBh := Lib.hid hentB
        have hyh := Lib.hid hy
        obtain ⟨Q, hQ⟩ : ∃ Q, pre ++ (bookN p.en k).flatMap p.entB = Q := ⟨_, rfl⟩
        rw [hQ] at hzP ⊢
        have hQh := Lib.hid hQ
        clear hentB hy hQ hfl
        by_cases hst : y.st = 0
        · have b0 : (y.st != 0) = false := by simp [hst]
          have hsth := Lib.hid hst
          clear hst
          go_wp2_with fail
          have hck2 := hck.alloc (.cells y.row 44)
          unfold Ent.row at hck2
          go_roundw
          case rel => exact ⟨k + 1, by omega, by rw [hbs.out, hyh.out, if_pos hsth.out, List.append_nil, hQh.out], by go_num, hck2⟩
          case measure => simp [RowKit.intOf]; omega
        · have b0 : (y.st != 0) = true := by simp [hst]
          have hsth := Lib.hid hst
          clear hst
          have hY := Blk.new wr 44 y.row
          have hckA := hck.alloc (.cells y.row 44)
          unfold Ent.row at hY hckA
          go_wp2_with fail
          clear c0 c1 c2 c3 c4 hck
          generalize wr.alloc (.cells #[.int .i64 y.st, .int .i64 y.un, .int .i64 y.til, .int .i64 y.cu, .int .i64 y.am] 44) = wa at *
          generalize hYe : wr.heap.size = Y at *
          clear hYe
          have ycell : ∀ w9 : World, w9.heap[Y]? = wa.heap[Y]? → w9.cell? ⟨Y, 0, none⟩ = some (.int .i64 y.st) ∧ w9.cell? ⟨Y, 3, none⟩ = some (.int .i64 y.cu) ∧ w9.cell? ⟨Y, 4, none⟩ = some (.int .i64 y.am) := fun w9 h9 => by
            have h2 := Blk.keep hY h9
            exact ⟨by rw [h2.cell]; rfl, by rw [h2.cell]; rfl, by rw [h2.cell]; rfl⟩
          obtain ⟨y0', y1', y2'⟩ := ycell wa rfl
          have ych := Lib.hid ycell
          clear ycell
          have z1 := nb_len (v := (k : Int) + 1) (by omega)
          have z2 := nb_len (v := y.st) (by omega)
          have z3 := nb_len (v := y.cu) (by omega)
          have z4 := nb_len (v := y.am) (by omega)
          have s1 : (bstr (nb ((k : Int) + 1))).size ≤ 10 := by rw [bstr_size]; exact z1
          have s2 : (bstr (nb y.st)).size ≤ 10 := by rw [bstr_size]; exact z2
          have s3 : (bstr (nb y.cu)).size ≤ 10 := by rw [bstr_size]; exact z3
          have s4 : (bstr (nb y.am)).size ≤ 10 := by rw [bstr_size]; exact z4
          have t1 : (bstr Q ++ bstr (nb ((k : Int) + 1))).size ≤ 11000 := by rw [bsize]; omega
          have t2 : (bstr Q ++ bstr (nb ((k : Int) + 1)) ++ bstr (nb y.st)).size ≤ 12000 := by rw [bsize]; omega
          have t3 : (bstr Q ++ bstr (nb ((k : Int) + 1)) ++ bstr (nb y.st) ++ bstr (nb y.cu)).size ≤ 13000 := by rw [bsize]; omega
          clear z1 z2 z3 z4
          refine wp_region_plan (by kernel_rfl) [{ fl := [0, 1, 4, 5, 8, 9, 12, 13], long := [5, 9, 13], ef := 2, keep := [5, 9, 13] }, { fl := [3], ef := 6, keep := [9, 13] }, { fl := [7], ef := 10, keep := [13] }, { fl := [11], ef := 14 }] [15, 16] (by kernel_rfl) (fun _ w9 => w9.heap[Y]? = wa.heap[Y]?) ?_
          simp only [wpPlan, longOK, keepOK, opsAt_cons, opsAt_nil, consO_some, List.getElem?_toArray, List.getElem?_cons_succ, List.getElem?_cons_zero, and_true, true_and]
          refine ⟨⟨rfl, rfl, rfl⟩, ?_⟩
          go_wp2_with fail
          refine ⟨by kernel_rfl, ⟨?_, ?_, ?_⟩, ?_⟩
          · intro _ w9 h9
            obtain ⟨d0, d1, d2⟩ := ych.out w9 h9
            clear h9
            go_simp
          · intro _ w9 h9
            obtain ⟨d0, d1, d2⟩ := ych.out w9 h9
            clear h9
            go_simp
          · intro _ w9 h9
            obtain ⟨d0, d1, d2⟩ := ych.out w9 h9
            clear h9
            go_simp
          go_wp2_with fail
          refine (refInt_any _ ((k : Int) + 1) (by omega) (by omega)).mono ?_
          rintro e wb1 ⟨rfl, hd1⟩
          have hd1 := ((Chg.refl (fun _ => False) wa).drew).trans hd1 (fun _ _ h => h)
          go_wp2_with fail
          refine ⟨⟨hd1.block Y hY.lt id, hd1.block Y hY.lt id, hd1.block Y hY.lt id⟩, ?_⟩
          go_wp2_with fail
          refine ⟨by kernel_rfl, ?_⟩
          go_wp2_with fail
          refine (refInt_any _ y.st (by omega) (by omega)).mono ?_
          rintro e wb2 ⟨rfl, hd2⟩
          have hd2 := hd1.trans hd2 (fun _ _ h => h)
          go_wp2_with fail
          refine ⟨⟨hd2.block Y hY.lt id, hd2.block Y hY.lt id⟩, ?_⟩
          go_wp2_with fail
          refine ⟨by kernel_rfl, ?_⟩
          go_wp2_with fail
          refine (refInt_any _ y.cu (by omega) (by omega)).mono ?_
          rintro e wb3 ⟨rfl, hd3⟩
          have hd3 := hd2.trans hd3 (fun _ _ h => h)
          go_wp2_with fail
          refine ⟨hd3.block Y hY.lt id, ?_⟩
          go_wp2_with fail
          refine ⟨by kernel_rfl, ?_⟩
          go_wp2_with fail
          refine (refInt_any _ y.am (by omega) (by omega)).mono ?_
          rintro e wb4 ⟨rfl, hd4⟩
          have hd4 := hd3.trans hd4 (fun _ _ h => h)
          go_wp2_with fail
          refine ⟨by kernel_rfl, ?_⟩
          go_wp2_with fail
          go_roundw
          case rel => exact ⟨k + 1, by omega, by rw [hbs.out, hyh.out, if_neg hsth.out, List.flatMap_append, ← List.append_assoc, hQh.out, List.flatMap_cons, List.flatMap_nil, List.append_nil, hentBh.out]; simp only [bstr_append, List.append_assoc], by go_num, hckA.trans hd4 (fun _ _ h => h)⟩
          case measure => simp [RowKit.intOf]; omega
      · have hk2 : k = 200 := by omega
        subst hk2
        have he : pre ++ (bookN p.en 200).flatMap p.entB = p.bytes := by unfold Pur.bytes; rw [← hpreh.out]; rfl
        rw [he]
        go_wp2_with fail
        go_ret
        exact ⟨rfl, hck⟩
end Go.Proofs.Ytddnpjlcmokbiaa

namespace Go.Proofs.Ytddnpjlcmokbiaa
open Go.RowKit Go.Maps

theorem Pur.bytes_ne (p : Pur) : p.bytes ≠ [] := by
  have := nb_ne (p.ac 0)
  unfold Pur.bytes Pur.hdB
  simp [this]
theorem pur_bytesG {w : World} {b mb : Nat} {lv : Value} {p : Pur} {T : Int} (h : PurAt w b mb lv p) (hG : p.Good T) (hT : T ≤ 1125899906842624) :
    Calls Try.prog 21 #[.pointer (some ⟨b, 0, none⟩)] w fun e w' => ∃ g n cap, e = .returned (.slice (some ⟨g, 0, none⟩) n cap) ∧ g < w'.heap.size ∧
      (∀ w9 : World, w9.heap[g]? = w'.heap[g]? → (convert 58 9 (.slice (some ⟨g, 0, none⟩) n cap)).run Try.prog w9 = .ok (.string (bstr p.bytes)) w9) ∧ Chg (fun _ => False) w w' := by
  refine (pur_bytes h hG hT).mono ?_
  rintro e w' ⟨v, rfl, hown, hc⟩
  obtain ⟨g, cap, rfl, _, hlt, hcell⟩ := bytes_cells hown p.bytes_ne
  refine ⟨g, _, cap, rfl, hlt, fun w9 h9 => bytes_str (fun j u hj => ?_), hc⟩
  have h1 := hcell j u hj
  have hb : ((⟨g, 0, none⟩ : Addr).add j).block = g := by unfold Addr.add; split <;> rfl
  exact (World.cell?_of_block (by rw [hb]; exact h9)).trans h1
end Go.Proofs.Ytddnpjlcmokbiaa
