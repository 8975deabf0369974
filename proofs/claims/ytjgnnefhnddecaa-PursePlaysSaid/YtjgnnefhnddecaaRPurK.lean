/-
  The reference's purse: Bytes. (Printed by wip/tools/genrpurf.py.)
-/
import Derived.Test.YtjgnnefhnddecaaRPurA
import Derived.Test.YtjgnnefhnddecaaRefI
import Derived.Test.YtjgnnefhnddecaaPurseY
import Derived.Test.YtjgnnefhnddecaaRPurN
import Derived.Test.YtjgnnefhnddecaaRegionF
import Derived.Test.YtjgnnefhnddecaaPurseW
import Derived.Test.YtjgnnefhnddecaaPurseGr
import Derived.Test.YtjgnnefhnddecaaPackB
import Derived.Test.YtjgnnefhnddecaaPurseK
import Derived.Test.YtjgnnefhnddecaaArrG
namespace Go.Proofs.Ytjgnnefhnddecaa
open Go.RowKit Go.Maps
variable {R : QEnv}

/-- The bookings 1..k that there are. -/
def bookN (en : Int → Ent) (k : Nat) : List Int := ((List.range k).map fun (i : Nat) => (i : Int) + 1).filter fun b => decide ((en b).st ≠ 0)
theorem bookN_succ (en : Int → Ent) (k : Nat) : bookN en (k + 1) = bookN en k ++ (if (en ((k : Int) + 1)).st = 0 then [] else [(k : Int) + 1]) := by
  unfold bookN
  rw [List.range_succ, List.map_append, List.filter_append]
  congr 1
  by_cases h : (en ((k : Int) + 1)).st = 0
  · simp [h]
  · simp [h]

theorem bstr_append (a b : List UInt8) : bstr a ++ bstr b = bstr (a ++ b) := by
  unfold bstr
  apply ByteArray.ext
  simp

theorem bstr_size (a : List UInt8) : (bstr a).size = a.length := by unfold bstr; simp [ByteArray.size]
theorem bsize (a b : ByteArray) : (a ++ b).size = a.size + b.size := by simp

def hdN (p : Pur) : Nat → List UInt8
  | 0 => []
  | k + 1 => hdN p k ++ nb (p.ac k)
theorem hdN_succ (p : Pur) (k : Nat) : hdN p (k + 1) = hdN p k ++ nb (p.ac k) := rfl
theorem hdN_6 (p : Pur) : hdN p 6 = p.hdB := by
  unfold Pur.hdB
  simp [hdN]
theorem hdN_len {p : Pur} {T : Int} (hG : p.Good T) (hT : T ≤ 1125899906842624) : ∀ k : Nat, k ≤ 6 → (hdN p k).length ≤ 10 * k
  | 0, _ => Nat.le_refl _
  | k + 1, h => by
    have h1 := hdN_len hG hT k (by omega)
    have h2 := hG.bounds k (by omega) (by omega)
    have h3 := nb_len (v := p.ac k) (by omega)
    rw [hdN_succ, List.length_append]
    omega

set_option maxRecDepth 100000 in
set_option maxHeartbeats 1000000 in
theorem rq_bytes {w : World} {x : Nat} {lv : Value} {p : Pur} {T : Int} (h : QBlk R w x p.ac p.en lv) (hG : p.Good T) (hT : T ≤ 1125899906842624) :
    Calls Try.prog 37 #[.pointer (some ⟨x, 0, none⟩)] w fun e w' => e = .returned (.string (bstr p.bytes)) ∧ Chg (fun _ => False) w w' := by
  have hen := fun k => Pur.entB_len hG (b := k)
  have hbd := hG.bounds
  have hhl : ∀ k : Nat, k ≤ 6 → (hdN p k).length ≤ 60 := fun k hk => by have := hdN_len hG hT k hk; omega
  go_enter Try.func37, Try.ntmps37
  go_wp2_with fail
  go_loopw [3, 4] (fun v3 v4 wr => ∃ k : Nat, k ≤ 6 ∧ v3 = .string (bstr (hdN p k)) ∧ v4 = .int .i64 k ∧ Chg (fun _ => False) w wr) (fun _ v4 _ => 6 - (RowKit.intOf v4).toNat)
  case atStart => exact ⟨0, Nat.zero_le _, rfl, rfl, Chg.refl _ _⟩
  case round =>
    obtain ⟨k, hk, rfl, rfl, hck⟩ := hrel
    have hX : QBlk R wr x p.ac p.en lv := Blk.chg h hck id
    by_cases hlt : k < 6
    · obtain ⟨A, hA⟩ : ∃ A, p.ac k = A := ⟨_, rfl⟩
      have hAb := hbd k (by omega) (by omega)
      have a0 := hX.acc k hlt
      have hs := hdN_succ p k
      have hl := hhl k hk
      rw [hA] at hAb a0 hs
      obtain ⟨hA0, hA1⟩ := hAb
      have hz := nb_len (v := A) (by omega)
      have zA : (bstr (nb A)).size ≤ 10 := by rw [bstr_size]; exact hz
      have zH : (bstr (hdN p k)).size ≤ 60 := by rw [bstr_size]; exact hl
      have hsh := Lib.hid hs
      obtain ⟨H, hH⟩ : ∃ H, hdN p k = H := ⟨_, rfl⟩
      rw [hH] at zH ⊢
      have hHh := Lib.hid hH
      have bk0 : (0 : Int) ≤ (k : Int) := by omega
      have bk1 : (k : Int) < 6 := by omega
      clear hA hs hl hH hX
      go_wp2_with fail
      refine (refInt_any _ A (by omega) (by omega)).mono ?_
      rintro e w2 ⟨rfl, hc2⟩
      have hck2 := hck.trans hc2 (fun _ _ h => h)
      go_wp2_with fail
      go_roundw
      case rel => exact ⟨k + 1, by omega, by rw [hsh.out, hHh.out, bstr_append], by go_num, hck2⟩
      case measure => simp [RowKit.intOf]; omega
    have hk6 : k = 6 := by omega
    subst hk6
    rw [hdN_6, show ((6 : Nat) : Int) = 6 from rfl]
    obtain ⟨pre, hpre⟩ : ∃ pre, p.hdB = pre := ⟨_, rfl⟩
    have hpl : pre.length ≤ 60 := by rw [← hpre, ← hdN_6]; exact hhl 6 (Nat.le_refl _)
    rw [hpre]
    have hpreh := Lib.hid hpre
    obtain ⟨wq, rfl⟩ : ∃ wq : World, wq = wr := ⟨wr, rfl⟩
    have hc2 := hck
    clear hpre hck hX hhl hbd
    go_wp2_with fail
    go_loopw [3, 5] (fun v3 v4 wr => ∃ k : Nat, k ≤ 200 ∧ v3 = .string (bstr (pre ++ (bookN p.en k).flatMap p.entB)) ∧ v4 = .int .i64 ((k : Int) + 1) ∧ Chg (fun _ => False) w wr) (fun _ v4 _ => 201 - (RowKit.intOf v4).toNat)
    case atStart => exact ⟨0, Nat.zero_le _, by simp [bookN], rfl, hc2⟩
    case round =>
      clear hc2
      obtain ⟨k, hk, rfl, rfl, hck⟩ := hrel
      have hX : QBlk R wr x p.ac p.en lv := Blk.chg h hck id
      have hbl : (bookN p.en k).length ≤ k := by unfold bookN; refine Nat.le_trans (List.length_filter_le _ _) ?_; simp
      have hfl := flat_len (f := p.entB) (c := 40) (bookN p.en k) (fun b hb => hen b (hG.key b (by
        unfold bookN at hb
        simpa using (List.mem_filter.1 hb).2)))
      have hzP : (bstr (pre ++ (bookN p.en k).flatMap p.entB)).size ≤ 10000 := by rw [bstr_size, List.length_append]; omega
      by_cases hlt : k < 200
      · have hbs := Lib.hid (bookN_succ p.en k)
        obtain ⟨y, hy⟩ : ∃ y, p.en ((k : Int) + 1) = y := ⟨_, rfl⟩
        obtain ⟨c0, c1, c2, c3, c4⟩ := hX.cells (k + 1) (by omega) (y := y) (by rw [← hy]; rfl)
        have hyb := hG.ent ((k : Int) + 1)
        rw [hy] at hyb
        obtain ⟨y0, y1, y2, y3, y4, y5⟩ := hyb
        have hentB : p.entB ((k : Int) + 1) = nb ((k : Int) + 1) ++ nb y.st ++ nb y.cu ++ nb y.am := by unfold Pur.entB; rw [hy]
        have hentBh := Lib.hid hentB
        have hyh := Lib.hid hy
        obtain ⟨Q, hQ⟩ : ∃ Q, pre ++ (bookN p.en k).flatMap p.entB = Q := ⟨_, rfl⟩
        rw [hQ] at hzP ⊢
        have hQh := Lib.hid hQ
        clear hentB hy hQ hfl
        by_cases hst : y.st = 0
        · have b0 : (y.st != 0) = false := by simp [hst]
          have hsth := Lib.hid hst
          clear hst
          go_wp2_with fail
          have hck2 := hck.alloc (.cells y.row 31)
          unfold Ent.row at hck2
          go_roundw
          case rel => exact ⟨k + 1, by omega, by rw [hbs.out, hyh.out, if_pos hsth.out, List.append_nil, hQh.out], by go_num, hck2⟩
          case measure => simp [RowKit.intOf]; omega
        · have b0 : (y.st != 0) = true := by simp [hst]
          have hsth := Lib.hid hst
          clear hst
          have hY := Blk.new wr 31 y.row
          have hckA := hck.alloc (.cells y.row 31)
          unfold Ent.row at hY hckA
          go_wp2_with fail
          clear c0 c1 c2 c3 c4 hck
          generalize wr.alloc (.cells #[.int .i64 y.st, .int .i64 y.un, .int .i64 y.til, .int .i64 y.cu, .int .i64 y.am] 31) = wa at *
          generalize hYe : wr.heap.size = Y at *
          clear hYe
          have ycell : ∀ w9 : World, w9.heap[Y]? = wa.heap[Y]? → w9.cell? ⟨Y, 0, none⟩ = some (.int .i64 y.st) ∧ w9.cell? ⟨Y, 3, none⟩ = some (.int .i64 y.cu) ∧ w9.cell? ⟨Y, 4, none⟩ = some (.int .i64 y.am) := fun w9 h9 => by
            have h2 := Blk.keep hY h9
            exact ⟨by rw [h2.cell]; rfl, by rw [h2.cell]; rfl, by rw [h2.cell]; rfl⟩
          obtain ⟨y0', y1', y2'⟩ := ycell wa rfl
          have ych := Lib.hid ycell
          clear ycell
          have z1 := nb_len (v := (k : Int) + 1) (by omega)
          have z2 := nb_len (v := y.st) (by omega)
          have z3 := nb_len (v := y.cu) (by omega)
          have z4 := nb_len (v := y.am) (by omega)
          have s1 : (bstr (nb ((k : Int) + 1))).size ≤ 10 := by rw [bstr_size]; exact z1
          have s2 : (bstr (nb y.st)).size ≤ 10 := by rw [bstr_size]; exact z2
          have s3 : (bstr (nb y.cu)).size ≤ 10 := by rw [bstr_size]; exact z3
          have s4 : (bstr (nb y.am)).size ≤ 10 := by rw [bstr_size]; exact z4
          have t1 : (bstr Q ++ bstr (nb ((k : Int) + 1))).size ≤ 11000 := by rw [bsize]; omega
          have t2 : (bstr Q ++ bstr (nb ((k : Int) + 1)) ++ bstr (nb y.st)).size ≤ 12000 := by rw [bsize]; omega
          have t3 : (bstr Q ++ bstr (nb ((k : Int) + 1)) ++ bstr (nb y.st) ++ bstr (nb y.cu)).size ≤ 13000 := by rw [bsize]; omega
          clear z1 z2 z3 z4
          refine wp_region_plan (by kernel_rfl) [{ fl := [0, 1, 4, 5, 8, 9, 12, 13], long := [5, 9, 13], ef := 2, keep := [5, 9, 13] }, { fl := [3], ef := 6, keep := [9, 13] }, { fl := [7], ef := 10, keep := [13] }, { fl := [11], ef := 14 }] [15, 16] (by kernel_rfl) (fun _ w9 => w9.heap[Y]? = wa.heap[Y]?) ?_
          simp only [wpPlan, longOK, keepOK, opsAt_cons, opsAt_nil, consO_some, List.getElem?_toArray, List.getElem?_cons_succ, List.getElem?_cons_zero, and_true, true_and]
          refine ⟨⟨rfl, rfl, rfl⟩, ?_⟩
          go_wp2_with fail
          refine ⟨by kernel_rfl, ⟨?_, ?_, ?_⟩, ?_⟩
          · intro _ w9 h9
            obtain ⟨d0, d1, d2⟩ := ych.out w9 h9
            clear h9
            go_simp
          · intro _ w9 h9
            obtain ⟨d0, d1, d2⟩ := ych.out w9 h9
            clear h9
            go_simp
          · intro _ w9 h9
            obtain ⟨d0, d1, d2⟩ := ych.out w9 h9
            clear h9
            go_simp
          go_wp2_with fail
          refine (refInt_any _ ((k : Int) + 1) (by omega) (by omega)).mono ?_
          rintro e wb1 ⟨rfl, hd1⟩
          have hd1 := ((Chg.refl (fun _ => False) wa).drew).trans hd1 (fun _ _ h => h)
          go_wp2_with fail
          refine ⟨⟨hd1.block Y hY.lt id, hd1.block Y hY.lt id, hd1.block Y hY.lt id⟩, ?_⟩
          go_wp2_with fail
          refine ⟨by kernel_rfl, ?_⟩
          go_wp2_with fail
          refine (refInt_any _ y.st (by omega) (by omega)).mono ?_
          rintro e wb2 ⟨rfl, hd2⟩
          have hd2 := hd1.trans hd2 (fun _ _ h => h)
          go_wp2_with fail
          refine ⟨⟨hd2.block Y hY.lt id, hd2.block Y hY.lt id⟩, ?_⟩
          go_wp2_with fail
          refine ⟨by kernel_rfl, ?_⟩
          go_wp2_with fail
          refine (refInt_any _ y.cu (by omega) (by omega)).mono ?_
          rintro e wb3 ⟨rfl, hd3⟩
          have hd3 := hd2.trans hd3 (fun _ _ h => h)
          go_wp2_with fail
          refine ⟨hd3.block Y hY.lt id, ?_⟩
          go_wp2_with fail
          refine ⟨by kernel_rfl, ?_⟩
          go_wp2_with fail
          refine (refInt_any _ y.am (by omega) (by omega)).mono ?_
          rintro e wb4 ⟨rfl, hd4⟩
          have hd4 := hd3.trans hd4 (fun _ _ h => h)
          go_wp2_with fail
          refine ⟨by kernel_rfl, ?_⟩
          go_wp2_with fail
          go_roundw
          case rel => exact ⟨k + 1, by omega, by rw [hbs.out, hyh.out, if_neg hsth.out, List.flatMap_append, ← List.append_assoc, hQh.out, List.flatMap_cons, List.flatMap_nil, List.append_nil, hentBh.out]; simp only [bstr_append, List.append_assoc], by go_num, hckA.trans hd4 (fun _ _ h => h)⟩
          case measure => simp [RowKit.intOf]; omega
      · have hk2 : k = 200 := by omega
        subst hk2
        have he : pre ++ (bookN p.en 200).flatMap p.entB = p.bytes := by unfold Pur.bytes; rw [← hpreh.out]; rfl
        rw [he]
        go_wp2_with fail
        go_ret
        exact ⟨rfl, hck⟩
end Go.Proofs.Ytjgnnefhnddecaa

namespace Go.Proofs.Ytjgnnefhnddecaa
open Go.RowKit Go.Maps

theorem Pur.bytes_ne (p : Pur) : p.bytes ≠ [] := by
  have := nb_ne (p.ac 0)
  unfold Pur.bytes Pur.hdB
  simp [this]
theorem pur_bytesG {w : World} {b mb : Nat} {lv : Value} {p : Pur} {T : Int} (h : PurAt w b mb lv p) (hG : p.Good T) (hT : T ≤ 1125899906842624) :
    Calls Try.prog 36 #[.pointer (some ⟨b, 0, none⟩)] w fun e w' => ∃ g n cap, e = .returned (.slice (some ⟨g, 0, none⟩) n cap) ∧ g < w'.heap.size ∧
      (∀ w9 : World, w9.heap[g]? = w'.heap[g]? → (convert 81 9 (.slice (some ⟨g, 0, none⟩) n cap)).run Try.prog w9 = .ok (.string (bstr p.bytes)) w9) ∧ Chg (fun _ => False) w w' := by
  refine (pur_bytes h hG hT).mono ?_
  rintro e w' ⟨v, rfl, hown, hc⟩
  obtain ⟨g, cap, rfl, _, hlt, hcell⟩ := bytes_cells hown p.bytes_ne
  refine ⟨g, _, cap, rfl, hlt, fun w9 h9 => bytes_str (fun j u hj => ?_), hc⟩
  have h1 := hcell j u hj
  have hb : ((⟨g, 0, none⟩ : Addr).add j).block = g := by unfold Addr.add; split <;> rfl
  exact (World.cell?_of_block (by rw [hb]; exact h9)).trans h1

theorem keyP {k : Int} (h : -1000 ≤ k ∧ k ≤ 1000) : keyOf Try.prog 3 (encI k) = some (.int .i64 k) := keyOf_int_mk Try.underlying3 (WalkArith.wf_i64 (by omega))
set_option maxRecDepth 100000 in
theorem entry_wide {w : World} {b mb : Nat} {lv : Value} {p : Pur} {T : Int} (hP : PurAt w b mb lv p) (hG : p.Good T) (k : Int) (hk : -1000 ≤ k ∧ k ≤ 1000) (x : Ent) (hx : p.en k = x) :
    Calls Try.prog 11 #[.pointer (some ⟨b, 0, none⟩), .int .i64 k] w fun e w' => e = .returned x.val ∧ Chg (fun _ => False) w w' := by
  have h0 : (Instr.lookup 69 (.map (some mb)) (.int .i64 k) false).run Try.prog (w.alloc (.cells #[.int .i64 0, .int .i64 0, .int .i64 0, .int .i64 0, .int .i64 0] 31)) = .ok (.agg #[.int .i64 x.st, .int .i64 x.un, .int .i64 x.til, .int .i64 x.cu, .int .i64 x.am]) (w.alloc (.cells #[.int .i64 0, .int .i64 0, .int .i64 0, .int .i64 0, .int .i64 0] 31)) := by
    have h := (hP.map.keep (Below.heap_alloc w (.cells #[.int .i64 0, .int .i64 0, .int .i64 0, .int .i64 0, .int .i64 0] 31) mb hP.map.lt)).look law3 encI_inj (entMap_keys hP.keys) (e := 31) (t := 69) Try.underlying69 (zeroEnt _) (a := k) (keyP hk) false
    rw [entMap_getD _ _ hG.non, hx] at h
    exact h
  have cB : (w.alloc (.cells #[.int .i64 0, .int .i64 0, .int .i64 0, .int .i64 0, .int .i64 0] 31)).cell? ⟨b, 6, none⟩ = some (.map (some mb)) := by rw [(hP.blk.alloc _).cell]; rfl
  have hxh := Lib.hid hx
  clear hx
  go_enter Try.func11, Try.ntmps11
  go_wp2
  refine bodyPost_ret (v := .agg #[.int .i64 x.st, .int .i64 x.un, .int .i64 x.til, .int .i64 x.cu, .int .i64 x.am]) (by simp [results, Try.results11, go_sem]) rfl ⟨rfl, (Chg.refl _ _).alloc _⟩

set_option maxRecDepth 100000 in
theorem balance_out {w : World} {b : Nat} (n : Int) (hn : n = -1 ∨ n = 4) :
    Calls Try.prog 26 #[.pointer (some ⟨b, 0, none⟩), .int .i64 n] w fun e w' => e = .returned (.int .i64 0) ∧ w' = w := by
  rcases hn with rfl | rfl
  all_goals
    go_enter Try.func26, Try.ntmps26
    go_wp2_with fail
    go_ret
    exact ⟨rfl, rfl⟩
end Go.Proofs.Ytjgnnefhnddecaa

namespace Go.Proofs.Ytjgnnefhnddecaa
open Go.RowKit Go.Maps

theorem PurAt.drew0 {w : World} {b mb : Nat} {lv : Value} {p : Pur} (h : PurAt w b mb lv p) : PurAt w.drew b mb lv p := h.chg ((Chg.refl (fun _ => False) w).drew) id id (fun _ _ => id)
set_option maxRecDepth 100000 in
set_option maxHeartbeats 1000000 in
theorem psame_any {w : World} {b mb x : Nat} {lv lx : Value} {p : Pur} {T : Int} (hP : PurAt w b mb lv p) (hX : QAt RP w x lx p) (hG : p.Good T) (hT : T ≤ 1125899906842624) (hlen : p.ln.length ≤ 1000000) :
    Calls Try.prog 18 #[.pointer (some ⟨b, 0, none⟩), .pointer (some ⟨x, 0, none⟩)] w fun e w' => e = .returned (.bool true) ∧ Chg (fun _ => False) w w' := by
  obtain ⟨n2, cap2, ad2, rfl, rfl⟩ : ∃ n cap ad, lx = .slice ad n cap ∧ n = p.ln.length := by
    rcases hX.own.2 with ⟨h1, h⟩ | ⟨g, cp, _, h1, _⟩
    · exact ⟨_, _, _, h1, by rw [h]⟩
    · exact ⟨_, _, _, h1, rfl⟩
  go_enter Try.func18, Try.ntmps18
  go_wp2_with fail
  refine (lines_any w b mb lv p hP (by omega)).mono ?_
  rintro e w1 ⟨v2, rfl, hrow, hc1, hown⟩
  have hP1 := hP.chg hc1 id id (fun _ _ => id)
  have hX1 := hX.chg hc1 id (fun _ _ => id)
  obtain ⟨n1, cap, ad, rfl, rfl⟩ : ∃ n cap ad, v2 = .slice ad n cap ∧ n = p.ln.length := by
    rcases hrow.2 with ⟨h1, h⟩ | ⟨g, cp, _, h1, _⟩
    · exact ⟨_, _, _, h1, by rw [h]⟩
    · exact ⟨_, _, _, h1, rfl⟩
  obtain ⟨A4, hA4⟩ : ∃ A, p.ac 4 = A := ⟨_, rfl⟩
  obtain ⟨A5, hA5⟩ : ∃ A, p.ac 5 = A := ⟨_, rfl⟩
  have xc : ∀ w9 : World, w9.heap[x]? = w1.heap[x]? → w9.cell? ⟨x, 4, none⟩ = some (.int .i64 A4) ∧ w9.cell? ⟨x, 5, none⟩ = some (.int .i64 A5) ∧ w9.cell? ⟨x, 1011, none⟩ = some (.slice ad2 p.ln.length cap2) := fun w9 h9 => by
    have h2 : QBlk RP w9 x p.ac p.en _ := Blk.keep hX1.blk h9
    exact ⟨by rw [← hA4]; exact h2.acc 4 (by omega), by rw [← hA5]; exact h2.acc 5 (by omega), h2.lin⟩
  have xch := Lib.hid xc
  obtain ⟨x4, x5, x6⟩ := xc w1 rfl
  have hA4h := Lib.hid hA4
  have hA5h := Lib.hid hA5
  have hxl := Blk.lt hX1.blk
  clear xc hA4 hA5
  go_wp2_with fail
  refine wp_region_plan3 (by kernel_rfl) [{ fl := [0, 2, 3, 4, 5, 6], long := [6], ef := 1, keep := [6] }, { fl := [7, 8, 9, 11, 12, 13, 14, 15], long := [15], ef := 10, keep := [15] }, { fl := [16, 17, 18, 19, 22], ef := 20 }] [{ fl := [21], long := [21], ef := 23, keep := [21] }, { fl := [24, 25, 26, 27, 28, 29, 30, 31, 32], long := [28], ef := 33, keep := [28] }] [34, 35] (by kernel_rfl) (fun _ (w9 : World) => w9.heap[x]? = w1.heap[x]?) ?_
  simp only [wpPlanU, longOK, keepOK, opsAt_cons, opsAt_nil, consO_some, List.getElem?_toArray, List.getElem?_cons_succ, List.getElem?_cons_zero, and_true, true_and]
  refine ⟨rfl, ?_⟩
  go_wp2_with fail
  refine ⟨by kernel_rfl, ?_, ?_⟩
  · intro _ w9 h9
    obtain ⟨x4, x5, x6⟩ := xch.out w9 h9
    clear h9
    go_simp
  go_wp2_with fail
  refine (reserved_any w1.drew b mb lv p hP1.drew0).mono ?_
  rintro e w2 ⟨rfl, rfl⟩
  rw [hA4h.out]
  go_wp2_with fail
  refine ⟨rfl, rfl, ?_⟩
  go_wp2_with fail
  refine ⟨by kernel_rfl, ?_, ?_⟩
  · intro _ w9 h9
    obtain ⟨x4, x5, x6⟩ := xch.out w9 h9
    clear h9
    go_simp
  go_wp2_with fail
  refine (takings_any _ b mb lv p hP1.drew0).mono ?_
  rintro e w2 ⟨rfl, rfl⟩
  rw [hA5h.out]
  go_wp2_with fail
  refine ⟨rfl, ?_⟩
  go_wp2_with fail
  refine ⟨by kernel_rfl, ?_⟩
  go_wp2_with fail
  refine (pur_bytesG hP1.drew0 hG hT).mono ?_
  rintro e w5 ⟨g, n, cap5, rfl, hgl, hcv, hc5⟩
  have hc5 := ((Chg.refl (fun _ => False) w1).drew).trans hc5 (fun _ _ h => h)
  have hX5 := hX1.chg hc5 id (fun _ _ => id)
  have hcvh := Lib.hid hcv
  have hcv5 := hcv w5 rfl
  have hk5 := Lib.hid (hc5.block x hxl id)
  clear hcv x4 x5 x6
  obtain ⟨x4, x5, x6⟩ := xch.out w5 hk5.out
  go_wp2_with fail
  refine ⟨fun _ (w9 : World) => w9.heap[x]? = w1.heap[x]? ∧ w9.heap[g]? = w5.heap[g]?, fun _ _ h => h.1, ?_⟩
  simp only [wpPlan, longOK, keepOK, opsAt_cons, opsAt_nil, consO_some, List.getElem?_toArray, List.getElem?_cons_succ, List.getElem?_cons_zero, and_true, true_and]
  refine ⟨hk5.out, ?_⟩
  go_wp2_with fail
  refine ⟨by kernel_rfl, ?_, ?_⟩
  · intro _ w9 h9
    have hcv9 := hcvh.out w9 h9.2
    clear h9
    go_simp
  go_wp2_with fail
  refine (rq_bytes hX5.blk hG hT).mono ?_
  rintro e w6 ⟨rfl, hc6⟩
  have hgk := Lib.hid (hc6.block g hgl id)
  have hc6 := hc5.trans hc6 (fun _ _ h => h)
  have hk6 := Lib.hid (hc6.block x hxl id)
  clear hc5 hX5 hcvh hcv5 x4 x5 x6
  obtain ⟨x4, x5, x6⟩ := xch.out w6 hk6.out
  go_wp2_with fail
  refine ⟨⟨hk6.out, hgk.out⟩, ⟨hk6.out, hgk.out⟩, ?_⟩
  go_wp2_with fail
  refine ⟨by kernel_rfl, ?_, ?_⟩
  · intro _ w9 _
    go_simp
  go_wp2_with fail
  refine ⟨⟨hk6.out, hgk.out⟩, ?_⟩
  go_wp2_with fail
  refine ⟨by kernel_rfl, ?_⟩
  clear x4 x5 x6
  go_wp2_with fail
  go_loopw [6] (fun v6 wr => ∃ k : Nat, k ≤ 6 ∧ v6 = .int .i64 ((k : Int) - 1) ∧ Chg (fun _ => False) w1 wr) (fun v6 _ => (5 - RowKit.intOf v6).toNat)
  case atStart => exact ⟨0, by omega, rfl, hc6⟩
  case round =>
    clear hc6
    obtain ⟨k, hk, rfl, hck⟩ := hrel
    have hPr := hP1.chg hck id id (fun _ _ => id)
    have hXr := hX1.chg hck id (fun _ _ => id)
    by_cases hlt : k < 6
    · by_cases hin : 1 ≤ k ∧ k ≤ 4
      · obtain ⟨j, rfl⟩ : ∃ j, k = j + 1 := ⟨k - 1, by omega⟩
        have hv : ((j + 1 : Nat) : Int) - 1 = (j : Int) := by omega
        rw [hv]
        have hj : j < 4 := by omega
        obtain ⟨A, hA⟩ : ∃ A, p.ac j = A := ⟨_, rfl⟩
        have a0 := hXr.blk.acc j (by omega)
        rw [hA] at a0
        have hcall := balance_any wr b mb lv p j hj hPr
        rw [hA] at hcall
        have j0 : (0 : Int) ≤ (j : Int) := by omega
        have j1 : (j : Int) < 6 := by omega
        clear hv hin hA
        go_wp2_with fail
        refine hcall.mono ?_
        rintro e w7 ⟨rfl, rfl⟩
        go_wp2_with fail
        go_roundw
        case rel => exact ⟨(j + 1) + 1, by omega, by go_num, hck⟩
        case measure => simp [RowKit.intOf]; omega
      · have hcase : k = 0 ∨ k = 5 := by omega
        clear hin
        rcases hcase with rfl | rfl
        · rw [show (((0 : Nat) : Int) - 1) = -1 from rfl]
          go_wp2_with fail
          refine (balance_out (-1) (.inl rfl)).mono ?_
          rintro e w7 ⟨rfl, rfl⟩
          go_wp2_with fail
          go_roundw
          case rel => exact ⟨1, by omega, by go_num, hck⟩
          case measure => simp [RowKit.intOf]
        · rw [show (((5 : Nat) : Int) - 1) = 4 from rfl]
          go_wp2_with fail
          refine (balance_out 4 (.inr rfl)).mono ?_
          rintro e w7 ⟨rfl, rfl⟩
          go_wp2_with fail
          go_roundw
          case rel => exact ⟨6, by omega, by go_num, hck⟩
          case measure => simp [RowKit.intOf]
    have hk6 : k = 6 := by omega
    subst hk6
    rw [show (((6 : Nat) : Int) - 1) = 5 from rfl]
    obtain ⟨wq, rfl⟩ : ∃ wq : World, wq = wr := ⟨wr, rfl⟩
    have hc6 := hck
    clear hck hPr hXr hk hlt
    go_wp2_with fail
    go_loopw [8] (fun v8 wr => ∃ k : Nat, k ≤ 203 ∧ v8 = .int .i64 ((k : Int) - 1) ∧ Chg (fun _ => False) w1 wr) (fun v8 _ => (202 - RowKit.intOf v8).toNat)
    case atStart => exact ⟨0, by omega, rfl, hc6⟩
    case round =>
      clear hc6
      obtain ⟨k, hk, rfl, hck⟩ := hrel
      by_cases hlt : k < 203
      · obtain ⟨y, hy⟩ : ∃ y, p.en ((k : Int) - 1) = y := ⟨_, rfl⟩
        have hyh := Lib.hid hy
        by_cases hin : 2 ≤ k ∧ k ≤ 201
        · obtain ⟨j, rfl⟩ : ∃ j, k = j + 1 := ⟨k - 1, by omega⟩
          have hv : ((j + 1 : Nat) : Int) - 1 = (j : Int) := by omega
          rw [hv] at hy hyh ⊢
          have hj1 : 1 ≤ j := by omega
          have hj2 : j ≤ 200 := by omega
          clear hv hin
          have hXr := hX1.chg hck id (fun _ _ => id)
          have hcal := (Chg.refl (fun _ => False) wr).alloc (.cells #[.int .i64 0, .int .i64 0, .int .i64 0, .int .i64 0, .int .i64 0] 31)
          have hXa := hXr.chg hcal id (fun _ _ => id)
          obtain ⟨a0, a1, a2, a3, a4⟩ := hXa.blk.cells j (by omega) hy
          clear hy
          go_wp2_with fail
          have hE : Blk (wr.alloc (.cells #[.int .i64 y.st, .int .i64 y.un, .int .i64 y.til, .int .i64 y.cu, .int .i64 y.am] 31)) wr.heap.size 31 y.row := Blk.new wr _ _
          have hcka : Chg (fun _ => False) w1 (wr.alloc (.cells #[.int .i64 y.st, .int .i64 y.un, .int .i64 y.til, .int .i64 y.cu, .int .i64 y.am] 31)) := hck.alloc _
          clear hcal hXa a0 a1 a2 a3 a4
          generalize (wr.alloc (.cells #[.int .i64 y.st, .int .i64 y.un, .int .i64 y.til, .int .i64 y.cu, .int .i64 y.am] 31)) = wa at *
          generalize wr.heap.size = E at *
          have hSa := (hP1.chg hcka id id (fun _ _ => id)).drew0
          refine wp_region_plan (by kernel_rfl) [{ fl := [0, 1, 3], long := [3], ef := 2, keep := [3] }, { fl := [], ef := 4 }] [] (by kernel_rfl) (fun _ (w9 : World) => w9.heap[E]? = wa.heap[E]?) ?_
          simp only [wpPlan, longOK, keepOK, opsAt_cons, opsAt_nil, consO_some, List.getElem?_toArray, List.getElem?_cons_succ, List.getElem?_cons_zero, and_true, true_and]
          have ecell : ∀ w9 : World, w9.heap[E]? = wa.heap[E]? → w9.cell? ⟨E, 0, none⟩ = some (.int .i64 y.st) ∧ w9.cell? ⟨E, 1, none⟩ = some (.int .i64 y.un) ∧ w9.cell? ⟨E, 2, none⟩ = some (.int .i64 y.til) ∧ w9.cell? ⟨E, 3, none⟩ = some (.int .i64 y.cu) ∧ w9.cell? ⟨E, 4, none⟩ = some (.int .i64 y.am) := fun w9 h9 => by
            have h2 := Blk.keep hE h9
            refine ⟨?_, ?_, ?_, ?_, ?_⟩ <;> rw [h2.cell] <;> rfl
          have ech := Lib.hid ecell
          obtain ⟨d0, d1, d2, d3, d4⟩ := ecell wa rfl
          clear ecell
          refine ⟨rfl, ?_⟩
          go_wp2_with fail
          refine ⟨by kernel_rfl, ?_, ?_⟩
          · intro _ w9 h9
            obtain ⟨d0, d1, d2, d3, d4⟩ := ech.out w9 h9
            clear h9
            go_simp
          go_wp2_with fail
          refine (entry_wide hSa hG (j : Int) (by omega) y hyh.out).mono ?_
          rintro e w7 ⟨rfl, hc7⟩
          unfold Ent.val Ent.row
          have hc7 := ((Chg.refl (fun _ => False) wa).drew).trans hc7 (fun _ _ h => h)
          have hgk := Lib.hid (hc7.block E hE.lt id)
          obtain ⟨d0', d1', d2', d3', d4'⟩ := ech.out w7 hgk.out
          go_wp2_with fail
          refine ⟨hgk.out, ?_⟩
          go_wp2_with fail
          refine ⟨by kernel_rfl, ?_⟩
          go_wp2_with fail
          refine ⟨by kernel_rfl, ?_⟩
          go_wp2_with fail
          go_roundw
          case rel => exact ⟨(j + 1) + 1, by omega, by go_num, hcka.trans hc7 (fun _ _ h => h)⟩
          case measure => simp [RowKit.intOf]; omega
        · have hout : y = Ent.none := by
            rw [← hy]
            refine hG.non _ ?_
            apply Decidable.byContradiction
            intro h
            have := hG.key _ h
            omega
          subst hout
          clear hy
          have hcase : k < 2 ∨ 201 < k := by omega
          clear hin
          have hE : Blk (wr.alloc (.cells #[.int .i64 0, .int .i64 0, .int .i64 0, .int .i64 0, .int .i64 0] 31)) wr.heap.size 31 Ent.none.row := Blk.new wr _ _
          have hcka : Chg (fun _ => False) w1 (wr.alloc (.cells #[.int .i64 0, .int .i64 0, .int .i64 0, .int .i64 0, .int .i64 0] 31)) := hck.alloc _
          obtain ⟨y, hyy⟩ : ∃ y, Ent.none = y := ⟨_, rfl⟩
          rw [hyy] at hE hyh
          have hyyh := Lib.hid hyy
          clear hyy
          rcases hcase with hcase | hcase
          · go_wp2_with fail
            generalize (wr.alloc (.cells #[.int .i64 0, .int .i64 0, .int .i64 0, .int .i64 0, .int .i64 0] 31)) = wa at *
            generalize wr.heap.size = E at *
            have hSa := (hP1.chg hcka id id (fun _ _ => id)).drew0
            refine wp_region_plan (by kernel_rfl) [{ fl := [0, 1, 3], long := [3], ef := 2, keep := [3] }, { fl := [], ef := 4 }] [] (by kernel_rfl) (fun _ (w9 : World) => w9.heap[E]? = wa.heap[E]?) ?_
            simp only [wpPlan, longOK, keepOK, opsAt_cons, opsAt_nil, consO_some, List.getElem?_toArray, List.getElem?_cons_succ, List.getElem?_cons_zero, and_true, true_and]
            have ecell : ∀ w9 : World, w9.heap[E]? = wa.heap[E]? → w9.cell? ⟨E, 0, none⟩ = some (.int .i64 y.st) ∧ w9.cell? ⟨E, 1, none⟩ = some (.int .i64 y.un) ∧ w9.cell? ⟨E, 2, none⟩ = some (.int .i64 y.til) ∧ w9.cell? ⟨E, 3, none⟩ = some (.int .i64 y.cu) ∧ w9.cell? ⟨E, 4, none⟩ = some (.int .i64 y.am) := fun w9 h9 => by
              have h2 := Blk.keep hE h9
              refine ⟨?_, ?_, ?_, ?_, ?_⟩ <;> rw [h2.cell] <;> rfl
            have ech := Lib.hid ecell
            obtain ⟨d0, d1, d2, d3, d4⟩ := ecell wa rfl
            clear ecell
            refine ⟨rfl, ?_⟩
            go_wp2_with fail
            refine ⟨by kernel_rfl, ?_, ?_⟩
            · intro _ w9 h9
              obtain ⟨d0, d1, d2, d3, d4⟩ := ech.out w9 h9
              clear h9
              go_simp
            go_wp2_with fail
            refine (entry_wide hSa hG ((k : Int) - 1) (by omega) y hyh.out).mono ?_
            rintro e w7 ⟨rfl, hc7⟩
            unfold Ent.val Ent.row
            have hc7 := ((Chg.refl (fun _ => False) wa).drew).trans hc7 (fun _ _ h => h)
            have hgk := Lib.hid (hc7.block E hE.lt id)
            obtain ⟨d0', d1', d2', d3', d4'⟩ := ech.out w7 hgk.out
            go_wp2_with fail
            refine ⟨hgk.out, ?_⟩
            go_wp2_with fail
            refine ⟨by kernel_rfl, ?_⟩
            go_wp2_with fail
            refine ⟨by kernel_rfl, ?_⟩
            go_wp2_with fail
            go_roundw
            case rel => exact ⟨k + 1, by omega, by go_num, hcka.trans hc7 (fun _ _ h => h)⟩
            case measure => simp [RowKit.intOf]; omega
          · go_wp2_with fail
            generalize (wr.alloc (.cells #[.int .i64 0, .int .i64 0, .int .i64 0, .int .i64 0, .int .i64 0] 31)) = wa at *
            generalize wr.heap.size = E at *
            have hSa := (hP1.chg hcka id id (fun _ _ => id)).drew0
            refine wp_region_plan (by kernel_rfl) [{ fl := [0, 1, 3], long := [3], ef := 2, keep := [3] }, { fl := [], ef := 4 }] [] (by kernel_rfl) (fun _ (w9 : World) => w9.heap[E]? = wa.heap[E]?) ?_
            simp only [wpPlan, longOK, keepOK, opsAt_cons, opsAt_nil, consO_some, List.getElem?_toArray, List.getElem?_cons_succ, List.getElem?_cons_zero, and_true, true_and]
            have ecell : ∀ w9 : World, w9.heap[E]? = wa.heap[E]? → w9.cell? ⟨E, 0, none⟩ = some (.int .i64 y.st) ∧ w9.cell? ⟨E, 1, none⟩ = some (.int .i64 y.un) ∧ w9.cell? ⟨E, 2, none⟩ = some (.int .i64 y.til) ∧ w9.cell? ⟨E, 3, none⟩ = some (.int .i64 y.cu) ∧ w9.cell? ⟨E, 4, none⟩ = some (.int .i64 y.am) := fun w9 h9 => by
              have h2 := Blk.keep hE h9
              refine ⟨?_, ?_, ?_, ?_, ?_⟩ <;> rw [h2.cell] <;> rfl
            have ech := Lib.hid ecell
            obtain ⟨d0, d1, d2, d3, d4⟩ := ecell wa rfl
            clear ecell
            refine ⟨rfl, ?_⟩
            go_wp2_with fail
            refine ⟨by kernel_rfl, ?_, ?_⟩
            · intro _ w9 h9
              obtain ⟨d0, d1, d2, d3, d4⟩ := ech.out w9 h9
              clear h9
              go_simp
            go_wp2_with fail
            refine (entry_wide hSa hG ((k : Int) - 1) (by omega) y hyh.out).mono ?_
            rintro e w7 ⟨rfl, hc7⟩
            unfold Ent.val Ent.row
            have hc7 := ((Chg.refl (fun _ => False) wa).drew).trans hc7 (fun _ _ h => h)
            have hgk := Lib.hid (hc7.block E hE.lt id)
            obtain ⟨d0', d1', d2', d3', d4'⟩ := ech.out w7 hgk.out
            go_wp2_with fail
            refine ⟨hgk.out, ?_⟩
            go_wp2_with fail
            refine ⟨by kernel_rfl, ?_⟩
            go_wp2_with fail
            refine ⟨by kernel_rfl, ?_⟩
            go_wp2_with fail
            go_roundw
            case rel => exact ⟨k + 1, by omega, by go_num, hcka.trans hc7 (fun _ _ h => h)⟩
            case measure => simp [RowKit.intOf]; omega
      have hk2 : k = 203 := by omega
      subst hk2
      rw [show (((203 : Nat) : Int) - 1) = 202 from rfl]
      obtain ⟨wp, rfl⟩ : ∃ wp : World, wp = wr := ⟨wr, rfl⟩
      have hc7 := hck
      clear hck hk hlt
      go_wp2_with fail
      go_loopw [10] (fun v10 wr => ∃ k : Nat, k ≤ p.ln.length ∧ v10 = .int .i64 k ∧ Chg (fun _ => False) w1 wr) (fun v10 _ => p.ln.length - (RowKit.intOf v10).toNat)
      case atStart => exact ⟨0, by omega, rfl, hc7⟩
      case round =>
        clear hc7
        obtain ⟨k, hk, rfl, hck⟩ := hrel
        by_cases hlt : k < p.ln.length
        · obtain ⟨m, hm⟩ : ∃ m, p.ln[k]? = some m := ⟨_, List.getElem?_eq_getElem hlt⟩
          have hr1 := own_chg hrow hck (fun _ _ => id)
          have hXr := hX1.chg hck id (fun _ _ => id)
          have hr2 := hXr.own
          have x6 := hXr.blk.lin
          obtain ⟨g1, rfl⟩ : ∃ g, ad = some ⟨g, 0, none⟩ := by
            rcases hr1.2 with ⟨_, h⟩ | ⟨g, cp, _, h1, _⟩
            · omega
            · injection h1 with h1 _ _; exact ⟨g, h1⟩
          obtain ⟨g2, rfl⟩ : ∃ g, ad2 = some ⟨g, 0, none⟩ := by
            rcases hr2.2 with ⟨_, h⟩ | ⟨g, cp, _, h1, _⟩
            · omega
            · injection h1 with h1 _ _; exact ⟨g, h1⟩
          have hg := fun (i : Nat) (hi : i < 4) => line_get p.ln k i m hm hi
          have q1 := fun (i : Nat) (hi : i < 4) (u : Value) (hu : m.cells[i]? = some u) => own_cells_i hr1 (k * 4 + i) u ((hg i hi).trans hu)
          have q2 := fun (i : Nat) (hi : i < 4) (u : Value) (hu : m.cells[i]? = some u) => own_cells_i hr2 (k * 4 + i) u ((hg i hi).trans hu)
          have a0 := q1 0 (by omega) (.int .i64 m.bk) rfl
          have a1 := q1 1 (by omega) (.int .i64 m.fr) rfl
          have a2 := q1 2 (by omega) (.int .i64 m.to) rfl
          have a3 := q1 3 (by omega) (.int .i64 m.am) rfl
          have b0 := q2 0 (by omega) (.int .i64 m.bk) rfl
          have b1 := q2 1 (by omega) (.int .i64 m.fr) rfl
          have b2 := q2 2 (by omega) (.int .i64 m.to) rfl
          have b3 := q2 3 (by omega) (.int .i64 m.am) rfl
          rw [addr_add0] at a0 a1 a2 a3 b0 b1 b2 b3
          rw [Nat.add_zero] at a0 b0
          clear hg q1 q2 hr1 hr2 hXr hm
          go_wp2_with fail
          refine wp_region_plan (by kernel_rfl) [] [0, 1, 2, 3, 4, 5, 6, 7, 8, 9, 10, 11, 12, 13, 14, 15, 16, 17, 18, 19, 20, 21, 22, 23, 24, 25, 26, 27, 28, 29, 30, 31, 32, 33, 34, 35, 36, 37, 38, 39, 40, 41, 42, 43, 44, 45, 46, 47, 48, 49, 50, 51, 52, 53, 54, 55, 56, 57, 58, 59, 60, 61] (by kernel_rfl) (fun _ _ => True) ?_
          simp only [wpPlan, longOK, keepOK, opsAt_cons, opsAt_nil, consO_some, List.getElem?_toArray, List.getElem?_cons_succ, List.getElem?_cons_zero, and_true, true_and]
          go_wp2_with fail
          refine ⟨by kernel_rfl, ?_⟩
          go_wp2_with fail
          go_roundw
          case rel => exact ⟨k + 1, by omega, by go_num, hck.drew⟩
          case measure => simp [RowKit.intOf]; omega
        · go_wp2_with fail
          go_ret
          exact ⟨rfl, hc1.trans hck (fun _ _ h => h)⟩
end Go.Proofs.Ytjgnnefhnddecaa
