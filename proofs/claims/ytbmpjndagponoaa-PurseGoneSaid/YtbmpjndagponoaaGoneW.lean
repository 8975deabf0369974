/-
  layer 10: PurseGone, its walk.
-/
import Derived.Test.YtbmpjndagponoaaPurseL
import Derived.Test.YtbmpjndagponoaaPurseR
import Derived.Test.YtbmpjndagponoaaMayRef
import Derived.Test.YtbmpjndagponoaaInts
namespace Go.Proofs.Ytbmpjndagponoaa
open Go.RowKit Go.Maps

def goneF : Int → Int := fun4 100 50 10 0
theorem goneF_ok : ∀ i, 0 ≤ i → i ≤ 3 → 0 ≤ goneF i ∧ goneF i ≤ 1099511627776 := by
  intro i h1 h2
  have : i = 0 ∨ i = 1 ∨ i = 2 ∨ i = 3 := by omega
  rcases this with rfl | rfl | rfl | rfl <;> decide

set_option maxRecDepth 100000 in
set_option maxHeartbeats 4000000 in
theorem gone_walk (w : World) (ad : Option Addr) (cap : Nat) (l : List POp) (n : Int) (ad2 : Option Addr) (cap2 : Nat) (m : List POp) (hl : OpsIn w ad l) (hm : OpsIn w ad2 m) :
    Calls Try.prog 5 #[.slice ad l.length cap, .int .i64 n, .slice ad2 m.length cap2] w fun e w' => e = .returned (.bool true) ∧ Chg (fun _ => False) w w' := by
  have hmx := hl.len
  have hmx2 := hm.len
  unfold maxLen at hmx hmx2
  have hG0 := Pur.new_good fun i h1 h2 => (goneF_ok i h1 h2).1
  rw [show goneF 0 + goneF 1 + goneF 2 + goneF 3 = 160 by decide] at hG0
  obtain ⟨B, hBe⟩ : ∃ B, B = wrap64 (1 + wrap64 ((IntKind.u64.wrap n).tmod 12)) := ⟨_, rfl⟩
  have hB := bk12 n
  rw [← hBe] at hB
  obtain ⟨hB1, hB2⟩ := hB
  have hBh := Lib.hid hBe
  clear hBe
  go_enter Try.func5, Try.ntmps5
  go_wp2_with fail
  refine (new_w w goneF goneF_ok).mono ?_
  rintro e w2 ⟨q, rfl, hPB, hcB⟩
  go_wp2_with fail
  rw [← hBh.out]
  go_loopw [10] (fun v wr => ∃ k : Nat, v = .int .i64 k ∧ k ≤ l.length ∧ k ≤ 40 ∧ PurW w.heap.size wr q (runP (Pur.new goneF) (l.take k)) ∧ Chg (fun i => w.heap.size ≤ i) w wr) (fun v _ => 40 - (intOf v).toNat)
  case atStart => exact ⟨0, rfl, Nat.zero_le _, Nat.zero_le _, hPB, hcB.mono (fun _ _ h => h.elim)⟩
  case round =>
    obtain ⟨k, rfl, hk1, hk2, hPk, hck⟩ := hrel
    have hcF : Chg (fun _ => False) w wr := hck.mono (fun i hi h => by omega)
    have hlr : OpsIn wr ad l := hl.chg hcF (fun i _ h => h)
    have hGk := runP_good (l.take k) hG0
    have hlen : (runP (Pur.new goneF) (l.take k)).ln.length ≤ k := by have := runP_len (Pur.new goneF) (l.take k); simp [Pur.new] at this ⊢; omega
    by_cases hlt : k < l.length ∧ k < 40
    · obtain ⟨hlt1, hlt2⟩ := hlt
      obtain ⟨o, ho⟩ : ∃ o, l[k]? = some o := ⟨_, List.getElem?_eq_getElem hlt1⟩
      obtain ⟨a, rfl, hab, hat⟩ := hlr.at_ k o ho
      have g0 : wr.cell? (a.add (k * 5)) = some (.int .i64 o.kd) := hat 0 _ rfl
      have g1 : wr.cell? ⟨(a.add (k * 5)).block, (a.add (k * 5)).off + 1, none⟩ = some (.int .i64 o.bk) := hat 1 _ rfl
      have g2 : wr.cell? ⟨(a.add (k * 5)).block, (a.add (k * 5)).off + 2, none⟩ = some (.int .i64 o.un) := hat 2 _ rfl
      have g3 : wr.cell? ⟨(a.add (k * 5)).block, (a.add (k * 5)).off + 3, none⟩ = some (.int .i64 o.cu) := hat 3 _ rfl
      have g4 : wr.cell? ⟨(a.add (k * 5)).block, (a.add (k * 5)).off + 4, none⟩ = some (.int .i64 o.am) := hat 4 _ rfl
      go_wp2_with fail
      refine (do_w w.heap.size wr q _ o _ hPk hGk (by omega) (by omega) _ (runP (Pur.new goneF) (l.take (k + 1))) rfl (runP_take _ _ _ _ ho)).mono ?_
      rintro e w3 ⟨rfl, hP3, hc3⟩
      have hck3 := hck.trans hc3 (fun _ _ h => h)
      clear g0 g1 g2 g3 g4 hat
      go_wp2_with fail
      go_roundw
      case rel => exact ⟨k + 1, by go_num, by omega, by omega, hP3, hck3⟩
      case measure => simp [intOf]; omega
    · have hvoid := Pur.act_void hGk (b := B) (by omega)
      have hGv := hGk.act (voidOp B)
      have hlv := Pur.act_len (runP (Pur.new goneF) (l.take k)) (voidOp B)
      obtain ⟨hv1, hv2⟩ := hvoid
      go_wp2_with fail
      all_goals
        refine (do_w w.heap.size wr q _ (voidOp B) _ hPk hGk (by omega) (by omega) 1 _ hv1 rfl).mono ?_
        rintro e w3 ⟨rfl, hP3, hc3⟩
        have hck3 := hck.trans hc3 (fun _ _ h => h)
        generalize (Pur.act (runP (Pur.new goneF) (l.take k)) (voidOp B)).2 = p3 at *
        clear hPk hGk hck hc3 hlr hv1 hcF
        go_wp2_with fail
        go_loopw [11] (fun v wx => ∃ k : Nat, v = .int .i64 k ∧ k ≤ m.length ∧ k ≤ 40 ∧ ∃ p : Pur, PurW w.heap.size wx q p ∧ p.Good 160 ∧ p.en B = Ent.gone ∧ p.ln.length ≤ 100 + k ∧ Chg (fun i => w.heap.size ≤ i) w wx) (fun v _ => 40 - (intOf v).toNat)
        case atStart => exact ⟨0, rfl, Nat.zero_le _, Nat.zero_le _, p3, hP3, hGv, hv2, by omega, hck3⟩
        case round =>
          clear hP3 hGv hv2 hck3
          obtain ⟨k, rfl, hk1, hk2, p, hPk, hGk, hgo, hlen, hck⟩ := hrel
          have hcF : Chg (fun _ => False) w wr := hck.mono (fun i hi h => by omega)
          have hmr : OpsIn wr ad2 m := hm.chg hcF (fun i _ h => h)
          by_cases hlt2 : k < m.length ∧ k < 40
          · obtain ⟨hlt1, hlt2⟩ := hlt2
            obtain ⟨o, ho⟩ : ∃ o, m[k]? = some o := ⟨_, List.getElem?_eq_getElem hlt1⟩
            obtain ⟨a, rfl, hab, hat⟩ := hmr.at_ k o ho
            have g0 : wr.cell? (a.add (k * 5)) = some (.int .i64 o.kd) := hat 0 _ rfl
            have g1 : wr.cell? ⟨(a.add (k * 5)).block, (a.add (k * 5)).off + 1, none⟩ = some (.int .i64 o.bk) := hat 1 _ rfl
            have g2 : wr.cell? ⟨(a.add (k * 5)).block, (a.add (k * 5)).off + 2, none⟩ = some (.int .i64 o.un) := hat 2 _ rfl
            have g3 : wr.cell? ⟨(a.add (k * 5)).block, (a.add (k * 5)).off + 3, none⟩ = some (.int .i64 o.cu) := hat 3 _ rfl
            have g4 : wr.cell? ⟨(a.add (k * 5)).block, (a.add (k * 5)).off + 4, none⟩ = some (.int .i64 o.am) := hat 4 _ rfl
            go_wp2_with fail
            have hag := Pur.act_gone hgo o
            have hG3 := hGk.act o
            have hl3 := Pur.act_len p o
            obtain ⟨hg3, hr3⟩ := hag
            refine (do_w w.heap.size wr q _ o _ hPk hGk (by omega) (by omega) _ _ rfl rfl).mono ?_
            rintro e w3 ⟨rfl, hP3, hc3⟩
            have hck3 := hck.trans hc3 (fun _ _ h => h)
            have hcF3 : Chg (fun _ => False) w w3 := hck3.mono (fun i hi h => by omega)
            obtain ⟨a2, ha2, hab2, hat2⟩ := (hm.chg hcF3 (fun i _ h => h)).at_ k o ho
            injection ha2 with ha2
            subst ha2
            clear g0 g1 g2 g3 g4 hat hmr hcF
            have g0 : w3.cell? (a.add (k * 5)) = some (.int .i64 o.kd) := hat2 0 _ rfl
            have g1 : w3.cell? ⟨(a.add (k * 5)).block, (a.add (k * 5)).off + 1, none⟩ = some (.int .i64 o.bk) := hat2 1 _ rfl
            have g2 : w3.cell? ⟨(a.add (k * 5)).block, (a.add (k * 5)).off + 2, none⟩ = some (.int .i64 o.un) := hat2 2 _ rfl
            have g3 : w3.cell? ⟨(a.add (k * 5)).block, (a.add (k * 5)).off + 3, none⟩ = some (.int .i64 o.cu) := hat2 3 _ rfl
            have g4 : w3.cell? ⟨(a.add (k * 5)).block, (a.add (k * 5)).off + 4, none⟩ = some (.int .i64 o.am) := hat2 4 _ rfl
            have hres := p.act_res o
            generalize (p.act o).2 = p4 at *
            generalize (p.act o).1 = r at *
            clear hPk hGk hgo hat2
            by_cases hb : o.bk = B
            · have hr := hr3 hb
              have hbb : (o.bk == B) = true := by simp [hb]
              clear hr3
              by_cases h6 : o.kd = 6
              · have h6b : (o.kd == 6) = true := by simp [h6]
                cases hmm : mayOp o with
                | true =>
                  rw [if_pos ⟨h6, hmm⟩] at hr
                  subst hr
                  have hmh := Lib.hid hmm
                  clear hmm
                  clear hb h6 hres
                  go_wp2_with fail
                  refine (mayRef_any o w3).mono ?_
                  rintro e w4 ⟨rfl, hc4⟩
                  have hP4 := hP3.keep0 hc4
                  have hck4 := hck3.trans hc4 (fun _ _ h => h.elim)
                  rw [hmh.out]
                  go_wp2_with fail
                  refine (entry_w hP4 hG3 B (by omega) Ent.gone hg3).mono ?_
                  rintro e w9 ⟨rfl, hc9⟩
                  have hP9 := hP4.keep0 hc9
                  have hck9 := hck4.trans hc9 (fun _ _ h => h.elim)
                  clear g0 g1 g2 g3 g4 hcF3
                  unfold Ent.val Ent.row Ent.gone
                  go_wp2_with fail
                  go_roundw
                  case rel => exact ⟨k + 1, by go_num, by omega, by omega, p4, hP9, hG3, hg3, by omega, hck9⟩
                  case measure => simp [intOf]; omega
                | false =>
                  rw [if_neg (by simp [hmm])] at hr
                  subst hr
                  have hmh := Lib.hid hmm
                  clear hmm
                  clear hb h6 hres
                  go_wp2_with fail
                  refine (mayRef_any o w3).mono ?_
                  rintro e w4 ⟨rfl, hc4⟩
                  have hP4 := hP3.keep0 hc4
                  have hck4 := hck3.trans hc4 (fun _ _ h => h.elim)
                  rw [hmh.out]
                  go_wp2_with fail
                  refine (entry_w hP4 hG3 B (by omega) Ent.gone hg3).mono ?_
                  rintro e w9 ⟨rfl, hc9⟩
                  have hP9 := hP4.keep0 hc9
                  have hck9 := hck4.trans hc9 (fun _ _ h => h.elim)
                  clear g0 g1 g2 g3 g4 hcF3
                  unfold Ent.val Ent.row Ent.gone
                  go_wp2_with fail
                  go_roundw
                  case rel => exact ⟨k + 1, by go_num, by omega, by omega, p4, hP9, hG3, hg3, by omega, hck9⟩
                  case measure => simp [intOf]; omega
              · have h6b : (o.kd == 6) = false := by simp [h6]
                rw [if_neg (by simp [h6])] at hr
                subst hr
                clear hb h6 hres
                go_wp2_with fail
                refine (entry_w hP3 hG3 B (by omega) Ent.gone hg3).mono ?_
                rintro e w9 ⟨rfl, hc9⟩
                have hP9 := hP3.keep0 hc9
                have hck9 := hck3.trans hc9 (fun _ _ h => h.elim)
                clear g0 g1 g2 g3 g4 hcF3
                unfold Ent.val Ent.row Ent.gone
                go_wp2_with fail
                go_roundw
                case rel => exact ⟨k + 1, by go_num, by omega, by omega, p4, hP9, hG3, hg3, by omega, hck9⟩
                case measure => simp [intOf]; omega
            · have hbb : (o.bk == B) = false := by simp [hb]
              clear hb hr3 hres
              go_wp2_with fail
              refine (entry_w hP3 hG3 B (by omega) Ent.gone hg3).mono ?_
              rintro e w9 ⟨rfl, hc9⟩
              have hP9 := hP3.keep0 hc9
              have hck9 := hck3.trans hc9 (fun _ _ h => h.elim)
              clear g0 g1 g2 g3 g4 hcF3
              unfold Ent.val Ent.row Ent.gone
              go_wp2_with fail
              go_roundw
              case rel => exact ⟨k + 1, by go_num, by omega, by omega, p4, hP9, hG3, hg3, by omega, hck9⟩
              case measure => simp [intOf]; omega
          · go_wp2_with fail
            all_goals
              refine (told10 _).mono ?_
              rintro e wt ⟨rfl, hct⟩
              go_wp2
              go_ret
              exact ⟨rfl, hcF.trans hct (fun _ _ h => h)⟩
end Go.Proofs.Ytbmpjndagponoaa
