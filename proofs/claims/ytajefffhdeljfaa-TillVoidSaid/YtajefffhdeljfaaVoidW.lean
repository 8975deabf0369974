/-
  layer 13: TillVoid, its walk. (Printed by wip/tools/genvoid.py.)
-/
import Derived.Test.YtajefffhdeljfaaVoidP
import Derived.Test.YtajefffhdeljfaaTillT
import Derived.Test.YtajefffhdeljfaaInts
import Derived.Test.YtajefffhdeljfaaArrG
import Derived.Deep.DeepCutAuto
import Derived.Deep.CutBlock
namespace Go.Proofs.Ytajefffhdeljfaa
open Go.RowKit Go.Maps

theorem netm_bd {m : Mv} (h : m.OK) : -1099511627776 ≤ netm m ∧ netm m ≤ 1099511627776 := by
  have h1 := h.am
  have h2 := h.ne
  unfold netm
  repeat' split
  all_goals omega
theorem net_bd : ∀ (l : List Mv), (∀ m ∈ l, m.OK) → ∀ s : Int, s - 1099511627776 * l.length ≤ l.foldl (fun s m => s + netm m) s ∧ l.foldl (fun s m => s + netm m) s ≤ s + 1099511627776 * l.length
  | [], _, s => by simp
  | m :: l, h, s => by
    have h1 := netm_bd (h m (List.mem_cons_self ..))
    have h2 := net_bd l (fun m hm => h m (List.mem_cons_of_mem _ hm)) (s + netm m)
    simp only [List.foldl_cons, List.length_cons]
    omega

set_option maxRecDepth 100000 in
set_option maxHeartbeats 8000000 in
theorem void_walk (w : World) (ad : Option Addr) (cap : Nat) (l : List POp) (ad2 : Option Addr) (cap2 : Nat) (q : List Int) (n : Int) (hl : OpsIn w ad l) (hq : IntsIn w ad2 q) :
    Calls Try.prog 4 #[.slice ad l.length cap, .slice ad2 q.length cap2, .int .i64 n] w fun e w' => e = .returned (.bool true) ∧ Chg (fun _ => False) w w' := by
  have hmx := hl.len
  have hmx2 := hq.len
  unfold maxLen at hmx hmx2
  obtain ⟨A, hAe⟩ : ∃ A, A = wrap64 ((IntKind.u64.wrap n).tmod 1000) := ⟨_, rfl⟩
  have hA := modK n 1000 (by omega)
  rw [← hAe] at hA
  obtain ⟨hA1, hA2⟩ := hA
  have hAh := Lib.hid hAe
  clear hAe
  go_enter Try.func4, Try.ntmps4
  go_wp2_with fail
  refine (tillNew w (fun _ => 1073741824) (fun _ _ _ => by omega)).mono ?_
  rintro e w2 ⟨b, rfl, hW0, hc0⟩
  go_upto_block 0 with (fail)
  rw [← hAh.out]
  go_cut [10, 11] (fun v10 _ wx => ∃ (v : Bool) (p : Pur) (f : Tab), v10 = .bool v ∧ TillW (fun i => w.heap.size ≤ i) wx b p f ∧ VoidI v p f ∧ p.ln.length ≤ 40 ∧ Chg (fun i => w.heap.size ≤ i) w wx)
  case first =>
    go_wp2_with fail
    go_loopw [10, 11] (fun v10 v11 wr => ∃ (k : Nat) (v : Bool) (p : Pur) (f : Tab), v10 = .bool v ∧ v11 = .int .i64 k ∧ k ≤ q.length ∧ k ≤ 20 ∧ TillW (fun i => w.heap.size ≤ i) wr b p f ∧ VoidI v p f ∧ p.ln.length ≤ 2 * k ∧ Chg (fun i => w.heap.size ≤ i) w wr) (fun _ v11 _ => 20 - (intOf v11).toNat)
    case atStart => exact ⟨0, _, _, _, rfl, rfl, Nat.zero_le _, Nat.zero_le _, hW0, VoidI.new, Nat.le_refl _, hc0.mono (fun _ _ h => h.elim)⟩
    case round =>
      clear hW0 hc0
      obtain ⟨k, v, p, f, rfl, rfl, hk1, hk2, hW, hV, hlen, hck⟩ := hrel
      by_cases hlt : k < q.length ∧ k < 20
      · obtain ⟨hlt1, hlt2⟩ := hlt
        obtain ⟨x, hx⟩ : ∃ x, q[k]? = some x := ⟨_, List.getElem?_eq_getElem hlt1⟩
        have hcF : Chg (fun _ => False) w wr := hck.mono (fun i hi h => by omega)
        obtain ⟨d, rfl, hdb, hdat⟩ := (hq.chg hcF (fun i _ h => h)).at_ k x hx
        have hdc : ∀ o, (wr.alloc o).cell? (d.add k) = some (.int .i64 x) := fun o => by
          have e : (d.add k).block = d.block := by unfold Addr.add; split <;> rfl
          rw [((Chg.refl (fun _ => False) wr).alloc o).cell (by rw [e]; exact hdb) id]; exact hdat
        clear hdat hcF
        obtain ⟨c, hc⟩ : ∃ c, wrap64 ((IntKind.u64.wrap x).tmod 3) = c := ⟨_, rfl⟩
        have hcb := modK x 3 (by omega)
        rw [hc] at hcb
        have hch := Lib.hid hc
        clear hc
        have hcc : c = 0 ∨ c = 1 ∨ c = 2 := by omega
        clear hcb
        cases v
        · rcases hcc with hc | hc | hc
          · have hce := hch.out
            rw [hc] at hce
            go_wp2_with fail
            have hc7 : Chg (fun _ => False) wr ((wr.alloc (.cells #[.int .i64 4, .int .i64 150, .int .i64 0, .int .i64 2, .int .i64 A, .int .i64 5, .int .i64 150, .int .i64 0, .int .i64 0, .int .i64 0, .int .i64 6, .int .i64 150, .int .i64 0, .int .i64 0, .int .i64 0] 45)).alloc (.cells #[.int .i64 4, .int .i64 150, .int .i64 0, .int .i64 2, .int .i64 A] 45)) := ((Chg.refl _ wr).alloc _).alloc _
            have hO := Blk.new (wr.alloc (.cells #[.int .i64 4, .int .i64 150, .int .i64 0, .int .i64 2, .int .i64 A, .int .i64 5, .int .i64 150, .int .i64 0, .int .i64 0, .int .i64 0, .int .i64 6, .int .i64 150, .int .i64 0, .int .i64 0, .int .i64 0] 45)) 45 #[.int .i64 4, .int .i64 150, .int .i64 0, .int .i64 2, .int .i64 A]
            rw [alloc_size] at hO
            generalize (wr.alloc (.cells #[.int .i64 4, .int .i64 150, .int .i64 0, .int .i64 2, .int .i64 A, .int .i64 5, .int .i64 150, .int .i64 0, .int .i64 0, .int .i64 0, .int .i64 6, .int .i64 150, .int .i64 0, .int .i64 0, .int .i64 0] 45)).alloc (.cells #[.int .i64 4, .int .i64 150, .int .i64 0, .int .i64 2, .int .i64 A] 45) = w7 at *
            have hW7 := (hW.here).keep hc7
            have hz7 : wr.heap.size + 1 < w7.heap.size := hO.lt
            have hV8 := hV.ask ⟨4, 150, 0, 2, A⟩ (.inr (by constructor <;> simp))
            have hl8 := tAsk_len p f ⟨4, 150, 0, 2, A⟩
            obtain ⟨r8, n8, p8, f8, ha8⟩ : ∃ r n p' f', tAsk p f ⟨4, 150, 0, 2, A⟩ = (r, n, p', f') := ⟨_, _, _, _, rfl⟩
            rw [ha8] at hV8 hl8
            dsimp only at hV8 hl8
            refine (ask_any _ w7 b p f ⟨4, 150, 0, 2, A⟩ _ hW7 hV.good (by omega) (by omega) r8 n8 p8 f8 ha8).mono ?_
            rintro e w8 ⟨rfl, hW8, hc8⟩
            clear ha8
            have hO8 := hO.chg hc8 (fun h => by have := h.2; omega)
            have hck8 : Chg (fun i => w.heap.size ≤ i) w w8 := (hck.trans hc7 (fun _ _ h => h.elim)).trans hc8 (fun i _ h => h.1)
            have hz8 := hck8.size
            have hz9 := hck.size
            have hW8 := hW8.mono (S' := fun i => w.heap.size ≤ i) (fun i h => by rcases h with h | h <;> omega)
            have q0 : w8.cell? ⟨wr.heap.size + 1, 0, none⟩ = some (.int .i64 4) := by rw [hO8.cell]; rfl
            have q1 : w8.cell? ⟨wr.heap.size + 1, 1, none⟩ = some (.int .i64 150) := by rw [hO8.cell]; rfl
            have q2 : w8.cell? ⟨wr.heap.size + 1, 2, none⟩ = some (.int .i64 0) := by rw [hO8.cell]; rfl
            have q3 : w8.cell? ⟨wr.heap.size + 1, 3, none⟩ = some (.int .i64 2) := by rw [hO8.cell]; rfl
            have q4 : w8.cell? ⟨wr.heap.size + 1, 4, none⟩ = some (.int .i64 A) := by rw [hO8.cell]; rfl
            clear hW hV hck hc7 hW7 hc8 hO
            go_wp2_with fail
            refine (till_purse hW8 (by omega)).mono ?_
            rintro e w9 ⟨b9, rfl, hP9, hc9⟩
            clear q0 q1 q2 q3 q4
            have hW9 := hW8.keep hc9
            have hck9 := hck8.trans hc9 (fun _ _ h => h.elim)
            clear hW8 hck8
            have hc10 : Chg (fun _ => False) w9 w9 := Chg.refl _ _
            obtain ⟨w10, hw10⟩ : ∃ w10 : World, w10 = w9 := ⟨w9, rfl⟩
            subst hw10
            have hW10 := hW9
            have hck10 := hck9
            clear hc9 hc10 hP9
            clear hW9 hck9
            have hcF10 : Chg (fun _ => False) w w10 := hck10.mono (fun i hi h => by omega)
            by_cases hkl : k < l.length
            · obtain ⟨o, ho⟩ : ∃ o, l[k]? = some o := ⟨_, List.getElem?_eq_getElem hkl⟩
              obtain ⟨a, rfl, hab, hat⟩ := (hl.chg hcF10 (fun i _ h => h)).at_ k o ho
              have g0 : w10.cell? (a.add (k * 5)) = some (.int .i64 o.kd) := hat 0 _ rfl
              have g1 : w10.cell? ⟨(a.add (k * 5)).block, (a.add (k * 5)).off + 1, none⟩ = some (.int .i64 o.bk) := hat 1 _ rfl
              have g2 : w10.cell? ⟨(a.add (k * 5)).block, (a.add (k * 5)).off + 2, none⟩ = some (.int .i64 o.un) := hat 2 _ rfl
              have g3 : w10.cell? ⟨(a.add (k * 5)).block, (a.add (k * 5)).off + 3, none⟩ = some (.int .i64 o.cu) := hat 3 _ rfl
              have g4 : w10.cell? ⟨(a.add (k * 5)).block, (a.add (k * 5)).off + 4, none⟩ = some (.int .i64 o.am) := hat 4 _ rfl
              clear hat hcF10
              by_cases hb : o.bk = 150
              · have hbb : (o.bk == 150) = true := by simp [hb]
                clear hb
                go_wp2_with fail
                go_roundw
                case rel => exact ⟨k + 1, _, _, _, rfl, by go_num, by omega, by omega, hW10, hV8, by omega, hck10⟩
                case measure => simp [intOf]; omega
              · have hbb : (o.bk == 150) = false := by simp [hb]
                have hV11 := hV8.ask o (.inl hb)
                have hl11 := tAsk_len p8 f8 o
                obtain ⟨r11, n11, p11, f11, ha11⟩ : ∃ r n p' f', tAsk p8 f8 o = (r, n, p', f') := ⟨_, _, _, _, rfl⟩
                rw [ha11] at hV11 hl11
                dsimp only at hV11 hl11
                have hah := Lib.hid ha11
                clear hb ha11
                go_wp2_with fail
                refine (ask_any _ w10 b p8 f8 o _ hW10 hV8.good (by omega) (by omega) r11 n11 p11 f11 hah.out).mono ?_
                rintro e w11 ⟨rfl, hW11, hc11⟩
                have hck11 := hck10.trans hc11 (fun _ _ h => h)
                have hz10 := hck10.size
                have hW11 := hW11.mono (S' := fun i => w.heap.size ≤ i) (fun i h => by rcases h with h | h <;> omega)
                clear g0 g1 g2 g3 g4
                go_wp2_with fail
                go_roundw
                case rel => exact ⟨k + 1, _, _, _, rfl, by go_num, by omega, by omega, hW11, hV11, by omega, hck11⟩
                case measure => simp [intOf]; omega
            · clear hcF10
              go_wp2_with fail
              go_roundw
              case rel => exact ⟨k + 1, _, _, _, rfl, by go_num, by omega, by omega, hW10, hV8, by omega, hck10⟩
              case measure => simp [intOf]; omega
          · have hce := hch.out
            rw [hc] at hce
            go_wp2_with fail
            have hc7 : Chg (fun _ => False) wr ((wr.alloc (.cells #[.int .i64 4, .int .i64 150, .int .i64 0, .int .i64 2, .int .i64 A, .int .i64 5, .int .i64 150, .int .i64 0, .int .i64 0, .int .i64 0, .int .i64 6, .int .i64 150, .int .i64 0, .int .i64 0, .int .i64 0] 45)).alloc (.cells #[.int .i64 5, .int .i64 150, .int .i64 0, .int .i64 0, .int .i64 0] 45)) := ((Chg.refl _ wr).alloc _).alloc _
            have hO := Blk.new (wr.alloc (.cells #[.int .i64 4, .int .i64 150, .int .i64 0, .int .i64 2, .int .i64 A, .int .i64 5, .int .i64 150, .int .i64 0, .int .i64 0, .int .i64 0, .int .i64 6, .int .i64 150, .int .i64 0, .int .i64 0, .int .i64 0] 45)) 45 #[.int .i64 5, .int .i64 150, .int .i64 0, .int .i64 0, .int .i64 0]
            rw [alloc_size] at hO
            generalize (wr.alloc (.cells #[.int .i64 4, .int .i64 150, .int .i64 0, .int .i64 2, .int .i64 A, .int .i64 5, .int .i64 150, .int .i64 0, .int .i64 0, .int .i64 0, .int .i64 6, .int .i64 150, .int .i64 0, .int .i64 0, .int .i64 0] 45)).alloc (.cells #[.int .i64 5, .int .i64 150, .int .i64 0, .int .i64 0, .int .i64 0] 45) = w7 at *
            have hW7 := (hW.here).keep hc7
            have hz7 : wr.heap.size + 1 < w7.heap.size := hO.lt
            have hV8 := hV.ask ⟨5, 150, 0, 0, 0⟩ (.inr (by constructor <;> simp))
            have hl8 := tAsk_len p f ⟨5, 150, 0, 0, 0⟩
            obtain ⟨r8, n8, p8, f8, ha8⟩ : ∃ r n p' f', tAsk p f ⟨5, 150, 0, 0, 0⟩ = (r, n, p', f') := ⟨_, _, _, _, rfl⟩
            rw [ha8] at hV8 hl8
            dsimp only at hV8 hl8
            refine (ask_any _ w7 b p f ⟨5, 150, 0, 0, 0⟩ _ hW7 hV.good (by omega) (by omega) r8 n8 p8 f8 ha8).mono ?_
            rintro e w8 ⟨rfl, hW8, hc8⟩
            clear ha8
            have hO8 := hO.chg hc8 (fun h => by have := h.2; omega)
            have hck8 : Chg (fun i => w.heap.size ≤ i) w w8 := (hck.trans hc7 (fun _ _ h => h.elim)).trans hc8 (fun i _ h => h.1)
            have hz8 := hck8.size
            have hz9 := hck.size
            have hW8 := hW8.mono (S' := fun i => w.heap.size ≤ i) (fun i h => by rcases h with h | h <;> omega)
            have q0 : w8.cell? ⟨wr.heap.size + 1, 0, none⟩ = some (.int .i64 5) := by rw [hO8.cell]; rfl
            have q1 : w8.cell? ⟨wr.heap.size + 1, 1, none⟩ = some (.int .i64 150) := by rw [hO8.cell]; rfl
            have q2 : w8.cell? ⟨wr.heap.size + 1, 2, none⟩ = some (.int .i64 0) := by rw [hO8.cell]; rfl
            have q3 : w8.cell? ⟨wr.heap.size + 1, 3, none⟩ = some (.int .i64 0) := by rw [hO8.cell]; rfl
            have q4 : w8.cell? ⟨wr.heap.size + 1, 4, none⟩ = some (.int .i64 0) := by rw [hO8.cell]; rfl
            clear hW hV hck hc7 hW7 hc8 hO
            go_wp2_with fail
            refine (till_purse hW8 (by omega)).mono ?_
            rintro e w9 ⟨b9, rfl, hP9, hc9⟩
            clear q0 q1 q2 q3 q4
            have hW9 := hW8.keep hc9
            have hck9 := hck8.trans hc9 (fun _ _ h => h.elim)
            clear hW8 hck8
            have hc10 : Chg (fun _ => False) w9 w9 := Chg.refl _ _
            obtain ⟨w10, hw10⟩ : ∃ w10 : World, w10 = w9 := ⟨w9, rfl⟩
            subst hw10
            have hW10 := hW9
            have hck10 := hck9
            clear hc9 hc10 hP9
            clear hW9 hck9
            have hcF10 : Chg (fun _ => False) w w10 := hck10.mono (fun i hi h => by omega)
            by_cases hkl : k < l.length
            · obtain ⟨o, ho⟩ : ∃ o, l[k]? = some o := ⟨_, List.getElem?_eq_getElem hkl⟩
              obtain ⟨a, rfl, hab, hat⟩ := (hl.chg hcF10 (fun i _ h => h)).at_ k o ho
              have g0 : w10.cell? (a.add (k * 5)) = some (.int .i64 o.kd) := hat 0 _ rfl
              have g1 : w10.cell? ⟨(a.add (k * 5)).block, (a.add (k * 5)).off + 1, none⟩ = some (.int .i64 o.bk) := hat 1 _ rfl
              have g2 : w10.cell? ⟨(a.add (k * 5)).block, (a.add (k * 5)).off + 2, none⟩ = some (.int .i64 o.un) := hat 2 _ rfl
              have g3 : w10.cell? ⟨(a.add (k * 5)).block, (a.add (k * 5)).off + 3, none⟩ = some (.int .i64 o.cu) := hat 3 _ rfl
              have g4 : w10.cell? ⟨(a.add (k * 5)).block, (a.add (k * 5)).off + 4, none⟩ = some (.int .i64 o.am) := hat 4 _ rfl
              clear hat hcF10
              by_cases hb : o.bk = 150
              · have hbb : (o.bk == 150) = true := by simp [hb]
                clear hb
                go_wp2_with fail
                go_roundw
                case rel => exact ⟨k + 1, _, _, _, rfl, by go_num, by omega, by omega, hW10, hV8, by omega, hck10⟩
                case measure => simp [intOf]; omega
              · have hbb : (o.bk == 150) = false := by simp [hb]
                have hV11 := hV8.ask o (.inl hb)
                have hl11 := tAsk_len p8 f8 o
                obtain ⟨r11, n11, p11, f11, ha11⟩ : ∃ r n p' f', tAsk p8 f8 o = (r, n, p', f') := ⟨_, _, _, _, rfl⟩
                rw [ha11] at hV11 hl11
                dsimp only at hV11 hl11
                have hah := Lib.hid ha11
                clear hb ha11
                go_wp2_with fail
                refine (ask_any _ w10 b p8 f8 o _ hW10 hV8.good (by omega) (by omega) r11 n11 p11 f11 hah.out).mono ?_
                rintro e w11 ⟨rfl, hW11, hc11⟩
                have hck11 := hck10.trans hc11 (fun _ _ h => h)
                have hz10 := hck10.size
                have hW11 := hW11.mono (S' := fun i => w.heap.size ≤ i) (fun i h => by rcases h with h | h <;> omega)
                clear g0 g1 g2 g3 g4
                go_wp2_with fail
                go_roundw
                case rel => exact ⟨k + 1, _, _, _, rfl, by go_num, by omega, by omega, hW11, hV11, by omega, hck11⟩
                case measure => simp [intOf]; omega
            · clear hcF10
              go_wp2_with fail
              go_roundw
              case rel => exact ⟨k + 1, _, _, _, rfl, by go_num, by omega, by omega, hW10, hV8, by omega, hck10⟩
              case measure => simp [intOf]; omega
          · have hce := hch.out
            rw [hc] at hce
            go_wp2_with fail
            have hc7 : Chg (fun _ => False) wr ((wr.alloc (.cells #[.int .i64 4, .int .i64 150, .int .i64 0, .int .i64 2, .int .i64 A, .int .i64 5, .int .i64 150, .int .i64 0, .int .i64 0, .int .i64 0, .int .i64 6, .int .i64 150, .int .i64 0, .int .i64 0, .int .i64 0] 45)).alloc (.cells #[.int .i64 6, .int .i64 150, .int .i64 0, .int .i64 0, .int .i64 0] 45)) := ((Chg.refl _ wr).alloc _).alloc _
            have hO := Blk.new (wr.alloc (.cells #[.int .i64 4, .int .i64 150, .int .i64 0, .int .i64 2, .int .i64 A, .int .i64 5, .int .i64 150, .int .i64 0, .int .i64 0, .int .i64 0, .int .i64 6, .int .i64 150, .int .i64 0, .int .i64 0, .int .i64 0] 45)) 45 #[.int .i64 6, .int .i64 150, .int .i64 0, .int .i64 0, .int .i64 0]
            rw [alloc_size] at hO
            generalize (wr.alloc (.cells #[.int .i64 4, .int .i64 150, .int .i64 0, .int .i64 2, .int .i64 A, .int .i64 5, .int .i64 150, .int .i64 0, .int .i64 0, .int .i64 0, .int .i64 6, .int .i64 150, .int .i64 0, .int .i64 0, .int .i64 0] 45)).alloc (.cells #[.int .i64 6, .int .i64 150, .int .i64 0, .int .i64 0, .int .i64 0] 45) = w7 at *
            have hW7 := (hW.here).keep hc7
            have hz7 : wr.heap.size + 1 < w7.heap.size := hO.lt
            have hV8 := hV.void
            have hl8 := tAsk_len p f ⟨6, 150, 0, 0, 0⟩
            obtain ⟨r8, n8, p8, f8, ha8⟩ : ∃ r n p' f', tAsk p f ⟨6, 150, 0, 0, 0⟩ = (r, n, p', f') := ⟨_, _, _, _, rfl⟩
            have e8 : (tAsk p f (voidOp 150)) = tAsk p f ⟨6, 150, 0, 0, 0⟩ := rfl
            rw [e8] at hV8
            rw [ha8] at hV8 hl8
            dsimp only at hV8 hl8
            refine (ask_any _ w7 b p f ⟨6, 150, 0, 0, 0⟩ _ hW7 hV.good (by omega) (by omega) r8 n8 p8 f8 ha8).mono ?_
            rintro e w8 ⟨rfl, hW8, hc8⟩
            clear ha8
            have hO8 := hO.chg hc8 (fun h => by have := h.2; omega)
            have hck8 : Chg (fun i => w.heap.size ≤ i) w w8 := (hck.trans hc7 (fun _ _ h => h.elim)).trans hc8 (fun i _ h => h.1)
            have hz8 := hck8.size
            have hz9 := hck.size
            have hW8 := hW8.mono (S' := fun i => w.heap.size ≤ i) (fun i h => by rcases h with h | h <;> omega)
            have q0 : w8.cell? ⟨wr.heap.size + 1, 0, none⟩ = some (.int .i64 6) := by rw [hO8.cell]; rfl
            have q1 : w8.cell? ⟨wr.heap.size + 1, 1, none⟩ = some (.int .i64 150) := by rw [hO8.cell]; rfl
            have q2 : w8.cell? ⟨wr.heap.size + 1, 2, none⟩ = some (.int .i64 0) := by rw [hO8.cell]; rfl
            have q3 : w8.cell? ⟨wr.heap.size + 1, 3, none⟩ = some (.int .i64 0) := by rw [hO8.cell]; rfl
            have q4 : w8.cell? ⟨wr.heap.size + 1, 4, none⟩ = some (.int .i64 0) := by rw [hO8.cell]; rfl
            clear hW hV hck hc7 hW7 hc8 hO
            go_wp2_with fail
            refine (till_purse hW8 (by omega)).mono ?_
            rintro e w9 ⟨b9, rfl, hP9, hc9⟩
            clear q0 q1 q2 q3 q4
            have hW9 := hW8.keep hc9
            have hck9 := hck8.trans hc9 (fun _ _ h => h.elim)
            clear hW8 hck8
            go_wp2_with fail
            refine (entry_w hP9 hV8.good 150 (by omega) _ (hV8.yes rfl)).mono ?_
            rintro e w10 ⟨rfl, hc10⟩
            have hW10 := hW9.keep hc10
            have hck10 := hck9.trans hc10 (fun _ _ h => h.elim)
            unfold Ent.val Ent.row Ent.gone
            clear hc9 hc10 hP9
            clear hW9 hck9
            have hcF10 : Chg (fun _ => False) w w10 := hck10.mono (fun i hi h => by omega)
            by_cases hkl : k < l.length
            · obtain ⟨o, ho⟩ : ∃ o, l[k]? = some o := ⟨_, List.getElem?_eq_getElem hkl⟩
              obtain ⟨a, rfl, hab, hat⟩ := (hl.chg hcF10 (fun i _ h => h)).at_ k o ho
              have g0 : w10.cell? (a.add (k * 5)) = some (.int .i64 o.kd) := hat 0 _ rfl
              have g1 : w10.cell? ⟨(a.add (k * 5)).block, (a.add (k * 5)).off + 1, none⟩ = some (.int .i64 o.bk) := hat 1 _ rfl
              have g2 : w10.cell? ⟨(a.add (k * 5)).block, (a.add (k * 5)).off + 2, none⟩ = some (.int .i64 o.un) := hat 2 _ rfl
              have g3 : w10.cell? ⟨(a.add (k * 5)).block, (a.add (k * 5)).off + 3, none⟩ = some (.int .i64 o.cu) := hat 3 _ rfl
              have g4 : w10.cell? ⟨(a.add (k * 5)).block, (a.add (k * 5)).off + 4, none⟩ = some (.int .i64 o.am) := hat 4 _ rfl
              clear hat hcF10
              by_cases hb : o.bk = 150
              · have hbb : (o.bk == 150) = true := by simp [hb]
                clear hb
                go_wp2_with fail
                go_roundw
                case rel => exact ⟨k + 1, _, _, _, rfl, by go_num, by omega, by omega, hW10, hV8, by omega, hck10⟩
                case measure => simp [intOf]; omega
              · have hbb : (o.bk == 150) = false := by simp [hb]
                have hV11 := hV8.ask o (.inl hb)
                have hl11 := tAsk_len p8 f8 o
                obtain ⟨r11, n11, p11, f11, ha11⟩ : ∃ r n p' f', tAsk p8 f8 o = (r, n, p', f') := ⟨_, _, _, _, rfl⟩
                rw [ha11] at hV11 hl11
                dsimp only at hV11 hl11
                have hah := Lib.hid ha11
                clear hb ha11
                go_wp2_with fail
                refine (ask_any _ w10 b p8 f8 o _ hW10 hV8.good (by omega) (by omega) r11 n11 p11 f11 hah.out).mono ?_
                rintro e w11 ⟨rfl, hW11, hc11⟩
                have hck11 := hck10.trans hc11 (fun _ _ h => h)
                have hz10 := hck10.size
                have hW11 := hW11.mono (S' := fun i => w.heap.size ≤ i) (fun i h => by rcases h with h | h <;> omega)
                clear g0 g1 g2 g3 g4
                go_wp2_with fail
                go_roundw
                case rel => exact ⟨k + 1, _, _, _, rfl, by go_num, by omega, by omega, hW11, hV11, by omega, hck11⟩
                case measure => simp [intOf]; omega
            · clear hcF10
              go_wp2_with fail
              go_roundw
              case rel => exact ⟨k + 1, _, _, _, rfl, by go_num, by omega, by omega, hW10, hV8, by omega, hck10⟩
              case measure => simp [intOf]; omega
        · rcases hcc with hc | hc | hc
          · have hce := hch.out
            rw [hc] at hce
            go_wp2_with fail
            have hc7 : Chg (fun _ => False) wr ((wr.alloc (.cells #[.int .i64 4, .int .i64 150, .int .i64 0, .int .i64 2, .int .i64 A, .int .i64 5, .int .i64 150, .int .i64 0, .int .i64 0, .int .i64 0, .int .i64 6, .int .i64 150, .int .i64 0, .int .i64 0, .int .i64 0] 45)).alloc (.cells #[.int .i64 4, .int .i64 150, .int .i64 0, .int .i64 2, .int .i64 A] 45)) := ((Chg.refl _ wr).alloc _).alloc _
            have hO := Blk.new (wr.alloc (.cells #[.int .i64 4, .int .i64 150, .int .i64 0, .int .i64 2, .int .i64 A, .int .i64 5, .int .i64 150, .int .i64 0, .int .i64 0, .int .i64 0, .int .i64 6, .int .i64 150, .int .i64 0, .int .i64 0, .int .i64 0] 45)) 45 #[.int .i64 4, .int .i64 150, .int .i64 0, .int .i64 2, .int .i64 A]
            rw [alloc_size] at hO
            generalize (wr.alloc (.cells #[.int .i64 4, .int .i64 150, .int .i64 0, .int .i64 2, .int .i64 A, .int .i64 5, .int .i64 150, .int .i64 0, .int .i64 0, .int .i64 0, .int .i64 6, .int .i64 150, .int .i64 0, .int .i64 0, .int .i64 0] 45)).alloc (.cells #[.int .i64 4, .int .i64 150, .int .i64 0, .int .i64 2, .int .i64 A] 45) = w7 at *
            have hW7 := (hW.here).keep hc7
            have hz7 : wr.heap.size + 1 < w7.heap.size := hO.lt
            have hV8 := hV.ask ⟨4, 150, 0, 2, A⟩ (.inr (by constructor <;> simp))
            have hl8 := tAsk_len p f ⟨4, 150, 0, 2, A⟩
            obtain ⟨r8, n8, p8, f8, ha8⟩ : ∃ r n p' f', tAsk p f ⟨4, 150, 0, 2, A⟩ = (r, n, p', f') := ⟨_, _, _, _, rfl⟩
            rw [ha8] at hV8 hl8
            dsimp only at hV8 hl8
            refine (ask_any _ w7 b p f ⟨4, 150, 0, 2, A⟩ _ hW7 hV.good (by omega) (by omega) r8 n8 p8 f8 ha8).mono ?_
            rintro e w8 ⟨rfl, hW8, hc8⟩
            clear ha8
            have hO8 := hO.chg hc8 (fun h => by have := h.2; omega)
            have hck8 : Chg (fun i => w.heap.size ≤ i) w w8 := (hck.trans hc7 (fun _ _ h => h.elim)).trans hc8 (fun i _ h => h.1)
            have hz8 := hck8.size
            have hz9 := hck.size
            have hW8 := hW8.mono (S' := fun i => w.heap.size ≤ i) (fun i h => by rcases h with h | h <;> omega)
            have q0 : w8.cell? ⟨wr.heap.size + 1, 0, none⟩ = some (.int .i64 4) := by rw [hO8.cell]; rfl
            have q1 : w8.cell? ⟨wr.heap.size + 1, 1, none⟩ = some (.int .i64 150) := by rw [hO8.cell]; rfl
            have q2 : w8.cell? ⟨wr.heap.size + 1, 2, none⟩ = some (.int .i64 0) := by rw [hO8.cell]; rfl
            have q3 : w8.cell? ⟨wr.heap.size + 1, 3, none⟩ = some (.int .i64 2) := by rw [hO8.cell]; rfl
            have q4 : w8.cell? ⟨wr.heap.size + 1, 4, none⟩ = some (.int .i64 A) := by rw [hO8.cell]; rfl
            clear hW hV hck hc7 hW7 hc8 hO
            go_wp2_with fail
            refine (till_purse hW8 (by omega)).mono ?_
            rintro e w9 ⟨b9, rfl, hP9, hc9⟩
            clear q0 q1 q2 q3 q4
            have hW9 := hW8.keep hc9
            have hck9 := hck8.trans hc9 (fun _ _ h => h.elim)
            clear hW8 hck8
            go_wp2_with fail
            refine (entry_w hP9 hV8.good 150 (by omega) _ (hV8.yes rfl)).mono ?_
            rintro e w10 ⟨rfl, hc10⟩
            have hW10 := hW9.keep hc10
            have hck10 := hck9.trans hc10 (fun _ _ h => h.elim)
            unfold Ent.val Ent.row Ent.gone
            clear hc9 hc10 hP9
            clear hW9 hck9
            have hcF10 : Chg (fun _ => False) w w10 := hck10.mono (fun i hi h => by omega)
            by_cases hkl : k < l.length
            · obtain ⟨o, ho⟩ : ∃ o, l[k]? = some o := ⟨_, List.getElem?_eq_getElem hkl⟩
              obtain ⟨a, rfl, hab, hat⟩ := (hl.chg hcF10 (fun i _ h => h)).at_ k o ho
              have g0 : w10.cell? (a.add (k * 5)) = some (.int .i64 o.kd) := hat 0 _ rfl
              have g1 : w10.cell? ⟨(a.add (k * 5)).block, (a.add (k * 5)).off + 1, none⟩ = some (.int .i64 o.bk) := hat 1 _ rfl
              have g2 : w10.cell? ⟨(a.add (k * 5)).block, (a.add (k * 5)).off + 2, none⟩ = some (.int .i64 o.un) := hat 2 _ rfl
              have g3 : w10.cell? ⟨(a.add (k * 5)).block, (a.add (k * 5)).off + 3, none⟩ = some (.int .i64 o.cu) := hat 3 _ rfl
              have g4 : w10.cell? ⟨(a.add (k * 5)).block, (a.add (k * 5)).off + 4, none⟩ = some (.int .i64 o.am) := hat 4 _ rfl
              clear hat hcF10
              by_cases hb : o.bk = 150
              · have hbb : (o.bk == 150) = true := by simp [hb]
                clear hb
                go_wp2_with fail
                go_roundw
                case rel => exact ⟨k + 1, _, _, _, rfl, by go_num, by omega, by omega, hW10, hV8, by omega, hck10⟩
                case measure => simp [intOf]; omega
              · have hbb : (o.bk == 150) = false := by simp [hb]
                have hV11 := hV8.ask o (.inl hb)
                have hl11 := tAsk_len p8 f8 o
                obtain ⟨r11, n11, p11, f11, ha11⟩ : ∃ r n p' f', tAsk p8 f8 o = (r, n, p', f') := ⟨_, _, _, _, rfl⟩
                rw [ha11] at hV11 hl11
                dsimp only at hV11 hl11
                have hah := Lib.hid ha11
                clear hb ha11
                go_wp2_with fail
                refine (ask_any _ w10 b p8 f8 o _ hW10 hV8.good (by omega) (by omega) r11 n11 p11 f11 hah.out).mono ?_
                rintro e w11 ⟨rfl, hW11, hc11⟩
                have hck11 := hck10.trans hc11 (fun _ _ h => h)
                have hz10 := hck10.size
                have hW11 := hW11.mono (S' := fun i => w.heap.size ≤ i) (fun i h => by rcases h with h | h <;> omega)
                clear g0 g1 g2 g3 g4
                go_wp2_with fail
                go_roundw
                case rel => exact ⟨k + 1, _, _, _, rfl, by go_num, by omega, by omega, hW11, hV11, by omega, hck11⟩
                case measure => simp [intOf]; omega
            · clear hcF10
              go_wp2_with fail
              go_roundw
              case rel => exact ⟨k + 1, _, _, _, rfl, by go_num, by omega, by omega, hW10, hV8, by omega, hck10⟩
              case measure => simp [intOf]; omega
          · have hce := hch.out
            rw [hc] at hce
            go_wp2_with fail
            have hc7 : Chg (fun _ => False) wr ((wr.alloc (.cells #[.int .i64 4, .int .i64 150, .int .i64 0, .int .i64 2, .int .i64 A, .int .i64 5, .int .i64 150, .int .i64 0, .int .i64 0, .int .i64 0, .int .i64 6, .int .i64 150, .int .i64 0, .int .i64 0, .int .i64 0] 45)).alloc (.cells #[.int .i64 5, .int .i64 150, .int .i64 0, .int .i64 0, .int .i64 0] 45)) := ((Chg.refl _ wr).alloc _).alloc _
            have hO := Blk.new (wr.alloc (.cells #[.int .i64 4, .int .i64 150, .int .i64 0, .int .i64 2, .int .i64 A, .int .i64 5, .int .i64 150, .int .i64 0, .int .i64 0, .int .i64 0, .int .i64 6, .int .i64 150, .int .i64 0, .int .i64 0, .int .i64 0] 45)) 45 #[.int .i64 5, .int .i64 150, .int .i64 0, .int .i64 0, .int .i64 0]
            rw [alloc_size] at hO
            generalize (wr.alloc (.cells #[.int .i64 4, .int .i64 150, .int .i64 0, .int .i64 2, .int .i64 A, .int .i64 5, .int .i64 150, .int .i64 0, .int .i64 0, .int .i64 0, .int .i64 6, .int .i64 150, .int .i64 0, .int .i64 0, .int .i64 0] 45)).alloc (.cells #[.int .i64 5, .int .i64 150, .int .i64 0, .int .i64 0, .int .i64 0] 45) = w7 at *
            have hW7 := (hW.here).keep hc7
            have hz7 : wr.heap.size + 1 < w7.heap.size := hO.lt
            have hV8 := hV.ask ⟨5, 150, 0, 0, 0⟩ (.inr (by constructor <;> simp))
            have hl8 := tAsk_len p f ⟨5, 150, 0, 0, 0⟩
            obtain ⟨r8, n8, p8, f8, ha8⟩ : ∃ r n p' f', tAsk p f ⟨5, 150, 0, 0, 0⟩ = (r, n, p', f') := ⟨_, _, _, _, rfl⟩
            rw [ha8] at hV8 hl8
            dsimp only at hV8 hl8
            refine (ask_any _ w7 b p f ⟨5, 150, 0, 0, 0⟩ _ hW7 hV.good (by omega) (by omega) r8 n8 p8 f8 ha8).mono ?_
            rintro e w8 ⟨rfl, hW8, hc8⟩
            clear ha8
            have hO8 := hO.chg hc8 (fun h => by have := h.2; omega)
            have hck8 : Chg (fun i => w.heap.size ≤ i) w w8 := (hck.trans hc7 (fun _ _ h => h.elim)).trans hc8 (fun i _ h => h.1)
            have hz8 := hck8.size
            have hz9 := hck.size
            have hW8 := hW8.mono (S' := fun i => w.heap.size ≤ i) (fun i h => by rcases h with h | h <;> omega)
            have q0 : w8.cell? ⟨wr.heap.size + 1, 0, none⟩ = some (.int .i64 5) := by rw [hO8.cell]; rfl
            have q1 : w8.cell? ⟨wr.heap.size + 1, 1, none⟩ = some (.int .i64 150) := by rw [hO8.cell]; rfl
            have q2 : w8.cell? ⟨wr.heap.size + 1, 2, none⟩ = some (.int .i64 0) := by rw [hO8.cell]; rfl
            have q3 : w8.cell? ⟨wr.heap.size + 1, 3, none⟩ = some (.int .i64 0) := by rw [hO8.cell]; rfl
            have q4 : w8.cell? ⟨wr.heap.size + 1, 4, none⟩ = some (.int .i64 0) := by rw [hO8.cell]; rfl
            clear hW hV hck hc7 hW7 hc8 hO
            go_wp2_with fail
            refine (till_purse hW8 (by omega)).mono ?_
            rintro e w9 ⟨b9, rfl, hP9, hc9⟩
            clear q0 q1 q2 q3 q4
            have hW9 := hW8.keep hc9
            have hck9 := hck8.trans hc9 (fun _ _ h => h.elim)
            clear hW8 hck8
            go_wp2_with fail
            refine (entry_w hP9 hV8.good 150 (by omega) _ (hV8.yes rfl)).mono ?_
            rintro e w10 ⟨rfl, hc10⟩
            have hW10 := hW9.keep hc10
            have hck10 := hck9.trans hc10 (fun _ _ h => h.elim)
            unfold Ent.val Ent.row Ent.gone
            clear hc9 hc10 hP9
            clear hW9 hck9
            have hcF10 : Chg (fun _ => False) w w10 := hck10.mono (fun i hi h => by omega)
            by_cases hkl : k < l.length
            · obtain ⟨o, ho⟩ : ∃ o, l[k]? = some o := ⟨_, List.getElem?_eq_getElem hkl⟩
              obtain ⟨a, rfl, hab, hat⟩ := (hl.chg hcF10 (fun i _ h => h)).at_ k o ho
              have g0 : w10.cell? (a.add (k * 5)) = some (.int .i64 o.kd) := hat 0 _ rfl
              have g1 : w10.cell? ⟨(a.add (k * 5)).block, (a.add (k * 5)).off + 1, none⟩ = some (.int .i64 o.bk) := hat 1 _ rfl
              have g2 : w10.cell? ⟨(a.add (k * 5)).block, (a.add (k * 5)).off + 2, none⟩ = some (.int .i64 o.un) := hat 2 _ rfl
              have g3 : w10.cell? ⟨(a.add (k * 5)).block, (a.add (k * 5)).off + 3, none⟩ = some (.int .i64 o.cu) := hat 3 _ rfl
              have g4 : w10.cell? ⟨(a.add (k * 5)).block, (a.add (k * 5)).off + 4, none⟩ = some (.int .i64 o.am) := hat 4 _ rfl
              clear hat hcF10
              by_cases hb : o.bk = 150
              · have hbb : (o.bk == 150) = true := by simp [hb]
                clear hb
                go_wp2_with fail
                go_roundw
                case rel => exact ⟨k + 1, _, _, _, rfl, by go_num, by omega, by omega, hW10, hV8, by omega, hck10⟩
                case measure => simp [intOf]; omega
              · have hbb : (o.bk == 150) = false := by simp [hb]
                have hV11 := hV8.ask o (.inl hb)
                have hl11 := tAsk_len p8 f8 o
                obtain ⟨r11, n11, p11, f11, ha11⟩ : ∃ r n p' f', tAsk p8 f8 o = (r, n, p', f') := ⟨_, _, _, _, rfl⟩
                rw [ha11] at hV11 hl11
                dsimp only at hV11 hl11
                have hah := Lib.hid ha11
                clear hb ha11
                go_wp2_with fail
                refine (ask_any _ w10 b p8 f8 o _ hW10 hV8.good (by omega) (by omega) r11 n11 p11 f11 hah.out).mono ?_
                rintro e w11 ⟨rfl, hW11, hc11⟩
                have hck11 := hck10.trans hc11 (fun _ _ h => h)
                have hz10 := hck10.size
                have hW11 := hW11.mono (S' := fun i => w.heap.size ≤ i) (fun i h => by rcases h with h | h <;> omega)
                clear g0 g1 g2 g3 g4
                go_wp2_with fail
                go_roundw
                case rel => exact ⟨k + 1, _, _, _, rfl, by go_num, by omega, by omega, hW11, hV11, by omega, hck11⟩
                case measure => simp [intOf]; omega
            · clear hcF10
              go_wp2_with fail
              go_roundw
              case rel => exact ⟨k + 1, _, _, _, rfl, by go_num, by omega, by omega, hW10, hV8, by omega, hck10⟩
              case measure => simp [intOf]; omega
          · have hce := hch.out
            rw [hc] at hce
            go_wp2_with fail
            have hc7 : Chg (fun _ => False) wr ((wr.alloc (.cells #[.int .i64 4, .int .i64 150, .int .i64 0, .int .i64 2, .int .i64 A, .int .i64 5, .int .i64 150, .int .i64 0, .int .i64 0, .int .i64 0, .int .i64 6, .int .i64 150, .int .i64 0, .int .i64 0, .int .i64 0] 45)).alloc (.cells #[.int .i64 6, .int .i64 150, .int .i64 0, .int .i64 0, .int .i64 0] 45)) := ((Chg.refl _ wr).alloc _).alloc _
            have hO := Blk.new (wr.alloc (.cells #[.int .i64 4, .int .i64 150, .int .i64 0, .int .i64 2, .int .i64 A, .int .i64 5, .int .i64 150, .int .i64 0, .int .i64 0, .int .i64 0, .int .i64 6, .int .i64 150, .int .i64 0, .int .i64 0, .int .i64 0] 45)) 45 #[.int .i64 6, .int .i64 150, .int .i64 0, .int .i64 0, .int .i64 0]
            rw [alloc_size] at hO
            generalize (wr.alloc (.cells #[.int .i64 4, .int .i64 150, .int .i64 0, .int .i64 2, .int .i64 A, .int .i64 5, .int .i64 150, .int .i64 0, .int .i64 0, .int .i64 0, .int .i64 6, .int .i64 150, .int .i64 0, .int .i64 0, .int .i64 0] 45)).alloc (.cells #[.int .i64 6, .int .i64 150, .int .i64 0, .int .i64 0, .int .i64 0] 45) = w7 at *
            have hW7 := (hW.here).keep hc7
            have hz7 : wr.heap.size + 1 < w7.heap.size := hO.lt
            have hV8 := hV.void
            have hl8 := tAsk_len p f ⟨6, 150, 0, 0, 0⟩
            obtain ⟨r8, n8, p8, f8, ha8⟩ : ∃ r n p' f', tAsk p f ⟨6, 150, 0, 0, 0⟩ = (r, n, p', f') := ⟨_, _, _, _, rfl⟩
            have e8 : (tAsk p f (voidOp 150)) = tAsk p f ⟨6, 150, 0, 0, 0⟩ := rfl
            rw [e8] at hV8
            rw [ha8] at hV8 hl8
            dsimp only at hV8 hl8
            refine (ask_any _ w7 b p f ⟨6, 150, 0, 0, 0⟩ _ hW7 hV.good (by omega) (by omega) r8 n8 p8 f8 ha8).mono ?_
            rintro e w8 ⟨rfl, hW8, hc8⟩
            clear ha8
            have hO8 := hO.chg hc8 (fun h => by have := h.2; omega)
            have hck8 : Chg (fun i => w.heap.size ≤ i) w w8 := (hck.trans hc7 (fun _ _ h => h.elim)).trans hc8 (fun i _ h => h.1)
            have hz8 := hck8.size
            have hz9 := hck.size
            have hW8 := hW8.mono (S' := fun i => w.heap.size ≤ i) (fun i h => by rcases h with h | h <;> omega)
            have q0 : w8.cell? ⟨wr.heap.size + 1, 0, none⟩ = some (.int .i64 6) := by rw [hO8.cell]; rfl
            have q1 : w8.cell? ⟨wr.heap.size + 1, 1, none⟩ = some (.int .i64 150) := by rw [hO8.cell]; rfl
            have q2 : w8.cell? ⟨wr.heap.size + 1, 2, none⟩ = some (.int .i64 0) := by rw [hO8.cell]; rfl
            have q3 : w8.cell? ⟨wr.heap.size + 1, 3, none⟩ = some (.int .i64 0) := by rw [hO8.cell]; rfl
            have q4 : w8.cell? ⟨wr.heap.size + 1, 4, none⟩ = some (.int .i64 0) := by rw [hO8.cell]; rfl
            clear hW hV hck hc7 hW7 hc8 hO
            go_wp2_with fail
            refine (till_purse hW8 (by omega)).mono ?_
            rintro e w9 ⟨b9, rfl, hP9, hc9⟩
            clear q0 q1 q2 q3 q4
            have hW9 := hW8.keep hc9
            have hck9 := hck8.trans hc9 (fun _ _ h => h.elim)
            clear hW8 hck8
            go_wp2_with fail
            refine (entry_w hP9 hV8.good 150 (by omega) _ (hV8.yes rfl)).mono ?_
            rintro e w10 ⟨rfl, hc10⟩
            have hW10 := hW9.keep hc10
            have hck10 := hck9.trans hc10 (fun _ _ h => h.elim)
            unfold Ent.val Ent.row Ent.gone
            clear hc9 hc10 hP9
            clear hW9 hck9
            have hcF10 : Chg (fun _ => False) w w10 := hck10.mono (fun i hi h => by omega)
            by_cases hkl : k < l.length
            · obtain ⟨o, ho⟩ : ∃ o, l[k]? = some o := ⟨_, List.getElem?_eq_getElem hkl⟩
              obtain ⟨a, rfl, hab, hat⟩ := (hl.chg hcF10 (fun i _ h => h)).at_ k o ho
              have g0 : w10.cell? (a.add (k * 5)) = some (.int .i64 o.kd) := hat 0 _ rfl
              have g1 : w10.cell? ⟨(a.add (k * 5)).block, (a.add (k * 5)).off + 1, none⟩ = some (.int .i64 o.bk) := hat 1 _ rfl
              have g2 : w10.cell? ⟨(a.add (k * 5)).block, (a.add (k * 5)).off + 2, none⟩ = some (.int .i64 o.un) := hat 2 _ rfl
              have g3 : w10.cell? ⟨(a.add (k * 5)).block, (a.add (k * 5)).off + 3, none⟩ = some (.int .i64 o.cu) := hat 3 _ rfl
              have g4 : w10.cell? ⟨(a.add (k * 5)).block, (a.add (k * 5)).off + 4, none⟩ = some (.int .i64 o.am) := hat 4 _ rfl
              clear hat hcF10
              by_cases hb : o.bk = 150
              · have hbb : (o.bk == 150) = true := by simp [hb]
                clear hb
                go_wp2_with fail
                go_roundw
                case rel => exact ⟨k + 1, _, _, _, rfl, by go_num, by omega, by omega, hW10, hV8, by omega, hck10⟩
                case measure => simp [intOf]; omega
              · have hbb : (o.bk == 150) = false := by simp [hb]
                have hV11 := hV8.ask o (.inl hb)
                have hl11 := tAsk_len p8 f8 o
                obtain ⟨r11, n11, p11, f11, ha11⟩ : ∃ r n p' f', tAsk p8 f8 o = (r, n, p', f') := ⟨_, _, _, _, rfl⟩
                rw [ha11] at hV11 hl11
                dsimp only at hV11 hl11
                have hah := Lib.hid ha11
                clear hb ha11
                go_wp2_with fail
                refine (ask_any _ w10 b p8 f8 o _ hW10 hV8.good (by omega) (by omega) r11 n11 p11 f11 hah.out).mono ?_
                rintro e w11 ⟨rfl, hW11, hc11⟩
                have hck11 := hck10.trans hc11 (fun _ _ h => h)
                have hz10 := hck10.size
                have hW11 := hW11.mono (S' := fun i => w.heap.size ≤ i) (fun i h => by rcases h with h | h <;> omega)
                clear g0 g1 g2 g3 g4
                go_wp2_with fail
                go_roundw
                case rel => exact ⟨k + 1, _, _, _, rfl, by go_num, by omega, by omega, hW11, hV11, by omega, hck11⟩
                case measure => simp [intOf]; omega
            · clear hcF10
              go_wp2_with fail
              go_roundw
              case rel => exact ⟨k + 1, _, _, _, rfl, by go_num, by omega, by omega, hW10, hV8, by omega, hck10⟩
              case measure => simp [intOf]; omega
      · go_wp2_with fail
        all_goals
          go_meet
          case rel => exact ⟨v, p, f, rfl, hW, hV, by omega, hck⟩
  case rest =>
    clear hW0 hc0
    obtain ⟨v, p, f, rfl, hW, hV, hlen, hck⟩ := hcut
    go_wp2_with fail
    refine (till_purse hW (by omega)).mono ?_
    rintro e w3 ⟨b3, rfl, hP3, hc3⟩
    have hck3 := hck.trans hc3 (fun _ _ h => h.elim)
    have hlv := p.ln
    clear hlv hW hck hc3
    go_wp2_with fail
    refine (lines_w hP3 (by omega) p.ln rfl).mono ?_
    rintro e w6 ⟨v2, rfl, hown, hc6, hnew⟩
    have hck6 := hck3.trans hc6 (fun _ _ h => h.elim)
    obtain ⟨ad3, cap3, rfl⟩ : ∃ ad2 cap2, v2 = .slice ad2 p.ln.length cap2 := by
      rcases hown.2 with ⟨rfl, h⟩ | ⟨g, cp, _, rfl, _⟩
      · exact ⟨_, _, by rw [h]⟩
      · exact ⟨_, _, rfl⟩
    have hcF : Chg (fun _ => False) w w6 := hck6.mono (fun i hi h => by omega)
    have hT := hV.told
    clear hP3 hck3 hck6 hc6 hnew
    go_wp2_with fail
    go_loopw [16, 17] (fun v16 v17 wr => ∃ j : Nat, v17 = .int .i64 j ∧ v16 = .int .i64 (net (p.ln.take j)) ∧ j ≤ p.ln.length ∧ wr = w6) (fun _ v17 _ => 80 - (intOf v17).toNat)
    case atStart => exact ⟨0, rfl, rfl, Nat.zero_le _, rfl⟩
    case round =>
      obtain ⟨j, rfl, rfl, hj, hw6⟩ := hrel
      subst hw6
      by_cases hjl : j < p.ln.length
      · obtain ⟨m, hm⟩ : ∃ m, p.ln[j]? = some m := ⟨_, List.getElem?_eq_getElem hjl⟩
        have hok := hT m (List.mem_of_getElem? hm)
        have hst := net_take p.ln j m hm
        have hbd := net_bd (p.ln.take j) (fun m h => hT m (List.mem_of_mem_take h)) 0
        rw [show (p.ln.take j).foldl (fun s m => s + netm m) 0 = net (p.ln.take j) from rfl] at hbd
        rw [List.length_take, Nat.min_eq_left hj] at hbd
        rcases hown.2 with ⟨_, h⟩ | ⟨g, cp, _, hv, _⟩
        · omega
        injection hv with hv _ hv2
        subst hv
        subst hv2
        have hcl := own_cells hown
        obtain ⟨_, _, _, hne, hm1, hm2⟩ := hok
        have l0 : wr.cell? ⟨g, j * 4, none⟩ = some (.int .i64 m.bk) := by
          have h := hcl (j * 4) _ ((line_get p.ln j 0 m hm (by decide)).trans rfl)
          rw [addr_add0] at h
          exact h
        have l1 : wr.cell? ⟨g, j * 4 + 1, none⟩ = some (.int .i64 m.fr) := by
          have h := hcl (j * 4 + 1) _ ((line_get p.ln j 1 m hm (by decide)).trans rfl)
          rw [addr_add0] at h
          exact h
        have l2 : wr.cell? ⟨g, j * 4 + 2, none⟩ = some (.int .i64 m.to) := by
          have h := hcl (j * 4 + 2) _ ((line_get p.ln j 2 m hm (by decide)).trans rfl)
          rw [addr_add0] at h
          exact h
        have l3 : wr.cell? ⟨g, j * 4 + 3, none⟩ = some (.int .i64 m.am) := by
          have h := hcl (j * 4 + 3) _ ((line_get p.ln j 3 m hm (by decide)).trans rfl)
          rw [addr_add0] at h
          exact h
        clear hcl
        have hsth := Lib.hid hst
        clear hst
        generalize hN : net (p.ln.take j) = N at *
        have hNh := Lib.hid hN
        clear hN
        by_cases hb : m.bk = 150
        · have hbb : (m.bk == 150) = true := by simp [hb]
          by_cases h1 : m.fr = 2
          · have h1b : (m.fr == 2) = true := by simp [h1]
            have h2b : (m.to == 2) = false := by simp; omega
            have hnv := Lib.hid (show netm m = -m.am by simp [netm, hb, h1]; omega)
            clear hb h1 hne
            go_wp2_with fail
            go_roundw
            case rel => exact ⟨j + 1, by go_num, by rw [← hsth.out, hnv.out]; first | rfl | go_num | (congr 1; omega), by omega, (by first | rfl | trivial)⟩
            case measure => simp [intOf]; omega
          · have h1b : (m.fr == 2) = false := by simp [h1]
            by_cases h2 : m.to = 2
            · have h2b : (m.to == 2) = true := by simp [h2]
              have hnv := Lib.hid (show netm m = m.am by simp [netm, hb, h1, h2])
              clear hb h1 h2 hne
              go_wp2_with fail
              go_roundw
              case rel => exact ⟨j + 1, by go_num, by rw [← hsth.out, hnv.out], by omega, (by first | rfl | trivial)⟩
              case measure => simp [intOf]; omega
            · have h2b : (m.to == 2) = false := by simp [h2]
              have hnv := Lib.hid (show netm m = 0 by simp [netm, h1, h2])
              clear hb h1 h2 hne
              go_wp2_with fail
              go_roundw
              case rel => exact ⟨j + 1, by go_num, by rw [← hsth.out, hnv.out, Int.add_zero], by omega, (by first | rfl | trivial)⟩
              case measure => simp [intOf]; omega
        · have hbb : (m.bk == 150) = false := by simp [hb]
          have hnv := Lib.hid (show netm m = 0 by simp [netm, hb])
          clear hb hne
          go_wp2_with fail
          go_roundw
          case rel => exact ⟨j + 1, by go_num, by rw [← hsth.out, hnv.out, Int.add_zero], by omega, (by first | rfl | trivial)⟩
          case measure => simp [intOf]; omega
      · have hjn : j = p.ln.length := by omega
        subst hjn
        rw [List.take_length] at *
        cases v with
        | true =>
          have hz : net p.ln = 0 := hV.net.n0 (.inr (by rw [hV.yes rfl]; rfl))
          rw [hz] at *
          go_wp2_with fail
          refine (told13 _).mono ?_
          rintro e wt ⟨rfl, hct⟩
          go_wp2
          go_ret
          exact ⟨rfl, hcF.trans hct (fun _ _ h => h)⟩
        | false =>
          go_wp2_with fail
          refine (told13 _).mono ?_
          rintro e wt ⟨rfl, hct⟩
          go_wp2
          go_ret
          exact ⟨rfl, hcF.trans hct (fun _ _ h => h)⟩
end Go.Proofs.Ytajefffhdeljfaa
