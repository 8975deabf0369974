/-
  purse: what is asked of a ledger: accounts, entries, moves.
-/
import Derived.Test.YtajefffhdeljfaaPurseP
import Derived.Maps.AppendAt
namespace Go.Proofs.Ytajefffhdeljfaa
open Go.RowKit Go.Maps

set_option maxRecDepth 100000 in
theorem account_any (w : World) (b mb : Nat) (lv : Value) (p : Pur) (n : Nat) (hn : n < 6) (hP : PurAt w b mb lv p) :
    Calls Try.prog 63 #[.pointer (some ⟨b, 0, none⟩), .int .i64 n] w fun e w' => e = .returned (.int .i64 (p.ac n)) ∧ w' = w := by
  have cB : w.cell? ⟨b, n, none⟩ = some (.int .i64 (p.ac n)) := by rw [hP.blk.cell]; exact purRow_get _ _ _ _ hn
  have hb : (0 : Int) ≤ n ∧ (n : Int) < 6 := by omega
  go_enter Try.func63, Try.ntmps63
  go_wp2
  go_ret
  exact ⟨rfl, rfl⟩

set_option maxRecDepth 100000 in
theorem takings_any (w : World) (b mb : Nat) (lv : Value) (p : Pur) (hP : PurAt w b mb lv p) :
    Calls Try.prog 41 #[.pointer (some ⟨b, 0, none⟩)] w fun e w' => e = .returned (.int .i64 (p.ac 5)) ∧ w' = w := by
  go_enter Try.func41, Try.ntmps41
  go_wp2_with (go_at_call 63; refine (account_any _ b mb lv p 5 (by decide) hP).mono ?_; rintro e w' ⟨rfl, rfl⟩)
  go_ret
  exact ⟨rfl, rfl⟩

set_option maxRecDepth 100000 in
theorem balance_any (w : World) (b mb : Nat) (lv : Value) (p : Pur) (n : Nat) (hn : n < 4) (hP : PurAt w b mb lv p) :
    Calls Try.prog 40 #[.pointer (some ⟨b, 0, none⟩), .int .i64 n] w fun e w' => e = .returned (.int .i64 (p.ac n)) ∧ w' = w := by
  have hb : (0 : Int) ≤ n ∧ (n : Int) < 4 := by omega
  go_enter Try.func40, Try.ntmps40
  go_wp2_with (go_at_call 63; refine (account_any _ b mb lv p n (by omega) hP).mono ?_; rintro e w' ⟨rfl, rfl⟩)
  go_ret
  exact ⟨rfl, rfl⟩

set_option maxRecDepth 100000 in
theorem entry_any (w : World) (b mb : Nat) (lv : Value) (p : Pur) (k : Int) (hk : 1 ≤ k ∧ k ≤ 200) (hn : ∀ b, (p.en b).st = 0 → p.en b = Ent.none) (hP : PurAt w b mb lv p) :
    Calls Try.prog 16 #[.pointer (some ⟨b, 0, none⟩), .int .i64 k] w fun e w' => e = .returned (p.en k).val ∧ Chg (fun _ => False) w w' := by
  obtain ⟨x, hx⟩ : ∃ x, x = p.en k := ⟨_, rfl⟩
  have hxh := Lib.hid hx
  have hlk : ∀ w1, w1.heap[mb]? = w.heap[mb]? → (Instr.lookup 88 (.map (some mb)) (.int .i64 k) false).run Try.prog w1 = .ok (.agg #[.int .i64 x.st, .int .i64 x.un, .int .i64 x.til, .int .i64 x.cu, .int .i64 x.am]) w1 := by
    intro w1 h1
    have h := (hP.map.keep h1).look law3 encI_inj (entMap_keys hP.keys) (e := 31) (t := 88) Try.underlying88 (zeroEnt w1) (a := k) (keyI hk) false
    rw [entMap_getD _ _ hn, ← hx] at h
    exact h
  clear hx
  have h0 := hlk (w.alloc (.cells #[.int .i64 0, .int .i64 0, .int .i64 0, .int .i64 0, .int .i64 0] 31)) (Below.heap_alloc w _ mb hP.map.lt)
  clear hlk
  have cB : (w.alloc (.cells #[.int .i64 0, .int .i64 0, .int .i64 0, .int .i64 0, .int .i64 0] 31)).cell? ⟨b, 6, none⟩ = some (.map (some mb)) := by rw [(hP.blk.alloc _).cell]; rfl
  go_enter Try.func16, Try.ntmps16
  go_wp2
  refine bodyPost_ret (v := .agg #[.int .i64 x.st, .int .i64 x.un, .int .i64 x.til, .int .i64 x.cu, .int .i64 x.am]) (by simp [results, Try.results16, go_sem]) rfl ⟨?_, (Chg.refl _ _).alloc _⟩
  rw [← hxh.out]; rfl
end Go.Proofs.Ytajefffhdeljfaa
