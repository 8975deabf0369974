/-
  the reference's disk: Sync; rows of files put together; Remove.
-/
import Derived.Test.YtgcmagoecapgoaaRDskB
import Derived.Deep.Upon
namespace Go.Proofs.Ytgcmagoecapgoaa
open Go.RowKit Go.Maps Go.Sort

/-- What a step of the reference's disk leaves. -/
def RDPost (w w' : World) (base X : Nat) (v : Value) (D' : Dsk) : Prop := ∃ v', RD w' base X v' D' ∧ Chg (fun i => i = X ∨ v.ownBlock = some i) w w' ∧ ∀ k, v'.ownBlock = some k → v.ownBlock = some k ∨ w.heap.size ≤ k

set_option maxRecDepth 100000 in
set_option maxHeartbeats 1000000 in
theorem rd_sync {w : World} {base X : Nat} {v : Value} {D : Dsk} (h : RD w base X v D) (hG : D.Good) (hmx : D.ks.length ≤ 1000000) (n : Nam) :
    Calls Try.prog 20 #[.pointer (some ⟨X, 0, none⟩), encStr n] w fun e w' => e = .returned (.int .i64 (D.sync n).1) ∧ RDPost w w' base X v (D.sync n).2 := by
  obtain ⟨l, hA, hI⟩ := h
  have hl : l.length ≤ 1000000 := by rw [hI.len hG]; exact hmx
  obtain ⟨a, m, b, ha⟩ := hI.around n
  have hfind := Lib.hid (rd_find hA ha hl)
  have hAd := hA.keep ((Chg.refl (fun _ => False) w).drew)
  have hAdd := hA.keep ((Chg.refl (fun _ => False) w).drew.drew)
  have ha0 := ha
  rcases ha.mid with ⟨hf, rfl⟩ | ⟨F, hf, rfl⟩
  · rw [hf] at hfind
    rw [show (none : Option Fil).isSome = false from rfl] at hfind
    have e : D.sync n = (5, D) := by unfold Dsk.sync; rw [hf]
    rw [e]
    have fin : RDPost w w.drew base X v D := ⟨v, ⟨l, hAd, hI⟩, (Chg.refl _ w).drew, fun k hk => .inl hk⟩
    clear hf ha hA hAd hAdd hI e ha0
    go_enter Try.func20, Try.ntmps20
    go_wp2_with fail
    refine hfind.out.mono ?_
    rintro e w1 ⟨rfl, rfl⟩
    go_wp2_with fail
    go_ret
    exact ⟨rfl, fin⟩
  · rw [hf] at hfind
    rw [show (some F).isSome = true from rfl] at hfind
    have e : D.sync n = (0, D.put n ⟨F.bs, F.bs.length⟩) := by unfold Dsk.sync; rw [hf]
    rw [e]
    have hm := get_mid a b (RF.of n F)
    have hle : l = a ++ (RF.of n F :: b) := ha.eq
    rw [← hle] at hm
    obtain ⟨g, cp, hv, hg, k0, k1, k2⟩ := hAdd.file hm
    have c1 := hAdd.c1
    subst hv
    have k1 : w.drew.drew.cell? ⟨g, a.length * 3 + 1, none⟩ = some (encStr F.bs) := k1
    have k2 : w.drew.drew.cell? ⟨g, a.length * 3 + 2, none⟩ = some (.int .i64 F.sy) := k2
    have kz := hAdd.frozen (g := g) rfl (a.length * 3 + 2)
    have hal := (List.getElem?_eq_some_iff.1 hm).1
    have hS := hAdd.set (j := 2) (u := .int .i64 F.bs.length) (f' := RF.of n ⟨F.bs, F.bs.length⟩) hm (by decide) rfl
    have fin : RDPost w (w.drew.drew.setCell ⟨g, a.length * 3 + 2, none⟩ (.int .i64 F.bs.length)) base X (.slice (some ⟨g, 0, none⟩) l.length cp) (D.put n ⟨F.bs, F.bs.length⟩) := by
      refine ⟨_, ⟨_, hS, ?_⟩, Chg.setCell ((Chg.refl _ w).drew.drew) (.inl (.inr rfl)) _, fun k hk => .inl hk⟩
      rw [hle, set_mid]
      exact hI.put ha ⟨F.bs, F.bs.length⟩
    clear hf hm ha hA hAd hAdd hI k0 e hS ha0
    go_enter Try.func20, Try.ntmps20
    go_wp2_with fail
    refine hfind.out.mono ?_
    rintro e w1 ⟨rfl, rfl⟩
    go_wp2_with fail
    refine wp_region_plan (by kernel_rfl) [{ fl := [0, 1, 2, 3, 4, 5, 6, 7, 8, 9, 10, 11, 12, 13, 14, 15], long := [13], ef := 16 }] [] (by kernel_rfl) (fun _ _ => True) ?_
    simp only [wpPlan, longOK, keepOK, opsAt_cons, opsAt_nil, consO_some, List.getElem?_toArray, List.getElem?_cons_succ, List.getElem?_cons_zero, and_true, true_and]
    go_wp2_with fail
    refine ⟨by kernel_rfl, ?_, ?_⟩
    · intro _ w9 _
      go_simp
    go_wp2_with fail
    refine ⟨by kernel_rfl, ?_⟩
    go_wp2_with fail
    go_ret
    exact ⟨rfl, fin⟩

/-- Files behind an address. -/
def FilesIn (w : World) (sa : Option Addr) (m : List RF) : Prop := ∀ j u, (fcells m)[j]? = some u → ∃ ad, sa = some ad ∧ w.cell? (ad.add j) = some u
theorem FilesIn.nil (w : World) (sa : Option Addr) : FilesIn w sa [] := fun j u h => by simp [fcells] at h

theorem infoF : (Try.prog.info? 71).map (fun i => (i.zero, i.size, i.bytes)) = some (some (.agg #[encStr [], encStr [], .int .i64 0]), 3, 40) := by kernel_rfl
theorem infoF_parts : ∃ i, Try.prog.info? 71 = some i ∧ i.zero = some (.agg #[encStr [], encStr [], .int .i64 0]) ∧ i.size = 3 ∧ i.bytes = 40 := by
  have h := infoF
  cases hi : Try.prog.info? 71 with
  | none => rw [hi] at h; cases h
  | some i =>
    rw [hi] at h
    simp only [Option.map_some, Option.some.injEq, Prod.mk.injEq] at h
    exact ⟨i, rfl, h.1, h.2.1, h.2.2⟩

theorem wpList_append_file {w : World} {ops : Array Oper} {rest : List Oper} {o : Oper} {a : Act} {Q : Exit → Act → World → Prop} (hgd : o.guard = none) (s x : Operand)
    (ho : o.op = .call { callee := .builtin .append, args := #[s, x], argTypes := #[42, 42] })
    {base : Nat} {v : Value} {l m : List RF} (hown : w.ownsRow base 71 3 v l.length (fcells l)) (hv : a.eval s = v) {sa : Option Addr} {k c : Nat} (hx : a.eval x = .slice sa k c) (hk : k = m.length) (hm : FilesIn w sa m) (hbase : base ≤ w.heap.size) (hl : l.length + m.length ≤ 2000000)
    (hK : ∀ v' w', w'.ownsRow base 71 3 v' (l ++ m).length (fcells (l ++ m)) → Chg (fun i => v.ownBlock = some i) w w' → (v'.ownBlock = v.ownBlock ∨ v'.ownBlock = some w.heap.size) → wpList Try.prog ops Q rest (a.put o.dst v') w') : wpList Try.prog ops Q (o :: rest) a w := by
  obtain ⟨i, hi, hz, h1, h2⟩ := infoF_parts
  subst hk
  cases m with
  | nil =>
    refine wpList_plain hgd fun K hK' => ?_
    have hsrc : Src Try.prog i.size 42 (.slice sa 0 c) 0 [] w := by
      cases sa with
      | none => exact Src.ofNil w Try.underlying42 c
      | some ad => exact Src.ofSlice w Try.underlying42 ad 0 c [] (by simp) (fun j u hj => by simp at hj) (fun u hu => by cases hu)
    obtain ⟨b0, n0, c0, e, hle⟩ : ∃ b0 n0 c0, v = .slice b0 n0 c0 ∧ n0 ≤ c0 := by
      rcases hown.2 with ⟨rfl, _⟩ | ⟨g, cap, cur, rfl, hb, hh, q1, q2, _⟩
      · exact ⟨none, 0, 0, rfl, Nat.le_refl _⟩
      · exact ⟨_, _, _, rfl, q1⟩
    subst e
    have hrun := run_append_nothing (P := Try.prog) w 42 42 o.type 71 i Try.underlying42 hi b0 n0 c0 hle (.slice sa 0 c) hsrc
    have hx : a.eval x = .slice sa 0 c := hx
    unfold Oper.wp
    simp [execOp, ho, resolve, invoke, builtin, hv, hx, hrun, Result.andThen]
    exact hK' _ _ (hK _ w (by rw [List.append_nil]; exact hown) (Chg.refl _ w) (.inl rfl))
  | cons f r =>
    obtain ⟨ad, rfl, _⟩ := hm 0 (encStr f.nm) rfl
    refine wpList_append_own_at _ hgd s x 42 ho base 71 i _ 3 40 Try.underlying42 hi hz h1 h2 rfl (by decide) v l.length (fcells l) hv hown ad (f :: r).length c (fcells (f :: r)) hx (fcells_len _) ?_ (fcells_one _) (by unfold maxLen; omega) (by omega) hbase ?_
    · intro j u hj
      obtain ⟨ad2, e, h9⟩ := hm j u hj
      cases e
      exact h9
    · intro v' w' hown' hgr _ hob
      refine hK v' w' ?_ (own_grown hgr) hob
      rw [List.length_append, fcells_app]
      exact hown'
end Go.Proofs.Ytgcmagoecapgoaa
