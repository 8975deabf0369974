/-
  table: Put and Find and Len as the laws of layer 11 use them; told.
-/
import Derived.Test.YtajefffhdeljfaaTabC
import Derived.Test.YtajefffhdeljfaaTabE
import Derived.Test.YtajefffhdeljfaaKeyZ
namespace Go.Proofs.Ytajefffhdeljfaa
open Go.RowKit Go.Maps

/-- What a put answers, and what the table is then. -/
def tPut (f : Tab) (o : POp) (a : Int) : Bool × Tab := if (mayOp o = true ∧ (a = 1 ∨ a = 2)) ∧ f (o.bk, o.kd) = 0 then (true, upd f (o.bk, o.kd) a) else (false, f)

theorem tput_any (w : World) (t mt : Nat) (f : Tab) (o : POp) (a : Int) (hT : TabAt w t mt f) :
    Calls Try.prog 19 #[.pointer (some ⟨t, 0, none⟩), o.val, .int .i64 a] w fun e w' => e = .returned (.bool (tPut f o a).1) ∧ TabAt w' t mt (tPut f o a).2 ∧ Chg (fun i => i = mt) w w' := by
  have kept : ∀ {w' : World}, Chg (fun _ => False) w w' → TabAt w' t mt f ∧ Chg (fun i => i = mt) w w' := fun hc => ⟨hT.chg hc id id, hc.mono (fun _ _ h => h.elim)⟩
  unfold tPut
  by_cases hm : mayOp o = true
  · by_cases h1 : a = 1
    · subst h1
      by_cases hf : f (o.bk, o.kd) = 0
      · rw [if_pos ⟨⟨hm, .inl rfl⟩, hf⟩]
        exact tput_new1 w t mt f o hT hm hf
      · rw [if_neg (fun h => hf h.2)]
        exact (tput_old1 w t mt f o hT hm hf).mono fun e w' ⟨h1, h2⟩ => ⟨h1, kept h2⟩
    · by_cases h2 : a = 2
      · subst h2
        by_cases hf : f (o.bk, o.kd) = 0
        · rw [if_pos ⟨⟨hm, .inr rfl⟩, hf⟩]
          exact tput_new2 w t mt f o hT hm hf
        · rw [if_neg (fun h => hf h.2)]
          exact (tput_old2 w t mt f o hT hm hf).mono fun e w' ⟨h1, h2⟩ => ⟨h1, kept h2⟩
      · rw [if_neg (fun h => by have := h.1.2; omega)]
        exact (tput_bad w t mt f o a hT hm h1 h2).mono fun e w' ⟨h1, h2⟩ => ⟨h1, kept h2⟩
  · rw [if_neg (fun h => hm h.1.1)]
    exact (tput_no w t mt f o a hT (by simpa using hm)).mono fun e w' ⟨h1, h2⟩ => ⟨h1, kept h2⟩

theorem find_as (w : World) (t mt : Nat) (f : Tab) (o : POp) (a : Int) (hT : TabAt w t mt f) (hb : isI o.bk) (hk : isI o.kd) (ha : f (o.bk, o.kd) = a) :
    Calls Try.prog 22 #[.pointer (some ⟨t, 0, none⟩), o.val] w fun e w' => e = .returned (.tuple #[.int .i64 a, .bool (!(a == 0))]) ∧ Chg (fun _ => False) w w' := by
  have := find_any w t mt f o hT hb hk
  rw [ha] at this
  exact this

theorem tkeys_ne {f : Tab} (hk : ∀ p, f p ≠ 0 → (1 ≤ p.1 ∧ p.1 ≤ 200) ∧ (1 ≤ p.2 ∧ p.2 ≤ 6)) (p : Int × Int) : p ∈ tkeys f ↔ f p ≠ 0 := by
  rw [tkeys_mem hk]
  unfold tabMap
  by_cases h : f p = 0 <;> simp [h]

theorem len_keys (w : World) (t mt : Nat) (f : Tab) (hT : TabAt w t mt f) :
    Calls Try.prog 21 #[.pointer (some ⟨t, 0, none⟩)] w fun e w' => e = .returned (.int .i64 (tkeys f).length) ∧ w' = w :=
  len_any w t mt f hT (tkeys f) (tkeys_nodup f) (tkeys_ne hT.keys)

theorem KeysIn.chg {w w' : World} {ad : Option Addr} {ks : List (Int × Int)} {S : Nat → Prop} (h : KeysIn w ad ks) (hc : Chg S w w') (hs : ∀ a, ad = some a → a.block < w.heap.size ∧ ¬ S a.block) : KeysIn w' ad ks := fun i p hi => by
  obtain ⟨g, hg, h0, h1⟩ := h i p hi
  obtain ⟨hb, hn⟩ := hs _ hg
  exact ⟨g, hg, (World.cell?_of_block (a := ⟨g, i * 2, none⟩) (hc.block g hb hn)).trans h0, (World.cell?_of_block (a := ⟨g, i * 2 + 1, none⟩) (hc.block g hb hn)).trans h1⟩

theorem tkeys_next {f : Tab} {i : Nat} {p q : Int × Int} (hp : (tkeys f)[i]? = some p) (hq : (tkeys f)[i + 1]? = some q) : p.1 < q.1 ∨ (p.1 = q.1 ∧ p.2 < q.2) := by
  obtain ⟨h1, rfl⟩ := List.getElem?_eq_some_iff.1 hp
  obtain ⟨h2, rfl⟩ := List.getElem?_eq_some_iff.1 hq
  exact List.pairwise_iff_getElem.1 (tkeys_rising f) i (i + 1) h1 h2 (by omega)

/-- Answers are Done or Refused. -/
def Ans (f : Tab) : Prop := ∀ p, f p = 0 ∨ f p = 1 ∨ f p = 2
theorem Ans.put {f : Tab} (h : Ans f) (o : POp) (a : Int) : Ans (tPut f o a).2 := by
  unfold tPut
  split
  · rename_i hc
    intro p
    simp only
    unfold upd
    split
    · exact .inr hc.1.2
    · exact h p
  · exact h

/-- Whether two keys are the same. -/
theorem eq2 (a b c d : Int) (w : World) : (Op.equalIn 10000 70 (.agg #[.int .i64 a, .int .i64 b]) (.agg #[.int .i64 c, .int .i64 d])).run Try.prog w = .ok (a == c && b == d) w := by
  have u3 := Try.underlying3
  have a3 := Try.isAgg3
  have z3 := Try.sizeOf3
  rw [show (10000 : Nat) = 9999 + 1 from rfl, Op.equalIn]
  simp only [Sem.run_bind, run_underlying Try.underlying70, Result.andThen_ok]
  simp only [Std.Legacy.Range.forIn_eq_forIn_range', Std.Legacy.Range.size, Nat.sub_zero, Nat.add_sub_cancel, Nat.div_one, List.range'_succ, List.range'_zero, List.forIn_cons, List.forIn_nil]
  go_simp
  by_cases h1 : a = c <;> by_cases h2 : b = d <;> simp [h1, h2]

namespace T11
def o : POp := ⟨2, 4, 0, 0, 0⟩
def f1 : Tab := upd (fun _ => 0) (4, 2) 1
theorem k : tkeys f1 = [(4, 2)] := by decide +kernel
theorem p1 : tPut (fun _ => 0) o 1 = (true, f1) := by
  unfold tPut
  rw [if_pos ⟨⟨by decide +kernel, .inl rfl⟩, rfl⟩]
  rfl
theorem p2 : tPut f1 o 2 = (false, f1) := by
  unfold tPut
  rw [if_neg (fun h => by
    have := h.2
    revert this
    decide +kernel)]
end T11

set_option maxRecDepth 100000 in
set_option maxHeartbeats 2000000 in
theorem told11 (w : World) : Calls Try.prog 25 #[] w fun e w' => e = .returned (.bool true) ∧ Chg (fun _ => False) w w' := by
  have heq := eq2
  go_enter Try.func25, Try.ntmps25
  go_wp2_with fail
  refine (tabNew w).mono ?_
  rintro e w0 ⟨t, mt, rfl, hT0, hc0, ht, hmt⟩
  go_wp2_with fail
  have hcA : Chg (fun _ => False) w0 (w0.alloc (.cells #[.int .i64 2, .int .i64 4, .int .i64 0, .int .i64 0, .int .i64 0] 45)) := (Chg.refl _ w0).alloc _
  have hO := Blk.new w0 45 #[.int .i64 2, .int .i64 4, .int .i64 0, .int .i64 0, .int .i64 0]
  generalize w0.alloc (.cells #[.int .i64 2, .int .i64 4, .int .i64 0, .int .i64 0, .int .i64 0] 45) = wA at *
  have hTA := hT0.chg hcA id id
  have hcB := hc0.trans hcA (fun _ _ h => h)
  have hmb : mt < w0.heap.size := hT0.map.lt
  have h1 := tput_any wA t mt _ T11.o 1 hTA
  rw [T11.p1] at h1
  refine h1.mono ?_
  rintro e w1 ⟨rfl, hT1, hc1⟩
  have hO1 := hO.chg hc1 (by omega)
  have q0 : w1.cell? ⟨w0.heap.size, 0, none⟩ = some (.int .i64 2) := by rw [hO1.cell]; rfl
  have q1 : w1.cell? ⟨w0.heap.size, 1, none⟩ = some (.int .i64 4) := by rw [hO1.cell]; rfl
  have q2 : w1.cell? ⟨w0.heap.size, 2, none⟩ = some (.int .i64 0) := by rw [hO1.cell]; rfl
  have q3 : w1.cell? ⟨w0.heap.size, 3, none⟩ = some (.int .i64 0) := by rw [hO1.cell]; rfl
  have q4 : w1.cell? ⟨w0.heap.size, 4, none⟩ = some (.int .i64 0) := by rw [hO1.cell]; rfl
  have hcC : Chg (fun i => i = mt) w w1 := (hcB.mono (fun _ _ h => h.elim)).trans hc1 (fun _ _ h => h)
  clear hcA hcB hTA hc1 h1
  go_wp2_with fail
  clear q0 q1 q2 q3 q4
  have h1 := tput_any w1 t mt _ T11.o 2 hT1
  rw [T11.p2] at h1
  refine h1.mono ?_
  rintro e w2 ⟨rfl, hT2, hc2⟩
  have hO2 := hO1.chg hc2 (by omega)
  have q0 : w2.cell? ⟨w0.heap.size, 0, none⟩ = some (.int .i64 2) := by rw [hO2.cell]; rfl
  have q1 : w2.cell? ⟨w0.heap.size, 1, none⟩ = some (.int .i64 4) := by rw [hO2.cell]; rfl
  have q2 : w2.cell? ⟨w0.heap.size, 2, none⟩ = some (.int .i64 0) := by rw [hO2.cell]; rfl
  have q3 : w2.cell? ⟨w0.heap.size, 3, none⟩ = some (.int .i64 0) := by rw [hO2.cell]; rfl
  have q4 : w2.cell? ⟨w0.heap.size, 4, none⟩ = some (.int .i64 0) := by rw [hO2.cell]; rfl
  have hcD := hcC.trans hc2 (fun _ _ h => h)
  clear hc2 h1
  go_wp2_with fail
  clear q0 q1 q2 q3 q4
  refine (find_as w2 t mt T11.f1 T11.o 1 hT2 ⟨by decide, by decide⟩ ⟨by decide, by decide⟩ (by decide +kernel)).mono ?_
  rintro e w3 ⟨rfl, hc3⟩
  have hT3 := hT2.chg hc3 id id
  go_wp2_with fail
  refine (find_as w3 t mt T11.f1 ⟨3, 4, 0, 0, 0⟩ 0 hT3 ⟨by decide, by decide⟩ ⟨by decide, by decide⟩ (by decide +kernel)).mono ?_
  rintro e w4 ⟨rfl, hc4⟩
  have hT4 := hT3.chg hc4 id id
  go_wp2_with fail
  refine (keys_any hT4).mono ?_
  rintro e w5 ⟨ad, cap, rfl, hK, hfr, hc5⟩
  have hT5 := hT4.chg hc5 id id
  rw [T11.k] at hK ⊢
  obtain ⟨g, rfl, k0, k1⟩ := hK 0 (4, 2) rfl
  clear hK hfr
  simp only [Nat.zero_mul, Nat.zero_add, List.length_cons, List.length_nil] at k0 k1 ⊢
  go_wp2_with fail
  have hl := len_keys w5 t mt _ hT5
  rw [T11.k] at hl
  refine hl.mono ?_
  rintro e w6 ⟨rfl, rfl⟩
  go_wp2_with fail
  go_ret
  refine ⟨rfl, ?_⟩
  exact (((hcD.trans hc3 (fun _ _ h => h.elim)).trans hc4 (fun _ _ h => h.elim)).trans hc5 (fun _ _ h => h.elim)).mono (fun i hi h => by omega)
end Go.Proofs.Ytajefffhdeljfaa
