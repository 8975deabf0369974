/-
  table: Put and Find and Len as the laws of layer 11 use them.
-/
import Derived.Test.YtddnpjlcmokbiaaZTabB
import Derived.Test.YtddnpjlcmokbiaaTabE
import Derived.Test.YtddnpjlcmokbiaaKeyZ
namespace Go.Proofs.Ytddnpjlcmokbiaa
open Go.RowKit Go.Maps

/-- What a put answers, and what the table is then. -/
def tPut (f : Tab) (o : POp) (a : Int) : Bool × Tab := if (mayOp o = true ∧ (a = 1 ∨ a = 2)) ∧ f (o.bk, o.kd) = 0 then (true, upd f (o.bk, o.kd) a) else (false, f)

theorem tput_any (w : World) (t mt : Nat) (f : Tab) (o : POp) (a : Int) (hT : TabAt w t mt f) :
    Calls Try.prog 53 #[.pointer (some ⟨t, 0, none⟩), o.val, .int .i64 a] w fun e w' => e = .returned (.bool (tPut f o a).1) ∧ TabAt w' t mt (tPut f o a).2 ∧ Chg (fun i => i = mt) w w' := by
  have kept : ∀ {w' : World}, Chg (fun _ => False) w w' → TabAt w' t mt f ∧ Chg (fun i => i = mt) w w' := fun hc => ⟨hT.chg hc id id, hc.mono (fun _ _ h => h.elim)⟩
  unfold tPut
  by_cases hm : mayOp o = true
  · by_cases h1 : a = 1
    · subst h1
      by_cases hf : f (o.bk, o.kd) = 0
      · rw [if_pos ⟨⟨hm, .inl rfl⟩, hf⟩]
        exact tput_new1 w t mt f o hT hm hf
      · rw [if_neg (fun h => hf h.2)]
        exact (tput_old1 w t mt f o hT hm hf).mono fun e w' ⟨h1, h2⟩ => ⟨h1, kept h2⟩
    · by_cases h2 : a = 2
      · subst h2
        by_cases hf : f (o.bk, o.kd) = 0
        · rw [if_pos ⟨⟨hm, .inr rfl⟩, hf⟩]
          exact tput_new2 w t mt f o hT hm hf
        · rw [if_neg (fun h => hf h.2)]
          exact (tput_old2 w t mt f o hT hm hf).mono fun e w' ⟨h1, h2⟩ => ⟨h1, kept h2⟩
      · rw [if_neg (fun h => by have := h.1.2; omega)]
        exact (tput_bad w t mt f o a hT hm h1 h2).mono fun e w' ⟨h1, h2⟩ => ⟨h1, kept h2⟩
  · rw [if_neg (fun h => hm h.1.1)]
    exact (tput_no w t mt f o a hT (by simpa using hm)).mono fun e w' ⟨h1, h2⟩ => ⟨h1, kept h2⟩

theorem find_as (w : World) (t mt : Nat) (f : Tab) (o : POp) (a : Int) (hT : TabAt w t mt f) (hb : isI o.bk) (hk : isI o.kd) (ha : f (o.bk, o.kd) = a) :
    Calls Try.prog 52 #[.pointer (some ⟨t, 0, none⟩), o.val] w fun e w' => e = .returned (.tuple #[.int .i64 a, .bool (!(a == 0))]) ∧ Chg (fun _ => False) w w' := by
  have := find_any w t mt f o hT hb hk
  rw [ha] at this
  exact this

theorem tkeys_ne {f : Tab} (hk : ∀ p, f p ≠ 0 → (1 ≤ p.1 ∧ p.1 ≤ 200) ∧ (1 ≤ p.2 ∧ p.2 ≤ 6)) (p : Int × Int) : p ∈ tkeys f ↔ f p ≠ 0 := by
  rw [tkeys_mem hk]
  unfold tabMap
  by_cases h : f p = 0 <;> simp [h]

theorem len_keys (w : World) (t mt : Nat) (f : Tab) (hT : TabAt w t mt f) :
    Calls Try.prog 40 #[.pointer (some ⟨t, 0, none⟩)] w fun e w' => e = .returned (.int .i64 (tkeys f).length) ∧ w' = w :=
  len_any w t mt f hT (tkeys f) (tkeys_nodup f) (tkeys_ne hT.keys)

theorem KeysIn.chg {w w' : World} {ad : Option Addr} {ks : List (Int × Int)} {S : Nat → Prop} (h : KeysIn w ad ks) (hc : Chg S w w') (hs : ∀ a, ad = some a → a.block < w.heap.size ∧ ¬ S a.block) : KeysIn w' ad ks := fun i p hi => by
  obtain ⟨g, hg, h0, h1⟩ := h i p hi
  obtain ⟨hb, hn⟩ := hs _ hg
  exact ⟨g, hg, (World.cell?_of_block (a := ⟨g, i * 2, none⟩) (hc.block g hb hn)).trans h0, (World.cell?_of_block (a := ⟨g, i * 2 + 1, none⟩) (hc.block g hb hn)).trans h1⟩

theorem tkeys_next {f : Tab} {i : Nat} {p q : Int × Int} (hp : (tkeys f)[i]? = some p) (hq : (tkeys f)[i + 1]? = some q) : p.1 < q.1 ∨ (p.1 = q.1 ∧ p.2 < q.2) := by
  obtain ⟨h1, rfl⟩ := List.getElem?_eq_some_iff.1 hp
  obtain ⟨h2, rfl⟩ := List.getElem?_eq_some_iff.1 hq
  exact List.pairwise_iff_getElem.1 (tkeys_rising f) i (i + 1) h1 h2 (by omega)

/-- Answers are Done or Refused. -/
def Ans (f : Tab) : Prop := ∀ p, f p = 0 ∨ f p = 1 ∨ f p = 2
theorem Ans.put {f : Tab} (h : Ans f) (o : POp) (a : Int) : Ans (tPut f o a).2 := by
  unfold tPut
  split
  · rename_i hc
    intro p
    simp only
    unfold upd
    split
    · exact .inr hc.1.2
    · exact h p
  · exact h

/-- Whether two keys are the same. -/
theorem eq2 (a b c d : Int) (w : World) : (Op.equalIn 10000 108 (.agg #[.int .i64 a, .int .i64 b]) (.agg #[.int .i64 c, .int .i64 d])).run Try.prog w = .ok (a == c && b == d) w := by
  have u3 := Try.underlying3
  have a3 := Try.isAgg3
  have z3 := Try.sizeOf3
  rw [show (10000 : Nat) = 9999 + 1 from rfl, Op.equalIn]
  simp only [Sem.run_bind, run_underlying Try.underlying108, Result.andThen_ok]
  simp only [Std.Legacy.Range.forIn_eq_forIn_range', Std.Legacy.Range.size, Nat.sub_zero, Nat.add_sub_cancel, Nat.div_one, List.range'_succ, List.range'_zero, List.forIn_cons, List.forIn_nil]
  go_simp
  by_cases h1 : a = c <;> by_cases h2 : b = d <;> simp [h1, h2]
end Go.Proofs.Ytddnpjlcmokbiaa
