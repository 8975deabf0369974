/-
  Steps of a log: few; Put and Save of what may not be.
-/
import Derived.Test.YtpbjompopgdbjaaSealV
import Derived.Test.YtpbjompopgdbjaaRowK
namespace Go.Proofs.Ytpbjompopgdbjaa
open Go.RowKit Go.Maps

def LOp.few (o : LOp) : Bool := decide (o.b.length ≤ 100) && decide (o.l.length ≤ 6) && o.l.all (fun x => decide (x.length ≤ 100))
theorem LOp.few_iff (o : LOp) : o.few = true ↔ o.b.length ≤ 100 ∧ o.l.length ≤ 6 ∧ ∀ x ∈ o.l, x.length ≤ 100 := by
  unfold LOp.few
  simp [and_assoc]
theorem LOp.few_not {o : LOp} (h : ¬ (o.b.length ≤ 100 ∧ o.l.length ≤ 6 ∧ ∀ x ∈ o.l, x.length ≤ 100)) : o.few = false := by
  cases hf : o.few with
  | false => rfl
  | true => exact absurd (o.few_iff.1 hf) h

set_option maxRecDepth 100000 in
set_option maxHeartbeats 1000000 in
theorem few_any {w : World} {ab al : Option Addr} (o : LOp) (cb cl : Nat) (hL : RowsB w al o.l) (hb : o.b.length ≤ maxLen) :
    Calls Try.prog 10 #[.agg #[.int .i64 o.kd, .int .i64 o.n, .slice ab o.b.length cb, .slice al o.l.length cl]] w fun e w' => e = .returned (.bool o.few) ∧ Chg (fun _ => False) w w' := by
  obtain ⟨kd, n, b, l⟩ := o
  simp only at hL hb ⊢
  obtain ⟨f, hf⟩ : ∃ f, LOp.few ⟨kd, n, b, l⟩ = f := ⟨_, rfl⟩
  have hcA : Chg (fun _ => False) w (w.alloc (.cells #[.int .i64 kd, .int .i64 n, .slice ab b.length cb, .slice al l.length cl] 33)) := (Chg.refl _ w).alloc _
  have hE := Blk.new w 33 #[.int .i64 kd, .int .i64 n, .slice ab b.length cb, .slice al l.length cl]
  have e2 := hE.cell 2
  have e3 := hE.cell 3
  have e2 : (w.alloc (.cells #[.int .i64 kd, .int .i64 n, .slice ab b.length cb, .slice al l.length cl] 33)).cell? ⟨w.heap.size, 2, none⟩ = some (.slice ab b.length cb) := e2
  have e3 : (w.alloc (.cells #[.int .i64 kd, .int .i64 n, .slice ab b.length cb, .slice al l.length cl] 33)).cell? ⟨w.heap.size, 3, none⟩ = some (.slice al l.length cl) := e3
  rw [hf]
  go_enter Try.func10, Try.ntmps10
  by_cases hb1 : 100 < b.length
  · have hff : f = false := by rw [← hf]; exact LOp.few_not (fun h => by have := h.1; simp only at this; omega)
    subst hff
    clear hf
    go_wp2_with fail
    go_ret
    exact ⟨rfl, hcA⟩
  by_cases hl1 : 6 < l.length
  · have hff : f = false := by rw [← hf]; exact LOp.few_not (fun h => by have := h.2.1; simp only at this; omega)
    subst hff
    clear hf
    go_wp2_with fail
    go_ret
    exact ⟨rfl, hcA⟩
  have hLA := hL.chg hcA (fun _ _ => id)
  go_wp2_with fail
  clear hE
  generalize w.alloc (.cells #[.int .i64 kd, .int .i64 n, .slice ab b.length cb, .slice al l.length cl] 33) = wA at *
  go_loopw [3] (fun v3 wr => ∃ k : Nat, v3 = .int .i64 k ∧ k ≤ l.length ∧ (∀ (j : Nat) (x : Rec), j < k → l[j]? = some x → x.length ≤ 100) ∧ wr = wA) (fun v3 _ => 100 - (RowKit.intOf v3).toNat)
  case atStart => exact ⟨0, rfl, Nat.zero_le _, fun j x h => absurd h (Nat.not_lt_zero _), rfl⟩
  case round =>
    obtain ⟨k, rfl, hk, hpre, rfl⟩ := hrel
    by_cases hkl : k < l.length
    · obtain ⟨x, hx⟩ : ∃ x, l[k]? = some x := ⟨_, List.getElem?_eq_getElem hkl⟩
      obtain ⟨_, a, ao, c, rfl, _, k0, _⟩ := hLA k x hx
      by_cases hx1 : 100 < x.length
      · have hff : f = false := by rw [← hf]; exact LOp.few_not (fun h => by have := h.2.2 x (List.mem_of_getElem? hx); omega)
        subst hff
        clear hf hx
        go_wp2_with fail
        go_ret
        exact ⟨rfl, hcA⟩
      have hpre2 : ∀ (j : Nat) (y : Rec), j < k + 1 → l[j]? = some y → y.length ≤ 100 := fun j y hj hy => by
        by_cases hjk : j = k
        · subst hjk
          rw [hx] at hy
          cases hy
          omega
        · exact hpre j y (by omega) hy
      clear hx
      go_wp2_with fail
      go_roundw
      case rel => exact ⟨k + 1, by go_num, by omega, hpre2, trivial⟩
      case measure => simp [RowKit.intOf]; omega
    · have hff : f = true := by
        rw [← hf]
        refine (LOp.few_iff _).2 ⟨by simp only; omega, by simp only; omega, fun x hx => ?_⟩
        obtain ⟨j, hj, rfl⟩ := List.getElem_of_mem hx
        simp only at hj
        exact hpre j _ (by omega) (List.getElem?_eq_getElem hj)
      subst hff
      clear hf
      go_wp2_with fail
      go_ret
      exact ⟨rfl, hcA⟩

section
variable {P : Nat → Prop} {w : World} {g d sy : Nat} {room age : Int} {st recs : List Rec}
theorem s_putB (h : SealW P w g d room age st recs sy) (ad : Option Addr) (k c : Nat) (hb : k < 1 ∨ 1000 < k) (hk : k ≤ maxLen) :
    Calls Try.prog 12 #[.pointer (some ⟨g, 0, none⟩), .slice ad k c] w fun e w' => e = .returned (.int .i64 1) ∧ w' = w := by
  obtain ⟨D, h1, h2, h3, h4, h5⟩ := h
  exact sput_bad h3 ad k c hb hk
theorem s_saveB (h : SealW P w g d room age st recs sy) {ad : Option Addr} {st' : List Rec} (hrows : RowsB w ad st') (c : Nat) (hsl : st'.length ≤ 1000) (hbad : ∃ b, b ∈ st' ∧ ¬ okR b) :
    Calls Try.prog 14 #[.pointer (some ⟨g, 0, none⟩), .slice ad st'.length c] w fun e w' => e = .returned (.int .i64 1) ∧ Chg (fun _ => False) w w' := by
  obtain ⟨D, h1, h2, h3, h4, h5⟩ := h
  have hag := h4.ag
  have hagm := h4.agm
  exact ssave_bad h3 hag (by omega) hrows c hsl hbad
theorem SealW.syl (h : SealW P w g d room age st recs sy) : sy ≤ recs.length := by
  obtain ⟨D, h1, h2, h3, h4, h5⟩ := h
  exact h4.syl.1
end
theorem TxtO.cap {w : World} {base n cp : Nat} {ao : Option Addr} {l : List Rec} (h : TxtO w base (.slice ao n cp) l) : (ao = none ∧ n = 0 ∧ cp = 0 ∧ l = []) ∨ (∃ g, ao = some ⟨g, 0, none⟩ ∧ n = l.length ∧ n ≤ cp ∧ cp ≤ maxLen) := by
  rcases h.2 with ⟨h1, h0⟩ | ⟨g, cap, _, h1, _, _, h2, h3, _⟩
  · cases h1
    exact .inl ⟨rfl, rfl, rfl, List.eq_nil_of_length_eq_zero h0⟩
  · cases h1
    exact .inr ⟨g, rfl, rfl, h2, h3⟩
/-- Texts behind an address whose block is left. -/
theorem StrIn.keep {w w' : World} {ad : Option Addr} {l : List Rec} (h : StrIn w ad l) {S : Nat → Prop} (hc : Chg S w w') (hS : ∀ a, ad = some a → l ≠ [] → ¬ S a.block) : StrIn w' ad l := fun j s hj => by
  obtain ⟨h1, a, h2, h3, h4⟩ := h j s hj
  have hblk : (a.add j).block = a.block := by unfold Addr.add; split <;> rfl
  exact ⟨h1, a, h2, Nat.lt_of_lt_of_le h3 hc.size, (World.cell?_of_block (by rw [hblk]; exact hc.block _ h3 (hS a h2 (fun e => by rw [e] at hj; simp at hj)))).trans h4⟩
theorem StrIn.lt {w : World} {ad : Option Addr} {l : List Rec} (h : StrIn w ad l) {a : Addr} (ha : ad = some a) (hl : l ≠ []) : a.block < w.heap.size := by
  match l, h, hl with
  | s :: l, h, _ =>
    obtain ⟨_, a', h2, h3, _⟩ := h 0 s rfl
    rw [ha] at h2
    cases h2
    exact h3
theorem StrIn.take {w : World} {ad : Option Addr} {l : List Rec} (h : StrIn w ad l) (k : Nat) : StrIn w ad (l.take k) := fun j s hj => by
  refine h j s ?_
  rw [List.getElem?_take] at hj
  split at hj
  · exact hj
  · cases hj
end Go.Proofs.Ytpbjompopgdbjaa
