/-
  till: Purse (a copy), Answers by their contracts.
-/
import Derived.Test.YtddnpjlcmokbiaaZTillA
import Derived.Test.YtddnpjlcmokbiaaTabE
namespace Go.Proofs.Ytddnpjlcmokbiaa
open Go.RowKit Go.Maps

set_option maxRecDepth 100000 in
theorem till_purse {S : Nat → Prop} {w : World} {b : Nat} {p : Pur} {f : Tab} (hW : TillW S w b p f) (hlen : p.ln.length ≤ 1000001) :
    Calls Try.prog 18 #[.pointer (some ⟨b, 0, none⟩)] w fun e w' => ∃ b2, e = .returned (.pointer (some ⟨b2, 0, none⟩)) ∧ PurW w.heap.size w' b2 p ∧ Chg (fun _ => False) w w' := by
  obtain ⟨lb, mb, lv, t, mt, hBk, hP, _⟩ := hW
  have b0 : w.cell? ⟨b, 0, none⟩ = some (.pointer (some ⟨lb, 0, none⟩)) := by rw [hBk.cell]; rfl
  go_enter Try.func18, Try.ntmps18
  go_wp2_with fail
  refine (copy_any w lb mb lv p hP hlen).mono ?_
  rintro e w2 ⟨b2, mb2, lv2, rfl, hP2, hc2, h1, h2, h3⟩
  go_wp2_with fail
  go_ret
  exact ⟨_, rfl, ⟨mb2, lv2, hP2, h1, h2, h3⟩, hc2⟩

set_option maxRecDepth 100000 in
theorem till_answers {S : Nat → Prop} {w : World} {b : Nat} {p : Pur} {f : Tab} (hW : TillW S w b p f) (l : List (Int × Int)) (hn : l.Nodup) (hl : ∀ p, p ∈ l ↔ f p ≠ 0) :
    Calls Try.prog 17 #[.pointer (some ⟨b, 0, none⟩)] w fun e w' => e = .returned (.int .i64 l.length) ∧ w' = w := by
  obtain ⟨lb, mb, lv, t, mt, hBk, hP, hT, _⟩ := hW
  have b0 : w.cell? ⟨b, 1, none⟩ = some (.pointer (some ⟨t, 0, none⟩)) := by rw [hBk.cell]; rfl
  go_enter Try.func17, Try.ntmps17
  go_wp2_with (go_at_call 40; refine (len_any _ t mt f hT l hn hl).mono ?_; rintro e w' ⟨rfl, rfl⟩)
  go_ret
  exact ⟨rfl, rfl⟩

/-- Ask, whatever is asked. -/
theorem ask_any (S : Nat → Prop) (w : World) (b : Nat) (p : Pur) (f : Tab) (o : POp) (T : Int) (hW : TillW S w b p f) (hG : p.Good T) (hT : T ≤ 1125899906842624) (hlen : p.ln.length ≤ 1000000) (r : Int) (n : Bool) (p' : Pur) (f' : Tab) (ha : tAsk p f o = (r, n, p', f')) :
    Calls Try.prog 15 #[.pointer (some ⟨b, 0, none⟩), o.val] w fun e w' => e = .returned (.tuple #[.int .i64 r, .bool n]) ∧ TillW (fun i => S i ∨ w.heap.size ≤ i) w' b p' f' ∧ Chg S w w' := by
  by_cases h : mayOp o = false ∨ o.kd < 4
  · rw [tAsk_no h] at ha
    simp only [Prod.mk.injEq] at ha
    obtain ⟨rfl, rfl, rfl, rfl⟩ := ha
    refine (ask_no w b o h).mono ?_
    rintro e w' ⟨rfl, hc⟩
    exact ⟨rfl, (hW.keep hc).mono (fun _ h => .inl h), hc.mono (fun _ _ h => h.elim)⟩
  · have hm : mayOp o = true := by
      cases hm : mayOp o with
      | true => rfl
      | false => exact absurd (.inl hm) h
    exact ask_yes S w b p f o T hW hG hT hlen hm (by omega) r n p' f' ha

theorem tAsk_good {T : Int} {p : Pur} {f : Tab} (hG : p.Good T) (o : POp) : (tAsk p f o).2.2.1.Good T := by
  unfold tAsk
  split
  · exact hG
  split
  · exact hG
  · exact hG.act o
theorem tAsk_len (p : Pur) (f : Tab) (o : POp) : (tAsk p f o).2.2.1.ln.length ≤ p.ln.length + 1 := by
  unfold tAsk
  split
  · exact Nat.le_succ _
  split
  · exact Nat.le_succ _
  · exact p.act_len o
end Go.Proofs.Ytddnpjlcmokbiaa
