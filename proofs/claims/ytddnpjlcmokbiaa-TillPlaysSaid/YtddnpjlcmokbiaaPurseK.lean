/-
  purse: words that laws' walks use.
-/
import Derived.Test.YtddnpjlcmokbiaaZPurseH
import Derived.Test.YtddnpjlcmokbiaaPurseQ
import Derived.Test.YtddnpjlcmokbiaaRegionC
import Derived.LoopTactic
namespace Go.Proofs.Ytddnpjlcmokbiaa
open Go.RowKit Go.Maps

/-- A slice of operations that came in. -/
structure OpsIn (w : World) (ad : Option Addr) (l : List POp) : Prop where
  len : l.length ≤ maxLen
  at_ : ∀ (k : Nat) (o : POp), l[k]? = some o → ∃ a, ad = some a ∧ a.block < w.heap.size ∧ ∀ j u, o.row[j]? = some u → w.cell? ((a.add (k * 5)).add j) = some u

theorem OpsIn.chg {w w' : World} {ad : Option Addr} {l : List POp} {S : Nat → Prop} (h : OpsIn w ad l) (hc : Chg S w w') (hs : ∀ i, i < w.heap.size → ¬ S i) : OpsIn w' ad l :=
  ⟨h.len, fun k o hk => by
    obtain ⟨a, ha, hb, hj⟩ := h.at_ k o hk
    refine ⟨a, ha, Nat.lt_of_lt_of_le hb hc.size, fun j u hu => ?_⟩
    have : ((a.add (k * 5)).add j).block = a.block := by unfold Addr.add; split <;> split <;> rfl
    rw [hc.cell (by rw [this]; exact hb) (by rw [this]; exact hs _ hb)]
    exact hj j u hu⟩

theorem balance_i {B : Nat} {w : World} {b : Nat} {p : Pur} (hP : PurW B w b p) (n : Int) (hn : 0 ≤ n ∧ n < 4) : Calls Try.prog 24 #[.pointer (some ⟨b, 0, none⟩), .int .i64 n] w fun e w' => e = .returned (.int .i64 (p.ac n)) ∧ w' = w := by
  obtain ⟨m, rfl⟩ : ∃ m : Nat, n = m := ⟨n.toNat, by omega⟩
  exact balance_w hP m (by omega)

theorem PurW.drew {B : Nat} {w : World} {b : Nat} {p : Pur} (h : PurW B w b p) : PurW B w.drew b p := h.keep0 ((Chg.refl _ w).drew)

def row6 (g : Int → Int) : Array Value := #[.int .i64 (g 0), .int .i64 (g 1), .int .i64 (g 2), .int .i64 (g 3), .int .i64 (g 4), .int .i64 (g 5)]
theorem row6_get (g : Int → Int) (i : Nat) (h : i < 6) : (row6 g)[i]? = some (.int .i64 (g i)) := by
  match i, h with
  | 0, _ => rfl
  | 1, _ => rfl
  | 2, _ => rfl
  | 3, _ => rfl
  | 4, _ => rfl
  | 5, _ => rfl
theorem row6_set (g : Int → Int) (i : Nat) (h : i < 6) (v : Int) : (row6 g).setIfInBounds i (.int .i64 v) = row6 (upd g (i : Int) v) := by
  match i, h with
  | 0, _ => simp [row6, upd]
  | 1, _ => simp [row6, upd]
  | 2, _ => simp [row6, upd]
  | 3, _ => simp [row6, upd]
  | 4, _ => simp [row6, upd]
  | 5, _ => simp [row6, upd]

theorem line_get : ∀ (l : List Mv) (j i : Nat) (m : Mv), l[j]? = some m → i < 4 → (l.flatMap Mv.cells)[j * 4 + i]? = m.cells[i]?
  | [], j, i, m, h, _ => by simp at h
  | x :: l, 0, i, m, h, hi => by
    simp at h
    subst h
    rw [List.flatMap_cons, List.getElem?_append_left (by simp [Mv.cells]; omega)]
    simp
  | x :: l, j + 1, i, m, h, hi => by
    rw [List.flatMap_cons, List.getElem?_append_right (by simp [Mv.cells]; omega)]
    have : (j + 1) * 4 + i - x.cells.length = j * 4 + i := by simp [Mv.cells]; omega
    rw [this]
    exact line_get l j i m (by simpa using h) hi

def fun4 (a b c d : Int) : Int → Int := fun i => if i = 0 then a else if i = 1 then b else if i = 2 then c else d

end Go.Proofs.Ytddnpjlcmokbiaa
