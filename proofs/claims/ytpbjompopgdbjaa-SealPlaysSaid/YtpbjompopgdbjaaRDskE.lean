/-
  the reference's disk: Append.
-/
import Derived.Test.YtpbjompopgdbjaaRDskD
import Derived.Test.YtpbjompopgdbjaaByt
namespace Go.Proofs.Ytpbjompopgdbjaa
open Go.RowKit Go.Maps Go.Sort

/-- Files that are being put together behind a world W0: nothing that was there has changed. -/
structure Ins (W0 w : World) (v : Value) (m : List RF) : Prop where
  own : w.ownsRow W0.heap.size 65 3 v m.length (fcells m)
  chg : Chg (fun _ => False) W0 w
theorem own_blk {w : World} {base : Nat} {e : TypeId} {size n : Nat} {v : Value} {xs : List Value} (h : w.ownsRow base e size v n xs) {k : Nat} (hk : v.ownBlock = some k) : base ≤ k ∧ k < w.heap.size := by
  rcases h.2 with ⟨rfl, _⟩ | ⟨g, cap, cur, rfl, hb, hh, _⟩
  · simp [Value.ownBlock] at hk
  · simp [Value.ownBlock] at hk
    subst hk
    exact ⟨hb, (Array.getElem?_eq_some_iff.1 hh).1⟩
theorem own_le {w : World} {base base' : Nat} {e : TypeId} {size n : Nat} {v : Value} {xs : List Value} (h : w.ownsRow base e size v n xs) (hb : base' ≤ base) : w.ownsRow base' e size v n xs :=
  ⟨h.1, h.2.imp id (fun ⟨g, cap, cur, q0, q1, q2⟩ => ⟨g, cap, cur, q0, Nat.le_trans hb q1, q2⟩)⟩
theorem Ins.new {W0 w : World} (h : Chg (fun _ => False) W0 w) : Ins W0 (w.alloc (.cells #[] 65)) (.slice (some ⟨w.heap.size, 0, none⟩) 0 0) [] := ⟨own_new w _ h.size, h.alloc _⟩
theorem Ins.app {W0 w w' : World} {v v' : Value} {m q : List RF} (h : Ins W0 w v m) (hv : w'.ownsRow W0.heap.size 65 3 v' (m ++ q).length (fcells (m ++ q))) (hc : Chg (fun i => v.ownBlock = some i) w w') : Ins W0 w' v' (m ++ q) :=
  ⟨hv, h.chg.trans hc (fun i hi e => by have := (own_blk h.own e).1; omega)⟩
theorem Ins.alloc {W0 w : World} {v : Value} {m : List RF} (h : Ins W0 w v m) (o : Obj) : Ins W0 (w.alloc o) v m := ⟨own_chg h.own ((Chg.refl (fun _ => False) w).alloc o) (fun _ _ => id), h.chg.alloc o⟩
theorem one_new (w : World) (f : RF) : FilesIn (w.alloc (.cells #[encStr f.nm, encStr f.s, .int .i64 f.sy] 65)) (some ⟨w.heap.size, 0, none⟩) [f] := by
  intro j u hj
  refine ⟨_, rfl, ?_⟩
  rw [addr_at, (Blk.new w _ _).cell, Nat.zero_add, ← Array.getElem?_toList]
  simpa [fcells, RF.row] using hj

set_option maxRecDepth 100000 in
/-- The two parts of the files. -/
theorem RDAt.parts {w : World} {base X : Nat} {v : Value} {room : Int} {l : List RF} (h : RDAt w base X v room l) (a b : List RF) (he : l = a ++ b) : ∃ sa ca sb cb,
    (∀ w9, (Instr.slice 53 v none (some (.int .i64 a.length)) none).run Try.prog w9 = .ok (.slice sa a.length ca) w9) ∧ (∀ w9, (Instr.slice 53 v (some (.int .i64 a.length)) none none).run Try.prog w9 = .ok (.slice sb b.length cb) w9) ∧
    ∀ w', RDAt w' base X v room l → FilesIn w' sa a ∧ FilesIn w' sb b := by
  have hlen : l.length = a.length + b.length := by rw [he, List.length_append]
  rcases h.own.2 with ⟨rfl, h0⟩ | ⟨g, cp, cur, rfl, hb, hh, h1, h2, h3, h4⟩
  · have ha : a = [] := List.eq_nil_of_length_eq_zero (by omega)
    have hb : b = [] := List.eq_nil_of_length_eq_zero (by omega)
    subst ha hb
    refine ⟨none, 0, none, 0, fun w9 => ?_, fun w9 => ?_, fun w' _ => ⟨FilesIn.nil _ _, FilesIn.nil _ _⟩⟩
    · show (Instr.slice 53 (.slice none 0 0) none (some (.int .i64 0)) none).run Try.prog w9 = .ok (.slice none 0 0) w9
      go_simp
    · show (Instr.slice 53 (.slice none 0 0) (some (.int .i64 0)) none none).run Try.prog w9 = .ok (.slice none 0 0) w9
      go_simp
  · clear h
    have hla : a.length ≤ l.length := by omega
    have key1 : ∀ (L c k : Nat) (w9 : World), k ≤ L → L ≤ c → (Instr.slice 53 (.slice (some ⟨g, 0, none⟩) L c) none (some (.int .i64 k)) none).run Try.prog w9 = .ok (.slice (some ⟨g, 0, none⟩) k c) w9 := fun L c k w9 q1 q2 => by
      clear hh h4 h3 h1 hb
      go_simp
      try (intro h9; exfalso; first | omega | (have h8 := h9 (by omega); omega))
    have key2 : ∀ (L c k : Nat) (w9 : World), k ≤ L → L ≤ c → c ≠ k → (Instr.slice 53 (.slice (some ⟨g, 0, none⟩) L c) (some (.int .i64 k)) none none).run Try.prog w9 = .ok (.slice (some ⟨g, k * 3, none⟩) (L - k) (c - k)) w9 := fun L c k w9 q1 q2 q3 => by
      clear hh h4 h3 h1 hb
      go_simp
      try (intro h9; exfalso; first | omega | (have h8 := h9 (by omega); omega))
    have key3 : ∀ (k : Nat) (w9 : World), (Instr.slice 53 (.slice (some ⟨g, 0, none⟩) k k) (some (.int .i64 k)) none none).run Try.prog w9 = .ok (.slice (some ⟨g, 0, none⟩) 0 0) w9 := fun k w9 => by
      clear hh h4 h3 h1 hb
      go_simp
      try (intro h9; exfalso; first | omega | (have h8 := h9 (by omega); omega))
    by_cases hc : cp = a.length
    · have hb : b = [] := List.eq_nil_of_length_eq_zero (by omega)
      subst hb
      have hL : l.length = a.length := by rw [he]; simp
      refine ⟨some ⟨g, 0, none⟩, cp, some ⟨g, 0, none⟩, 0, fun w9 => key1 _ _ _ w9 hla h1, fun w9 => ?_, fun w' h' => ⟨h'.part [] a [] (by rw [he]; simp), FilesIn.nil _ _⟩⟩
      rw [hL, hc]
      exact key3 _ w9
    · refine ⟨some ⟨g, 0, none⟩, cp, some ⟨g, a.length * 3, none⟩, cp - a.length, fun w9 => key1 _ _ _ w9 hla h1, fun w9 => ?_, fun w' h' => ⟨h'.part [] a b (by rw [he]; simp), h'.part a b [] (by rw [he]; simp)⟩⟩
      rw [show b.length = l.length - a.length by omega]
      exact key2 _ _ _ w9 hla h1 hc

/-- What a step leaves, with its files. -/
def RDPost0 (w w' : World) (base X : Nat) (v v' : Value) (room : Int) (l : List RF) : Prop := RDAt w' base X v' room l ∧ Chg (fun i => i = X ∨ v.ownBlock = some i) w w' ∧ ∀ k, v'.ownBlock = some k → v.ownBlock = some k ∨ w.heap.size ≤ k
theorem RDPost0.post {w w' : World} {base X : Nat} {v v' : Value} {D' : Dsk} {l : List RF} (h : RDPost0 w w' base X v v' D'.room l) (hI : IsRows D' l) : RDPost w w' base X v D' := ⟨v', ⟨l, h.1, hI⟩, h.2.1, h.2.2⟩
/-- Behind the store of the new row. -/
theorem ins_set {w W0 w5 : World} {base X : Nat} {v v3 : Value} {room : Int} {a b : List RF} {f : RF} (hW : Chg (fun _ => False) w W0) (hbase : base ≤ w.heap.size) (hX : X < w.heap.size) (hB : Blk w5 X 55 #[.int .i64 room, v]) (hI : Ins W0 w5 v3 (a ++ f :: b)) :
    ∃ g3 N cp3, v3 = .slice (some ⟨g3, 0, none⟩) N cp3 ∧ N = a.length + 1 + b.length ∧ (w5.setCell ⟨X, 1, none⟩ v3).cell? ⟨X, 1, none⟩ = some v3 ∧ (w5.setCell ⟨X, 1, none⟩ v3).cell? ⟨g3, a.length * 3 + 1, none⟩ = some (encStr f.s) ∧ (w5.setCell ⟨X, 1, none⟩ v3).frozen? ⟨g3, a.length * 3 + 1, none⟩ = false ∧
      RDPost0 w (w5.setCell ⟨X, 1, none⟩ v3) base X v v3 room (a ++ f :: b) ∧
      ∀ s', RDPost0 w ((w5.setCell ⟨X, 1, none⟩ v3).drew.setCell ⟨g3, a.length * 3 + 1, none⟩ (encStr s')) base X v v3 room (a ++ ⟨f.nm, s', f.sy⟩ :: b) := by
  have hbase0 : base ≤ W0.heap.size := Nat.le_trans hbase hW.size
  have hA : RDAt (w5.setCell ⟨X, 1, none⟩ v3) base X v3 room (a ++ f :: b) := rd_store hB (own_le hI.own hbase0)
  obtain ⟨g3, cp3, e, hg, k0, k1, k2⟩ := hA.file (get_mid a b f)
  have hob : ∀ k, v3.ownBlock = some k → w.heap.size ≤ k := fun k hk => Nat.le_trans hW.size (own_blk hI.own hk).1
  have hc5 : Chg (fun i => i = X ∨ v.ownBlock = some i) w (w5.setCell ⟨X, 1, none⟩ v3) := Chg.setCell ((hW.trans hI.chg (fun _ _ h => h)).mono (fun _ _ h => h.elim)) (.inl (.inl rfl)) _
  refine ⟨g3, _, cp3, e, by simp; omega, hA.c1, k1, hA.frozen (by rw [e]; rfl) _, ⟨hA, hc5, fun k hk => .inr (hob k hk)⟩, fun s' => ⟨?_, ?_, fun k hk => .inr (hob k hk)⟩⟩
  · subst e
    have hAd := hA.keep ((Chg.refl (fun _ => False) _).drew)
    have := hAd.set (i := a.length) (f := f) (f' := ⟨f.nm, s', f.sy⟩) (get_mid a b f) (j := 1) (by decide) (u := encStr s') rfl
    rw [set_mid] at this
    have hl : (a ++ f :: b).length = (a ++ (⟨f.nm, s', f.sy⟩ : RF) :: b).length := by simp
    rw [hl] at this ⊢
    exact this
  · refine Chg.setCell hc5.drew (.inr ?_) _
    exact hob g3 (by rw [e]; rfl)
end Go.Proofs.Ytpbjompopgdbjaa
