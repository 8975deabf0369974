/-
  SealPlays: where a file stands; what holds ahead of each step.
-/
import Derived.Test.YtpbjompopgdbjaaZRSeaG
import Derived.Test.YtpbjompopgdbjaaZRowR
namespace Go.Proofs.Ytpbjompopgdbjaa
open Go.RowKit Go.Maps

set_option maxRecDepth 100000 in
set_option maxHeartbeats 1000000 in
theorem lat_any {w : World} {base X : Nat} {v : Value} {room : Int} {l : List RF} (h : RDAt w base X v room l) (n : Nam) (a b : List RF) (f : RF) (he : l = a ++ (f :: b)) (hlo : ∀ x ∈ a, x.nm < n) (hf : f.nm = n) (hl : l.length ≤ 1000000) :
    Calls Try.prog 30 #[.pointer (some ⟨X, 0, none⟩), encStr n] w fun e w' => e = .returned (.int .i64 a.length) ∧ w' = w := by
  obtain ⟨ao, cp, hv⟩ := h.slice
  have c1 := h.c1
  rw [hv] at c1
  have hal : a.length < l.length := by rw [he, List.length_append, List.length_cons]; omega
  go_enter Try.func30, Try.ntmps30
  go_wp2_with fail
  go_loopw [5] (fun v5 wr => ∃ k : Nat, v5 = .int .i64 k ∧ k ≤ a.length ∧ wr = w) (fun v5 _ => 2000000 - (RowKit.intOf v5).toNat)
  case atStart => exact ⟨0, rfl, Nat.zero_le _, rfl⟩
  case round =>
    obtain ⟨k, rfl, hk, rfl⟩ := hrel
    by_cases hka : k < a.length
    · obtain ⟨x, hx⟩ : ∃ x, a[k]? = some x := ⟨_, List.getElem?_eq_getElem hka⟩
      have hxl : l[k]? = some x := by rw [he, List.getElem?_append_left hka]; exact hx
      obtain ⟨g, cp2, e, hg, k0, _, _⟩ := h.file hxl
      rw [hv] at e
      cases e
      have hlt := hlo x (List.mem_of_getElem? hx)
      have hne : (x.nm == n) = false := by
        simp only [beq_eq_false_iff_ne, ne_eq]
        intro e2
        rw [e2] at hlt
        exact nam_irr n hlt
      have hkl : k < l.length := by omega
      have Hf := Lib.hid (And.intro hx hxl)
      clear hx hxl hlt he hlo
      go_wp2_with fail
      go_roundw
      case rel => exact ⟨k + 1, by go_num, by omega, trivial⟩
      case measure => simp [RowKit.intOf]; omega
    · have hke : k = a.length := by omega
      subst hke
      have hfl : l[a.length]? = some f := by rw [he, List.getElem?_append_right (Nat.le_refl _), Nat.sub_self]; rfl
      obtain ⟨g, cp2, e, hg, k0, _, _⟩ := h.file hfl
      rw [hv] at e
      cases e
      rw [hf] at k0
      have hne : (n == n) = true := by simp
      clear he hlo hv hka hfl hf
      go_wp2_with fail
      go_ret
      exact ⟨rfl, rfl⟩

theorem rdsk_new (w : World) (base : Nat) (r : Int) : RD (w.alloc (.cells #[.int .i64 r, .slice none 0 0] 55)) base w.heap.size (.slice none 0 0) (Dsk.new r) :=
  ⟨[], ⟨Blk.new w _ _, by simp [fcells], .inl ⟨rfl, rfl⟩⟩, IsRows.new r⟩

theorem Rep.putG {D : Dsk} {age : Int} {st recs : List Rec} {sy : Nat} (h : Rep D age st recs sy) {b : Rec} (hb : okR b) : ∃ r D' recs', D.putRec age b = (r, D') ∧ bump r recs.length = recs'.length ∧ Rep D' age st recs' sy ∧ recs'.length ≤ recs.length + 1 := by
  obtain ⟨r, D', e1, _, h1⟩ := h.putF hb
  rcases h1 with ⟨rfl, h2⟩ | ⟨rfl, rfl⟩
  · exact ⟨0, D', _, e1, by rw [List.length_append]; rfl, h2, by rw [List.length_append]; exact Nat.le_refl _⟩
  · exact ⟨4, D', recs, e1, rfl, h, Nat.le_succ _⟩
theorem Rep.saveG {D : Dsk} {age : Nat} {st recs : List Rec} {sy : Nat} (h : Rep D age st recs sy) {l : List Rec} (hok : ∀ b ∈ l, okR b) (hage : age < 1000000) (hsl : st.length ≤ 6) (hl : l.length ≤ 6) :
    ∃ (r : Int) (D' : Dsk) (age' : Nat) (st' recs' : List Rec) (sy' : Nat), D.saved age l = (r, D') ∧ newAge r age = age' ∧ newLen r recs.length = recs'.length ∧ Rep D' age' st' recs' sy' ∧ age' ≤ age + 1 ∧ recs'.length ≤ recs.length ∧ st'.length ≤ 6 := by
  obtain ⟨r, D', e1, _, h1⟩ := h.saveF hok (by omega)
  rcases h1 with ⟨rfl, h2, _⟩ | ⟨rfl, rfl⟩
  · exact ⟨0, D', age + 1, l, [], 0, e1, rfl, rfl, h2, Nat.le_refl _, Nat.zero_le _, hl⟩
  · exact ⟨4, D', age, st, recs, sy, e1, rfl, rfl, h, Nat.le_succ _, Nat.le_refl _, hsl⟩

/-- What holds ahead of each step. -/
structure SeaA (w : World) (X d k g y age sy : Nat) (st recs : List Rec) (D : Dsk) (v : Value) (P : Nat → Prop) (wr : World) : Prop where
  dx : DiskX P wr d D
  pg : P g
  lg : LogAt wr g d age recs.length
  rep : Rep D age st recs sy
  rl : RLAt wr w.heap.size X y v age recs.length D
  pX : P X
  py : P y
  pv : ∀ q, v.ownBlock = some q → P q
  pw : ∀ q, q < w.heap.size → P q
  ak : age ≤ k
  rk : recs.length ≤ k
  sl : st.length ≤ 6
  gw : w.heap.size ≤ g
  yw : w.heap.size ≤ y
  Xw : w.heap.size ≤ X
  sz : w.heap.size ≤ wr.heap.size
  ch : Chg (fun q => ¬ q < w.heap.size) w wr

theorem RLAt.chg {w w' : World} {base X y : Nat} {v : Value} {age : Int} {n : Nat} {D : Dsk} (h : RLAt w base X y v age n D) {S : Nat → Prop} (hc : Chg S w w') (hX : ¬ S X) (hy : ¬ S y) (hv : ∀ k, v.ownBlock = some k → ¬ S k) : RLAt w' base X y v age n D :=
  ⟨h.blk.chg hc hy, h.rd.chg2 hc hX hv⟩
theorem RLAt.own {w : World} {base X y : Nat} {v : Value} {age : Int} {n : Nat} {D : Dsk} (h : RLAt w base X y v age n D) {q : Nat} (hq : v.ownBlock = some q) : base ≤ q ∧ q < w.heap.size ∧ q ≠ X := by
  obtain ⟨l, h1, _⟩ := h.rd
  exact h1.block hq
/-- Where something of another kind than the reference's stands, none of the reference's blocks is. -/
theorem RLAt.apart {w : World} {base X y : Nat} {v : Value} {age : Int} {n : Nat} {D : Dsk} (h : RLAt w base X y v age n D) {E t : Nat} {cs : Array Value} (hE : Blk w E t cs) (h1 : t ≠ 61) (h2 : t ≠ 55) (h3 : t ≠ 65) : ¬ ((E = X ∨ v.ownBlock = some E) ∨ E = y) := by
  obtain ⟨l, hA, _⟩ := h.rd
  rintro ((e | e) | e)
  · exact hE.ne hA.blk h2 e
  · rcases hA.own.2 with ⟨rfl, _⟩ | ⟨g, cap, cur, rfl, hb, hh, _⟩
    · simp [Value.ownBlock] at e
    · simp [Value.ownBlock] at e
      have hB : Blk w g 65 cur := hh
      exact hE.ne hB h3 e.symm
  · exact hE.ne h.blk h1 e

section
variable {w wr : World} {X d k g y age sy : Nat} {st recs : List Rec} {D : Dsk} {v : Value} {P : Nat → Prop} (h : SeaA w X d k g y age sy st recs D v P wr)
include h
theorem SeaA.keep {w' : World} (hc : Chg (fun _ => False) wr w') : SeaA w X d k g y age sy st recs D v P w' :=
  ⟨h.dx.keep hc, h.pg, Blk.chg h.lg hc id, h.rep, h.rl.chg hc id id (fun _ _ => id), h.pX, h.py, h.pv, h.pw, h.ak, h.rk, h.sl, h.gw, h.yw, h.Xw, Nat.le_trans h.sz hc.size, h.ch.trans hc (fun _ _ h => h.elim)⟩
theorem SeaA.more {w' : World} (hc : Chg (fun _ => False) wr w') {Q : Nat → Prop} (hQ : ∀ i, Q i → P i ∨ (wr.heap.size ≤ i ∧ i < w'.heap.size)) (hPQ : ∀ i, P i → Q i) : SeaA w X d k g y age sy st recs D v Q w' :=
  ⟨h.dx.more hc hQ, hPQ _ h.pg, Blk.chg h.lg hc id, h.rep, h.rl.chg hc id id (fun _ _ => id), hPQ _ h.pX, hPQ _ h.py, fun q hq => hPQ _ (h.pv q hq), fun q hq => hPQ _ (h.pw q hq), h.ak, h.rk, h.sl, h.gw, h.yw, h.Xw, Nat.le_trans h.sz hc.size, h.ch.trans hc (fun _ _ h => h.elim)⟩
theorem SeaA.later {k' : Nat} (hk : k ≤ k') : SeaA w X d k' g y age sy st recs D v P wr :=
  ⟨h.dx, h.pg, h.lg, h.rep, h.rl, h.pX, h.py, h.pv, h.pw, Nat.le_trans h.ak hk, Nat.le_trans h.rk hk, h.sl, h.gw, h.yw, h.Xw, h.sz, h.ch⟩
theorem SeaA.ne : ¬ ((g = X ∨ v.ownBlock = some g) ∨ g = y) := h.rl.apart h.lg (by decide) (by decide) (by decide)
theorem SeaA.ks : D.ks.length ≤ 3 := ks_len h.rep.good (fun n hn => (h.rep.ks n hn).imp id (.inl (b := n = nNext)))
/-- The reference's, behind a step of the program's. -/
theorem SeaA.rl3 {w3 : World} (hc : Chg (fun i => ¬ P i ∨ i = g) wr w3) : RLAt w3 w.heap.size X y v age recs.length D :=
  h.rl.chg hc (fun e => e.elim (fun n => n h.pX) (fun e => h.ne (.inl (.inl e.symm)))) (fun e => e.elim (fun n => n h.py) (fun e => h.ne (.inr e.symm)))
    (fun q hq e => e.elim (fun n => n (h.pv q hq)) (fun e => h.ne (.inl (.inr (by rw [← e]; exact hq)))))
theorem SeaA.ch3 {w3 : World} (hc : Chg (fun i => ¬ P i ∨ i = g) wr w3) : Chg (fun q => ¬ q < w.heap.size) w w3 :=
  h.ch.trans hc (fun q _ hs hq => hs.elim (fun n => n (h.pw q hq)) (fun e => by have := h.gw; omega))
/-- A step of both. -/
theorem SeaA.step {w3 w4 : World} {age' : Nat} {st' recs' : List Rec} {sy' : Nat} {D' : Dsk} (hc3 : Chg (fun i => ¬ P i ∨ i = g) wr w3) (hD3 : DiskX P w3 d D') (hL3 : LogAt w3 g d age' recs'.length) (hrep : Rep D' age' st' recs' sy')
    (hP : RLPost w3 w4 w.heap.size X y v age' recs'.length D') {k' : Nat} (hak : age' ≤ k') (hrk : recs'.length ≤ k') (hsl : st'.length ≤ 6) :
    ∃ v' Q, SeaA w X d k' g y age' sy' st' recs' D' v' Q w4 := by
  obtain ⟨v', hR', hc4, ho'⟩ := hP
  have hw3 := h.ch3 hc3
  have hPc : ∀ i, ((i = X ∨ v.ownBlock = some i) ∨ i = y) → P i := fun i hi => by
    rcases hi with (rfl | hi) | rfl
    · exact h.pX
    · exact h.pv i hi
    · exact h.py
  refine ⟨v', fun q => P q ∨ (w3.heap.size ≤ q ∧ q < w4.heap.size), hD3.touch (hc4.mono (fun i _ hi => hPc i hi)) (fun _ h => h), .inl h.pg, Blk.chg hL3 hc4 h.ne, hrep, hR', .inl h.pX, .inl h.py, fun q hq => ?_, fun q hq => .inl (h.pw q hq), hak, hrk, hsl, h.gw, h.yw, h.Xw, ?_, ?_⟩
  · rcases ho' q hq with h1 | h1
    · exact .inl (h.pv q h1)
    · exact .inr ⟨h1, (hR'.own hq).2.1⟩
  · have h1 := hw3.size
    have h2 := hc4.size
    omega
  · refine hw3.trans hc4 (fun q _ hi hq => ?_)
    rcases hi with (rfl | hi) | rfl
    · exact absurd hq (Nat.not_lt.2 h.Xw)
    · exact absurd hq (Nat.not_lt.2 (h.rl.own hi).1)
    · exact absurd hq (Nat.not_lt.2 h.yw)
end

/-- Both are opened. -/
theorem sea_open {w w4 w5 w6 : World} {X d k g y age : Nat} {st rs : List Rec} {D1 D' : Dsk} {v v' : Value} {P B : Nat → Prop} {ad1 ad2 : Option Addr} (hXw : w.heap.size ≤ X) (hPX : P X) (hPv : ∀ q, v.ownBlock = some q → P q) (hPw : ∀ q, q < w.heap.size → P q)
    (hch : Chg (fun q => ¬ q < w.heap.size) w w4) (hR : RD w4 w.heap.size X v D1) (hB : ∀ i, B i → ¬ P i ∧ w4.heap.size ≤ i ∧ i < w5.heap.size) (hBg : B g) (hL : LogAt w5 g d age rs.length) (hr1 : RowsIn w5 (fun i => B i ∧ i ≠ g) ad1 st) (hr2 : RowsIn w5 (fun i => B i ∧ i ≠ g) ad2 rs)
    (hD : DiskX (fun i => P i ∨ B i) w5 d D') (hc5 : Chg (fun i => ¬ P i) w4 w5) (hRL : RLAt w6 w.heap.size X y v' age rs.length D') (hc6 : Chg (fun i => i = X ∨ v.ownBlock = some i) w5 w6) (ho : ∀ q, v'.ownBlock = some q → v.ownBlock = some q ∨ w5.heap.size ≤ q) (hy : w5.heap.size ≤ y)
    (hrep : Rep D' age st rs rs.length) (hak : age ≤ k) (hrk : rs.length ≤ k) (hsl : st.length ≤ 6) :
    SeaA w X d k g y age rs.length st rs D' v' (fun i => (P i ∨ B i) ∨ (w5.heap.size ≤ i ∧ i < w6.heap.size)) w6 ∧ RowsB w6 ad1 st ∧ RowsB w6 ad2 rs := by
  have hz4 := hch.size
  have hz5 := hc5.size
  have hz6 := hc6.size
  have hP6 : ∀ i, (i = X ∨ v.ownBlock = some i) → P i := fun i hi => by
    rcases hi with rfl | hi
    · exact hPX
    · exact hPv i hi
  have hn6 : ∀ i, B i → ¬ (i = X ∨ v.ownBlock = some i) := fun i hi h => (hB i hi).1 (hP6 i h)
  have hown : ∀ q, v.ownBlock = some q → w.heap.size ≤ q := fun q hq => by
    obtain ⟨l, h1, _⟩ := hR
    exact (h1.block hq).1
  have hg := (hB g hBg).2
  refine ⟨⟨hD.touch (hc6.mono (fun i _ hi => .inl (hP6 i hi))) (fun _ h => h), .inl (.inr hBg), Blk.chg hL hc6 (hn6 g hBg), hrep, hRL, .inl (.inl hPX), .inr ⟨hy, hRL.blk.lt⟩, fun q hq => ?_, fun q hq => .inl (.inl (hPw q hq)), hak, hrk, hsl, by omega, by omega, hXw, by omega, ?_⟩, (hr1.chg hc6 (fun i hi => hn6 i hi.1)).rowsB, (hr2.chg hc6 (fun i hi => hn6 i hi.1)).rowsB⟩
  · rcases ho q hq with h1 | h1
    · exact .inl (.inl (hPv q h1))
    · exact .inr ⟨h1, (hRL.own hq).2.1⟩
  · refine (hch.trans hc5 (fun q _ hs hq => hs (hPw q hq))).trans hc6 (fun q _ hi hq => ?_)
    rcases hi with rfl | hi
    · omega
    · have := hown q hi
      omega
/-- What is known of a log's step on the reference's side. -/
def SeaI (w : World) (X d k : Nat) (v9 v13 : Value) (wr : World) : Prop := ∃ (g y age sy : Nat) (st recs : List Rec) (D : Dsk) (v : Value) (P : Nat → Prop), v9 = .pointer (some ⟨g, 0, none⟩) ∧ v13 = .pointer (some ⟨y, 0, none⟩) ∧ SeaA w X d k g y age sy st recs D v P wr
theorem SeaI.keep {w wr w' : World} {X d k : Nat} {v9 v13 : Value} (h : SeaI w X d k v9 v13 wr) (hc : Chg (fun _ => False) wr w') : SeaI w X d k v9 v13 w' := by
  obtain ⟨g, y, age, sy, st, recs, D, v, P, h1, h2, h3⟩ := h
  exact ⟨g, y, age, sy, st, recs, D, v, P, h1, h2, h3.keep hc⟩
end Go.Proofs.Ytpbjompopgdbjaa
