/-
  The reference's Int: a number's bytes as a string.
-/
import Derived.Test.YtkbnojjmpmlgjaaGreatZPackW
namespace Go.Proofs.YtkbnojjmpmlgjaaGreat
open Go.RowKit

set_option maxRecDepth 100000 in
set_option maxHeartbeats 4000000 in
theorem refInt_any (w : World) (v : Int) (h0 : 0 ≤ v) (h1 : v ≤ 4611686018427387904) :
    Calls Tryz.prog 52 #[.int .i64 v] w fun e w' => e = .returned (.string (bstr (nb v))) ∧ Chg (fun _ => False) w w' := by
  go_enter Tryz.func52, Tryz.ntmps52
  go_wp2_with fail
  have hu0 : v * 2 = ((zig v : Nat) : Int) := by rw [zig_pos h0]; omega
  have hub : zig v < 18446744073709551616 := by omega
  rw [hu0]
  have hnb : nb v = vb (zig v) := rfl
  generalize zig v = u0 at *
  have hnbh := Lib.hid hnb
  clear hu0 hnb
  go_loopw [3, 4] (fun v3 v4 wr => ∃ (u : Nat) (ys : List UInt8), v3 = .int .u64 u ∧ u < 18446744073709551616 ∧ wr.ownsRow w.heap.size 5 1 v4 ys.length (ys.map encB) ∧ ys ++ vb u = vb u0 ∧ Chg (fun _ => False) w wr) (fun v3 _ _ => (RowKit.intOf v3).toNat)
  case atStart => exact ⟨u0, [], rfl, hub, ⟨rfl, .inl ⟨rfl, rfl⟩⟩, rfl, Chg.refl _ _⟩
  case round =>
    obtain ⟨u, ys, rfl, hu, hown, hys, hck⟩ := hrel
    have hyl : ys.length ≤ 10 := by
      have h1 := congrArg List.length hys
      have h2 := vb_len10 hub
      rw [List.length_append] at h1
      omega
    have hz := hck.size
    have hown2 := Lib.hid hown
    clear hown
    by_cases hlt : u < 128
    · have hval := encB_lo hlt
      have hvh := Lib.hid hval
      clear hval
      have hcA := (Chg.refl (fun _ => False) wr).alloc (.cells #[.int .u8 u] 5)
      have hownA := own_chg hown2.out hcA (fun _ _ h => h)
      have hckA := hck.trans hcA (fun _ _ h => h.elim)
      have hzA := hckA.size
      have cB : (wr.alloc (.cells #[.int .u8 u] 5)).cell? ⟨wr.heap.size, 0, none⟩ = some (.int .u8 u) := (Blk.new wr _ _).cell 0
      clear hcA hck
      have hysh := Lib.hid hys
      clear hys
      go_wp2_with (at_builtin; go_loud (refine wpList_append_byte rfl _ _ rfl w.heap.size u4 ys (UInt8.ofNat u) wr.heap.size (.int .u8 u) rfl (by exact hownA) rfl hvh.out (by exact cB) (by omega) (by omega) ?_; intro g5 cp5 w5 hown5 hc5 hloc5 hcv5))
      go_ret
      have e : nb v = ys ++ [UInt8.ofNat u] := by rw [hnbh.out, ← hysh.out, vb_lo hlt]
      rw [e]
      refine ⟨rfl, hckA.trans hc5 (fun i hi h => ?_)⟩
      have h2 := (hown2.out.lt i h).1
      omega
    · have hor := orB u
      have hval := encB_hi u
      have hvh := Lib.hid hval
      clear hval
      have hcA := (Chg.refl (fun _ => False) wr).alloc (.cells #[.int .u8 ((u : Int) % 128 + 128)] 5)
      have hownA := own_chg hown2.out hcA (fun _ _ h => h)
      have hckA := hck.trans hcA (fun _ _ h => h.elim)
      have hzA := hckA.size
      have cB : (wr.alloc (.cells #[.int .u8 ((u : Int) % 128 + 128)] 5)).cell? ⟨wr.heap.size, 0, none⟩ = some (.int .u8 ((u : Int) % 128 + 128)) := (Blk.new wr _ _).cell 0
      clear hcA hck
      have hysh := Lib.hid hys
      clear hys
      go_wp2_with (at_builtin; go_loud (refine wpList_append_byte rfl _ _ rfl w.heap.size u4 ys (UInt8.ofNat (u % 128 + 128)) wr.heap.size (.int .u8 ((u : Int) % 128 + 128)) rfl (by exact hownA) rfl hvh.out (by exact cB) (by omega) (by omega) ?_; intro g5 cp5 w5 hown5 hc5 hloc5 hcv5))
      clear hcv5
      go_roundw
      case rel => exact ⟨u / 128, ys ++ [UInt8.ofNat (u % 128 + 128)], by go_num, by omega, hown5, by rw [← hysh.out, vb_hi (u := u) (by omega), List.append_assoc]; rfl, hckA.trans hc5 (fun i hi h => by have h2 := (hown2.out.lt i h).1; omega)⟩
      case measure => simp [RowKit.intOf]; omega
end Go.Proofs.YtkbnojjmpmlgjaaGreat
