/-
  purse: what is reserved.
-/
import Derived.Test.YtddnpjlcmokbiaaZPurseH
namespace Go.Proofs.Ytddnpjlcmokbiaa
open Go.RowKit Go.Maps

set_option maxRecDepth 100000 in
theorem reserved_any (w : World) (b mb : Nat) (lv : Value) (p : Pur) (hP : PurAt w b mb lv p) :
    Calls Try.prog 26 #[.pointer (some ⟨b, 0, none⟩)] w fun e w' => e = .returned (.int .i64 (p.ac 4)) ∧ w' = w := by
  go_enter Try.func26, Try.ntmps26
  go_wp2_with (go_at_call 48; refine (account_any _ b mb lv p 4 (by decide) hP).mono ?_; rintro e w' ⟨rfl, rfl⟩)
  go_ret
  exact ⟨rfl, rfl⟩

theorem reserved_w {B : Nat} {w : World} {b : Nat} {p : Pur} (hP : PurW B w b p) : Calls Try.prog 26 #[.pointer (some ⟨b, 0, none⟩)] w fun e w' => e = .returned (.int .i64 (p.ac 4)) ∧ w' = w := by
  obtain ⟨mb, lv, hP, _⟩ := hP
  exact reserved_any w b mb lv p hP
end Go.Proofs.Ytddnpjlcmokbiaa
