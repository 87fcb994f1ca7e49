/-
  The contract of the greatest common divisor.
  Conditions: the ranges that it names.
-/
import Derived.Test.YtnjifahnfmifgaaArith
namespace Go.Proofs.Ytnjifahnfmifgaa
open Go.RowKit
theorem iGcd (a b : Int) (w : World) (a1 : 1 ≤ a) (a2 : a ≤ 1000) (b1 : 2 ≤ b) (b2 : b ≤ 16) :
    Calls Try.prog 16 #[.int .i64 a, .int .i64 b] w fun e w' => e = .returned (.int .i64 (Int.gcd a b)) ∧ Below w.heap.size w w' := by
  have h1 := inB_mk (show -1000000000000 ≤ a by omega) (show a ≤ 1000000000000 by omega)
  have h2 := inB_mk (show -1000000000000 ≤ b by omega) (show b ≤ 1000000000000 by omega)
  go_enter Try.func16, Try.ntmps16
  go_wp2_with (first | (go_at_call 40; refine (within_any _ _ _ _).mono ?_; rintro e w' ⟨rfl, rfl⟩))
  refine (igcd a b _ (by omega) (by omega) (by omega) (by omega)).mono ?_
  rintro e w1 ⟨rfl, hb1⟩
  have HB1 := Lib.hid hb1
  clear hb1
  go_wp2
  go_ret
  exact ⟨rfl, HB1.out⟩
end Go.Proofs.Ytnjifahnfmifgaa
