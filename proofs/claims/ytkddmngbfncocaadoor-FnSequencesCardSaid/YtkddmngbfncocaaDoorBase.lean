/-
  Plain tests of ranges, and the contracts of the functions that test ranges.
  Conditions: none.
-/
import Derived.Test.YtkddmngbfncocaaDoorRows
import Derived.WalkKit
import Derived.ProofKit
import Derived.Below
import Derived.WalkLawsBesides
import Derived.Deep.QuietTactic
import Derived.BigQuiet
import Derived.Lib.Hide
import Derived.IntWalk
namespace Go.Proofs.YtkddmngbfncocaaDoor
open Go.RowKit

/-- n lies from lo to hi. -/
def inB (n lo hi : Int) : Bool := decide (lo ≤ n ∧ n ≤ hi)
theorem inB_t {n lo hi : Int} (h : inB n lo hi = true) : lo ≤ n ∧ n ≤ hi := by simpa [inB] using h
theorem inB_f {n lo hi : Int} (h : inB n lo hi = false) : n < lo ∨ hi < n := by
  have : ¬ (lo ≤ n ∧ n ≤ hi) := by simpa [inB] using h
  omega
theorem inB_mk {n lo hi : Int} (h1 : lo ≤ n) (h2 : n ≤ hi) : inB n lo hi = true := by simp [inB, h1, h2]
theorem inB_no {n lo hi : Int} (h : n < lo ∨ hi < n) : inB n lo hi = false := by
  simp only [inB, decide_eq_false_iff_not]; omega
theorem inB_cases (n lo hi : Int) : inB n lo hi = true ∨ inB n lo hi = false := by cases inB n lo hi <;> simp

theorem ret_int {k : IntKind} {a b : Int} (h : a = b) : Ending.returned (.int k a) = .returned (.int k b) := by rw [h]
theorem ret_ib {a b : Int} {p q : Bool} (h : a = b) (h' : p = q) : Ending.returned (.tuple #[.int .i64 a, .bool p]) = .returned (.tuple #[.int .i64 b, .bool q]) := by rw [h, h']
theorem as_int {f : Nat} {args : Array Value} {w : World} {a b : Int} {R : World → Prop} (h : a = b) (hc : Calls Tryd.prog f args w fun e w' => e = .returned (.int .i64 a) ∧ R w') :
    Calls Tryd.prog f args w fun e w' => e = .returned (.int .i64 b) ∧ R w' := by subst h; exact hc
theorem as_bool {f : Nat} {args : Array Value} {w : World} {a b : Bool} {R : World → Prop} (h : a = b) (hc : Calls Tryd.prog f args w fun e w' => e = .returned (.bool a) ∧ R w') :
    Calls Tryd.prog f args w fun e w' => e = .returned (.bool b) ∧ R w' := by subst h; exact hc
theorem as_ib {f : Nat} {args : Array Value} {w : World} {a b : Int} {p q : Bool} {R : World → Prop} (h : a = b) (h' : p = q) (hc : Calls Tryd.prog f args w fun e w' => e = .returned (.tuple #[.int .i64 a, .bool p]) ∧ R w') :
    Calls Tryd.prog f args w fun e w' => e = .returned (.tuple #[.int .i64 b, .bool q]) ∧ R w' := by subst h; subst h'; exact hc
theorem ret_bool {a b : Bool} (h : a = b) : Ending.returned (.bool a) = .returned (.bool b) := by rw [h]

theorem within_any (n lo hi : Int) (w : World) : Calls Tryd.prog 22 #[.int .i64 n, .int .i64 lo, .int .i64 hi] w fun e w' => e = .returned (.bool (inB n lo hi)) ∧ w = w' := by
  rcases inB_cases n lo hi with h | h
  · have ⟨h1, h2⟩ := inB_t h
    rw [h]; clear h
    go_enter Tryd.func22, Tryd.ntmps22
    go_wp2
    go_ret
    exact ⟨rfl, rfl⟩
  · have h1 := inB_f h
    rw [h]; clear h
    by_cases h2 : lo ≤ n
    · have h3 : hi < n := by omega
      have h4 : ¬ n ≤ hi := by omega
      clear h1
      go_enter Tryd.func22, Tryd.ntmps22
      go_wp2
      go_ret
      exact ⟨rfl, rfl⟩
    · clear h1
      go_enter Tryd.func22, Tryd.ntmps22
      go_wp2
      go_ret
      exact ⟨rfl, rfl⟩
theorem l01In_any (n lo hi : Int) (w : World) : Calls Tryd.prog 19 #[.int .i64 n, .int .i64 lo, .int .i64 hi] w fun e w' => e = .returned (.bool (inB n lo hi)) ∧ w = w' := by
  rcases inB_cases n lo hi with h | h
  · have ⟨h1, h2⟩ := inB_t h
    rw [h]; clear h
    go_enter Tryd.func19, Tryd.ntmps19
    go_wp2
    go_ret
    exact ⟨rfl, rfl⟩
  · have h1 := inB_f h
    rw [h]; clear h
    by_cases h2 : lo ≤ n
    · have h3 : hi < n := by omega
      have h4 : ¬ n ≤ hi := by omega
      clear h1
      go_enter Tryd.func19, Tryd.ntmps19
      go_wp2
      go_ret
      exact ⟨rfl, rfl⟩
    · clear h1
      go_enter Tryd.func19, Tryd.ntmps19
      go_wp2
      go_ret
      exact ⟨rfl, rfl⟩
theorem isNumber_any (n : Int) (w : World) : Calls Tryd.prog 28 #[.int .i64 n] w fun e w' => e = .returned (.bool (inB n 0 1000000000000)) ∧ w = w' := by
  go_enter Tryd.func28, Tryd.ntmps28
  go_wp2_with (go_at_call 22; refine (within_any _ _ _ _).mono ?_; rintro e w' ⟨rfl, rfl⟩)
  go_ret
  exact ⟨rfl, rfl⟩
end Go.Proofs.YtkddmngbfncocaaDoor
