/-
  Contracts of the trimming of a number.
  Conditions: none.
-/
import Derived.Test.YtnjifahnfmifgaaBase
namespace Go.Proofs.Ytnjifahnfmifgaa
open Go.RowKit
def trimV (n b t : Int) : Int := if inB b 2 16 && inB n 0 1000000000000 && inB t 0 1000 then wrap64 (n / b + wrap64 (t * (n % b))) else -1
theorem iTrim_any (n b t : Int) (w : World) : Calls Try.prog 18 #[.int .i64 n, .int .i64 b, .int .i64 t] w fun e w' => e = .returned (.int .i64 (trimV n b t)) ∧ Below w.heap.size w w' := by
  rcases inB_cases b 2 16 with h | h <;> rcases inB_cases n 0 1000000000000 with h' | h' <;> rcases inB_cases t 0 1000 with h'' | h''
  case inl.inl.inl =>
    have b1 := inB_t h
    have b2 := inB_t h'
    have b3 := inB_t h''
    go_enter Try.func18, Try.ntmps18
    go_wp2_with (first | (go_at_call 50; refine (isNumber_any _ _).mono ?_; rintro e w' ⟨rfl, rfl⟩) | (go_at_call 49; refine (iBaseOk_any _ _).mono ?_; rintro e w' ⟨rfl, rfl⟩) | (go_at_call 40; refine (within_any _ _ _ _).mono ?_; rintro e w' ⟨rfl, rfl⟩))
    go_quiet (fail)
    go_wp2
    go_ret
    exact ⟨ret_int (by simp [trimV, h, h', h'']), below_drewN (Below.refl _ _) _⟩
  all_goals
    go_enter Try.func18, Try.ntmps18
    go_wp2_with (first | (go_at_call 50; refine (isNumber_any _ _).mono ?_; rintro e w' ⟨rfl, rfl⟩) | (go_at_call 49; refine (iBaseOk_any _ _).mono ?_; rintro e w' ⟨rfl, rfl⟩) | (go_at_call 40; refine (within_any _ _ _ _).mono ?_; rintro e w' ⟨rfl, rfl⟩))
    go_ret
    exact ⟨ret_int (by simp [trimV, h, h', h'']), Below.refl _ _⟩
end Go.Proofs.Ytnjifahnfmifgaa
