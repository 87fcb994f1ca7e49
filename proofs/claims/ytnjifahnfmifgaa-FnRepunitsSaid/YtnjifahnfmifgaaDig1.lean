/-
  Contracts of the functions that add up digits.
  Conditions: the ranges that each contract names.
-/
import Derived.Test.YtnjifahnfmifgaaSlicesC
namespace Go.Proofs.Ytnjifahnfmifgaa
open Go.RowKit
theorem dg_mem16 {b n : Int} (b1 : 2 ≤ b) (b2 : b ≤ 16) (h0 : 0 ≤ n) : ∀ d ∈ Pl.dg b n, 0 ≤ d ∧ d ≤ 15 := fun d hd => by have := Pl.dg_mem b1 h0 d hd; omega
theorem dg_len1000 {b n : Int} (b1 : 2 ≤ b) (h0 : 0 ≤ n) (h1 : n ≤ 1000000000000) : (Pl.dg b n).length ≤ 1000 := by have := Pl.dg_len40 b1 h0 h1; omega
theorem digitSum (n b : Int) (w : World) (hb : inB b 2 16 = true) (hn : inB n 0 1000000000000 = true) :
    Calls Try.prog 21 #[.int .i64 n, .int .i64 b] w fun e w' => e = .returned (.int .i64 (Pl.sm (Pl.dg b n))) ∧ Below w.heap.size w w' := by
  have ⟨b1, b2⟩ := inB_t hb
  have ⟨n1, n2⟩ := inB_t hn
  go_enter Try.func21, Try.ntmps21
  go_wp2_with (first | (go_at_call 50; refine (isNumber_any _ _).mono ?_; rintro e w' ⟨rfl, rfl⟩) | (go_at_call 49; refine (iBaseOk_any _ _).mono ?_; rintro e w' ⟨rfl, rfl⟩))
  refine (digitsOf _ _ _ b1 b2 n1 n2).mono ?_
  rintro e w1 ⟨v, rfl, hown, hb1⟩
  obtain ⟨ao, cap, rfl, hrd⟩ := hown.shape
  go_wp2_with fail
  refine (sumOf _ _ (by simp) _ _ 15 _ hrd (dg_len1000 b1 n1 n2) (dg_mem16 b1 b2 n1) (by omega)).mono ?_
  rintro e w2 ⟨rfl, rfl⟩
  go_wp2
  go_ret
  exact ⟨rfl, hb1⟩
theorem digitSum_bad (n b : Int) (w : World) (h : (inB b 2 16 && inB n 0 1000000000000) = false) :
    Calls Try.prog 21 #[.int .i64 n, .int .i64 b] w fun e w' => e = .returned (.int .i64 (-1)) ∧ w = w' := by
  have H := Lib.hid h
  clear h
  rcases inB_cases b 2 16 with h | h <;> rcases inB_cases n 0 1000000000000 with h' | h'
  case inl.inl => have := H.out; simp [h, h'] at this
  all_goals
    go_enter Try.func21, Try.ntmps21
    go_wp2_with (first | (go_at_call 50; refine (isNumber_any _ _).mono ?_; rintro e w' ⟨rfl, rfl⟩) | (go_at_call 49; refine (iBaseOk_any _ _).mono ?_; rintro e w' ⟨rfl, rfl⟩))
    go_ret
    exact ⟨rfl, rfl⟩
def drootV (n b : Int) : Int := if inB b 2 16 && inB n 0 1000000000000 then Pl.droot b n else -1
end Go.Proofs.Ytnjifahnfmifgaa
