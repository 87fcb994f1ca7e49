/-
  Contracts of the rotation of digits.
  Conditions: none, or the ranges that a contract names.
-/
import Derived.Test.YtnjifahnfmifgaaSlicesB
namespace Go.Proofs.Ytnjifahnfmifgaa
open Go.RowKit
/-- The number of k digits with its last digit in front. -/
def rotZ (n b k : Int) : Int := n / b + n % b * b ^ (k.toNat - 1)
theorem rot_bd {n b k : Int} (b1 : 2 ≤ b) (b2 : b ≤ 16) (k1 : 1 ≤ k) (k2 : k ≤ 9) (n0 : 0 ≤ n) (hn : n < b ^ k.toNat) :
    0 ≤ n / b ∧ n / b ≤ 68719476736 ∧ 0 ≤ n % b * b ^ (k.toNat - 1) ∧ n % b * b ^ (k.toNat - 1) ≤ 68719476736 ∧ 0 ≤ rotZ n b k ∧ rotZ n b k < b ^ k.toNat ∧ n ≤ 68719476736 := by
  have e : k.toNat = (k.toNat - 1) + 1 := by omega
  have hp := Pl.pow16 (show 0 ≤ b by omega) b2 (k := k.toNat) (by omega)
  have hq := Pl.pow_pos (show 0 < b by omega) (k.toNat - 1)
  have m0 := Pl.mod_nn (a := n) (show 0 < b by omega)
  have m1 := Pl.mod_lt (a := n) (show 0 < b by omega)
  have d0 := Pl.div_nn n0 (show 0 ≤ b by omega)
  have d1 : n / b < b ^ (k.toNat - 1) := by
    rw [Pl.div_lt_iff (by omega), ← Int.pow_succ]
    rw [e] at hn; exact hn
  have d2 := Pl.div_le n0 b1
  have r0 : 0 ≤ n % b * b ^ (k.toNat - 1) := Int.mul_nonneg m0 (by omega)
  have r1 : (n % b + 1) * b ^ (k.toNat - 1) ≤ b * b ^ (k.toNat - 1) := Int.mul_le_mul_of_nonneg_right (by omega) (by omega)
  rw [Int.add_mul, Int.one_mul, Int.mul_comm b, ← Int.pow_succ, show (k.toNat - 1).succ = k.toNat by omega] at r1
  unfold rotZ
  omega
def rokB (n b k : Int) : Bool := inB b 2 16 && inB k 1 9 && inB n 0 1000000000000 && decide (n < b ^ k.toNat)
def rotV (n b k : Int) : Int := if rokB n b k then rotZ n b k else -1
theorem rok_t {n b k : Int} (h : rokB n b k = true) : inB b 2 16 = true ∧ inB k 1 9 = true ∧ inB n 0 1000000000000 = true ∧ n < b ^ k.toNat := by
  simpa [rokB, and_assoc] using h
theorem iRotate (n b k : Int) (w : World) (h : rokB n b k = true) : Calls Try.prog 60 #[.int .i64 n, .int .i64 b, .int .i64 k] w fun e w' => e = .returned (.int .i64 (rotZ n b k)) ∧ Below w.heap.size w w' := by
  obtain ⟨h1, h2, h3, h4⟩ := rok_t h
  have ⟨b1, b2⟩ := inB_t h1
  have ⟨k1, k2⟩ := inB_t h2
  have ⟨n1, n2⟩ := inB_t h3
  obtain ⟨r1, r2, r3, r4, _, _, _⟩ := rot_bd b1 b2 k1 k2 n1 h4
  have HP := Lib.hid (Pl.pow16' (show 0 ≤ b by omega) b2 (n := (k - 1).toNat) (by omega))
  clear h h1 h2 h3 h4
  have HV := Lib.hid (show n / b + n % b * b ^ (k.toNat - 1) = rotZ n b k from rfl)
  have m0 := Pl.mod_nn (a := n) (show 0 < b by omega)
  have m1 := Pl.mod_lt (a := n) (show 0 < b by omega)
  go_enter Try.func60, Try.ntmps60
  go_wp2_with fail
  go_quiet ((go_at_call 58; exact Calls.quiet_of_same ((ipowerZ _ _ _ (by omega) (by omega) (by omega) HP.out).mono fun _ _ h => ⟨h.1, h.2.symm⟩)))
  go_wp2
  go_ret
  exact ⟨ret_int HV.out, below_drewN (Below.refl _ _) _⟩
theorem rok_mk {n b k : Int} (h1 : inB b 2 16 = true) (h2 : inB k 1 9 = true) (h3 : inB n 0 1000000000000 = true) : rokB n b k = decide (n < b ^ k.toNat) := by simp [rokB, h1, h2, h3]
theorem rok_no {n b k : Int} (h : inB b 2 16 = false ∨ inB k 1 9 = false ∨ inB n 0 1000000000000 = false) : rokB n b k = false := by
  rcases h with h | h | h <;> simp [rokB, h]
theorem isRotated (n b k : Int) (w : World) : Calls Try.prog 59 #[.int .i64 n, .int .i64 b, .int .i64 k] w fun e w' => e = .returned (.bool (rokB n b k)) ∧ w = w' := by
  rcases inB_cases b 2 16 with h | h <;> rcases inB_cases k 1 9 with h' | h' <;> rcases inB_cases n 0 1000000000000 with h'' | h''
  case inl.inl.inl =>
    have HV := Lib.hid (rok_mk h h' h'')
    have ⟨b1, b2⟩ := inB_t h
    have ⟨k1, k2⟩ := inB_t h'
    have HP := Lib.hid (Pl.pow16' (show 0 ≤ b by omega) b2 (n := k.toNat) (by omega))
    go_enter Try.func59, Try.ntmps59
    go_wp2_with (first | (go_at_call 49; refine (iBaseOk_any _ _).mono ?_; rintro e w' ⟨rfl, rfl⟩) | (go_at_call 40; refine (within_any _ _ _ _).mono ?_; rintro e w' ⟨rfl, rfl⟩) | (go_at_call 50; refine (isNumber_any _ _).mono ?_; rintro e w' ⟨rfl, rfl⟩))
    refine (ipowerZ _ _ _ (by omega) (by omega) (by omega) HP.out).mono ?_
    rintro e w' ⟨rfl, rfl⟩
    go_wp2
    go_ret
    exact ⟨ret_bool HV.out.symm, rfl⟩
  all_goals
    have HV := Lib.hid (show false = rokB n b k from (rok_no (by simp [h, h', h''])).symm)
    go_enter Try.func59, Try.ntmps59
    go_wp2_with (first | (go_at_call 49; refine (iBaseOk_any _ _).mono ?_; rintro e w' ⟨rfl, rfl⟩) | (go_at_call 40; refine (within_any _ _ _ _).mono ?_; rintro e w' ⟨rfl, rfl⟩) | (go_at_call 50; refine (isNumber_any _ _).mono ?_; rintro e w' ⟨rfl, rfl⟩))
    go_ret
    exact ⟨ret_bool HV.out, rfl⟩
theorem iRotN (n b k : Int) (w : World) : Calls Try.prog 26 #[.int .i64 n, .int .i64 b, .int .i64 k] w fun e w' => e = .returned (.int .i64 (rotV n b k)) ∧ Below w.heap.size w w' := by
  cases hok : rokB n b k with
  | true =>
    have HV := Lib.hid (show rotZ n b k = rotV n b k by rw [rotV, if_pos hok])
    go_enter Try.func26, Try.ntmps26
    go_wp2_with fail
    refine (isRotated _ _ _ _).mono ?_
    rintro e w1 ⟨rfl, rfl⟩
    go_wp2_with fail
    refine (iRotate _ _ _ _ hok).mono ?_
    rintro e w2 ⟨rfl, hb2⟩
    go_wp2
    go_ret
    exact ⟨ret_int HV.out, hb2⟩
  | false =>
    have HV := Lib.hid (show -1 = rotV n b k by rw [rotV, if_neg (by rw [hok]; simp)])
    go_enter Try.func26, Try.ntmps26
    go_wp2_with fail
    refine (isRotated _ _ _ _).mono ?_
    rintro e w1 ⟨rfl, rfl⟩
    go_wp2
    go_ret
    exact ⟨ret_int HV.out, Below.refl _ _⟩
end Go.Proofs.Ytnjifahnfmifgaa
