/-
  Contracts of counted carries, of counted palindromes, of the inverse of a base, of powers of a prime in a binomial coefficient.
  Conditions: none.
-/
import Derived.Test.YtnjifahnfmifgaaArith
namespace Go.Proofs.Ytnjifahnfmifgaa
open Go.RowKit
def ccV (a c b : Int) : Int := if inB a 0 1000000000000 && inB c 0 1000000000000 && inB b 2 16 then Pl.cr b a c 0 else -1
def tfV (m b : Int) : Int := if inB b 2 16 && inB m 2 1000 then Pl.invV b m else -1
theorem iTrimFactor (m b : Int) (w : World) : Calls Try.prog 15 #[.int .i64 m, .int .i64 b] w fun e w' => e = .returned (.int .i64 (tfV m b)) ∧ Below w.heap.size w w' := by
  rcases inB_cases b 2 16 with h | h <;> rcases inB_cases m 2 1000 with h' | h'
  case inl.inl =>
    have HV := Lib.hid (show tfV m b = Pl.invV b m by simp [tfV, h, h'])
    have ⟨b1, b2⟩ := inB_t h
    have ⟨m1, m2⟩ := inB_t h'
    go_enter Try.func15, Try.ntmps15
    go_wp2_with (first | (go_at_call 47; refine (isRuled_any _ _ _).mono ?_; rintro e w' ⟨rfl, rfl⟩))
    refine (iinv _ _ _ (by omega) (by omega) (by omega) (by omega)).mono ?_
    rintro e w1 ⟨rfl, hb1⟩
    go_wp2
    go_ret
    exact ⟨ret_int HV.out.symm, hb1⟩
  all_goals
    have HV := Lib.hid (show -1 = tfV m b by simp [tfV, h, h'])
    go_enter Try.func15, Try.ntmps15
    go_wp2_with (first | (go_at_call 47; refine (isRuled_any _ _ _).mono ?_; rintro e w' ⟨rfl, rfl⟩))
    go_ret
    exact ⟨ret_int HV.out, Below.refl _ _⟩
def cpZ (k b : Int) : Int := if k = 0 then 1 else (b - 1) * b ^ ((k - 1) / 2).toNat
def cpV (k b : Int) : Int := if inB b 2 16 && inB k 0 9 then cpZ k b else -1
theorem cp_bd {k b : Int} (b1 : 2 ≤ b) (b2 : b ≤ 16) (k1 : 1 ≤ k) (k2 : k ≤ 9) : 0 ≤ (b - 1) * b ^ ((k - 1) / 2).toNat ∧ (b - 1) * b ^ ((k - 1) / 2).toNat ≤ 1100000000000 ∧ 1 ≤ b ^ ((k - 1) / 2).toNat ∧ b ^ ((k - 1) / 2).toNat ≤ 68719476736 := by
  have h1 := Pl.pow16 (show 0 ≤ b by omega) b2 (k := ((k - 1) / 2).toNat) (by omega)
  have h2 := Pl.pow_pos (show 0 < b by omega) ((k - 1) / 2).toNat
  generalize b ^ ((k - 1) / 2).toNat = x at *
  have h3 : (b - 1) * x ≤ 15 * 68719476736 := Int.mul_le_mul (by omega) h1 (by omega) (by omega)
  have h4 : 0 ≤ (b - 1) * x := Int.mul_nonneg (by omega) (by omega)
  omega
end Go.Proofs.Ytnjifahnfmifgaa
