/-
  Contracts of powers of digits, of prime powers in factorials, of what is left of binomial coefficients.
  Conditions: none, or the ranges that a contract names.
-/
import Derived.Test.YtnjifahnfmifgaaDig1
import Derived.Test.YtnjifahnfmifgaaSlicesD
namespace Go.Proofs.Ytnjifahnfmifgaa
open Go.RowKit
theorem pow5 {d : Int} {e : Nat} (h0 : 0 ≤ d) (h1 : d ≤ 15) (he : e ≤ 5) : 0 ≤ d ^ e ∧ d ^ e ≤ 759375 := by
  have a := Pl.pow_mono h0 h1 e
  have b : (15 : Int) ^ e ≤ 15 ^ 5 := Pl.pow_up (by omega) he
  have c : (15 : Int) ^ 5 = 759375 := by decide
  exact ⟨Int.pow_nonneg h0, by omega⟩
theorem pow5' {d : Int} {n : Nat} (h0 : 0 ≤ d) (h1 : d ≤ 15) (hn : n ≤ 5) : ∀ k, k ≤ n → d ^ k ≤ 1000000000000000000 := fun k hk => by
  have := pow5 (e := k) h0 h1 (by omega); omega
def okNB (n b : Int) : Bool := inB b 2 16 && inB n 0 1000000000000
def psV (n b e : Int) : Int := if inB b 2 16 && inB n 0 1000000000000 && inB e 1 5 then Pl.ps e.toNat (Pl.dg b n) else -1
def cdV (n b : Int) : Int := if inB b 2 16 && inB n 0 1000000000000 then ((Pl.dg b n).length : Int) else -1
theorem iCountDigits (n b : Int) (w : World) : Calls Try.prog 34 #[.int .i64 n, .int .i64 b] w fun e w' => e = .returned (.int .i64 (cdV n b)) ∧ Below w.heap.size w w' := by
  rcases inB_cases b 2 16 with h | h <;> rcases inB_cases n 0 1000000000000 with h' | h'
  case inl.inl =>
    have HV := Lib.hid (show cdV n b = ((Pl.dg b n).length : Int) by simp [cdV, h, h'])
    have ⟨b1, b2⟩ := inB_t h
    have ⟨n1, n2⟩ := inB_t h'
    go_enter Try.func34, Try.ntmps34
    go_wp2_with (first | (go_at_call 49; refine (iBaseOk_any _ _).mono ?_; rintro e w' ⟨rfl, rfl⟩) | (go_at_call 50; refine (isNumber_any _ _).mono ?_; rintro e w' ⟨rfl, rfl⟩))
    refine (digitsOf _ _ _ b1 b2 n1 n2).mono ?_
    rintro e w1 ⟨v, rfl, hown, hb1⟩
    obtain ⟨ao, cap, rfl, hrd⟩ := hown.shape
    clear hrd hown
    go_wp2
    go_ret
    exact ⟨ret_int HV.out.symm, hb1⟩
  all_goals
    have HV := Lib.hid (show -1 = cdV n b by simp [cdV, h, h'])
    go_enter Try.func34, Try.ntmps34
    go_wp2_with (first | (go_at_call 49; refine (iBaseOk_any _ _).mono ?_; rintro e w' ⟨rfl, rfl⟩) | (go_at_call 50; refine (isNumber_any _ _).mono ?_; rintro e w' ⟨rfl, rfl⟩))
    go_ret
    exact ⟨ret_int HV.out, Below.refl _ _⟩
def narV (n b : Int) : Bool := inB (cdV n b) 1 5 && Pl.ps (cdV n b).toNat (Pl.dg b n) == n
end Go.Proofs.Ytnjifahnfmifgaa
