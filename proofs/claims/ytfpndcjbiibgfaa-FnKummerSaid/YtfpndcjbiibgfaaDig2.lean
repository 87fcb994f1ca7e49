/-
  Contracts of powers of digits, of prime powers in factorials, of what is left of binomial coefficients.
  Conditions: none, or the ranges that a contract names.
-/
import Derived.Test.YtfpndcjbiibgfaaDig1
import Derived.Test.YtfpndcjbiibgfaaSlicesD
namespace Go.Proofs.Ytfpndcjbiibgfaa
open Go.RowKit
theorem pow5 {d : Int} {e : Nat} (h0 : 0 ≤ d) (h1 : d ≤ 15) (he : e ≤ 5) : 0 ≤ d ^ e ∧ d ^ e ≤ 759375 := by
  have a := Pl.pow_mono h0 h1 e
  have b : (15 : Int) ^ e ≤ 15 ^ 5 := Pl.pow_up (by omega) he
  have c : (15 : Int) ^ 5 = 759375 := by decide
  exact ⟨Int.pow_nonneg h0, by omega⟩
theorem pow5' {d : Int} {n : Nat} (h0 : 0 ≤ d) (h1 : d ≤ 15) (hn : n ≤ 5) : ∀ k, k ≤ n → d ^ k ≤ 1000000000000000000 := fun k hk => by
  have := pow5 (e := k) h0 h1 (by omega); omega
def okNB (n b : Int) : Bool := inB b 2 16 && inB n 0 1000000000000
def psV (n b e : Int) : Int := if inB b 2 16 && inB n 0 1000000000000 && inB e 1 5 then Pl.ps e.toNat (Pl.dg b n) else -1
def cdV (n b : Int) : Int := if inB b 2 16 && inB n 0 1000000000000 then ((Pl.dg b n).length : Int) else -1
theorem iCountDigits (n b : Int) (w : World) : Calls Try.prog 44 #[.int .i64 n, .int .i64 b] w fun e w' => e = .returned (.int .i64 (cdV n b)) ∧ Below w.heap.size w w' := by
  rcases inB_cases b 2 16 with h | h <;> rcases inB_cases n 0 1000000000000 with h' | h'
  case inl.inl =>
    have HV := Lib.hid (show cdV n b = ((Pl.dg b n).length : Int) by simp [cdV, h, h'])
    have ⟨b1, b2⟩ := inB_t h
    have ⟨n1, n2⟩ := inB_t h'
    go_enter Try.func44, Try.ntmps44
    go_wp2_with (first | (go_at_call 62; refine (iBaseOk_any _ _).mono ?_; rintro e w' ⟨rfl, rfl⟩) | (go_at_call 61; refine (isNumber_any _ _).mono ?_; rintro e w' ⟨rfl, rfl⟩))
    refine (digitsOf _ _ _ b1 b2 n1 n2).mono ?_
    rintro e w1 ⟨v, rfl, hown, hb1⟩
    obtain ⟨ao, cap, rfl, hrd⟩ := hown.shape
    clear hrd hown
    go_wp2
    go_ret
    exact ⟨ret_int HV.out.symm, hb1⟩
  all_goals
    have HV := Lib.hid (show -1 = cdV n b by simp [cdV, h, h'])
    go_enter Try.func44, Try.ntmps44
    go_wp2_with (first | (go_at_call 62; refine (iBaseOk_any _ _).mono ?_; rintro e w' ⟨rfl, rfl⟩) | (go_at_call 61; refine (isNumber_any _ _).mono ?_; rintro e w' ⟨rfl, rfl⟩))
    go_ret
    exact ⟨ret_int HV.out, Below.refl _ _⟩
def narV (n b : Int) : Bool := inB (cdV n b) 1 5 && Pl.ps (cdV n b).toNat (Pl.dg b n) == n
def facV (n p : Int) : Int := if primeB p && inB n 0 1000000000000 then Pl.leg p n else -1
theorem prime_bd {p : Int} (h : primeB p = true) : 2 ≤ p ∧ p ≤ 13 := by rcases prime_cases h with rfl | rfl | rfl | rfl | rfl | rfl <;> omega
theorem leg_bd {p n : Int} (hp : 2 ≤ p) (hn : 0 ≤ n) : 0 ≤ Pl.leg p n ∧ Pl.leg p n ≤ n := by
  have h1 := Pl.leg_mul hp hn
  have h2 := Pl.sm_dg_le hp hn
  have h3 : 0 ≤ Pl.leg p n := by
    rcases Int.lt_or_le (Pl.leg p n) 0 with h | h
    · have : Pl.leg p n * (p - 1) < 0 := Int.mul_neg_of_neg_of_pos h (by omega)
      omega
    · exact h
  have h4 : Pl.leg p n * 1 ≤ Pl.leg p n * (p - 1) := Int.mul_le_mul_of_nonneg_left (by omega) h3
  omega
theorem iFacPow (n p : Int) (w : World) : Calls Try.prog 15 #[.int .i64 n, .int .i64 p] w fun e w' => e = .returned (.int .i64 (facV n p)) ∧ Below w.heap.size w w' := by
  rcases primeB_cases p with h | h <;> rcases inB_cases n 0 1000000000000 with h' | h'
  case inl.inl =>
    have ⟨p1, p2⟩ := prime_bd h
    have ⟨n1, n2⟩ := inB_t h'
    have HV := Lib.hid (show facV n p = (n - Pl.sm (Pl.dg p n)) / (p - 1) by simp [facV, h, h', Pl.leg_div p1 n1])
    have ⟨s1, s2⟩ := Pl.sm_dg_le p1 n1
    go_enter Try.func15, Try.ntmps15
    go_wp2_with fail
    refine (isSmallPrime _ _).mono ?_
    rintro e w1 ⟨rfl, hb1⟩
    go_wp2_with (first | (go_at_call 61; refine (isNumber_any _ _).mono ?_; rintro e w' ⟨rfl, rfl⟩))
    refine (digitSum _ _ _ (inB_mk p1 (by omega)) h').mono ?_
    rintro e w2 ⟨rfl, hb2⟩
    have HB := Lib.hid (hb1.trans (hb2.mono hb1.size))
    generalize Pl.sm (Pl.dg p n) = s at *
    go_wp2
    go_ret
    exact ⟨ret_int HV.out.symm, HB.out⟩
  all_goals
    have HV := Lib.hid (show -1 = facV n p by simp [facV, h, h'])
    go_enter Try.func15, Try.ntmps15
    go_wp2_with fail
    refine (isSmallPrime _ _).mono ?_
    rintro e w1 ⟨rfl, hb1⟩
    go_wp2_with (first | (go_at_call 61; refine (isNumber_any _ _).mono ?_; rintro e w' ⟨rfl, rfl⟩))
    go_ret
    exact ⟨ret_int HV.out, hb1⟩
def crV (n p : Int) : Int := if primeB p && inB n 0 1000000 then Pl.pd (Pl.dg p n) else -1
theorem iCountRest (n p : Int) (w : World) : Calls Try.prog 19 #[.int .i64 n, .int .i64 p] w fun e w' => e = .returned (.int .i64 (crV n p)) ∧ Below w.heap.size w w' := by
  rcases primeB_cases p with h | h <;> rcases inB_cases n 0 1000000 with h' | h'
  case inl.inl =>
    have ⟨p1, p2⟩ := prime_bd h
    have ⟨n1, n2⟩ := inB_t h'
    have HV := Lib.hid (show crV n p = Pl.pd (Pl.dg p n) by simp [crV, h, h'])
    have HM := Lib.hid (Pl.dg_mem p1 n1)
    have ⟨z1, z2⟩ := Pl.pd_dg p1 p2 n1 n2
    have hlen := Pl.dg_len40 p1 n1 (show n ≤ 1000000000000 by omega)
    go_enter Try.func19, Try.ntmps19
    go_wp2_with fail
    refine (isSmallPrime _ _).mono ?_
    rintro e w1 ⟨rfl, hb1⟩
    go_wp2_with (first | (go_at_call 65; refine (within_any _ _ _ _).mono ?_; rintro e w' ⟨rfl, rfl⟩))
    refine (digitsOf _ _ _ p1 (by omega) n1 (by omega)).mono ?_
    rintro e w2 ⟨v, rfl, hown, hb2⟩
    obtain ⟨ao, cap, rfl, hrd⟩ := hown.shape
    have HR := Lib.hid hrd
    have HB := Lib.hid (hb1.trans (hb2.mono hb1.size))
    clear hrd hown
    generalize Pl.dg p n = l at *
    go_wp2_with fail
    go_loop [5, 20] (fun vt vi => ∃ (k : Nat) (t : Int), k ≤ l.length ∧ vi = .int .i64 k ∧ vt = .int .i64 t ∧ 1 ≤ t ∧ Hid (t * Pl.pd (l.drop k) = Pl.pd l)) (fun _ vi => l.length - (intOf vi).toNat)
    case atStart => exact ⟨0, 1, Nat.zero_le _, rfl, rfl, by omega, (by show (1 : Int) * _ = _; simp)⟩
    case round =>
      obtain ⟨k, t, hk, rfl, rfl, t0, hg⟩ := hrel
      by_cases hlt : k < l.length
      · obtain ⟨bl, off, rfl, _, hc⟩ := HR.out.at hlt
        have ⟨d0, d1⟩ := HM.out _ (Pl.getD_mem hlt)
        have HS := Lib.hid (Pl.pd_drop_step hlt)
        have hq := Pl.pd_pos (l.drop (k + 1)) (fun d hd => (HM.out d (List.mem_of_mem_drop hd)).1)
        generalize l.getD k 0 = d at *
        have HG := Lib.hid (show t * (d + 1) * Pl.pd (l.drop (k + 1)) = Pl.pd l by rw [Int.mul_assoc, ← HS.out]; exact hg.out)
        have u1 : 1 * 1 ≤ t * (d + 1) := Int.mul_le_mul t0 (by omega) (by omega) (by omega)
        have u2 : t * (d + 1) ≤ 13000000 := by
          have h1 : t * (d + 1) * 1 ≤ t * (d + 1) * Pl.pd (l.drop (k + 1)) := Int.mul_le_mul_of_nonneg_left hq (by omega)
          have := HG.out
          omega
        clear hq
        go_wp2
        go_round
        case rel => exact ⟨k + 1, t * (d + 1), by omega, by go_num, rfl, by omega, HG.out⟩
        case measure => simp [intOf]; omega
      · have HE := Lib.hid (Pl.drop_all (l := l) (k := k) (by omega))
        go_wp2
        go_ret
        exact ⟨ret_int (by have h2 := hg.out; rw [HE.out] at h2; simp [Pl.pd] at h2; rw [HV.out, h2]), HB.out⟩
  all_goals
    have HV := Lib.hid (show -1 = crV n p by simp [crV, h, h'])
    go_enter Try.func19, Try.ntmps19
    go_wp2_with fail
    refine (isSmallPrime _ _).mono ?_
    rintro e w1 ⟨rfl, hb1⟩
    go_wp2_with (first | (go_at_call 65; refine (within_any _ _ _ _).mono ?_; rintro e w' ⟨rfl, rfl⟩))
    go_ret
    exact ⟨ret_int HV.out, by first | exact Below.refl _ _ | assumption⟩
end Go.Proofs.Ytfpndcjbiibgfaa
