/-
  Contracts of counted carries, of counted palindromes, of the inverse of a base, of powers of a prime in a binomial coefficient.
  Conditions: none.
-/
import Derived.Test.YtioclijkglhigaaArith
import Derived.Test.YtioclijkglhigaaSlicesD
namespace Go.Proofs.Ytioclijkglhigaa
open Go.RowKit
def ccV (a c b : Int) : Int := if inB a 0 1000000000000 && inB c 0 1000000000000 && inB b 2 16 then Pl.cr b a c 0 else -1
theorem iCountCarries (a c b : Int) (w : World) : Calls Try.prog 55 #[.int .i64 a, .int .i64 c, .int .i64 b] w fun e w' => e = .returned (.int .i64 (ccV a c b)) ∧ Below w.heap.size w w' := by
  rcases inB_cases a 0 1000000000000 with h | h <;> rcases inB_cases c 0 1000000000000 with h' | h' <;> rcases inB_cases b 2 16 with h'' | h''
  case inl.inl.inl =>
    have HV := Lib.hid (show ccV a c b = Pl.cr b a c 0 by simp [ccV, h, h', h''])
    have ⟨a1, a2⟩ := inB_t h
    have ⟨c1, c2⟩ := inB_t h'
    go_enter Try.func55, Try.ntmps55
    go_wp2_with (first | (go_at_call 65; refine (isNumber_any _ _).mono ?_; rintro e w' ⟨rfl, rfl⟩) | (go_at_call 79; refine (iBaseOk_any _ _).mono ?_; rintro e w' ⟨rfl, rfl⟩))
    refine (icarr _ _ _ _ h'' a1 c1 a2 c2).mono ?_
    rintro e w1 ⟨rfl, hb1⟩
    go_wp2
    go_ret
    exact ⟨ret_int HV.out.symm, hb1⟩
  all_goals
    have HV := Lib.hid (show -1 = ccV a c b by simp [ccV, h, h', h''])
    go_enter Try.func55, Try.ntmps55
    go_wp2_with (first | (go_at_call 65; refine (isNumber_any _ _).mono ?_; rintro e w' ⟨rfl, rfl⟩) | (go_at_call 79; refine (iBaseOk_any _ _).mono ?_; rintro e w' ⟨rfl, rfl⟩))
    go_ret
    exact ⟨ret_int HV.out, Below.refl _ _⟩
def tfV (m b : Int) : Int := if inB b 2 16 && inB m 2 1000 then Pl.invV b m else -1
theorem invV_mod (b m : Int) : Pl.invV (b % m) m = Pl.invV b m := by rw [Pl.invV, Pl.invV, Int.emod_emod_of_dvd b (Int.dvd_refl m)]
theorem sTrimFactor (m b : Int) (w : World) : Calls Try.prog 62 #[.int .i64 m, .int .i64 b] w fun e w' => e = .returned (.int .i64 (tfV m b)) ∧ Below w.heap.size w w' := by
  rcases inB_cases b 2 16 with h | h <;> rcases inB_cases m 2 1000 with h' | h'
  case inl.inl =>
    have HV := Lib.hid (show tfV m b = Pl.invV b m by simp [tfV, h, h'])
    have ⟨b1, b2⟩ := inB_t h
    have ⟨m1, m2⟩ := inB_t h'
    have q0 := Pl.mod_nn (a := b) (show 0 < m by omega)
    have q1 := Pl.mod_le (a := b) (b := m) (by omega) (by omega)
    go_enter Try.func62, Try.ntmps62
    go_wp2_with (first | (go_at_call 56; refine (l24Ok_any _ _ _).mono ?_; rintro e w' ⟨rfl, rfl⟩))
    refine (sinv _ _ _ (by omega) (by omega) (by omega) (by omega)).mono ?_
    rintro e w1 ⟨rfl, hb1⟩
    go_wp2
    go_ret
    exact ⟨ret_int (HV.out.trans (invV_mod b m).symm).symm, hb1⟩
  all_goals
    have HV := Lib.hid (show -1 = tfV m b by simp [tfV, h, h'])
    go_enter Try.func62, Try.ntmps62
    go_wp2_with (first | (go_at_call 56; refine (l24Ok_any _ _ _).mono ?_; rintro e w' ⟨rfl, rfl⟩))
    go_ret
    exact ⟨ret_int HV.out, Below.refl _ _⟩
theorem iTrimFactor (m b : Int) (w : World) : Calls Try.prog 64 #[.int .i64 m, .int .i64 b] w fun e w' => e = .returned (.int .i64 (tfV m b)) ∧ Below w.heap.size w w' := by
  rcases inB_cases b 2 16 with h | h <;> rcases inB_cases m 2 1000 with h' | h'
  case inl.inl =>
    have HV := Lib.hid (show tfV m b = Pl.invV b m by simp [tfV, h, h'])
    have ⟨b1, b2⟩ := inB_t h
    have ⟨m1, m2⟩ := inB_t h'
    go_enter Try.func64, Try.ntmps64
    go_wp2_with (first | (go_at_call 59; refine (isRuled_any _ _ _).mono ?_; rintro e w' ⟨rfl, rfl⟩))
    refine (iinv _ _ _ (by omega) (by omega) (by omega) (by omega)).mono ?_
    rintro e w1 ⟨rfl, hb1⟩
    go_wp2
    go_ret
    exact ⟨ret_int HV.out.symm, hb1⟩
  all_goals
    have HV := Lib.hid (show -1 = tfV m b by simp [tfV, h, h'])
    go_enter Try.func64, Try.ntmps64
    go_wp2_with (first | (go_at_call 59; refine (isRuled_any _ _ _).mono ?_; rintro e w' ⟨rfl, rfl⟩))
    go_ret
    exact ⟨ret_int HV.out, Below.refl _ _⟩
def cpZ (k b : Int) : Int := if k = 0 then 1 else (b - 1) * b ^ ((k - 1) / 2).toNat
def cpV (k b : Int) : Int := if inB b 2 16 && inB k 0 9 then cpZ k b else -1
theorem cp_bd {k b : Int} (b1 : 2 ≤ b) (b2 : b ≤ 16) (k1 : 1 ≤ k) (k2 : k ≤ 9) : 0 ≤ (b - 1) * b ^ ((k - 1) / 2).toNat ∧ (b - 1) * b ^ ((k - 1) / 2).toNat ≤ 1100000000000 ∧ 1 ≤ b ^ ((k - 1) / 2).toNat ∧ b ^ ((k - 1) / 2).toNat ≤ 68719476736 := by
  have h1 := Pl.pow16 (show 0 ≤ b by omega) b2 (k := ((k - 1) / 2).toNat) (by omega)
  have h2 := Pl.pow_pos (show 0 < b by omega) ((k - 1) / 2).toNat
  generalize b ^ ((k - 1) / 2).toNat = x at *
  have h3 : (b - 1) * x ≤ 15 * 68719476736 := Int.mul_le_mul (by omega) h1 (by omega) (by omega)
  have h4 : 0 ≤ (b - 1) * x := Int.mul_nonneg (by omega) (by omega)
  omega
theorem sCountPal (k b : Int) (w : World) : Calls Try.prog 85 #[.int .i64 k, .int .i64 b] w fun e w' => e = .returned (.int .i64 (cpV k b)) ∧ w = w' := by
  rcases inB_cases b 2 16 with h | h <;> rcases inB_cases k 0 9 with h' | h'
  case inl.inl =>
    have ⟨b1, b2⟩ := inB_t h
    have ⟨k1, k2⟩ := inB_t h'
    by_cases hk : k = 0
    · subst hk
      have HV := Lib.hid (show 1 = cpV 0 b by simp [cpV, cpZ, h, h'])
      go_enter Try.func85, Try.ntmps85
      go_wp2_with (first | (go_at_call 76; refine (sBaseOk_any _ _).mono ?_; rintro e w' ⟨rfl, rfl⟩) | (go_at_call 63; refine (l01In_any _ _ _ _).mono ?_; rintro e w' ⟨rfl, rfl⟩))
      go_ret
      exact ⟨ret_int HV.out, rfl⟩
    · have HV := Lib.hid (show (b - 1) * b ^ ((k - 1) / 2).toNat = cpV k b by simp [cpV, cpZ, h, h', hk])
      have hk' := beq_eq_false_iff_ne.2 hk
      obtain ⟨c1, c2, c3, c4⟩ := cp_bd b1 b2 (show 1 ≤ k by omega) k2
      have k1' : 1 ≤ k := by omega
      have HP := Lib.hid (Pl.pow16' (show 0 ≤ b by omega) b2 (n := ((k - 1) / 2).toNat) (by omega))
      clear hk
      go_enter Try.func85, Try.ntmps85
      go_wp2_with (first | (go_at_call 76; refine (sBaseOk_any _ _).mono ?_; rintro e w' ⟨rfl, rfl⟩) | (go_at_call 63; refine (l01In_any _ _ _ _).mono ?_; rintro e w' ⟨rfl, rfl⟩))
      refine (spowerZ _ _ _ (by omega) (by omega) (by omega) HP.out).mono ?_
      rintro e w' ⟨rfl, rfl⟩
      generalize b ^ ((k - 1) / 2).toNat = x at *
      go_wp2
      go_ret
      exact ⟨ret_int HV.out, rfl⟩
  all_goals
    have HV := Lib.hid (show -1 = cpV k b by simp [cpV, h, h'])
    go_enter Try.func85, Try.ntmps85
    go_wp2_with (first | (go_at_call 76; refine (sBaseOk_any _ _).mono ?_; rintro e w' ⟨rfl, rfl⟩) | (go_at_call 63; refine (l01In_any _ _ _ _).mono ?_; rintro e w' ⟨rfl, rfl⟩))
    go_ret
    exact ⟨ret_int HV.out, rfl⟩
theorem leastHalf (k b : Int) (w : World) (b1 : 2 ≤ b) (b2 : b ≤ 16) (k1 : 1 ≤ k) (k2 : k ≤ 31) (hp : b ^ ((k - 1) / 2).toNat ≤ 1000000000000000) : Calls Try.prog 89 #[.int .i64 k, .int .i64 b] w fun e w' => e = .returned (.int .i64 (b ^ ((k - 1) / 2).toNat)) ∧ w = w' := by
  have e : ((k + 1) / 2 - 1).toNat = ((k - 1) / 2).toNat := by omega
  have HE := Lib.hid e
  have HP := Lib.hid (show ∀ j, j ≤ ((k - 1) / 2).toNat → b ^ j ≤ 1000000000000000000 from fun j hj => by have := Pl.pow_up (show 1 ≤ b by omega) hj; omega)
  clear e hp
  go_enter Try.func89, Try.ntmps89
  go_wp2_with fail
  refine (ipowerZ _ _ _ (by omega) (by omega) (by omega) (by rw [HE.out]; exact HP.out)).mono ?_
  rw [HE.out]
  rintro e w' ⟨rfl, rfl⟩
  go_wp2
  go_ret
  exact ⟨rfl, rfl⟩
theorem icountPal (k b : Int) (w : World) (b1 : 2 ≤ b) (b2 : b ≤ 16) (k1 : 0 ≤ k) (k2 : k ≤ 31) (hp : b ^ ((k - 1) / 2).toNat ≤ 1000000000000000) : Calls Try.prog 92 #[.int .i64 k, .int .i64 b] w fun e w' => e = .returned (.int .i64 (cpZ k b)) ∧ w = w' := by
  by_cases hk : k = 0
  · subst hk
    have HV := Lib.hid (show 1 = cpZ 0 b by simp [cpZ])
    clear hp
    go_enter Try.func92, Try.ntmps92
    go_wp2_with fail
    go_ret
    exact ⟨ret_int HV.out, rfl⟩
  · have HV := Lib.hid (show (b - 1) * b ^ ((k - 1) / 2).toNat = cpZ k b by simp [cpZ, hk])
    have hk' := beq_eq_false_iff_ne.2 hk
    have h2 := Pl.pow_pos (show 0 < b by omega) ((k - 1) / 2).toNat
    have c1 : (b - 1) * b ^ ((k - 1) / 2).toNat ≤ 15 * 1000000000000000 := Int.mul_le_mul (by omega) hp (by omega) (by omega)
    have c2 : 0 ≤ (b - 1) * b ^ ((k - 1) / 2).toNat := Int.mul_nonneg (by omega) (by omega)
    go_enter Try.func92, Try.ntmps92
    go_wp2_with fail
    refine (leastHalf _ _ _ b1 b2 (by omega) k2 hp).mono ?_
    rintro e w' ⟨rfl, rfl⟩
    generalize b ^ ((k - 1) / 2).toNat = x at *
    go_wp2
    go_ret
    exact ⟨ret_int HV.out, rfl⟩
theorem iCountPal (k b : Int) (w : World) : Calls Try.prog 44 #[.int .i64 k, .int .i64 b] w fun e w' => e = .returned (.int .i64 (cpV k b)) ∧ w = w' := by
  rcases inB_cases b 2 16 with h | h <;> rcases inB_cases k 0 9 with h' | h'
  case inl.inl =>
    have ⟨b1, b2⟩ := inB_t h
    have ⟨k1, k2⟩ := inB_t h'
    have HV := Lib.hid (show cpZ k b = cpV k b by simp [cpV, h, h'])
    have HP := Lib.hid (show b ^ ((k - 1) / 2).toNat ≤ 1000000000000000 by have := Pl.pow16 (show 0 ≤ b by omega) b2 (k := ((k - 1) / 2).toNat) (by omega); omega)
    go_enter Try.func44, Try.ntmps44
    go_wp2_with (first | (go_at_call 79; refine (iBaseOk_any _ _).mono ?_; rintro e w' ⟨rfl, rfl⟩) | (go_at_call 72; refine (within_any _ _ _ _).mono ?_; rintro e w' ⟨rfl, rfl⟩))
    refine (icountPal _ _ _ b1 b2 k1 (by omega) HP.out).mono ?_
    rintro e w' ⟨rfl, rfl⟩
    go_wp2
    go_ret
    exact ⟨ret_int HV.out, rfl⟩
  all_goals
    have HV := Lib.hid (show -1 = cpV k b by simp [cpV, h, h'])
    go_enter Try.func44, Try.ntmps44
    go_wp2_with (first | (go_at_call 79; refine (iBaseOk_any _ _).mono ?_; rintro e w' ⟨rfl, rfl⟩) | (go_at_call 72; refine (within_any _ _ _ _).mono ?_; rintro e w' ⟨rfl, rfl⟩))
    go_ret
    exact ⟨ret_int HV.out, rfl⟩
theorem l20Ok_any (n k p : Int) (w : World) : Calls Try.prog 81 #[.int .i64 n, .int .i64 k, .int .i64 p] w fun e w' => e = .returned (.bool (primeB p && decide (0 ≤ k ∧ k ≤ n ∧ n ≤ 1000000000000))) ∧ w = w' := by
  have HV := Lib.hid (show (primeB p && decide (0 ≤ k ∧ k ≤ n ∧ n ≤ 1000000000000)) = (primeB p && inB n 0 1000000000000 && inB k 0 n) by
    rw [Bool.and_assoc]; congr 1
    rw [Bool.eq_iff_iff, Bool.and_eq_true, decide_eq_true_eq]
    constructor
    · rintro ⟨a, b, c⟩; exact ⟨inB_mk (by omega) c, inB_mk a b⟩
    · rintro ⟨a, b⟩; have := inB_t a; have := inB_t b; omega)
  generalize (primeB p && decide (0 ≤ k ∧ k ≤ n ∧ n ≤ 1000000000000)) = r at *
  rcases primeB_cases p with h | h <;> rcases inB_cases n 0 1000000000000 with h' | h' <;> rcases inB_cases k 0 n with h'' | h''
  all_goals
    have HW := Lib.hid (HV.out.trans (by rw [h, h', h'']))
    go_enter Try.func81, Try.ntmps81
    go_wp2_with (first | (go_at_call 116; refine (l15Prime _ _).mono ?_; rintro e w' ⟨rfl, rfl⟩) | (go_at_call 63; refine (l01In_any _ _ _ _).mono ?_; rintro e w' ⟨rfl, rfl⟩))
    go_ret
    exact ⟨ret_bool HW.out.symm, rfl⟩
end Go.Proofs.Ytioclijkglhigaa
