/-
  Contracts of powers of digits, of prime powers in factorials, of what is left of binomial coefficients.
  Conditions: none, or the ranges that a contract names.
-/
import Derived.Test.YtidjnbnhkgobnaaDig1
import Derived.Test.YtidjnbnhkgobnaaSlicesD
namespace Go.Proofs.Ytidjnbnhkgobnaa
open Go.RowKit
theorem pow5 {d : Int} {e : Nat} (h0 : 0 ≤ d) (h1 : d ≤ 15) (he : e ≤ 5) : 0 ≤ d ^ e ∧ d ^ e ≤ 759375 := by
  have a := Pl.pow_mono h0 h1 e
  have b : (15 : Int) ^ e ≤ 15 ^ 5 := Pl.pow_up (by omega) he
  have c : (15 : Int) ^ 5 = 759375 := by decide
  exact ⟨Int.pow_nonneg h0, by omega⟩
theorem pow5' {d : Int} {n : Nat} (h0 : 0 ≤ d) (h1 : d ≤ 15) (hn : n ≤ 5) : ∀ k, k ≤ n → d ^ k ≤ 1000000000000000000 := fun k hk => by
  have := pow5 (e := k) h0 h1 (by omega); omega
theorem l22Sum (n b : Int) (e : Nat) (w : World) (b1 : 2 ≤ b) (b2 : b ≤ 16) (n1 : 0 ≤ n) (n2 : n ≤ 1000000000000) (he : e ≤ 5) :
    Calls Try.prog 74 #[.int .i64 n, .int .i64 b, .int .i64 e] w fun e' w' => e' = .returned (.int .i64 (Pl.ps e (Pl.dg b n))) ∧ Below w.heap.size w w' := by
  have hm := Lib.hid (dg_mem16 b1 b2 n1)
  have hlen := Pl.dg_len40 b1 n1 n2
  go_enter Try.func74, Try.ntmps74
  go_wp2_with fail
  refine (l02Digits _ _ _ b1 b2 n1 n2).mono ?_
  rintro e' w1 ⟨v, rfl, hown, hb1⟩
  obtain ⟨ao, cap, rfl, hrd⟩ := hown.shape
  have HR := Lib.hid hrd
  clear hrd hown
  generalize hl : Pl.dg b n = l at *
  have HL := Lib.hid hl
  clear hl
  go_wp2_with fail
  go_loop [7, 14] (fun vt vi => ∃ (k : Nat) (t : Int), k ≤ l.length ∧ vi = .int .i64 k ∧ vt = .int .i64 t ∧ 0 ≤ t ∧ t ≤ (k : Int) * 759375 ∧ Hid (t + Pl.ps e (l.drop k) = Pl.ps e l)) (fun _ vi => l.length - (intOf vi).toNat)
  case atStart => exact ⟨0, 0, Nat.zero_le _, rfl, rfl, by omega, by omega, (by show (0 : Int) + _ = _; simp)⟩
  case round =>
    obtain ⟨k, t, hk, rfl, rfl, t0, t1, hg⟩ := hrel
    by_cases hlt : k < l.length
    · obtain ⟨bl, off, rfl, _, hc⟩ := HR.out.at hlt
      have ⟨d0, d1⟩ := hm.out _ (Pl.getD_mem hlt)
      have HS := Lib.hid (Pl.ps_drop_step e hlt)
      generalize l.getD k 0 = d at *
      have ⟨p0, p1⟩ := pow5 d0 d1 he
      have HP := Lib.hid (pow5' d0 d1 he)
      go_wp2_with fail
      refine (spower _ _ _ d0 (by omega) HP.out).mono ?_
      rintro e' w2 ⟨rfl, rfl⟩
      generalize d ^ e = x at *
      go_wp2
      go_round
      case rel => exact ⟨k + 1, t + x, by omega, by go_num, rfl, by omega, by omega, (by have h1 := HS.out; have h2 := hg.out; show t + x + Pl.ps e (l.drop (k + 1)) = Pl.ps e l; omega)⟩
      case measure => simp [intOf]; omega
    · have HE := Lib.hid (Pl.drop_all (l := l) (k := k) (by omega))
      go_wp2
      go_ret
      exact ⟨ret_int (by have h2 := hg.out; rw [HE.out] at h2; simp [Pl.ps] at h2; rw [HL.out]; exact h2), hb1⟩
theorem powerSum (n b : Int) (e : Nat) (w : World) (b1 : 2 ≤ b) (b2 : b ≤ 16) (n1 : 0 ≤ n) (n2 : n ≤ 1000000000000) (he : e ≤ 5) :
    Calls Try.prog 40 #[.int .i64 n, .int .i64 b, .int .i64 e] w fun e' w' => e' = .returned (.int .i64 (Pl.ps e (Pl.dg b n))) ∧ Below w.heap.size w w' := by
  have hm := Lib.hid (dg_mem16 b1 b2 n1)
  have hlen := Pl.dg_len40 b1 n1 n2
  go_enter Try.func40, Try.ntmps40
  go_wp2_with fail
  refine (digitsOf _ _ _ b1 b2 n1 n2).mono ?_
  rintro e' w1 ⟨v, rfl, hown, hb1⟩
  obtain ⟨ao, cap, rfl, hrd⟩ := hown.shape
  have HR := Lib.hid hrd
  clear hrd hown
  generalize hl : Pl.dg b n = l at *
  have HL := Lib.hid hl
  clear hl
  go_wp2_with fail
  go_loop [7, 14] (fun vt vi => ∃ (k : Nat) (t : Int), k ≤ l.length ∧ vi = .int .i64 k ∧ vt = .int .i64 t ∧ 0 ≤ t ∧ t ≤ (k : Int) * 759375 ∧ Hid (t + Pl.ps e (l.drop k) = Pl.ps e l)) (fun _ vi => l.length - (intOf vi).toNat)
  case atStart => exact ⟨0, 0, Nat.zero_le _, rfl, rfl, by omega, by omega, (by show (0 : Int) + _ = _; simp)⟩
  case round =>
    obtain ⟨k, t, hk, rfl, rfl, t0, t1, hg⟩ := hrel
    by_cases hlt : k < l.length
    · obtain ⟨bl, off, rfl, _, hc⟩ := HR.out.at hlt
      have ⟨d0, d1⟩ := hm.out _ (Pl.getD_mem hlt)
      have HS := Lib.hid (Pl.ps_drop_step e hlt)
      generalize l.getD k 0 = d at *
      have ⟨p0, p1⟩ := pow5 d0 d1 he
      have HP := Lib.hid (pow5' d0 d1 he)
      go_wp2_with fail
      refine (ipower _ _ _ d0 (by omega) HP.out).mono ?_
      rintro e' w2 ⟨rfl, rfl⟩
      generalize d ^ e = x at *
      go_wp2
      go_round
      case rel => exact ⟨k + 1, t + x, by omega, by go_num, rfl, by omega, by omega, (by have h1 := HS.out; have h2 := hg.out; show t + x + Pl.ps e (l.drop (k + 1)) = Pl.ps e l; omega)⟩
      case measure => simp [intOf]; omega
    · have HE := Lib.hid (Pl.drop_all (l := l) (k := k) (by omega))
      go_wp2
      go_ret
      exact ⟨ret_int (by have h2 := hg.out; rw [HE.out] at h2; simp [Pl.ps] at h2; rw [HL.out]; exact h2), hb1⟩
def okNB (n b : Int) : Bool := inB b 2 16 && inB n 0 1000000000000
def psV (n b e : Int) : Int := if inB b 2 16 && inB n 0 1000000000000 && inB e 1 5 then Pl.ps e.toNat (Pl.dg b n) else -1
theorem l22Ok_any (n b e : Int) (w : World) : Calls Try.prog 36 #[.int .i64 n, .int .i64 b, .int .i64 e] w fun e' w' => e' = .returned (.bool (inB b 2 16 && inB n 0 1000000000000 && inB e 1 5)) ∧ w = w' := by
  rcases inB_cases b 2 16 with h | h <;> rcases inB_cases n 0 1000000000000 with h' | h' <;> rcases inB_cases e 1 5 with h'' | h''
  all_goals
    go_enter Try.func36, Try.ntmps36
    go_wp2_with (first | (go_at_call 61; refine (l02Ok_any _ _ _).mono ?_; rintro e w' ⟨rfl, rfl⟩) | (go_at_call 43; refine (l01In_any _ _ _ _).mono ?_; rintro e w' ⟨rfl, rfl⟩))
    go_ret
    exact ⟨by simp [h, h', h''], rfl⟩
theorem iPowerSum (n b e : Int) (w : World) : Calls Try.prog 22 #[.int .i64 n, .int .i64 b, .int .i64 e] w fun e' w' => e' = .returned (.int .i64 (psV n b e)) ∧ Below w.heap.size w w' := by
  rcases inB_cases b 2 16 with h | h <;> rcases inB_cases n 0 1000000000000 with h' | h' <;> rcases inB_cases e 1 5 with h'' | h''
  case inl.inl.inl =>
    have HV := Lib.hid (show psV n b e = Pl.ps e.toNat (Pl.dg b n) by simp [psV, h, h', h''])
    have ⟨b1, b2⟩ := inB_t h
    have ⟨n1, n2⟩ := inB_t h'
    have ⟨e1, e2⟩ := inB_t h''
    obtain ⟨j, rfl⟩ := Int.eq_ofNat_of_zero_le (show 0 ≤ e by omega)
    rw [Int.toNat_natCast] at HV
    go_enter Try.func22, Try.ntmps22
    go_wp2_with (first | (go_at_call 44; refine (iBaseOk_any _ _).mono ?_; rintro e w' ⟨rfl, rfl⟩) | (go_at_call 50; refine (isNumber_any _ _).mono ?_; rintro e w' ⟨rfl, rfl⟩) | (go_at_call 45; refine (within_any _ _ _ _).mono ?_; rintro e w' ⟨rfl, rfl⟩))
    refine (powerSum _ _ _ _ b1 b2 n1 n2 (by omega)).mono ?_
    rintro e' w1 ⟨rfl, hb1⟩
    go_wp2
    go_ret
    exact ⟨ret_int HV.out.symm, hb1⟩
  all_goals
    have HV := Lib.hid (show -1 = psV n b e by simp [psV, h, h', h''])
    go_enter Try.func22, Try.ntmps22
    go_wp2_with (first | (go_at_call 44; refine (iBaseOk_any _ _).mono ?_; rintro e w' ⟨rfl, rfl⟩) | (go_at_call 50; refine (isNumber_any _ _).mono ?_; rintro e w' ⟨rfl, rfl⟩) | (go_at_call 45; refine (within_any _ _ _ _).mono ?_; rintro e w' ⟨rfl, rfl⟩))
    go_ret
    exact ⟨ret_int HV.out, Below.refl _ _⟩
def cdV (n b : Int) : Int := if inB b 2 16 && inB n 0 1000000000000 then ((Pl.dg b n).length : Int) else -1
theorem iCountDigits (n b : Int) (w : World) : Calls Try.prog 52 #[.int .i64 n, .int .i64 b] w fun e w' => e = .returned (.int .i64 (cdV n b)) ∧ Below w.heap.size w w' := by
  rcases inB_cases b 2 16 with h | h <;> rcases inB_cases n 0 1000000000000 with h' | h'
  case inl.inl =>
    have HV := Lib.hid (show cdV n b = ((Pl.dg b n).length : Int) by simp [cdV, h, h'])
    have ⟨b1, b2⟩ := inB_t h
    have ⟨n1, n2⟩ := inB_t h'
    go_enter Try.func52, Try.ntmps52
    go_wp2_with (first | (go_at_call 44; refine (iBaseOk_any _ _).mono ?_; rintro e w' ⟨rfl, rfl⟩) | (go_at_call 50; refine (isNumber_any _ _).mono ?_; rintro e w' ⟨rfl, rfl⟩))
    refine (digitsOf _ _ _ b1 b2 n1 n2).mono ?_
    rintro e w1 ⟨v, rfl, hown, hb1⟩
    obtain ⟨ao, cap, rfl, hrd⟩ := hown.shape
    clear hrd hown
    go_wp2
    go_ret
    exact ⟨ret_int HV.out.symm, hb1⟩
  all_goals
    have HV := Lib.hid (show -1 = cdV n b by simp [cdV, h, h'])
    go_enter Try.func52, Try.ntmps52
    go_wp2_with (first | (go_at_call 44; refine (iBaseOk_any _ _).mono ?_; rintro e w' ⟨rfl, rfl⟩) | (go_at_call 50; refine (isNumber_any _ _).mono ?_; rintro e w' ⟨rfl, rfl⟩))
    go_ret
    exact ⟨ret_int HV.out, Below.refl _ _⟩
def narV (n b : Int) : Bool := inB (cdV n b) 1 5 && Pl.ps (cdV n b).toNat (Pl.dg b n) == n
theorem iIsNar (n b : Int) (w : World) : Calls Try.prog 26 #[.int .i64 n, .int .i64 b] w fun e w' => e = .returned (.bool (narV n b)) ∧ Below w.heap.size w w' := by
  rcases inB_cases (cdV n b) 1 5 with h | h
  · have hcd : cdV n b ≠ -1 := by have := inB_t h; omega
    have hok : (inB b 2 16 && inB n 0 1000000000000) = true := by
      cases hx : (inB b 2 16 && inB n 0 1000000000000) with
      | true => rfl
      | false => exact absurd (by simp only [cdV, hx]; rfl) hcd
    rw [Bool.and_eq_true] at hok
    have ⟨b1, b2⟩ := inB_t hok.1
    have ⟨n1, n2⟩ := inB_t hok.2
    have ⟨e1, e2⟩ := inB_t h
    have HV := Lib.hid (show narV n b = (Pl.ps (cdV n b).toNat (Pl.dg b n) == n) by simp [narV, h])
    clear hok hcd
    go_enter Try.func26, Try.ntmps26
    go_wp2_with fail
    refine (iCountDigits _ _ _).mono ?_
    rintro e w1 ⟨rfl, hb1⟩
    generalize cdV n b = c at *
    obtain ⟨j, rfl⟩ := Int.eq_ofNat_of_zero_le (show 0 ≤ c by omega)
    rw [Int.toNat_natCast] at HV
    go_wp2_with (first | (go_at_call 45; refine (within_any _ _ _ _).mono ?_; rintro e w' ⟨rfl, rfl⟩))
    refine (powerSum _ _ _ _ b1 b2 n1 n2 (by omega)).mono ?_
    rintro e w2 ⟨rfl, hb2⟩
    have HB := Lib.hid (hb1.trans (hb2.mono hb1.size))
    generalize Pl.ps j (Pl.dg b n) = x at *
    go_wp2
    go_ret
    exact ⟨ret_bool HV.out.symm, HB.out⟩
  · have HV := Lib.hid (show narV n b = false by simp [narV, h])
    go_enter Try.func26, Try.ntmps26
    go_wp2_with fail
    refine (iCountDigits _ _ _).mono ?_
    rintro e w1 ⟨rfl, hb1⟩
    go_wp2_with (first | (go_at_call 45; refine (within_any _ _ _ _).mono ?_; rintro e w' ⟨rfl, rfl⟩))
    go_ret
    exact ⟨ret_bool HV.out.symm, hb1⟩
end Go.Proofs.Ytidjnbnhkgobnaa
