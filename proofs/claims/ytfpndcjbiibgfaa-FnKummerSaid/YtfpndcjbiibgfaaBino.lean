/-
  Contracts of binomial coefficients and of what is left of them modulo a prime.
  Conditions: none, or the ranges that a contract names.
-/
import Derived.Test.YtfpndcjbiibgfaaSlicesD
import Derived.Test.YtfpndcjbiibgfaaSmall3
namespace Go.Proofs.Ytfpndcjbiibgfaa
open Go.RowKit
def binI (n : Int) : Nat → Int
  | 0 => 1
  | i + 1 => binI n i * (n - i) / (i + 1)
def binS (n k : Int) : Nat → Int
  | 0 => 1
  | i + 1 => binS n k i * (n - k + (i + 1)) / (i + 1)
def binOk : Bool := (List.range 31).all fun n => (List.range (n + 1)).all fun k => (binI n k == binS n k k) &&
  (List.range (k + 1)).all fun i => decide (0 ≤ binI n i ∧ binI n i ≤ 1000000000 ∧ 0 ≤ binI n i * ((n : Int) - i) ∧ binI n i * ((n : Int) - i) ≤ 10000000000 ∧ 0 ≤ binS n k i ∧ binS n k i ≤ 1000000000 ∧ 0 ≤ binS n k i * ((n : Int) - k + (i + 1)) ∧ binS n k i * ((n : Int) - k + (i + 1)) ≤ 10000000000)
theorem binOk_t : binOk = true := by decide +kernel
theorem bin_all {n k : Nat} (hn : n ≤ 30) (hk : k ≤ n) : binI n k = binS n k k ∧ ∀ i, i ≤ k → 0 ≤ binI n i ∧ binI n i ≤ 1000000000 ∧ 0 ≤ binI n i * ((n : Int) - i) ∧ binI n i * ((n : Int) - i) ≤ 10000000000 ∧ 0 ≤ binS n k i ∧ binS n k i ≤ 1000000000 ∧ 0 ≤ binS n k i * ((n : Int) - k + (i + 1)) ∧ binS n k i * ((n : Int) - k + (i + 1)) ≤ 10000000000 := by
  have h := binOk_t
  unfold binOk at h
  rw [List.all_eq_true] at h
  have h1 := h n (List.mem_range.2 (by omega))
  rw [List.all_eq_true] at h1
  have h2 := h1 k (List.mem_range.2 (by omega))
  rw [Bool.and_eq_true, List.all_eq_true] at h2
  exact ⟨by simpa using h2.1, fun i hi => of_decide_eq_true (h2.2 i (List.mem_range.2 (by omega)))⟩
/-- The binomial coefficient. -/
def binZ (n k : Int) : Int := if n < k then 0 else binI n k.toNat
theorem binZ_bd {n k : Int} (h0 : 0 ≤ n) (h1 : n ≤ 30) (k0 : 0 ≤ k) : 0 ≤ binZ n k ∧ binZ n k ≤ 1000000000 := by
  unfold binZ
  split
  · omega
  · obtain ⟨a, rfl⟩ := Int.eq_ofNat_of_zero_le h0
    obtain ⟨c, rfl⟩ := Int.eq_ofNat_of_zero_le k0
    have := (bin_all (n := a) (k := c) (by omega) (by omega)).2 c (Nat.le_refl _)
    rw [Int.toNat_natCast]
    omega
theorem iBin (n k : Int) (w : World) (hn : inB n 0 30 = true) (hk : inB k 0 30 = true) :
    Calls Try.prog 18 #[.int .i64 n, .int .i64 k] w fun e w' => e = .returned (.int .i64 (binZ n k)) ∧ w = w' := by
  have ⟨n1, n2⟩ := inB_t hn
  have ⟨k1, k2⟩ := inB_t hk
  by_cases hlt : n < k
  · have HV := Lib.hid (show 0 = binZ n k by rw [binZ, if_pos hlt])
    go_enter Try.func18, Try.ntmps18
    go_wp2_with (first | (go_at_call 65; refine (within_any _ _ _ _).mono ?_; rintro e w' ⟨rfl, rfl⟩))
    go_ret
    exact ⟨ret_int HV.out, rfl⟩
  · obtain ⟨a, rfl⟩ := Int.eq_ofNat_of_zero_le n1
    obtain ⟨c, rfl⟩ := Int.eq_ofNat_of_zero_le k1
    have HV := Lib.hid (show binI a c = binZ a c by rw [binZ, if_neg hlt, Int.toNat_natCast])
    have HB := Lib.hid (bin_all (n := a) (k := c) (by omega) (by omega)).2
    go_enter Try.func18, Try.ntmps18
    go_wp2_with (first | (go_at_call 65; refine (within_any _ _ _ _).mono ?_; rintro e w' ⟨rfl, rfl⟩))
    have hl3 : decide (a < c) = false := by simp; omega
    go_loop [5, 19] (fun vo vi => ∃ (i : Nat), i ≤ c ∧ vi = .int .i64 i ∧ vo = .int .i64 (binI a i)) (fun _ vi => c - (intOf vi).toNat)
    case atStart => exact ⟨0, Nat.zero_le _, rfl, rfl⟩
    case round =>
      obtain ⟨i, hi, rfl, rfl⟩ := hrel
      by_cases hlt2 : i < c
      · obtain ⟨q1, q2, q3, q4, _, _, _, _⟩ := HB.out i hi
        have HS := Lib.hid (show binI a (i + 1) = binI a i * (a - i) / (i + 1) from rfl)
        generalize binI a i = x at *
        go_wp2
        go_round
        case rel => exact ⟨i + 1, by omega, by go_num, by rw [HS.out]⟩
        case measure => simp [intOf]; omega
      · obtain rfl : i = c := by omega
        go_wp2
        go_ret
        exact ⟨ret_int HV.out, rfl⟩
/-- What is left of the product, place by place. -/
def br (p n k r : Int) : Int := if _h : 2 ≤ p ∧ 0 < n then br p (n / p) (k / p) (r * binZ (n % p) (k % p) % p) else r
  termination_by n.toNat
  decreasing_by
    obtain ⟨h1, h2⟩ := _h
    have := Pl.div_lt h2 h1
    omega
theorem br_step {p n k r : Int} (h1 : 2 ≤ p) (h2 : 0 < n) : br p n k r = br p (n / p) (k / p) (r * binZ (n % p) (k % p) % p) := by rw [br, dif_pos ⟨h1, h2⟩]
theorem br_end (p k r : Int) : br p 0 k r = r := by rw [br, dif_neg (by omega)]
def brV (n k p : Int) : Int := if primeB p && decide (0 ≤ k ∧ k ≤ n ∧ n ≤ 1000000000000) then br p n k 1 else -1
theorem iBinRest (n k p : Int) (w : World) : Calls Try.prog 17 #[.int .i64 n, .int .i64 k, .int .i64 p] w fun e w' => e = .returned (.int .i64 (brV n k p)) ∧ Below w.heap.size w w' := by
  rcases primeB_cases p with h | h
  · by_cases hk : 0 ≤ k ∧ k ≤ n ∧ n ≤ 1000000000000
    · have ⟨p1, p2⟩ := bp_bd h
      have HV := Lib.hid (show brV n k p = br p n k 1 by simp [brV, h, hk])
      obtain ⟨k1, k2, k3⟩ := hk
      go_enter Try.func17, Try.ntmps17
      go_wp2_with fail
      refine (isSmallPrime _ _).mono ?_
      rintro e w1 ⟨rfl, hb1⟩
      go_wp2_with fail
      go_loopw [0, 1, 7] (fun vn vk vr wr => ∃ (m j r : Int), 0 ≤ m ∧ 0 ≤ j ∧ m ≤ 1000000000000 ∧ j ≤ 1000000000000 ∧ 0 ≤ r ∧ r ≤ 13 ∧ vn = .int .i64 m ∧ vk = .int .i64 j ∧ vr = .int .i64 r ∧ Hid (br p m j r = br p n k 1) ∧ Below w.heap.size w wr) (fun vn _ _ _ => (intOf vn).toNat)
      case atStart => exact ⟨n, k, 1, by omega, k1, k3, by omega, by omega, by omega, rfl, rfl, rfl, rfl, hb1⟩
      case round =>
        obtain ⟨m, j, r, m0, j0, m1, j1, r0, r1, rfl, rfl, rfl, hg, hbel⟩ := hrel
        by_cases hm : 0 < m
        · have d1 := Pl.div_nn m0 (show 0 ≤ p by omega)
          have d2 := Pl.div_lt hm p1
          have d3 := Pl.div_nn j0 (show 0 ≤ p by omega)
          have d4 := Pl.div_le j0 p1
          have e1 := Pl.mod_nn (a := m) (show 0 < p by omega)
          have e2 := Pl.mod_lt (a := m) (show 0 < p by omega)
          have e3 := Pl.mod_nn (a := j) (show 0 < p by omega)
          have e4 := Pl.mod_lt (a := j) (show 0 < p by omega)
          have ⟨z0, z1⟩ := binZ_bd e1 (by omega) e3
          have HS := Lib.hid (br_step (k := j) (r := r) p1 hm)
          have y0 : 0 ≤ r * binZ (m % p) (j % p) := Int.mul_nonneg r0 z0
          have y1 : r * binZ (m % p) (j % p) ≤ 13 * 1000000000 := Int.mul_le_mul r1 z1 z0 (by omega)
          have f1 := Pl.mod_nn (a := r * binZ (m % p) (j % p)) (show 0 < p by omega)
          have f2 := Pl.mod_lt (a := r * binZ (m % p) (j % p)) (show 0 < p by omega)
          have HI1 := Lib.hid (inB_mk e1 (show m % p ≤ 30 by omega))
          have HI2 := Lib.hid (inB_mk e3 (show j % p ≤ 30 by omega))
          go_wp2_with fail
          go_quiet ((go_at_call 18; exact Calls.quiet_of_same ((iBin _ _ _ HI1.out HI2.out).mono fun _ _ h => ⟨h.1, h.2.symm⟩)))
          go_wp2
          go_quiet (fail)
          go_wp2
          go_roundw
          case rel => exact ⟨m / p, j / p, r * binZ (m % p) (j % p) % p, d1, d3, by omega, by omega, f1, by omega, rfl, rfl, rfl, HS.out.symm.trans hg.out, by repeat (first | exact hbel | refine below_drewN ?_ _)⟩
          case measure => simp [intOf]; omega
        · obtain rfl : m = 0 := by omega
          go_wp2
          go_ret
          exact ⟨ret_int (by rw [HV.out, ← hg.out, br_end]), hbel⟩
    · have HV := Lib.hid (show -1 = brV n k p by simp only [brV, hk]; simp)
      have HK := Lib.hid hk
      clear hk
      go_enter Try.func17, Try.ntmps17
      go_wp2_with fail
      refine (isSmallPrime _ _).mono ?_
      rintro e w1 ⟨rfl, hb1⟩
      by_cases k1 : k < 0
      · go_wp2
        go_ret
        exact ⟨ret_int HV.out, hb1⟩
      · by_cases k2 : n < k
        · go_wp2
          go_ret
          exact ⟨ret_int HV.out, hb1⟩
        · have k3 : 1000000000000 < n := by have := HK.out; omega
          go_wp2
          go_ret
          exact ⟨ret_int HV.out, hb1⟩
  · have HV := Lib.hid (show -1 = brV n k p by simp [brV, h])
    go_enter Try.func17, Try.ntmps17
    go_wp2_with fail
    refine (isSmallPrime _ _).mono ?_
    rintro e w1 ⟨rfl, hb1⟩
    go_wp2
    go_ret
    exact ⟨ret_int HV.out, hb1⟩
end Go.Proofs.Ytfpndcjbiibgfaa
