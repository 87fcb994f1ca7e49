/-
  Contracts of the functions that reckon with whole numbers alone: divisors, carries, inverses.
  Conditions: the arguments lie within the ranges that each contract names.
-/
import Derived.Test.YtnjifahnfmifgaaPlain
import Derived.Test.YtnjifahnfmifgaaPow
namespace Go.Proofs.Ytnjifahnfmifgaa
open Go.RowKit

theorem igcd (a b : Int) (w : World) (h0 : 0 ≤ a) (h1 : 0 ≤ b) (h2 : a ≤ 1000000000000000) (h3 : b ≤ 1000000000000000) :
    Calls Try.prog 54 #[.int .i64 a, .int .i64 b] w fun e w' => e = .returned (.int .i64 (Int.gcd a b)) ∧ Below w.heap.size w w' := by
  go_enter Try.func54, Try.ntmps54
  go_wp2
  go_loopw [0, 1] (fun x y wr => ∃ p q : Int, 0 ≤ p ∧ 0 ≤ q ∧ p ≤ 1000000000000000 ∧ q ≤ 1000000000000000 ∧ x = .int .i64 p ∧ y = .int .i64 q ∧ Hid (Int.gcd p q = Int.gcd a b) ∧ Below w.heap.size w wr) (fun _ y _ => (intOf y).toNat)
  case atStart => exact ⟨a, b, h0, h1, h2, h3, rfl, rfl, rfl, Below.refl _ _⟩
  case round =>
    obtain ⟨p, q, q0, q1, q2, q3, rfl, rfl, hg, hb⟩ := hrel
    by_cases hq : 0 < q
    · have e1 := Int.emod_nonneg p (show q ≠ 0 by omega)
      have e2 := Int.emod_lt_of_pos p hq
      have hne : (q == 0) = false := by simp; omega
      have hne' : (q != 0) = true := by simp; omega
      go_wp2
      go_quiet (fail)
      go_wp2
      go_roundw
      case rel => exact ⟨q, p % q, by omega, by omega, by omega, by omega, rfl, rfl, (Pl.gcd_step q0 hq).trans hg.out, below_drewN hb _⟩
      case measure => simp [intOf]; omega
    · obtain rfl : q = 0 := by omega
      go_wp2
      go_ret
      exact ⟨ret_int (by rw [← hg.out]; simp; omega), hb⟩
set_option maxHeartbeats 400000 in
theorem iinv (a m : Int) (w : World) (a0 : 0 ≤ a) (a1 : a ≤ 1000000000000) (m0 : 2 ≤ m) (m1 : m ≤ 1000000) :
    Calls Try.prog 53 #[.int .i64 a, .int .i64 m] w fun e w' => e = .returned (.int .i64 (Pl.invV a m)) ∧ Below w.heap.size w w' := by
  have s0 := Pl.mod_nn (a := a) (show 0 < m by omega)
  have s1 := Pl.mod_lt (a := a) (show 0 < m by omega)
  go_enter Try.func53, Try.ntmps53
  go_wp2
  go_quiet (fail)
  go_wp2
  go_loopw [5, 6, 7, 8] (fun vr vs vx vy wr => ∃ r s x y : Int, Hid (Pl.EgInv m r s x y) ∧ 0 < r ∧ 0 ≤ s ∧ r ≤ m ∧ s < r ∧ vr = .int .i64 r ∧ vs = .int .i64 s ∧ vx = .int .i64 x ∧ vy = .int .i64 y ∧ Hid (Pl.egc r s x y = Pl.egc m (a % m) 0 1) ∧ Below w.heap.size w wr) (fun _ vs _ _ _ => (intOf vs).toNat)
  case atStart => exact ⟨m, a % m, 0, 1, Pl.EgInv.start s0 s1, by omega, s0, by omega, s1, rfl, rfl, rfl, rfl, rfl, (by repeat (first | exact Below.refl _ _ | refine below_drewN ?_ _))⟩
  case round =>
    obtain ⟨r, s, x, y, hi, r0, s0', r1, s1', rfl, rfl, rfl, rfl, hg, hbel⟩ := hrel
    by_cases hs : 0 < s
    · have ⟨q1, q2⟩ := Pl.EgInv.qs (r := r) hs (by omega)
      have ⟨y1, y2, y3, y4⟩ := hi.out.qy hs
      have q3 := Pl.div_nn (a := r) (b := s) (by omega) (by omega)
      have q4 := Int.ediv_le_self s (show 0 ≤ r by omega)
      have hne : (s == 0) = false := by simp; omega
      have hne' : (s != 0) = true := by simp; omega
      have hm : r - r / s * s < s ∧ 0 ≤ r - r / s * s := by
        have e : r - r / s * s = r % s := by rw [Int.emod_def, Int.mul_comm]
        have := Pl.mod_lt (a := r) hs
        have := Pl.mod_nn (a := r) hs
        omega
      have ⟨h1, h2⟩ := hm
      clear hm
      go_wp2
      go_roundw
      case rel => exact ⟨s, r - r / s * s, y, x - r / s * y, hi.out.step hs, hs, h2, by omega, h1, rfl, rfl, rfl, rfl, (Pl.egc_step hs).symm.trans hg.out, (by repeat (first | exact hbel | refine below_drewN ?_ _))⟩
      case measure => simp [intOf]; omega
    · obtain rfl : s = 0 := by omega
      have hgo := hg.out
      rw [Pl.egc_end] at hgo
      have t1 := Pl.tmod_bd x (show 0 < m by omega)
      have HV := Lib.hid (show Pl.invV a m = if r = 1 then (x.tmod m + m) % m else -1 by rw [Pl.invV, ← hgo])
      clear hgo hs
      by_cases hr : r = 1
      · subst hr
        go_wp2
        go_ret
        exact ⟨ret_int (by rw [HV.out]; simp), hbel⟩
      · have hne : (r == 1) = false := by simp; omega
        have hne' : (r != 1) = true := by simp; omega
        go_wp2
        go_ret
        exact ⟨ret_int (by rw [HV.out, if_neg hr]), hbel⟩
end Go.Proofs.Ytnjifahnfmifgaa
