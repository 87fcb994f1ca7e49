/-
  Contracts of SumUpTo, program and reference.
  Conditions: none.
-/
import Derived.Test.YtioclijkglhigaaArith
namespace Go.Proofs.Ytioclijkglhigaa
open Go.RowKit
def sumV (n b : Int) : Int := if inB b 2 16 && inB n 0 1000000000 then Pl.sumTo n b 1 else -1
set_option maxHeartbeats 1000000 in
theorem iSumUp (n b : Int) (w : World) : Calls Try.prog 54 #[.int .i64 n, .int .i64 b] w fun e w' => e = .returned (.int .i64 (sumV n b)) ∧ Below w.heap.size w w' := by
  rcases inB_cases b 2 16 with h | h <;> rcases inB_cases n 0 1000000000 with h' | h'
  case inl.inl =>
    have HV := Lib.hid (show sumV n b = Pl.sumTo n b 1 by simp [sumV, h, h'])
    have ⟨b1, b2⟩ := inB_t h
    have ⟨n1, n2⟩ := inB_t h'
    go_enter Try.func54, Try.ntmps54
    go_wp2_with (first | (go_at_call 79; refine (iBaseOk_any _ _).mono ?_; rintro e w' ⟨rfl, rfl⟩) | (go_at_call 72; refine (within_any _ _ _ _).mono ?_; rintro e w' ⟨rfl, rfl⟩))
    go_loopw [5, 6] (fun vs vp wr => ∃ (k : Nat) (p s : Int), 1 ≤ p ∧ p ≤ 16000000000 ∧ 0 ≤ s ∧ s ≤ (k : Int) * 200000000000 ∧ Hid ((2 : Int) ^ k ≤ p) ∧ vs = .int .i64 s ∧ vp = .int .i64 p ∧ Hid (s + Pl.sumTo n b p = Pl.sumTo n b 1) ∧ Below w.heap.size w wr) (fun _ vp _ => (n + 1 - intOf vp).toNat)
    case atStart => exact ⟨0, 1, 0, by omega, by omega, by omega, by omega, (by show (2 : Int) ^ 0 ≤ 1; decide), rfl, rfl, (by show (0 : Int) + _ = _; omega), Below.refl _ _⟩
    case round =>
      obtain ⟨k, p, s, p1, p2, s1, s2, hk, rfl, rfl, hg, hbel⟩ := hrel
      by_cases hp : p ≤ n
      · have k30 := Pl.two_pow_lt hk.out (by omega)
        have hB := Pl.place_b p1 b1 hp b2 n2
        have HB := Lib.hid hB
        have hst := Pl.sumTo_step p1 b1 hp
        have HS := Lib.hid hst
        have ⟨c1, c2⟩ := hB.pb
        have ⟨c3, c4⟩ := hB.full
        have ⟨c5, c6⟩ := hB.fp
        have ⟨c7, c8⟩ := hB.bb
        have ⟨c9, c10⟩ := hB.fpb
        have ⟨c11, c12⟩ := hB.fpbb
        have ⟨c13, c14⟩ := hB.fph
        have ⟨c15, c16⟩ := hB.rest
        have ⟨c17, c18⟩ := hB.dv
        have ⟨c19, c20⟩ := hB.dd
        have ⟨c21, c22⟩ := hB.pd
        have ⟨c23, c24⟩ := hB.pdd
        have ⟨c25, c26⟩ := hB.ph
        have ⟨c27, c28⟩ := hB.dp
        have ⟨c29, c30⟩ := hB.mv
        have ⟨c31, c32⟩ := hB.dm
        have eM : n % (p * b) % p = n % p := Int.emod_emod_of_dvd n ⟨b, rfl⟩
        have ⟨c33, c34⟩ : 0 ≤ n % (p * b) / p * (n % p) ∧ n % (p * b) / p * (n % p) ≤ 15000000000 := by rw [← eM]; exact ⟨c31, c32⟩
        have ⟨c35, c36⟩ : 0 ≤ n % (p * b) / p * (n % (p * b) - n % (p * b) / p * p) ∧ n % (p * b) / p * (n % (p * b) - n % (p * b) / p * p) ≤ 15000000000 := by rw [hB.e3]; exact ⟨c31, c32⟩
        have EM := Lib.hid eM
        clear hB hst eM
        go_wp2
        go_quiet (fail)
        go_wp2
        go_roundw
        case rel =>
          have hpl : Pl.place n b p = n / (p * b) * p * (b * (b - 1) / 2) + (p * (n % (p * b) / p * (n % (p * b) / p - 1) / 2) + n % (p * b) / p * (n % (p * b) % p)) := rfl
          have ⟨q1, q2⟩ := HB.out.pl
          have e1 := HB.out.e1
          have e2 := HB.out.e2
          have e3 := HB.out.e3
          have hst := HS.out
          have hgo := hg.out
          refine ⟨k + 1, p * b, s + Pl.place n b p, by omega, by omega, by omega, by omega, ?_, ?_, rfl, ?_, (by repeat (first | exact hbel | refine below_drewN ?_ _))⟩
          · show (2 : Int) ^ (k + 1) ≤ p * b
            rw [Int.pow_succ]
            exact Int.mul_le_mul hk.out b1 (by omega) (by omega)
          · refine congrArg (Value.int .i64) ?_
            rw [e3, e1, e2]
            omega
          · show s + Pl.place n b p + Pl.sumTo n b (p * b) = Pl.sumTo n b 1
            omega
        case measure =>
          have : p * 2 ≤ p * b := Int.mul_le_mul_of_nonneg_left b1 (by omega)
          simp [intOf]; omega
      · go_wp2
        go_ret
        exact ⟨ret_int (by rw [HV.out, ← hg.out, Pl.sumTo_end (by omega)]; omega), hbel⟩
  all_goals
    have HV := Lib.hid (show sumV n b = -1 by simp [sumV, h, h'])
    go_enter Try.func54, Try.ntmps54
    go_wp2_with (first | (go_at_call 79; refine (iBaseOk_any _ _).mono ?_; rintro e w' ⟨rfl, rfl⟩) | (go_at_call 72; refine (within_any _ _ _ _).mono ?_; rintro e w' ⟨rfl, rfl⟩))
    go_ret
    exact ⟨ret_int HV.out.symm, Below.refl _ _⟩
end Go.Proofs.Ytioclijkglhigaa
