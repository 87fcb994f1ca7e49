/-
  Contracts of the sum of weighted digits.
  Conditions: none.
-/
import Derived.Test.YtnjifahnfmifgaaAllW
namespace Go.Proofs.Ytnjifahnfmifgaa
open Go.RowKit
/-- The sum of the products of two lists. -/
def dot : List Int → List Int → Int
  | d :: l, x :: m => d * x + dot l m
  | _, _ => 0
theorem dot_drop_step {l m : List Int} {k : Nat} (h : k < l.length) (h' : k < m.length) : dot (l.drop k) (m.drop k) = l.getD k 0 * m.getD k 0 + dot (l.drop (k + 1)) (m.drop (k + 1)) := by
  rw [Pl.drop_step h, Pl.drop_step h']; rfl
theorem dot_nil (m : List Int) : dot [] m = 0 := rfl
theorem prod_bd {d x : Int} (d0 : 0 ≤ d) (d1 : d < 16) (x0 : -1000 ≤ x) (x1 : x ≤ 1000) : -15000 ≤ d * x ∧ d * x ≤ 15000 := by
  have h1 : d * x ≤ d * 1000 := Int.mul_le_mul_of_nonneg_left x1 d0
  have h2 : d * -1000 ≤ d * x := Int.mul_le_mul_of_nonneg_left x0 d0
  omega
def arB (n b : Int) (m : List Int) : Bool := inB b 2 16 && inB n 0 1000000000000 && allB m (-1000) 1000 && decide ((Pl.dg b n).length ≤ m.length)
def arV (n b : Int) (m : List Int) : Int := if arB n b m then dot (Pl.dg b n) m else 0
theorem arB_no {n b : Int} {m : List Int} (h : inB b 2 16 = false ∨ inB n 0 1000000000000 = false ∨ allB m (-1000) 1000 = false ∨ m.length < (Pl.dg b n).length) : arB n b m = false := by
  rcases h with h | h | h | h
  · simp [arB, h]
  · simp [arB, h]
  · simp [arB, h]
  · simp [arB]; intro _ _ _; omega
set_option maxHeartbeats 400000 in
theorem iApply (n b : Int) (m : List Int) (ln : Nat) (hln : ln = m.length) (ao : Option Addr) (cap : Nat) (w : World) (hr : Rd w ao cap m) :
    Calls Try.prog 13 #[.int .i64 n, .int .i64 b, .slice ao ln cap] w fun e w' => e = .returned (.tuple #[.int .i64 (arV n b m), .bool (arB n b m)]) ∧ Below w.heap.size w w' := by
  subst hln
  have HR := Lib.hid hr
  clear hr
  rcases inB_cases b 2 16 with h | h <;> rcases inB_cases n 0 1000000000000 with h' | h'
  case inl.inl =>
    have ⟨b1, b2⟩ := inB_t h
    have ⟨n1, n2⟩ := inB_t h'
    have HM := Lib.hid (Pl.dg_mem b1 n1)
    have hlen := Pl.dg_len40 b1 n1 n2
    cases ha : allB m (-1000) 1000 with
    | false =>
      have HV := Lib.hid (show arB n b m = false from arB_no (by simp [ha]))
      have HV2 := Lib.hid (show 0 = arV n b m by rw [arV, if_neg (by rw [HV.out]; simp)])
      go_enter Try.func13, Try.ntmps13
      go_wp2_with (first | (go_at_call 49; refine (iBaseOk_any _ _).mono ?_; rintro e w' ⟨rfl, rfl⟩) | (go_at_call 50; refine (isNumber_any _ _).mono ?_; rintro e w' ⟨rfl, rfl⟩))
      refine (allWithin _ _ (by simp) _ _ _ _ _ HR.out).mono ?_
      rintro e w1 ⟨rfl, hbw⟩
      go_wp2_with fail
      go_ret2
      exact ⟨ret_ib HV2.out HV.out.symm, by first | exact Below.refl _ _ | assumption⟩
    | true =>
      have HA := Lib.hid (show ∀ j, j < m.length → -1000 ≤ m.getD j 0 ∧ m.getD j 0 ≤ 1000 from fun j hj => allB_get ha hj)
      by_cases hl : (Pl.dg b n).length ≤ m.length
      · have HV := Lib.hid (show arB n b m = true by simp [arB, h, h', ha, hl])
        have HV2 := Lib.hid (show arV n b m = dot (Pl.dg b n) m by rw [arV, if_pos HV.out])
        go_enter Try.func13, Try.ntmps13
        go_wp2_with (first | (go_at_call 49; refine (iBaseOk_any _ _).mono ?_; rintro e w' ⟨rfl, rfl⟩) | (go_at_call 50; refine (isNumber_any _ _).mono ?_; rintro e w' ⟨rfl, rfl⟩))
        refine (allWithin _ _ (by simp) _ _ _ _ _ HR.out).mono ?_
        rintro e w1 ⟨rfl, hbw⟩
        go_wp2_with fail
        refine (digitsOf _ _ _ b1 b2 n1 n2).mono ?_
        rintro e w2 ⟨v, rfl, hown, hb2⟩
        obtain ⟨ao2, cap2, rfl, hrd⟩ := hown.shape
        have HR1 := Lib.hid hrd
        have HB := Lib.hid (hbw.trans (hb2.mono hbw.size))
        have HR2 := Lib.hid (HR.out.below HB.out (Nat.le_refl _))
        clear hown hrd hb2 hbw
        have hl3 : decide (m.length < (Pl.dg b n).length) = false := by simp; omega
        generalize Pl.dg b n = l at *
        go_wp2_with fail
        go_loop [9, 35] (fun vt vi => ∃ (k : Nat) (t : Int), k ≤ l.length ∧ vi = .int .i64 k ∧ vt = .int .i64 t ∧ -((k : Int) * 15000) ≤ t ∧ t ≤ (k : Int) * 15000 ∧ Hid (t + dot (l.drop k) (m.drop k) = dot l m)) (fun _ vi => l.length - (intOf vi).toNat)
        case atStart => exact ⟨0, 0, Nat.zero_le _, rfl, rfl, by omega, by omega, (by show (0 : Int) + _ = _; simp)⟩
        case round =>
          obtain ⟨k, t, hk, rfl, rfl, t0, t1, hg⟩ := hrel
          by_cases hlt : k < l.length
          · obtain ⟨bl, off, rfl, _, hc⟩ := HR1.out.at hlt
            obtain ⟨bl2, off2, rfl, _, hc2⟩ := HR2.out.at (show k < m.length by omega)
            have ⟨d0, d1⟩ := HM.out _ (Pl.getD_mem hlt)
            have ⟨x0, x1⟩ := HA.out k (by omega)
            have HS := Lib.hid (dot_drop_step hlt (show k < m.length by omega))
            generalize l.getD k 0 = d at *
            generalize m.getD k 0 = x at *
            have ⟨p0, p1⟩ := prod_bd d0 (by omega) x0 x1
            go_wp2
            go_round
            case rel => exact ⟨k + 1, t + d * x, by omega, by go_num, rfl, by omega, by omega, (by have h1 := HS.out; have h2 := hg.out; show t + d * x + dot (l.drop (k + 1)) (m.drop (k + 1)) = dot l m; omega)⟩
            case measure => simp [intOf]; omega
          · have HE := Lib.hid (Pl.drop_all (l := l) (k := k) (by omega))
            go_wp2
            go_ret2
            exact ⟨ret_ib (by have h2 := hg.out; rw [HE.out, dot_nil] at h2; rw [HV2.out, ← h2]; omega) HV.out.symm, HB.out⟩
      · have HV := Lib.hid (show arB n b m = false from arB_no (by right; right; right; omega))
        have HV2 := Lib.hid (show 0 = arV n b m by rw [arV, if_neg (by rw [HV.out]; simp)])
        go_enter Try.func13, Try.ntmps13
        go_wp2_with (first | (go_at_call 49; refine (iBaseOk_any _ _).mono ?_; rintro e w' ⟨rfl, rfl⟩) | (go_at_call 50; refine (isNumber_any _ _).mono ?_; rintro e w' ⟨rfl, rfl⟩))
        refine (allWithin _ _ (by simp) _ _ _ _ _ HR.out).mono ?_
        rintro e w1 ⟨rfl, hbw⟩
        go_wp2_with fail
        refine (digitsOf _ _ _ b1 b2 n1 n2).mono ?_
        rintro e w2 ⟨v, rfl, hown, hb2⟩
        obtain ⟨ao2, cap2, rfl, hrd⟩ := hown.shape
        clear hown hrd
        have hl3 : decide (m.length < (Pl.dg b n).length) = true := by simp; omega
        go_wp2
        go_ret2
        exact ⟨ret_ib HV2.out HV.out.symm, by first | exact hb2 | exact hbw.trans (hb2.mono hbw.size)⟩
  all_goals
    have HV := Lib.hid (show arB n b m = false from arB_no (by simp [h, h']))
    have HV2 := Lib.hid (show 0 = arV n b m by rw [arV, if_neg (by rw [HV.out]; simp)])
    go_enter Try.func13, Try.ntmps13
    go_wp2_with (first | (go_at_call 49; refine (iBaseOk_any _ _).mono ?_; rintro e w' ⟨rfl, rfl⟩) | (go_at_call 50; refine (isNumber_any _ _).mono ?_; rintro e w' ⟨rfl, rfl⟩))
    go_ret2
    exact ⟨ret_ib HV2.out HV.out.symm, Below.refl _ _⟩
end Go.Proofs.Ytnjifahnfmifgaa
