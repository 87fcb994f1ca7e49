/-
  Contracts of small functions of repunits and rules of blocks.
  Conditions: the arguments lie within the ranges that each contract names.
-/
import Derived.Test.YtnjifahnfmifgaaArith
namespace Go.Proofs.Ytnjifahnfmifgaa
open Go.RowKit
def repV (k b : Int) : Int := if inB b 2 16 && inB k 0 9 then Pl.rep b k.toNat else -1
theorem iRepunit (k b : Int) (w : World) : Calls Try.prog 23 #[.int .i64 k, .int .i64 b] w fun e w' => e = .returned (.int .i64 (repV k b)) ∧ Below w.heap.size w w' := by
  rcases inB_cases b 2 16 with h | h <;> rcases inB_cases k 0 9 with h' | h'
  case inl.inl =>
    have HV := Lib.hid (show repV k b = Pl.rep b k.toNat by simp [repV, h, h'])
    have ⟨b1, b2⟩ := inB_t h
    have ⟨k1, k2⟩ := inB_t h'
    obtain ⟨n, rfl⟩ := Int.eq_ofNat_of_zero_le k1
    rw [Int.toNat_natCast] at HV
    have p1 := Pl.pow16 (k := n) (show 0 ≤ b by omega) b2 (by omega)
    have p2 := Pl.pow_pos (show 0 < b by omega) n
    have HP := Lib.hid (Pl.pow16' (n := n) (show 0 ≤ b by omega) b2 (by omega))
    go_enter Try.func23, Try.ntmps23
    go_wp2_with (first | (first | (go_at_call 49; refine (iBaseOk_any _ _).mono ?_; rintro e w' ⟨rfl, rfl⟩) | (go_at_call 40; refine (within_any _ _ _ _).mono ?_; rintro e w' ⟨rfl, rfl⟩)) | (go_at_call 58; refine (ipower _ _ _ (by omega) (by omega) HP.out).mono ?_; rintro e w' ⟨rfl, rfl⟩))
    go_ret
    exact ⟨ret_int (by rw [HV.out]; simpa using Pl.rep_div b1 n), Below.refl _ _⟩
  all_goals
    have HV := Lib.hid (show repV k b = -1 by simp [repV, h, h'])
    go_enter Try.func23, Try.ntmps23
    go_wp2_with (first | (go_at_call 49; refine (iBaseOk_any _ _).mono ?_; rintro e w' ⟨rfl, rfl⟩) | (go_at_call 40; refine (within_any _ _ _ _).mono ?_; rintro e w' ⟨rfl, rfl⟩))
    go_ret
    exact ⟨ret_int HV.out.symm, Below.refl _ _⟩

def blkV (m b : Int) : Int × Int := if inB b 2 16 && inB m 2 1000 then Pl.blk m b 40 1 else (0, 0)
theorem ret_two {k : IntKind} {a b : Int} {p : Int × Int} (h : (a, b) = p) : Ending.returned (.tuple #[.int k a, .int k b]) = .returned (.tuple #[.int k p.1, .int k p.2]) := by rw [← h]
theorem iBlockRule (m b : Int) (w : World) : Calls Try.prog 19 #[.int .i64 m, .int .i64 b] w fun e w' => e = .returned (.tuple #[.int .i64 (blkV m b).1, .int .i64 (blkV m b).2]) ∧ w = w' := by
  rcases inB_cases b 2 16 with h | h <;> rcases inB_cases m 2 1000 with h' | h'
  case inl.inl =>
    have HV := Lib.hid (show blkV m b = Pl.blk m b 40 1 by simp [blkV, h, h'])
    have ⟨b1, b2⟩ := inB_t h
    have ⟨m1, m2⟩ := inB_t h'
    have h1 : (1 : Int) % m = 1 := Int.emod_eq_of_lt (by omega) (by omega)
    go_enter Try.func19, Try.ntmps19
    go_wp2_with (first | (go_at_call 47; refine (isRuled_any _ _ _).mono ?_; rintro e w' ⟨rfl, rfl⟩))
    go_loop [6, 7] (fun v i => ∃ (f : Nat) (x : Int), f ≤ 40 ∧ 0 ≤ x ∧ x < m ∧ i = .int .i64 (41 - (f : Int)) ∧ v = .int .i64 x ∧ Hid (Pl.blk m b f x = Pl.blk m b 40 1)) (fun _ i => (41 - intOf i).toNat)
    case atStart => exact ⟨40, 1, by omega, by omega, by omega, rfl, rfl, rfl⟩
    case round =>
      obtain ⟨f, x, hf, x0, x1, rfl, rfl, hg⟩ := hrel
      have y0 : 0 ≤ x * b := Int.mul_nonneg x0 (by omega)
      have y1 : x * b ≤ 1000 * 16 := Int.mul_le_mul (by omega) b2 (by omega) (by omega)
      have z0 := Pl.mod_nn (a := x * b) (show 0 < m by omega)
      have z1 := Pl.mod_lt (a := x * b) (show 0 < m by omega)
      match f, hf, hg with
      | 0, hf, hg =>
        go_wp2
        go_ret2
        exact ⟨ret_two (HV.out.trans hg.out.symm).symm, rfl⟩
      | f + 1, hf, hg =>
        have HE := Lib.hid (hg.out.symm.trans (show Pl.blk m b (f + 1) x = if x * b % m = 1 then (40 - (f : Int), 1) else if x * b % m = m - 1 then (40 - (f : Int), -1) else Pl.blk m b f (x * b % m) from rfl))
        by_cases e1 : x * b % m = 1
        · have e2 : (x * b % m == 1) = true := by rw [e1]; rfl
          have E1 := Lib.hid e1
          clear e1
          go_wp2
          go_ret2
          exact ⟨ret_two (by rw [HV.out, HE.out, if_pos E1.out]; congr 1; omega), rfl⟩
        · have e2 : (x * b % m == 1) = false := by rw [beq_eq_false_iff_ne]; exact e1
          have E1 := Lib.hid e1
          clear e1
          by_cases e3 : x * b % m = m - 1
          · have e4 : (x * b % m == m - 1) = true := by rw [e3]; simp
            have E3 := Lib.hid e3
            clear e3
            go_wp2
            go_ret2
            exact ⟨ret_two (by rw [HV.out, HE.out, if_neg E1.out, if_pos E3.out]; congr 1; omega), rfl⟩
          · have e4 : (x * b % m == m - 1) = false := by rw [beq_eq_false_iff_ne]; exact e3
            have E3 := Lib.hid e3
            clear e3
            go_wp2
            go_round
            case rel => exact ⟨f, x * b % m, by omega, z0, z1, (by congr 1; omega), rfl, (by have := HE.out; rw [if_neg E1.out, if_neg E3.out] at this; exact this.symm)⟩
            case measure => simp [intOf]; omega
  all_goals
    have HV := Lib.hid (show (0, 0) = blkV m b by simp [blkV, h, h'])
    go_enter Try.func19, Try.ntmps19
    go_wp2_with (first | (go_at_call 47; refine (isRuled_any _ _ _).mono ?_; rintro e w' ⟨rfl, rfl⟩))
    go_ret2
    exact ⟨ret_two HV.out, rfl⟩
end Go.Proofs.Ytnjifahnfmifgaa
