/-
  Contracts of the palindrome with a given place.
  Conditions: none, or the ranges that a contract names.
-/
import Derived.Test.YtioclijkglhigaaHalf
import Derived.Test.YtioclijkglhigaaSmall3
import Derived.Test.YtioclijkglhigaaSlicesB
import Derived.Test.YtioclijkglhigaaPals
namespace Go.Proofs.Ytioclijkglhigaa
open Go.RowKit
/-- The number of which the digits are a half and its turn. -/
def mirZ (h k b : Int) : Int := Pl.val b (Pl.jh (Pl.dg b h) (k % 2 == 1))
theorem mirZ_eq {h k b : Int} (k0 : 0 ≤ k) : mirZ h k b = Pl.mir h k.toNat b := by
  unfold mirZ Pl.mir
  have : (k % 2 == 1) = (k.toNat % 2 == 1) := by
    rw [Bool.eq_iff_iff, beq_iff_eq, beq_iff_eq]; omega
  rw [this]
theorem ret_two {a : Int} {q : Bool} {r : Int × Bool} (h : (a, q) = r) : Ending.returned (.tuple #[.int .i64 a, .bool q]) = .returned (.tuple #[.int .i64 r.1, .bool r.2]) := by rw [← h]
theorem jh_dg {h b : Int} {q : Bool} (b1 : 2 ≤ b) (h0 : 0 ≤ h) : ∀ d ∈ Pl.jh (Pl.dg b h) q, 0 ≤ d ∧ d < b := fun d hd => Pl.dg_mem b1 h0 d (Pl.jh_mem hd)
theorem mirrored (h k b : Int) (w : World) (b1 : 2 ≤ b) (b2 : b ≤ 16) (h0 : 0 ≤ h) (h1 : h ≤ 1000000000000) (k0 : 0 ≤ k) (k1 : k ≤ 60) (hv : mirZ h k b ≤ 10000000000000000) :
    Calls Try.prog 88 #[.int .i64 h, .int .i64 k, .int .i64 b] w fun e w' => e = .returned (.int .i64 (mirZ h k b)) ∧ Below w.heap.size w w' := by
  have hlen := Lib.hid (Pl.dg_len40 b1 h0 h1)
  have HV := Lib.hid hv
  have HM := Lib.hid (jh_dg (q := (k % 2 == 1)) b1 h0)
  have HD := Lib.hid (show mirZ h k b = Pl.val b (Pl.jh (Pl.dg b h) (k % 2 == 1)) from rfl)
  clear hv
  go_enter Try.func88, Try.ntmps88
  go_wp2_with fail
  refine (digitsOf _ _ _ b1 b2 h0 h1).mono ?_
  rintro e w1 ⟨v, rfl, hown, hb1⟩
  obtain ⟨ao, cap, rfl, hrd⟩ := hown.shape
  clear hown
  go_wp2_with fail
  refine (iJoin _ _ (by simp) _ _ _ _ hrd (by have := hlen.out; omega)).mono ?_
  rintro e w2 ⟨v, rfl, hown, hb2⟩
  obtain ⟨ao2, cap2, rfl, hrd2⟩ := hown.shape
  clear hown
  go_wp2_with fail
  refine (valueOf _ _ (by simp) _ _ _ _ hrd2 (by omega) b2 (fun d hd => (HM.out d hd).1) (by rw [← HD.out]; exact HV.out)).mono ?_
  rintro e w3 ⟨rfl, rfl⟩
  go_wp2
  go_ret
  exact ⟨ret_int HD.out.symm, hb1.trans (hb2.mono hb1.size)⟩
/-- The palindrome with k digits that i others precede. -/
def palAt (i k b : Int) : Int × Bool := if inB k 1 9 && inB i 0 (cpV k b - 1) then (mirZ (b ^ ((k - 1) / 2).toNat + i) k b, true) else (0, false)
theorem palAt_in {i k b : Int} (hk : inB k 1 9 = true) (hi : inB i 0 (cpV k b - 1) = true) :
    (2 ≤ b ∧ b ≤ 16) ∧ (1 ≤ b ^ ((k - 1) / 2).toNat ∧ b ^ ((k - 1) / 2).toNat ≤ 65536) ∧ b ^ ((k - 1) / 2).toNat + i ≤ 1048576 ∧ Pl.IsHalf (b ^ ((k - 1) / 2).toNat + i) k.toNat b ∧ 0 ≤ mirZ (b ^ ((k - 1) / 2).toNat + i) k b ∧ mirZ (b ^ ((k - 1) / 2).toNat + i) k b ≤ 1000000000000 := by
  have ⟨k1, k2⟩ := inB_t hk
  have ⟨i1, i2⟩ := inB_t hi
  have hb : inB b 2 16 = true := by
    cases hx : inB b 2 16 with
    | true => rfl
    | false => exfalso; rw [cpV, hx] at i2; simp at i2; omega
  have ⟨b1, b2⟩ := inB_t hb
  have hk9 : inB k 0 9 = true := inB_mk (by omega) (by omega)
  rw [cpV, hb, hk9, cpZ, if_neg (show ¬ k = 0 by omega)] at i2
  simp only [Bool.and_self, if_true] at i2
  have p1 := Pl.pow_pos (show 0 < b by omega) ((k - 1) / 2).toNat
  have p2 : b ^ ((k - 1) / 2).toNat ≤ 65536 := by
    have h1 := Pl.pow_mono (show 0 ≤ b by omega) b2 ((k - 1) / 2).toNat
    have h2 : (16 : Int) ^ ((k - 1) / 2).toNat ≤ 16 ^ 4 := Pl.pow_up (by omega) (by omega)
    have h3 : (16 : Int) ^ 4 = 65536 := by decide
    omega
  have e : (k.toNat + 1) / 2 - 1 = ((k - 1) / 2).toNat := by omega
  have e2 : (b - 1) * b ^ ((k - 1) / 2).toNat = b ^ ((k - 1) / 2).toNat * b - b ^ ((k - 1) / 2).toNat := by rw [Int.sub_mul, Int.one_mul, Int.mul_comm]
  have p3 : b ^ ((k - 1) / 2).toNat * b ≤ 65536 * 16 := Int.mul_le_mul p2 b2 (by omega) (by omega)
  have hh : Pl.IsHalf (b ^ ((k - 1) / 2).toNat + i) k.toNat b := by
    refine ⟨by omega, ?_, ?_⟩
    · rw [Pl.lh, e]; omega
    · rw [Pl.lh, e]; omega
  have m := Pl.mir_facts b1 hh
  have m2 := (Pl.dg_len b1 k.toNat (Pl.mir (b ^ ((k - 1) / 2).toNat + i) k.toNat b) (by omega)).1 (by omega)
  have m3 : b ^ k.toNat ≤ 68719476736 := by
    have h1 := Pl.pow_mono (show 0 ≤ b by omega) b2 k.toNat
    have h2 : (16 : Int) ^ k.toNat ≤ 16 ^ 9 := Pl.pow_up (by omega) (by omega)
    have h3 : (16 : Int) ^ 9 = 68719476736 := by decide
    omega
  rw [mirZ_eq (by omega)]
  exact ⟨⟨b1, b2⟩, ⟨p1, p2⟩, by omega, hh, by omega, by omega⟩
theorem sPalAt (i k b : Int) (w : World) : Calls Try.prog 31 #[.int .i64 i, .int .i64 k, .int .i64 b] w fun e w' => e = .returned (.tuple #[.int .i64 (palAt i k b).1, .bool (palAt i k b).2]) ∧ Below w.heap.size w w' := by
  rcases inB_cases k 1 9 with h | h
  · have ⟨k1, k2⟩ := inB_t h
    rcases inB_cases i 0 (cpV k b - 1) with h' | h'
    · have ⟨i1, i2⟩ := inB_t h'
      obtain ⟨⟨b1, b2⟩, ⟨p1, p2⟩, s1, hh, m1, m2⟩ := palAt_in h h'
      have HV := Lib.hid (show (mirZ (b ^ ((k - 1) / 2).toNat + i) k b, true) = palAt i k b by simp [palAt, h, h'])
      have HP := Lib.hid (Pl.pow16' (show 0 ≤ b by omega) b2 (n := ((k - 1) / 2).toNat) (by omega))
      have HC : -1 ≤ cpV k b ∧ cpV k b ≤ 1100000000000 := by
        unfold cpV; split
        · have := cp_bd b1 b2 k1 k2; rw [cpZ, if_neg (by omega)]; omega
        · omega
      have HD := Lib.hid (show mirZ (b ^ ((k - 1) / 2).toNat + i) k b = Pl.val b (Pl.jh (Pl.dg b (b ^ ((k - 1) / 2).toNat + i)) (k % 2 == 1)) from rfl)
      clear hh
      go_enter Try.func31, Try.ntmps31
      go_wp2_with (first | (go_at_call 63; refine (l01In_any _ _ _ _).mono ?_; rintro e w' ⟨rfl, rfl⟩))
      refine (sCountPal _ _ _).mono ?_
      rintro e w' ⟨rfl, rfl⟩
      generalize cpV k b = c at *
      go_wp2_with (first | (go_at_call 63; refine (l01In_any _ _ _ _).mono ?_; rintro e w' ⟨rfl, rfl⟩))
      refine (spowerZ _ _ _ (by omega) (by omega) (by omega) HP.out).mono ?_
      rintro e w' ⟨rfl, rfl⟩
      generalize b ^ ((k - 1) / 2).toNat = x at *
      have HM := Lib.hid (jh_dg (h := x + i) (q := (k % 2 == 1)) b1 (by omega))
      have hlen := Lib.hid (Pl.dg_len40 (n := x + i) b1 (by omega) (by omega))
      have HX := Lib.hid (Pl.val1_yes (b := b) (l := Pl.jh (Pl.dg b (x + i)) (k % 2 == 1)) (by rw [← HD.out]; omega))
      go_wp2_with (first | (go_at_call 63; refine (l01In_any _ _ _ _).mono ?_; rintro e w' ⟨rfl, rfl⟩))
      refine (l02Digits _ _ _ b1 b2 (by omega) (by omega)).mono ?_
      rintro e w1 ⟨v, rfl, hown, hb1⟩
      obtain ⟨ao, cap, rfl, hrd⟩ := hown.shape
      clear hown
      go_wp2_with fail
      refine (sJoin _ _ (by simp) _ _ _ _ hrd (by have := hlen.out; omega)).mono ?_
      rintro e w2 ⟨v, rfl, hown, hb2⟩
      obtain ⟨ao2, cap2, rfl, hrd2⟩ := hown.shape
      clear hown
      go_wp2_with fail
      refine (l02Value _ _ (by simp) _ _ _ _ hrd2 (by omega) b2 (fun d hd => by have := HM.out d hd; omega)).mono ?_
      rw [HX.out, ← HD.out]
      rintro e w3 ⟨rfl, rfl⟩
      generalize mirZ (x + i) k b = y at *
      go_wp2
      go_ret2
      exact ⟨ret_two HV.out, hb1.trans (hb2.mono hb1.size)⟩
    · have HV := Lib.hid (show (0, false) = palAt i k b by simp [palAt, h, h'])
      have HC : -1 ≤ cpV k b ∧ cpV k b ≤ 1100000000000 := by
        unfold cpV; split
        · rename_i hx
          rw [Bool.and_eq_true] at hx
          have ⟨b1, b2⟩ := inB_t hx.1
          have := cp_bd b1 b2 k1 k2; rw [cpZ, if_neg (by omega)]; omega
        · omega
      go_enter Try.func31, Try.ntmps31
      go_wp2_with (first | (go_at_call 63; refine (l01In_any _ _ _ _).mono ?_; rintro e w' ⟨rfl, rfl⟩))
      refine (sCountPal _ _ _).mono ?_
      rintro e w' ⟨rfl, rfl⟩
      generalize cpV k b = c at *
      go_wp2_with (first | (go_at_call 63; refine (l01In_any _ _ _ _).mono ?_; rintro e w' ⟨rfl, rfl⟩))
      go_ret2
      exact ⟨ret_two HV.out, Below.refl _ _⟩
  · have HV := Lib.hid (show (0, false) = palAt i k b by simp [palAt, h])
    go_enter Try.func31, Try.ntmps31
    go_wp2_with (first | (go_at_call 63; refine (l01In_any _ _ _ _).mono ?_; rintro e w' ⟨rfl, rfl⟩))
    go_ret2
    exact ⟨ret_two HV.out, Below.refl _ _⟩
theorem iPalAt (i k b : Int) (w : World) : Calls Try.prog 32 #[.int .i64 i, .int .i64 k, .int .i64 b] w fun e w' => e = .returned (.tuple #[.int .i64 (palAt i k b).1, .bool (palAt i k b).2]) ∧ Below w.heap.size w w' := by
  rcases inB_cases k 1 9 with h | h
  · have ⟨k1, k2⟩ := inB_t h
    rcases inB_cases i 0 (cpV k b - 1) with h' | h'
    · have ⟨i1, i2⟩ := inB_t h'
      obtain ⟨⟨b1, b2⟩, ⟨p1, p2⟩, s1, hh, m1, m2⟩ := palAt_in h h'
      have HV := Lib.hid (show (mirZ (b ^ ((k - 1) / 2).toNat + i) k b, true) = palAt i k b by simp [palAt, h, h'])
      have HC : -1 ≤ cpV k b ∧ cpV k b ≤ 1100000000000 := by
        unfold cpV; split
        · have := cp_bd b1 b2 k1 k2; rw [cpZ, if_neg (by omega)]; omega
        · omega
      clear hh
      go_enter Try.func32, Try.ntmps32
      go_wp2_with (first | (go_at_call 72; refine (within_any _ _ _ _).mono ?_; rintro e w' ⟨rfl, rfl⟩))
      refine (iCountPal _ _ _).mono ?_
      rintro e w' ⟨rfl, rfl⟩
      generalize cpV k b = c at *
      go_wp2_with (first | (go_at_call 72; refine (within_any _ _ _ _).mono ?_; rintro e w' ⟨rfl, rfl⟩))
      refine (leastHalf _ _ _ b1 b2 k1 (by omega) (by omega)).mono ?_
      rintro e w' ⟨rfl, rfl⟩
      generalize b ^ ((k - 1) / 2).toNat = x at *
      go_wp2_with fail
      refine (mirrored _ _ _ _ b1 b2 (by omega) (by omega) (by omega) (by omega) (by omega)).mono ?_
      rintro e w1 ⟨rfl, hb1⟩
      generalize mirZ (x + i) k b = y at *
      go_wp2
      go_ret2
      exact ⟨ret_two HV.out, hb1⟩
    · have HV := Lib.hid (show (0, false) = palAt i k b by simp [palAt, h, h'])
      have HC : -1 ≤ cpV k b ∧ cpV k b ≤ 1100000000000 := by
        unfold cpV; split
        · rename_i hx
          rw [Bool.and_eq_true] at hx
          have ⟨b1, b2⟩ := inB_t hx.1
          have := cp_bd b1 b2 k1 k2; rw [cpZ, if_neg (by omega)]; omega
        · omega
      go_enter Try.func32, Try.ntmps32
      go_wp2_with (first | (go_at_call 72; refine (within_any _ _ _ _).mono ?_; rintro e w' ⟨rfl, rfl⟩))
      refine (iCountPal _ _ _).mono ?_
      rintro e w' ⟨rfl, rfl⟩
      generalize cpV k b = c at *
      go_wp2_with (first | (go_at_call 72; refine (within_any _ _ _ _).mono ?_; rintro e w' ⟨rfl, rfl⟩))
      go_ret2
      exact ⟨ret_two HV.out, Below.refl _ _⟩
  · have HV := Lib.hid (show (0, false) = palAt i k b by simp [palAt, h])
    go_enter Try.func32, Try.ntmps32
    go_wp2_with (first | (go_at_call 72; refine (within_any _ _ _ _).mono ?_; rintro e w' ⟨rfl, rfl⟩))
    go_ret2
    exact ⟨ret_two HV.out, Below.refl _ _⟩
end Go.Proofs.Ytioclijkglhigaa
