/-
  Contracts of parasitic numbers.
  Conditions: none.
-/
import Derived.Test.YtnjifahnfmifgaaSlicesB
namespace Go.Proofs.Ytnjifahnfmifgaa
open Go.RowKit
/-- The number with k digits, if there is one. -/
def parN (m d b : Int) (k : Nat) : Int := d * (b ^ k - 1) / (m * b - 1)
def parOk (m d b : Int) (k : Nat) : Bool := decide (parN m d b k * (m * b - 1) = d * (b ^ k - 1) ∧ (Pl.dg b (parN m d b k)).length = k ∧ parN m d b k % b = d)
/-- The search from k digits on, f sizes long. -/
def parF (m d b : Int) : Nat → Nat → Int × Int × Bool
  | 0, _ => (0, 0, false)
  | f + 1, k => if parOk m d b k then (parN m d b k, k, true) else parF m d b f (k + 1)
structure ParB (m d b : Int) (k : Nat) : Prop where
  B : 1 ≤ m * b - 1 ∧ m * b ≤ 256
  P : 1 ≤ b ^ (k - 1) ∧ b ^ (k - 1) ≤ 4294967296
  Pb : b ^ (k - 1) * b ≤ 68719476736 ∧ 2 ≤ b ^ (k - 1) * b
  bk : b ^ k = b ^ (k - 1) * b
  n : 0 ≤ parN m d b k ∧ parN m d b k ≤ 68719476736
  top : 0 ≤ d * (b ^ k - 1) ∧ d * (b ^ k - 1) ≤ 1100000000000
  top2 : -300 ≤ d * (b ^ (k - 1) - m) ∧ d * (b ^ (k - 1) - m) ≤ 68719476736
  x : 0 ≤ d * (b ^ (k - 1) - m) → 0 ≤ d * (b ^ (k - 1) - m) / (m * b - 1) ∧ d * (b ^ (k - 1) - m) / (m * b - 1) ≤ 68719476736
  nB : 0 ≤ parN m d b k * (m * b - 1) ∧ parN m d b k * (m * b - 1) ≤ 1100000000000
theorem par_b {m d b : Int} {k : Nat} (b1 : 2 ≤ b) (b2 : b ≤ 16) (m1 : 1 ≤ m) (m2 : m ≤ b - 1) (d1 : 1 ≤ d) (d2 : d ≤ b - 1) (k1 : 1 ≤ k) (k2 : k ≤ 9) : ParB m d b k := by
  have hmb : 1 * b ≤ m * b := Int.mul_le_mul_of_nonneg_right m1 (by omega)
  have hmb2 : m * b ≤ 16 * 16 := Int.mul_le_mul (by omega) b2 (by omega) (by omega)
  have hP := Pl.pow_pos (show 0 < b by omega) (k - 1)
  have hP2 : b ^ (k - 1) ≤ 4294967296 := by
    have h1 := Pl.pow_mono (show 0 ≤ b by omega) b2 (k - 1)
    have h2 : (16 : Int) ^ (k - 1) ≤ 16 ^ 8 := Pl.pow_up (by omega) (by omega)
    have h3 : (16 : Int) ^ 8 = 4294967296 := by decide
    omega
  have hbk : b ^ k = b ^ (k - 1) * b := by rw [← Int.pow_succ]; congr 1; omega
  have hPb : b ^ (k - 1) * b ≤ 4294967296 * 16 := Int.mul_le_mul hP2 b2 (by omega) (by omega)
  have hPb2 : 1 * 2 ≤ b ^ (k - 1) * b := Int.mul_le_mul (by omega) b1 (by omega) (by omega)
  have ht0 : 0 ≤ d * (b ^ k - 1) := Int.mul_nonneg (by omega) (by omega)
  have ht1 : d * (b ^ k - 1) ≤ 15 * 68719476736 := Int.mul_le_mul (by omega) (by omega) (by omega) (by omega)
  have hn0 : 0 ≤ parN m d b k := Pl.div_nn ht0 (by omega)
  have hnB : parN m d b k * (m * b - 1) ≤ d * (b ^ k - 1) := Int.ediv_mul_le _ (by omega)
  have hn1 : parN m d b k ≤ b ^ k - 1 := by
    have h1 : d * (b ^ k - 1) ≤ (b ^ k - 1) * (m * b - 1) := by
      rw [Int.mul_comm]; exact Int.mul_le_mul_of_nonneg_left (by omega) (by omega)
    have h2 := Int.ediv_le_ediv (show 0 < m * b - 1 by omega) h1
    rwa [Int.mul_ediv_cancel _ (by omega)] at h2
  have hs0 : d * (0 - m) ≤ d * (b ^ (k - 1) - m) := Int.mul_le_mul_of_nonneg_left (by omega) (by omega)
  have hdm : d * m ≤ 15 * 15 := Int.mul_le_mul (by omega) (by omega) (by omega) (by omega)
  have hs1 : d * (b ^ (k - 1) - m) ≤ d * b ^ (k - 1) := Int.mul_le_mul_of_nonneg_left (by omega) (by omega)
  have hs2 : d * b ^ (k - 1) ≤ 16 * 4294967296 := Int.mul_le_mul (by omega) hP2 (by omega) (by omega)
  rw [Int.mul_sub, Int.mul_zero] at hs0
  have hnB0 : 0 ≤ parN m d b k * (m * b - 1) := Int.mul_nonneg hn0 (by omega)
  refine ⟨by omega, by omega, by omega, hbk, by omega, by omega, by omega, fun h => ⟨Pl.div_nn h (by omega), ?_⟩, by omega⟩
  have := Int.ediv_le_self (m * b - 1) h
  omega
/-- The program's tests and the reference's come to the same. -/
theorem par_iff {m d b : Int} {k : Nat} (b1 : 2 ≤ b) (_m1 : 1 ≤ m) (_m2 : m ≤ b - 1) (d1 : 1 ≤ d) (d2 : d ≤ b - 1) (k1 : 1 ≤ k) (hB : ParB m d b k) :
    (parOk m d b k = true ↔ 0 ≤ d * (b ^ (k - 1) - m) ∧ d * (b ^ (k - 1) - m) % (m * b - 1) = 0 ∧ b ^ (k - 1) ≤ d * (b ^ (k - 1) - m) / (m * b - 1) * b + d ∧ d * (b ^ (k - 1) - m) / (m * b - 1) * b + d ≤ b ^ (k - 1) * b - 1) ∧
    (0 ≤ d * (b ^ (k - 1) - m) → d * (b ^ (k - 1) - m) % (m * b - 1) = 0 → parN m d b k = d * (b ^ (k - 1) - m) / (m * b - 1) * b + d) := by
  have hBp := hB.B.1
  have hbk := hB.bk
  have key : ∀ x : Int, x * (m * b - 1) = d * (b ^ (k - 1) - m) → (x * b + d) * (m * b - 1) = d * (b ^ k - 1) := by
    intro x hx
    have : (x * b + d) * (m * b - 1) = x * (m * b - 1) * b + d * (m * b - 1) := by grind
    rw [this, hx, hbk]; grind
  have hval : 0 ≤ d * (b ^ (k - 1) - m) → d * (b ^ (k - 1) - m) % (m * b - 1) = 0 → parN m d b k = d * (b ^ (k - 1) - m) / (m * b - 1) * b + d := by
    intro _ h1
    have hx := Int.ediv_mul_cancel (Int.dvd_of_emod_eq_zero h1)
    have := key _ hx
    rw [parN, ← this, Int.mul_ediv_cancel _ (by omega)]
  refine ⟨?_, hval⟩
  rw [parOk, decide_eq_true_eq]
  have hn0 := hB.n.1
  have hlen := Pl.dg_len_eq b1 hn0 k1
  constructor
  · rintro ⟨h1, h2, h3⟩
    have hdm := Int.mul_ediv_add_emod (parN m d b k) b
    rw [h3] at hdm
    have hx0 := Pl.div_nn hn0 (show 0 ≤ b by omega)
    have hxB : parN m d b k / b * (m * b - 1) = d * (b ^ (k - 1) - m) := by
      have e : (parN m d b k / b * (m * b - 1) - d * (b ^ (k - 1) - m)) * b = 0 := by
        rw [hbk] at h1
        generalize parN m d b k / b = x at *
        rw [← hdm] at h1
        grind
      have := Int.mul_eq_zero.1 e
      omega
    have ht : 0 ≤ d * (b ^ (k - 1) - m) := by rw [← hxB]; exact Int.mul_nonneg hx0 (by omega)
    have hmod : d * (b ^ (k - 1) - m) % (m * b - 1) = 0 := by rw [← hxB]; exact Int.mul_emod_left _ _
    have hv := hval ht hmod
    rw [← hv]
    have h4 := hlen.1 h2
    rw [hbk] at h4
    exact ⟨ht, hmod, h4.1, by omega⟩
  · rintro ⟨h1, h2, h3, h4⟩
    have hv := hval h1 h2
    have hx := Int.ediv_mul_cancel (Int.dvd_of_emod_eq_zero h2)
    rw [← hv] at h3 h4
    refine ⟨?_, hlen.2 ⟨h3, by rw [hbk]; omega⟩, ?_⟩
    · rw [hv]; exact key _ hx
    · rw [hv, Int.add_comm, Int.add_mul_emod_self_right]; exact Int.emod_eq_of_lt (by omega) (by omega)
def parV (m d b : Int) : Int × Int × Bool := if inB b 2 16 && inB m 1 (b - 1) && inB d 1 (b - 1) then parF m d b 9 1 else (0, 0, false)
theorem ret_three {a c : Int} {q : Bool} {r : Int × Int × Bool} (h : (a, c, q) = r) : Ending.returned (.tuple #[.int .i64 a, .int .i64 c, .bool q]) = .returned (.tuple #[.int .i64 r.1, .int .i64 r.2.1, .bool r.2.2]) := by rw [← h]
set_option maxHeartbeats 400000 in
theorem iParas (m d b : Int) (w : World) : Calls Try.prog 33 #[.int .i64 m, .int .i64 d, .int .i64 b] w fun e w' => e = .returned (.tuple #[.int .i64 (parV m d b).1, .int .i64 (parV m d b).2.1, .bool (parV m d b).2.2]) ∧ Below w.heap.size w w' := by
  rcases inB_cases b 2 16 with h | h <;> rcases inB_cases m 1 (b - 1) with h' | h' <;> rcases inB_cases d 1 (b - 1) with h'' | h''
  case inl.inl.inl =>
    have HV := Lib.hid (show parV m d b = parF m d b 9 1 by simp [parV, h, h', h''])
    have ⟨b1, b2⟩ := inB_t h
    have ⟨m1, m2⟩ := inB_t h'
    have ⟨d1, d2⟩ := inB_t h''
    go_enter Try.func33, Try.ntmps33
    go_wp2_with (first | (go_at_call 49; refine (iBaseOk_any _ _).mono ?_; rintro e w' ⟨rfl, rfl⟩) | (go_at_call 40; refine (within_any _ _ _ _).mono ?_; rintro e w' ⟨rfl, rfl⟩))
    go_loop [9] (fun vk => ∃ (j : Nat), 1 ≤ j ∧ j ≤ 10 ∧ vk = .int .i64 j ∧ Hid (parF m d b (10 - j) j = parF m d b 9 1)) (fun vk => 10 - (intOf vk).toNat)
    case atStart => exact ⟨1, by omega, by omega, rfl, rfl⟩
    case round =>
      obtain ⟨j, j1, j2, rfl, hg⟩ := hrel
      by_cases hj : j ≤ 9
      · have hB := par_b b1 b2 m1 m2 d1 d2 j1 hj
        have HI := Lib.hid (par_iff b1 m1 m2 d1 d2 j1 hB)
        have HB := Lib.hid hB
        have ⟨q1, q2⟩ := hB.B
        have ⟨q3, q4⟩ := hB.P
        have ⟨q5, q6⟩ := hB.Pb
        have ⟨q7, q8⟩ := hB.top
        have ⟨q9, q10⟩ := hB.top2
        have ⟨q11, q12⟩ := hB.n
        have ⟨q13, q14⟩ := hB.nB
        have QX := Lib.hid hB.x
        have HP := Lib.hid (Pl.pow16' (n := 9) (show 0 ≤ b by omega) b2 (by omega))
        have HF := Lib.hid (show parF m d b 9 1 = if parOk m d b j then (parN m d b j, (j : Int), true) else parF m d b (10 - (j + 1)) (j + 1) by
          rw [← hg.out, show 10 - j = 10 - (j + 1) + 1 by omega]; rfl)
        clear hB
        have ej : ((j : Int) - 1).toNat = j - 1 := by omega
        have ej' : (j : Int) - 1 = ((j - 1 : Nat) : Int) := by omega
        have EJ := Lib.hid ej'
        clear ej ej'
        go_wp2_with fail
        rw [EJ.out]
        refine (ipower _ _ _ (by omega) (by omega) (fun k hk => HP.out k (by omega))).mono ?_
        rintro e w1 ⟨rfl, rfl⟩
        by_cases t1 : d * (b ^ (j - 1) - m) < 0
        · have HO := Lib.hid (show parF m d b (10 - (j + 1)) (j + 1) = parF m d b 9 1 by rw [HF.out, if_neg (by rw [HI.out.1]; exact fun x => absurd x.1 (by omega))])
          go_wp2
          go_round
          case rel => exact ⟨j + 1, by omega, by omega, by go_num, HO.out⟩
          case measure => simp [intOf]; omega
        · have ⟨x1, x2⟩ := QX.out (by omega)
          by_cases t2 : d * (b ^ (j - 1) - m) % (m * b - 1) = 0
          · have e2 : (d * (b ^ (j - 1) - m) % (m * b - 1) != 0) = false := by rw [t2]; rfl
            have T2 := Lib.hid t2
            have y1 : 0 ≤ d * (b ^ (j - 1) - m) / (m * b - 1) * b := Int.mul_nonneg x1 (by omega)
            have y2 : d * (b ^ (j - 1) - m) / (m * b - 1) * b ≤ 68719476736 * 16 := Int.mul_le_mul x2 b2 (by omega) (by omega)
            clear t2
            rcases inB_cases (d * (b ^ (j - 1) - m) / (m * b - 1) * b + d) (b ^ (j - 1)) (b ^ (j - 1) * b - 1) with t3 | t3
            · have z3 := inB_t t3
              have HO := Lib.hid (show parF m d b 9 1 = (d * (b ^ (j - 1) - m) / (m * b - 1) * b + d, (j : Int), true) by rw [HF.out, if_pos (by rw [HI.out.1]; exact ⟨by omega, T2.out, z3.1, z3.2⟩), HI.out.2 (by omega) T2.out])
              clear z3
              go_wp2_with (first | (go_at_call 40; refine (within_any _ _ _ _).mono ?_; rintro e w' ⟨rfl, rfl⟩))
              go_ret3
              exact ⟨ret_three (by rw [HV.out, HO.out]), Below.refl _ _⟩
            · have z3 := inB_f t3
              have HO := Lib.hid (show parF m d b (10 - (j + 1)) (j + 1) = parF m d b 9 1 by rw [HF.out, if_neg (by rw [HI.out.1]; exact fun x => by omega)])
              clear z3
              go_wp2_with (first | (go_at_call 40; refine (within_any _ _ _ _).mono ?_; rintro e w' ⟨rfl, rfl⟩))
              go_round
              case rel => exact ⟨j + 1, by omega, by omega, by go_num, HO.out⟩
              case measure => simp [intOf]; omega
          · have e2 : (d * (b ^ (j - 1) - m) % (m * b - 1) != 0) = true := by rw [bne_iff_ne]; exact t2
            have HO := Lib.hid (show parF m d b (10 - (j + 1)) (j + 1) = parF m d b 9 1 by rw [HF.out, if_neg (by rw [HI.out.1]; exact fun x => t2 x.2.1)])
            clear t2
            go_wp2
            go_round
            case rel => exact ⟨j + 1, by omega, by omega, by go_num, HO.out⟩
            case measure => simp [intOf]; omega
      · obtain rfl : j = 10 := by omega
        have HO := Lib.hid (show parF m d b 9 1 = (0, 0, false) from hg.out.symm)
        go_wp2
        go_ret3
        exact ⟨ret_three (by rw [HV.out, HO.out]), Below.refl _ _⟩
  all_goals
    have HV := Lib.hid (show (0, 0, false) = parV m d b by simp [parV, h, h', h''])
    go_enter Try.func33, Try.ntmps33
    first
    | (have ⟨b1, b2⟩ := inB_t h
       go_wp2_with (first | (go_at_call 49; refine (iBaseOk_any _ _).mono ?_; rintro e w' ⟨rfl, rfl⟩) | (go_at_call 40; refine (within_any _ _ _ _).mono ?_; rintro e w' ⟨rfl, rfl⟩)))
    | go_wp2_with (first | (go_at_call 49; refine (iBaseOk_any _ _).mono ?_; rintro e w' ⟨rfl, rfl⟩) | (go_at_call 40; refine (within_any _ _ _ _).mono ?_; rintro e w' ⟨rfl, rfl⟩))
    go_ret3
    exact ⟨ret_three HV.out, Below.refl _ _⟩
end Go.Proofs.Ytnjifahnfmifgaa
