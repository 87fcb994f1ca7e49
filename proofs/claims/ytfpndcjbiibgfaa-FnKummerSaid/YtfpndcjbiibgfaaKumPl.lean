/-
  Plain facts on carries, factorials and binomial coefficients. No program in sight.
  Conditions: none.
-/
import Derived.Test.YtfpndcjbiibgfaaBino
import Derived.Test.YtfpndcjbiibgfaaSums
namespace Go.Pl
/-- The carries are what the factorials tell. -/
theorem cr_leg {p n k : Int} (hp : 2 ≤ p) (k0 : 0 ≤ k) (k1 : k ≤ n) :
    cr p k (n - k) 0 = leg p n - leg p k - leg p (n - k) ∧ (p - 1) * leg p n = n - sm (dg p n) ∧ (p - 1) * cr p k (n - k) 0 = sm (dg p k) + sm (dg p (n - k)) - sm (dg p n) := by
  have h1 := cr_sum hp _ k (n - k) 0 k0 (by omega) (by omega) (by omega) (Nat.le_refl _)
  rw [show k + (n - k) + 0 = n by omega] at h1
  have e1 := leg_mul hp (show 0 ≤ n by omega)
  have e2 := leg_mul hp k0
  have e3 := leg_mul hp (show 0 ≤ n - k by omega)
  have h2 : (cr p k (n - k) 0) * (p - 1) = (leg p n - leg p k - leg p (n - k)) * (p - 1) := by
    rw [Int.sub_mul, Int.sub_mul, e1, e2, e3, h1]; omega
  refine ⟨Int.eq_of_mul_eq_mul_right (by omega) h2, by rw [Int.mul_comm]; exact e1, by rw [Int.mul_comm]; omega⟩
theorem leg_bd {p : Int} (hp : 2 ≤ p) {n : Int} (hn : 0 ≤ n) : 0 ≤ leg p n ∧ leg p n ≤ n := by
  have h1 := leg_mul hp hn
  have h2 := sm_dg_le hp hn
  have h3 : 0 ≤ leg p n := by
    refine dg_ind hp (P := fun n => 0 ≤ leg p n) (by rw [leg_zero]; omega) (fun n h ih => ?_) n hn
    rw [leg_step hp h]
    have := div_nn (a := n) (b := p) (by omega) (by omega)
    omega
  have h4 : leg p n * 1 ≤ leg p n * (p - 1) := Int.mul_le_mul_of_nonneg_left (by omega) h3
  omega
end Go.Pl
namespace Go.Proofs.Ytfpndcjbiibgfaa
open Go.RowKit
/-- The same with a bound on the places, for the kernel. -/
def brF (p : Int) : Nat → Int → Int → Int → Int
  | 0, _, _, r => r
  | f + 1, n, k, r => if n = 0 then r else brF p f (n / p) (k / p) (r * binZ (n % p) (k % p) % p)
def dgF (b : Int) : Nat → Int → List Int
  | 0, _ => []
  | f + 1, n => if n = 0 then [] else n % b :: dgF b f (n / b)
theorem half_le {n p : Int} (h0 : 0 ≤ n) (hp : 2 ≤ p) : n / p ≤ n / 2 := by
  refine (Int.le_ediv_iff_mul_le (by omega)).2 ?_
  have h1 := Int.ediv_mul_le n (show p ≠ 0 by omega)
  have h2 := Int.mul_le_mul_of_nonneg_left hp (Pl.div_nn h0 (show 0 ≤ p by omega))
  omega
theorem brF_br {p : Int} (hp : 2 ≤ p) : ∀ (f : Nat) (n k r : Int), 0 ≤ n → n < 2 ^ f → br p n k r = brF p f n k r := by
  intro f
  induction f with
  | zero => intro n k r h0 h1; rw [Int.pow_zero] at h1; obtain rfl : n = 0 := by omega
            exact br_end _ _ _
  | succ f ih =>
    intro n k r h0 h1
    unfold brF
    by_cases h : n = 0
    · subst h; rw [if_pos rfl, br_end]
    · rw [if_neg h, br_step hp (by omega), ih _ _ _ (Pl.div_nn h0 (by omega))]
      rw [Int.pow_succ] at h1
      have h2 : n / p ≤ n / 2 := half_le h0 hp
      have := (Pl.div_lt_iff (n := n) (b := 2) (c := 2 ^ f) (by omega)).2 h1
      omega
theorem dgF_dg {p : Int} (hp : 2 ≤ p) : ∀ (f : Nat) (n : Int), 0 ≤ n → n < 2 ^ f → Pl.dg p n = dgF p f n := by
  intro f
  induction f with
  | zero => intro n h0 h1; rw [Int.pow_zero] at h1; obtain rfl : n = 0 := by omega
            exact Pl.dg_zero _
  | succ f ih =>
    intro n h0 h1
    unfold dgF
    by_cases h : n = 0
    · subst h; rw [if_pos rfl, Pl.dg_zero]
    · rw [if_neg h, Pl.dg_step hp (by omega), ih _ (Pl.div_nn h0 (by omega))]
      rw [Int.pow_succ] at h1
      have h2 : n / p ≤ n / 2 := half_le h0 hp
      have := (Pl.div_lt_iff (n := n) (b := 2) (c := 2 ^ f) (by omega)).2 h1
      omega
/-- How many of the first j rests are not 0. -/
def leftZ (p m : Int) : Nat → Int
  | 0 => 0
  | j + 1 => leftZ p m j + if brF p 5 m j 1 = 0 then 0 else 1
def kumOk : Bool := primeL.all fun p =>
  ((List.range 13).all fun r => (List.range 13).all fun d => (List.range 13).all fun e => decide (r = 0 ∨ ¬ (r : Int) < p ∨ ¬ (d : Int) < p ∨ ¬ e ≤ d ∨ (r : Int) * binZ d e % p ≠ 0)) &&
  ((List.range 29).all fun m => decide (Pl.pd (dgF p 5 m) = leftZ p m (m + 1)) && (List.range (m + 1)).all fun i => decide (brF p 5 m i 1 = binZ m i % p))
theorem kumOk_t : kumOk = true := by decide +kernel
theorem kum_all {p : Int} (h : primeB p = true) : (∀ r d e : Int, 0 < r → r < p → 0 ≤ e → e ≤ d → d < p → r * binZ d e % p ≠ 0) ∧
    (∀ m : Nat, m < 29 → Pl.pd (Pl.dg p m) = leftZ p m (m + 1) ∧ ∀ i : Nat, i ≤ m → br p m i 1 = binZ m i % p) := by
  have hb := bp_bd h
  have hk := kumOk_t
  unfold kumOk at hk
  rw [List.all_eq_true] at hk
  have hk := hk p (of_decide_eq_true h)
  rw [Bool.and_eq_true, List.all_eq_true, List.all_eq_true] at hk
  constructor
  · intro r d e r0 r1 e0 e1 d1
    have h1 := hk.1 r.toNat (List.mem_range.2 (by omega))
    rw [List.all_eq_true] at h1
    have h2 := h1 d.toNat (List.mem_range.2 (by omega))
    rw [List.all_eq_true] at h2
    have h3 := of_decide_eq_true (h2 e.toNat (List.mem_range.2 (by omega)))
    rw [Int.toNat_of_nonneg (by omega), Int.toNat_of_nonneg (by omega), Int.toNat_of_nonneg (by omega)] at h3
    rcases h3 with h3 | h3 | h3 | h3 | h3
    · omega
    · omega
    · omega
    · omega
    · exact h3
  · intro m hm
    have h1 := hk.2 m (List.mem_range.2 hm)
    rw [Bool.and_eq_true, List.all_eq_true] at h1
    refine ⟨by rw [dgF_dg hb.1 5 _ (by omega) (by omega)]; exact of_decide_eq_true h1.1, fun i hi => ?_⟩
    rw [brF_br hb.1 5 _ _ _ (by omega) (by omega)]
    exact of_decide_eq_true (h1.2 i (List.mem_range.2 (by omega)))
theorem br_zero (p : Int) (hp : 2 ≤ p) : ∀ (N : Nat) (n k : Int), n.toNat ≤ N → 0 ≤ n → br p n k 0 = 0 := by
  intro N
  induction N with
  | zero => intro n k h h0; obtain rfl : n = 0 := by omega
            exact br_end _ _ _
  | succ N ih =>
    intro n k h h0
    by_cases hn : 0 < n
    · rw [br_step hp hn, Int.zero_mul, Int.zero_emod]
      have := Pl.div_lt hn hp
      exact ih _ _ (by omega) (Pl.div_nn h0 (by omega))
    · obtain rfl : n = 0 := by omega
      exact br_end _ _ _
/-- Something is left exactly if there is no carry. -/
theorem br_cr {p : Int} (h : primeB p = true) : ∀ (N : Nat) (n k r : Int), n.toNat ≤ N → 0 ≤ k → k ≤ n → 0 < r → r < p → (0 ≤ br p n k r ∧ br p n k r < p) ∧ (br p n k r = 0 ↔ Pl.cr p k (n - k) 0 ≠ 0) := by
  have hb := bp_bd h
  intro N
  induction N with
  | zero =>
    intro n k r hN k0 k1 r0 r1
    obtain rfl : n = 0 := by omega
    obtain rfl : k = 0 := by omega
    rw [br_end, show (0 : Int) - 0 = 0 by omega, Pl.cr_end]
    exact ⟨⟨by omega, r1⟩, by constructor <;> intro h <;> omega⟩
  | succ N ih =>
    intro n k r hN k0 k1 r0 r1
    by_cases hn : 0 < n
    · have nn := Pl.div_lt hn hb.1
      have n0 := Pl.div_nn (a := n) (b := p) (by omega) (by omega)
      have kk := Pl.div_nn (a := k) (b := p) k0 (by omega)
      have d0 := Pl.mod_nn (a := n) (show 0 < p by omega)
      have d1 := Pl.mod_lt (a := n) (show 0 < p by omega)
      have e0 := Pl.mod_nn (a := k) (show 0 < p by omega)
      have e1 := Pl.mod_lt (a := k) (show 0 < p by omega)
      have fn := Int.mul_ediv_add_emod n p
      have fk := Int.mul_ediv_add_emod k p
      rw [br_step hb.1 hn, Pl.cr_step hb.1 k0 (show 0 ≤ n - k by omega) (by omega)]
      by_cases he : k % p ≤ n % p
      · have hkn : k / p ≤ n / p := Int.ediv_le_ediv (by omega) k1
        have e : n - k = (n % p - k % p) + p * (n / p - k / p) := by rw [Int.mul_sub]; omega
        have q1 : (n - k) % p = n % p - k % p := by rw [e, Int.add_mul_emod_self_left, Int.emod_eq_of_lt (by omega) (by omega)]
        have q2 : (n - k) / p = n / p - k / p := by rw [e, Int.add_mul_ediv_left _ _ (by omega), Int.ediv_eq_zero_of_lt (by omega) (by omega)]; omega
        have q3 : (k % p + (n % p - k % p) + 0) / p = 0 := Int.ediv_eq_zero_of_lt (by omega) (by omega)
        rw [q1, q2, q3, Int.zero_add]
        have hx := (kum_all h).1 r (n % p) (k % p) r0 r1 e0 he d1
        have x0 := Pl.mod_nn (a := r * binZ (n % p) (k % p)) (show 0 < p by omega)
        have x1 := Pl.mod_lt (a := r * binZ (n % p) (k % p)) (show 0 < p by omega)
        exact ih _ _ _ (by omega) kk hkn (by omega) x1
      · have hz : binZ (n % p) (k % p) = 0 := by rw [binZ, if_pos (by omega)]
        rw [hz, Int.mul_zero, Int.zero_emod, br_zero p hb.1 _ _ _ (Nat.le_refl _) n0]
        have hkn : k / p < n / p ∨ n / p ≤ k / p := by omega
        have hlt : k / p < n / p := by
          rcases hkn with hkn | hkn
          · exact hkn
          · exfalso
            have := Int.mul_le_mul_of_nonneg_left hkn (show 0 ≤ p by omega)
            omega
        have e : n - k = (n % p - k % p + p) + p * (n / p - k / p - 1) := by rw [Int.mul_sub, Int.mul_sub]; omega
        have q1 : (n - k) % p = n % p - k % p + p := by rw [e, Int.add_mul_emod_self_left, Int.emod_eq_of_lt (by omega) (by omega)]
        have q3 : (k % p + (n - k) % p + 0) / p = 1 := by
          rw [q1]
          have e2 : k % p + (n % p - k % p + p) + 0 = n % p + p * 1 := by omega
          rw [e2, Int.add_mul_ediv_left _ _ (by omega), Int.ediv_eq_zero_of_lt d0 d1]; omega
        rw [q3]
        have := Pl.cr_nn hb.1 _ (k / p) ((n - k) / p) 1 kk (Pl.div_nn (by omega) (by omega)) (by omega) (by omega) (Nat.le_refl _)
        exact ⟨⟨by omega, by omega⟩, by constructor <;> intro _ <;> omega⟩
    · obtain rfl : n = 0 := by omega
      obtain rfl : k = 0 := by omega
      rw [br_end, show (0 : Int) - 0 = 0 by omega, Pl.cr_end]
      exact ⟨⟨by omega, r1⟩, by constructor <;> intro h <;> omega⟩
end Go.Proofs.Ytfpndcjbiibgfaa
