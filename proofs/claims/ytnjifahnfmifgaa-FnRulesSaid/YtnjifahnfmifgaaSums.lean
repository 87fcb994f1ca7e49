/-
  Plain facts on sums of digits and on carries. No program in sight.
  Conditions: none.
-/
import Derived.Test.YtnjifahnfmifgaaDigits
namespace Go.Pl
theorem place_of {b p R d m : Int} (hp : 1 ≤ p) (_hb : 2 ≤ b) (d0 : 0 ≤ d) (d1 : d < b) (m0 : 0 ≤ m) (m1 : m < p) :
    2 * place ((R * b + d) * p + m) b p = R * p * b * (b - 1) + p * d * (d - 1) + 2 * (d * m) := by
  have hpb : 0 < p * b := Int.mul_pos (by omega) (by omega)
  have e0 : (R * b + d) * p + m = (d * p + m) + p * b * R := by grind
  have r0 : 0 ≤ d * p := Int.mul_nonneg d0 (by omega)
  have r1 : d * p + m < p * b := by
    have : (d + 1) * p ≤ b * p := Int.mul_le_mul_of_nonneg_right (by omega) (by omega)
    rw [Int.add_mul, Int.mul_comm b] at this
    omega
  have e1 : ((R * b + d) * p + m) / (p * b) = R := by
    rw [e0, Int.add_mul_ediv_left _ _ (by omega), Int.ediv_eq_zero_of_lt (by omega) r1]; omega
  have e2 : ((R * b + d) * p + m) % (p * b) = d * p + m := by
    rw [e0, Int.add_mul_emod_self_left]; exact Int.emod_eq_of_lt (by omega) r1
  have e3 : (d * p + m) / p = d := by
    rw [Int.add_comm, Int.add_mul_ediv_right _ _ (by omega), Int.ediv_eq_zero_of_lt m0 m1]; omega
  have e4 : (d * p + m) % p = m := by
    rw [Int.add_comm, Int.add_mul_emod_self_right]; exact Int.emod_eq_of_lt m0 m1
  rw [place, e1, e2, e3, e4]
  have h1 : b * (b - 1) / 2 * 2 = b * (b - 1) := Int.ediv_mul_cancel (Int.dvd_of_emod_eq_zero (even_mul_pred b))
  have h2 : d * (d - 1) / 2 * 2 = d * (d - 1) := Int.ediv_mul_cancel (Int.dvd_of_emod_eq_zero (even_mul_pred d))
  generalize b * (b - 1) / 2 = T at *
  generalize d * (d - 1) / 2 = D at *
  grind
theorem place_succ {n b p : Int} (hp : 1 ≤ p) (hb : 2 ≤ b) (_hn : 0 ≤ n) : place (n + 1) b p = place n b p + n / p % b := by
  have f1 := Int.mul_ediv_add_emod n p
  have f2 := Int.mul_ediv_add_emod (n / p) b
  have m0 := mod_nn (a := n) (show 0 < p by omega)
  have m1 := mod_lt (a := n) (show 0 < p by omega)
  have d0 := mod_nn (a := n / p) (show 0 < b by omega)
  have d1 := mod_lt (a := n / p) (show 0 < b by omega)
  generalize n / p / b = R at *
  generalize n / p % b = d at *
  generalize n % p = m at *
  have e : n = (R * b + d) * p + m := by rw [← f1, ← f2]; grind
  have h := place_of (R := R) hp hb d0 d1 m0 m1
  rw [← e] at h
  by_cases c1 : m + 1 < p
  · have h' := place_of (R := R) hp hb d0 d1 (show 0 ≤ m + 1 by omega) c1
    rw [show (R * b + d) * p + (m + 1) = n + 1 by omega] at h'
    rw [Int.mul_add d m 1] at h'
    omega
  · have hm : m = p - 1 := by omega
    subst hm
    by_cases c2 : d + 1 < b
    · have h' := place_of (R := R) (m := 0) hp hb (show 0 ≤ d + 1 by omega) c2 (by omega) (by omega)
      rw [show (R * b + (d + 1)) * p + 0 = n + 1 by rw [e]; grind] at h'
      grind
    · have hd : d = b - 1 := by omega
      subst hd
      have h' := place_of (R := R + 1) (d := 0) (m := 0) hp hb (by omega) (by omega) (by omega) (by omega)
      rw [show ((R + 1) * b + 0) * p + 0 = n + 1 by rw [e]; grind] at h'
      grind
theorem place_lt {n b p : Int} (hn : 0 ≤ n) (hb : 2 ≤ b) (h : n < p) : place n b p = 0 := by
  have h1 := place_of (R := 0) (d := 0) (m := n) (b := b) (p := p) (by omega) hb (by omega) (by omega) hn h
  rw [show (0 * b + 0) * p + n = n by omega] at h1
  simp at h1
  omega
/-- One number more adds the sum of its digits. -/
theorem sumTo_succ {n b : Int} (hb : 2 ≤ b) (hn : 0 ≤ n) : ∀ (k : Nat) (p : Int), 1 ≤ p → (n + 2 - p).toNat ≤ k → sumTo (n + 1) b p = sumTo n b p + sm (dg b (n / p)) := by
  intro k
  induction k with
  | zero =>
    intro p hp hk
    rw [sumTo_end (by omega), sumTo_end (by omega), Int.ediv_eq_zero_of_lt hn (by omega), dg_zero]; rfl
  | succ k ih =>
    intro p hp hk
    have hpb : p * 2 ≤ p * b := Int.mul_le_mul_of_nonneg_left hb (by omega)
    by_cases h : p ≤ n
    · rw [sumTo_step hp hb (by omega), sumTo_step hp hb h, ih (p * b) (by omega) (by omega), place_succ hp hb hn]
      have h1 : 0 < n / p := by have : 1 ≤ n / p := (Int.le_ediv_iff_mul_le (by omega)).2 (by omega); omega
      rw [dg_step hb h1, Int.ediv_ediv_of_nonneg (by omega)]
      show _ = _ + (n / p % b + sm (dg b (n / (p * b))))
      omega
    · rw [sumTo_end (by omega : n < p), Int.ediv_eq_zero_of_lt hn (by omega), dg_zero]
      by_cases h2 : p ≤ n + 1
      · obtain rfl : p = n + 1 := by omega
        rw [sumTo_step hp hb (by omega), sumTo_end (by omega), place_succ hp hb hn, place_lt hn hb (by omega), Int.ediv_eq_zero_of_lt hn (by omega)]
        simp [sm]
      · rw [sumTo_end (by omega)]; rfl
theorem sumTo_one {n b : Int} (hb : 2 ≤ b) (hn : 0 ≤ n) : sumTo (n + 1) b 1 = sumTo n b 1 + sm (dg b n) := by
  have := sumTo_succ hb hn (n + 1).toNat 1 (by omega) (by omega)
  rwa [Int.ediv_one] at this
/-- Carries tell how much the sum of digits falls short. -/
theorem cr_sum {b : Int} (hb : 2 ≤ b) : ∀ (N : Nat) (a c k : Int), 0 ≤ a → 0 ≤ c → 0 ≤ k → k ≤ 1 → (a + c).toNat ≤ N → cr b a c k * (b - 1) = sm (dg b a) + sm (dg b c) + k - sm (dg b (a + c + k)) := by
  intro N
  induction N with
  | zero =>
    intro a c k a0 c0 k0 k1 hN
    obtain rfl : a = 0 := by omega
    obtain rfl : c = 0 := by omega
    rw [cr_end, dg_zero]
    by_cases h : k = 0
    · subst h; simp [dg_zero, sm]
    · obtain rfl : k = 1 := by omega
      rw [show (0 : Int) + 0 + 1 = 1 by omega, dg_step hb (by omega), Int.ediv_eq_zero_of_lt (by omega) (by omega), dg_zero, Int.emod_eq_of_lt (by omega) (by omega)]
      simp [sm]
  | succ N ih =>
    intro a c k a0 c0 k0 k1 hN
    by_cases h : 0 < a ∨ 0 < c
    · have A := div_nn a0 (show 0 ≤ b by omega)
      have C := div_nn c0 (show 0 ≤ b by omega)
      have ⟨q0, q1⟩ := carry_bd (a := a) (c := c) hb k0 k1
      have hlt : a / b + c / b < a + c := by
        have := div_le a0 hb
        have := div_le c0 hb
        rcases h with h | h
        · have := div_lt h hb; omega
        · have := div_lt h hb; omega
      have IH := ih (a / b) (c / b) ((a % b + c % b + k) / b) A C q0 q1 (by omega)
      rw [cr_step hb a0 c0 h, Int.add_mul, IH]
      have fa := Int.mul_ediv_add_emod a b
      have fc := Int.mul_ediv_add_emod c b
      have fs := Int.mul_ediv_add_emod (a % b + c % b + k) b
      have sN : ∀ x : Int, 0 ≤ x → sm (dg b x) = x % b + sm (dg b (x / b)) := by
        intro x hx
        by_cases hx0 : 0 < x
        · rw [dg_step hb hx0]; rfl
        · obtain rfl : x = 0 := by omega
          rw [Int.zero_ediv, dg_zero]; simp [sm]
      have e1 : (a + c + k) / b = a / b + c / b + (a % b + c % b + k) / b := by
        have : a + c + k = (a % b + c % b + k) + b * (a / b + c / b) := by rw [Int.mul_add]; omega
        rw [this, Int.add_mul_ediv_left _ _ (by omega)]; omega
      have e2 : (a + c + k) % b = (a % b + c % b + k) % b := by
        have : a + c + k = (a % b + c % b + k) + b * (a / b + c / b) := by rw [Int.mul_add]; omega
        rw [this, Int.add_mul_emod_self_left]
      rw [sN a a0, sN c c0, sN (a + c + k) (by omega), e1, e2, Int.mul_sub]
      rw [Int.mul_comm b] at fs
      generalize (a % b + c % b + k) / b = q at *
      omega
    · obtain rfl : a = 0 := by omega
      obtain rfl : c = 0 := by omega
      exact ih 0 0 k (by omega) (by omega) k0 k1 (by omega)
theorem cr_comm {b : Int} (hb : 2 ≤ b) : ∀ (N : Nat) (a c k : Int), 0 ≤ a → 0 ≤ c → (a + c).toNat ≤ N → cr b a c k = cr b c a k := by
  intro N
  induction N with
  | zero =>
    intro a c k a0 c0 hN
    obtain rfl : a = 0 := by omega
    obtain rfl : c = 0 := by omega
    rfl
  | succ N ih =>
    intro a c k a0 c0 hN
    by_cases h : 0 < a ∨ 0 < c
    · have A := div_nn a0 (show 0 ≤ b by omega)
      have C := div_nn c0 (show 0 ≤ b by omega)
      have hlt : a / b + c / b < a + c := by
        have := div_le a0 hb
        have := div_le c0 hb
        rcases h with h | h
        · have := div_lt h hb; omega
        · have := div_lt h hb; omega
      rw [cr_step hb a0 c0 h, cr_step hb c0 a0 h.symm, ih _ _ _ A C (by omega), Int.add_comm (a % b) (c % b)]
    · obtain rfl : a = 0 := by omega
      obtain rfl : c = 0 := by omega
      rfl
theorem cr_nn {b : Int} (hb : 2 ≤ b) : ∀ (N : Nat) (a c k : Int), 0 ≤ a → 0 ≤ c → 0 ≤ k → k ≤ 1 → (a + c).toNat ≤ N → 0 ≤ cr b a c k ∧ cr b a c k ≤ N := by
  intro N
  induction N with
  | zero =>
    intro a c k a0 c0 _ _ hN
    obtain rfl : a = 0 := by omega
    obtain rfl : c = 0 := by omega
    rw [cr_end]; omega
  | succ N ih =>
    intro a c k a0 c0 k0 k1 hN
    by_cases h : 0 < a ∨ 0 < c
    · have A := div_nn a0 (show 0 ≤ b by omega)
      have C := div_nn c0 (show 0 ≤ b by omega)
      have ⟨q0, q1⟩ := carry_bd (a := a) (c := c) hb k0 k1
      have hlt : a / b + c / b < a + c := by
        have := div_le a0 hb
        have := div_le c0 hb
        rcases h with h | h
        · have := div_lt h hb; omega
        · have := div_lt h hb; omega
      have := ih _ _ _ A C q0 q1 (by omega)
      rw [cr_step hb a0 c0 h]
      omega
    · obtain rfl : a = 0 := by omega
      obtain rfl : c = 0 := by omega
      rw [cr_end]; omega
theorem sm_mod {b n : Int} (hb : 2 ≤ b) (hn : 0 ≤ n) : sm (dg b n) % (b - 1) = n % (b - 1) := (mod_eq_of_dvd (dvd_sm hb hn)).symm
theorem droot_facts {b : Int} (hb : 2 ≤ b) : ∀ (k : Nat) (n : Int), 0 ≤ n → n.toNat ≤ k → 0 ≤ droot b n ∧ droot b n < b ∧ droot b n % (b - 1) = n % (b - 1) ∧ (droot b n = 0 ↔ n = 0) := by
  intro k
  induction k with
  | zero =>
    intro n h0 hk
    rw [droot_end (by omega)]
    exact ⟨h0, by omega, rfl, Iff.rfl⟩
  | succ k ih =>
    intro n h0 hk
    by_cases h : b ≤ n
    · have h1 := sm_dg_lt hb h
      have h2 := (sm_dg_le hb h0).1
      obtain ⟨i1, i2, i3, i4⟩ := ih _ h2 (by omega)
      rw [droot_step hb h]
      refine ⟨i1, i2, i3.trans (sm_mod hb h0), i4.trans ?_⟩
      constructor
      · intro hz
        have := dg_step hb (show 0 < n by omega)
        have hall : ∀ l : List Int, (∀ d ∈ l, 0 ≤ d) → sm l = 0 → ∀ d ∈ l, d = 0 := by
          intro l
          induction l with
          | nil => intro _ _ d hd; simp at hd
          | cons x l ihl =>
            intro hx hs d hd
            have p1 := sm_nn l fun y hy => hx y (by simp [hy])
            have p2 := hx x (by simp)
            have p3 : x + sm l = 0 := hs
            rcases List.mem_cons.1 hd with rfl | hd
            · omega
            · exact ihl (fun y hy => hx y (by simp [hy])) (by omega) d hd
        have hz' := hall _ (fun d hd => (dg_mem hb h0 d hd).1) hz
        exfalso
        cases hl : (dg b n).getLast? with
        | none => rw [List.getLast?_eq_none_iff] at hl; rw [hl] at this; simp at this
        | some d => exact dg_last hb h0 d hl (hz' d (List.mem_of_getLast? hl))
      · intro hz; omega
    · rw [droot_end (by omega)]
      exact ⟨h0, by omega, rfl, Iff.rfl⟩
end Go.Pl
