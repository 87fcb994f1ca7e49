/-
  Plain facts on the digits of a number and on the number with some digits. No program in sight.
  Conditions: none.
-/
import Derived.Test.YtkddmngbfncocaaDoorPlain
namespace Go.Pl
/-- The digits of n in the base b, the last one first. -/
def dg (b n : Int) : List Int := if _h : 2 ≤ b ∧ 0 < n then n % b :: dg b (n / b) else []
  termination_by n.toNat
  decreasing_by
    obtain ⟨h1, h2⟩ := _h
    have := div_lt h2 h1
    omega
theorem dg_step {b n : Int} (h1 : 2 ≤ b) (h2 : 0 < n) : dg b n = n % b :: dg b (n / b) := by rw [dg, dif_pos ⟨h1, h2⟩]
theorem dg_zero (b : Int) : dg b 0 = [] := by rw [dg, dif_neg (by omega)]
theorem dg_neg {b n : Int} (h : n ≤ 0) : dg b n = [] := by rw [dg, dif_neg (by omega)]
/-- What holds of 0 and of each n behind n / b holds of all numbers of at least 0. -/
theorem dg_ind {b : Int} (hb : 2 ≤ b) {P : Int → Prop} (h0 : P 0) (hs : ∀ n, 0 < n → P (n / b) → P n) : ∀ n, 0 ≤ n → P n := by
  intro n hn
  obtain ⟨k, hk⟩ : ∃ k : Nat, n.toNat ≤ k := ⟨_, Nat.le_refl _⟩
  induction k generalizing n with
  | zero => obtain rfl : n = 0 := by omega
            exact h0
  | succ k ih =>
    by_cases h : 0 < n
    · have := div_lt h hb
      exact hs n h (ih _ (div_nn hn (by omega)) (by omega))
    · obtain rfl : n = 0 := by omega
      exact h0
theorem dg_mem {b n : Int} (hb : 2 ≤ b) (hn : 0 ≤ n) : ∀ d ∈ dg b n, 0 ≤ d ∧ d < b := by
  refine dg_ind hb (P := fun n => ∀ d ∈ dg b n, 0 ≤ d ∧ d < b) (by rw [dg_zero]; simp) (fun n h ih => ?_) n hn
  rw [dg_step hb h]
  intro d hd
  rcases List.mem_cons.1 hd with rfl | hd
  · exact ⟨mod_nn (by omega), mod_lt (by omega)⟩
  · exact ih d hd
/-- The number with some digits, the last one first. -/
def val (b : Int) : List Int → Int
  | [] => 0
  | d :: l => val b l * b + d
theorem val_dg {b n : Int} (hb : 2 ≤ b) (hn : 0 ≤ n) : val b (dg b n) = n := by
  refine dg_ind hb (P := fun n => val b (dg b n) = n) (by rw [dg_zero]; rfl) (fun n h ih => ?_) n hn
  rw [dg_step hb h]
  show val b (dg b (n / b)) * b + n % b = n
  rw [ih, Int.mul_comm]
  exact Int.mul_ediv_add_emod n b
theorem div_lt_iff {n b c : Int} (hb : 0 < b) : n / b < c ↔ n < c * b := Int.ediv_lt_iff_lt_mul hb
theorem dg_len {b : Int} (hb : 2 ≤ b) : ∀ (k : Nat) (n : Int), 0 ≤ n → ((dg b n).length ≤ k ↔ n < b ^ k) := by
  intro k
  induction k with
  | zero =>
    intro n hn
    by_cases h : 0 < n
    · rw [dg_step hb h]; simp; omega
    · obtain rfl : n = 0 := by omega
      rw [dg_zero]; simp
  | succ k ih =>
    intro n hn
    by_cases h : 0 < n
    · rw [dg_step hb h, List.length_cons, Int.pow_succ, ← div_lt_iff (by omega), ← ih (n / b) (div_nn hn (by omega))]
      omega
    · obtain rfl : n = 0 := by omega
      rw [dg_zero]
      have := pow_pos (show 0 < b by omega) (k + 1)
      simp; omega
/-- At most forty digits. -/
theorem dg_len40 {b n : Int} (hb : 2 ≤ b) (hn : 0 ≤ n) (h : n ≤ 1000000000000) : (dg b n).length ≤ 40 := by
  rw [dg_len hb 40 n hn]
  have h1 := pow_mono (show (0 : Int) ≤ 2 by omega) hb 40
  have h2 : (2 : Int) ^ 40 = 1099511627776 := by decide
  omega
theorem dg_last {b n : Int} (hb : 2 ≤ b) (hn : 0 ≤ n) : ∀ d, (dg b n).getLast? = some d → d ≠ 0 := by
  refine dg_ind hb (P := fun n => ∀ d, (dg b n).getLast? = some d → d ≠ 0) (by rw [dg_zero]; simp) (fun n h ih => ?_) n hn
  rw [dg_step hb h]
  intro d hd
  cases hl : dg b (n / b) with
  | nil =>
    rw [hl] at hd
    simp at hd
    subst hd
    by_cases h0 : 0 < n / b
    · rw [dg_step hb h0] at hl; simp at hl
    · have h1 := div_nn (a := n) (b := b) (by omega) (by omega)
      have h2 := Int.mul_ediv_add_emod n b
      have h3 : n / b = 0 := by omega
      rw [h3] at h2
      omega
  | cons x l =>
    rw [hl, List.getLast?_cons_cons] at hd
    exact ih d (by rw [hl]; exact hd)
theorem dg_pos_iff {b n : Int} (hb : 2 ≤ b) (hn : 0 ≤ n) : dg b n = [] ↔ n = 0 := by
  constructor
  · intro h
    by_cases h0 : 0 < n
    · rw [dg_step hb h0] at h; simp at h
    · omega
  · rintro rfl; exact dg_zero b
/-- Digits with a last one that is not 0 are those of their number. -/
theorem dg_val {b : Int} (hb : 2 ≤ b) : ∀ l : List Int, (∀ d ∈ l, 0 ≤ d ∧ d < b) → (∀ d, l.getLast? = some d → d ≠ 0) → dg b (val b l) = l ∧ 0 ≤ val b l ∧ (l ≠ [] → 0 < val b l) := by
  intro l
  induction l with
  | nil => intro _ _; exact ⟨dg_zero b, by simp [val], by simp⟩
  | cons d l ih =>
    intro hm hl
    have ⟨d0, d1⟩ := hm d (by simp)
    obtain ⟨i1, i2, i3⟩ := ih (fun x hx => hm x (by simp [hx])) (fun x hx => hl x (by cases l with | nil => simp at hx | cons y l => rw [List.getLast?_cons_cons]; exact hx))
    have hpos : 0 < val b l * b + d := by
      cases l with
      | nil => have := hl d (by simp); simp [val]; omega
      | cons y l =>
        have h1 := i3 (by simp)
        have h2 : 1 * 2 ≤ val b (y :: l) * b := Int.mul_le_mul (by omega) hb (by omega) (by omega)
        omega
    refine ⟨?_, by show 0 ≤ val b l * b + d; omega, fun _ => hpos⟩
    show dg b (val b l * b + d) = d :: l
    rw [dg_step hb hpos]
    have e1 : (val b l * b + d) % b = d := by
      rw [Int.add_comm, Int.add_mul_emod_self_right]; exact Int.emod_eq_of_lt d0 d1
    have e2 : (val b l * b + d) / b = val b l := by
      rw [Int.add_comm, Int.add_mul_ediv_right _ _ (by omega), Int.ediv_eq_zero_of_lt d0 d1]; omega
    rw [e1, e2, i1]
theorem val_append (b : Int) (l m : List Int) : val b (l ++ m) = val b l + b ^ l.length * val b m := by
  induction l with
  | nil => simp [val]
  | cons d l ih =>
    show val b (l ++ m) * b + d = (val b l * b + d) + b ^ (l.length + 1) * val b m
    rw [ih, Int.pow_succ]; grind
theorem val_nn {b : Int} (hb : 0 ≤ b) : ∀ l : List Int, (∀ d ∈ l, 0 ≤ d) → 0 ≤ val b l := by
  intro l
  induction l with
  | nil => intro _; simp [val]
  | cons d l ih =>
    intro h
    have h1 := Int.mul_nonneg (ih fun x hx => h x (by simp [hx])) hb
    have h2 := h d (by simp)
    show 0 ≤ val b l * b + d
    omega
theorem val_lt {b : Int} (hb : 1 ≤ b) : ∀ l : List Int, (∀ d ∈ l, 0 ≤ d ∧ d < b) → val b l < b ^ l.length := by
  intro l
  induction l with
  | nil => intro _; simp [val]
  | cons d l ih =>
    intro h
    have h1 := ih fun x hx => h x (by simp [hx])
    have h2 := h d (by simp)
    show val b l * b + d < b ^ (l.length + 1)
    rw [Int.pow_succ]
    have : (val b l + 1) * b ≤ b ^ l.length * b := Int.mul_le_mul_of_nonneg_right (by omega) (by omega)
    rw [Int.add_mul] at this
    omega
/-- The sum of a list. -/
def sm : List Int → Int
  | [] => 0
  | d :: l => d + sm l
theorem sm_append (l m : List Int) : sm (l ++ m) = sm l + sm m := by
  induction l with
  | nil => simp [sm]
  | cons d l ih => show d + sm (l ++ m) = d + sm l + sm m; omega
theorem sm_nn : ∀ l : List Int, (∀ d ∈ l, 0 ≤ d) → 0 ≤ sm l := by
  intro l
  induction l with
  | nil => intro _; simp [sm]
  | cons d l ih => intro h; have := ih fun x hx => h x (by simp [hx]); have := h d (by simp); show 0 ≤ d + sm l; omega
theorem sm_le (c : Int) : ∀ l : List Int, (∀ d ∈ l, d ≤ c) → sm l ≤ l.length * c := by
  intro l
  induction l with
  | nil => intro _; simp [sm]
  | cons d l ih =>
    intro h; have := ih fun x hx => h x (by simp [hx]); have := h d (by simp)
    show d + sm l ≤ ((l.length + 1 : Nat) : Int) * c
    rw [Int.natCast_add, Int.add_mul]; simp; omega
theorem sm_dg_le {b n : Int} (hb : 2 ≤ b) (hn : 0 ≤ n) : 0 ≤ sm (dg b n) ∧ sm (dg b n) ≤ n := by
  refine ⟨sm_nn _ fun d hd => (dg_mem hb hn d hd).1, ?_⟩
  refine dg_ind hb (P := fun n => sm (dg b n) ≤ n) (by rw [dg_zero]; simp [sm]) (fun n h ih => ?_) n hn
  rw [dg_step hb h]
  show n % b + sm (dg b (n / b)) ≤ n
  have h2 := Int.mul_ediv_add_emod n b
  have h3 : 1 * (n / b) ≤ b * (n / b) := Int.mul_le_mul_of_nonneg_right (by omega) (div_nn (by omega) (by omega))
  omega
theorem sm_dg_lt {b n : Int} (hb : 2 ≤ b) (hn : b ≤ n) : sm (dg b n) < n := by
  rw [dg_step hb (by omega)]
  show n % b + sm (dg b (n / b)) < n
  have h1 := (sm_dg_le hb (div_nn (a := n) (b := b) (by omega) (by omega))).2
  have h2 := Int.mul_ediv_add_emod n b
  have h4 : 0 < n / b := (Int.le_ediv_iff_mul_le (by omega)).2 (by omega)
  have h3 : 2 * (n / b) ≤ b * (n / b) := Int.mul_le_mul_of_nonneg_right (by omega) (by omega)
  omega
theorem drop_step {l : List Int} {k : Nat} (h : k < l.length) : l.drop k = l.getD k 0 :: l.drop (k + 1) := by
  rw [List.drop_eq_getElem_cons h, List.getD_eq_getElem?_getD, List.getElem?_eq_getElem h]; rfl
theorem getD_mem {l : List Int} {k : Nat} (h : k < l.length) : l.getD k 0 ∈ l := by
  rw [List.getD_eq_getElem?_getD, List.getElem?_eq_getElem h]; exact List.getElem_mem h
theorem drop_all {l : List Int} {k : Nat} (h : l.length ≤ k) : l.drop k = [] := List.drop_eq_nil_of_le h
theorem val_drop_le {b : Int} (hb : 1 ≤ b) {l : List Int} (h : ∀ d ∈ l, 0 ≤ d) (k : Nat) : 0 ≤ val b (l.drop k) ∧ val b (l.drop k) ≤ val b l := by
  have h1 := val_append b (l.take k) (l.drop k)
  rw [List.take_append_drop] at h1
  have h2 := val_nn (show 0 ≤ b by omega) (l.take k) fun d hd => h d (List.mem_of_mem_take hd)
  have h3 := val_nn (show 0 ≤ b by omega) (l.drop k) fun d hd => h d (List.mem_of_mem_drop hd)
  have h4 : 0 < b ^ (l.take k).length := pow_pos (by omega) _
  have h5 : 1 * val b (l.drop k) ≤ b ^ (l.take k).length * val b (l.drop k) := Int.mul_le_mul_of_nonneg_right (by omega) h3
  omega
theorem val_drop_step (b : Int) {l : List Int} {k : Nat} (h : k < l.length) : val b (l.drop k) = val b (l.drop (k + 1)) * b + l.getD k 0 := by rw [drop_step h]; rfl
theorem sm_drop_step {l : List Int} {k : Nat} (h : k < l.length) : sm (l.drop k) = l.getD k 0 + sm (l.drop (k + 1)) := by rw [drop_step h]; rfl
/-- The sum with signs that turn. -/
def alt (k : Nat) : List Int → Int
  | [] => 0
  | d :: l => (if k % 2 = 0 then d else -d) + alt (k + 1) l
theorem alt_drop_step {l : List Int} {k : Nat} (h : k < l.length) : alt k (l.drop k) = (if k % 2 = 0 then l.getD k 0 else -l.getD k 0) + alt (k + 1) (l.drop (k + 1)) := by rw [drop_step h]; rfl
/-- A number and the sum of its digits have one remainder by the base minus 1. -/
theorem dvd_sm {b n : Int} (hb : 2 ≤ b) (hn : 0 ≤ n) : (b - 1) ∣ n - sm (dg b n) := by
  refine dg_ind hb (P := fun n => (b - 1) ∣ n - sm (dg b n)) (by rw [dg_zero]; simp [sm]) (fun n h ih => ?_) n hn
  rw [dg_step hb h]
  show (b - 1) ∣ n - (n % b + sm (dg b (n / b)))
  have h2 := Int.mul_ediv_add_emod n b
  have e : n - (n % b + sm (dg b (n / b))) = (b - 1) * (n / b) + (n / b - sm (dg b (n / b))) := by rw [Int.sub_mul]; omega
  rw [e]
  exact Int.dvd_add (Int.dvd_mul_right _ _) ih
theorem alt_flip : ∀ (l : List Int) (k : Nat), alt (k + 1) l = -alt k l := by
  intro l
  induction l with
  | nil => intro k; simp [alt]
  | cons d l ih =>
    intro k
    show (if (k + 1) % 2 = 0 then d else -d) + alt (k + 1 + 1) l = -((if k % 2 = 0 then d else -d) + alt (k + 1) l)
    rw [ih (k + 1)]
    split <;> split <;> omega
theorem dvd_alt {b n : Int} (hb : 2 ≤ b) (hn : 0 ≤ n) : (b + 1) ∣ n - alt 0 (dg b n) := by
  refine dg_ind hb (P := fun n => (b + 1) ∣ n - alt 0 (dg b n)) (by rw [dg_zero]; simp [alt]) (fun n h ih => ?_) n hn
  rw [dg_step hb h]
  show (b + 1) ∣ n - (n % b + alt 1 (dg b (n / b)))
  rw [alt_flip _ 0]
  have h2 := Int.mul_ediv_add_emod n b
  have e : n - (n % b + -alt 0 (dg b (n / b))) = (b + 1) * (n / b) - (n / b - alt 0 (dg b (n / b))) := by rw [Int.add_mul]; omega
  rw [e]
  exact Int.dvd_sub (Int.dvd_mul_right _ _) ih
/-- What is left of a number if the digits are added again and again. -/
def leg (p n : Int) : Int := if _h : 2 ≤ p ∧ 0 < n then n / p + leg p (n / p) else 0
  termination_by n.toNat
  decreasing_by
    obtain ⟨h1, h2⟩ := _h
    have := div_lt h2 h1
    omega
theorem leg_step {p n : Int} (h1 : 2 ≤ p) (h2 : 0 < n) : leg p n = n / p + leg p (n / p) := by rw [leg, dif_pos ⟨h1, h2⟩]
theorem leg_zero (p : Int) : leg p 0 = 0 := by rw [leg, dif_neg (by omega)]
/-- How often a prime divides a factorial, by the digits. -/
theorem leg_mul {p n : Int} (hp : 2 ≤ p) (hn : 0 ≤ n) : leg p n * (p - 1) = n - sm (dg p n) := by
  refine dg_ind hp (P := fun n => leg p n * (p - 1) = n - sm (dg p n)) (by rw [dg_zero, leg_zero]; simp [sm]) (fun n h ih => ?_) n hn
  rw [dg_step hp h, leg_step hp h]
  show (n / p + leg p (n / p)) * (p - 1) = n - (n % p + sm (dg p (n / p)))
  rw [Int.add_mul, ih, Int.mul_sub, Int.mul_comm]
  have h2 := Int.mul_ediv_add_emod n p
  omega
theorem leg_div {p n : Int} (hp : 2 ≤ p) (hn : 0 ≤ n) : (n - sm (dg p n)) / (p - 1) = leg p n := by
  rw [← leg_mul hp hn]; exact Int.mul_ediv_cancel _ (by omega)
/-- The digits are added up until one is left. -/
def droot (b n : Int) : Int := if _h : 2 ≤ b ∧ b ≤ n then droot b (sm (dg b n)) else n
  termination_by n.toNat
  decreasing_by
    obtain ⟨h1, h2⟩ := _h
    have := sm_dg_lt h1 h2
    have := (sm_dg_le h1 (show 0 ≤ n by omega)).1
    omega
theorem droot_step {b n : Int} (h1 : 2 ≤ b) (h2 : b ≤ n) : droot b n = droot b (sm (dg b n)) := by rw [droot, dif_pos ⟨h1, h2⟩]
theorem droot_end {b n : Int} (h : n < b) : droot b n = n := by rw [droot, dif_neg (by omega)]
/-- The number with some digits, or -1 if it is too great. -/
def val1 (b : Int) (l : List Int) : Int := if val b l ≤ 1000000000000 then val b l else -1
theorem val1_yes {b : Int} {l : List Int} (h : val b l ≤ 1000000000000) : val1 b l = val b l := by rw [val1, if_pos h]
theorem val1_no {b : Int} {l : List Int} (h : 1000000000000 < val b l) : val1 b l = -1 := by rw [val1, if_neg (by omega)]
/-- The sum of the powers of a list. -/
def ps (e : Nat) : List Int → Int
  | [] => 0
  | d :: l => d ^ e + ps e l
theorem ps_drop_step (e : Nat) {l : List Int} {k : Nat} (h : k < l.length) : ps e (l.drop k) = l.getD k 0 ^ e + ps e (l.drop (k + 1)) := by rw [drop_step h]; rfl
/-- The product of the numbers, each plus 1. -/
def pd : List Int → Int
  | [] => 1
  | d :: l => (d + 1) * pd l
theorem pd_drop_step {l : List Int} {k : Nat} (h : k < l.length) : pd (l.drop k) = (l.getD k 0 + 1) * pd (l.drop (k + 1)) := by rw [drop_step h]; rfl
theorem pd_pos : ∀ l : List Int, (∀ d ∈ l, 0 ≤ d) → 1 ≤ pd l := by
  intro l
  induction l with
  | nil => intro _; simp [pd]
  | cons d l ih =>
    intro h
    have h1 := ih fun x hx => h x (by simp [hx])
    have h2 := h d (by simp)
    have : 1 * 1 ≤ (d + 1) * pd l := Int.mul_le_mul (by omega) h1 (by omega) (by omega)
    show 1 ≤ (d + 1) * pd l
    omega
theorem pd_dg_le {p n : Int} (hp : 2 ≤ p) (hn : 0 ≤ n) : 0 < n → pd (dg p n) ≤ p * n := by
  refine dg_ind hp (P := fun n => 0 < n → pd (dg p n) ≤ p * n) (fun h => absurd h (by omega)) (fun n h ih _ => ?_) n hn
  rw [dg_step hp h]
  show (n % p + 1) * pd (dg p (n / p)) ≤ p * n
  have m0 := mod_nn (a := n) (show 0 < p by omega)
  have m1 := mod_lt (a := n) (show 0 < p by omega)
  have f := Int.mul_ediv_add_emod n p
  by_cases h0 : 0 < n / p
  · have h1 : (n % p + 1) * pd (dg p (n / p)) ≤ p * (p * (n / p)) := Int.mul_le_mul (by omega) (ih h0) (by have := pd_pos _ (fun d hd => (dg_mem hp (Int.le_of_lt h0) d hd).1); omega) (by omega)
    have h2 : p * (p * (n / p)) ≤ p * n := Int.mul_le_mul_of_nonneg_left (by omega) (by omega)
    omega
  · have e : n / p = 0 := by have := div_nn (a := n) (b := p) (by omega) (by omega); omega
    rw [e, dg_zero]
    rw [e] at f
    have h2 : 2 * n ≤ p * n := Int.mul_le_mul_of_nonneg_right hp (by omega)
    simp [pd]
    omega
theorem pd_dg {p n : Int} (hp : 2 ≤ p) (hp2 : p ≤ 13) (hn : 0 ≤ n) (hn2 : n ≤ 1000000) : 1 ≤ pd (dg p n) ∧ pd (dg p n) ≤ 13000000 := by
  refine ⟨pd_pos _ fun d hd => (dg_mem hp hn d hd).1, ?_⟩
  by_cases h : 0 < n
  · have h1 := pd_dg_le hp hn h
    have h2 : p * n ≤ 13 * 1000000 := Int.mul_le_mul hp2 hn2 hn (by omega)
    omega
  · obtain rfl : n = 0 := by omega
    rw [dg_zero]; simp [pd]
/-- A number is made of its upper part and its lower part. -/
theorem dg_drop {b : Int} (hb : 2 ≤ b) : ∀ (k : Nat) (n : Int), 0 ≤ n → (dg b n).drop k = dg b (n / b ^ k) := by
  intro k
  induction k with
  | zero => intro n _; simp
  | succ k ih =>
    intro n hn
    by_cases h : 0 < n
    · rw [dg_step hb h, List.drop_succ_cons, ih _ (div_nn hn (by omega)), Int.ediv_ediv_of_nonneg (by omega), Int.pow_succ, Int.mul_comm]
    · obtain rfl : n = 0 := by omega
      rw [Int.zero_ediv, dg_zero]; rfl
theorem dg_len_ge {b : Int} (hb : 2 ≤ b) {k : Nat} {n : Int} (hn : 0 ≤ n) : k < (dg b n).length ↔ b ^ k ≤ n := by
  have := dg_len hb k n hn
  omega
/-- Digits of a number with k of them. -/
theorem dg_len_eq {b : Int} (hb : 2 ≤ b) {k : Nat} {n : Int} (hn : 0 ≤ n) (hk : 1 ≤ k) : (dg b n).length = k ↔ b ^ (k - 1) ≤ n ∧ n < b ^ k := by
  have h1 := dg_len hb k n hn
  have h2 := dg_len_ge hb (k := k - 1) hn
  omega
end Go.Pl
