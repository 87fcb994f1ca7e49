/-
  Plain facts on integers: powers, repunits, sums of digits up to a number. No program in sight.
  Conditions: none.
-/
namespace Go.Pl

theorem pow_nn {b : Int} (h : 0 ≤ b) (k : Nat) : 0 ≤ b ^ k := Int.pow_nonneg h
theorem pow_pos {b : Int} (h : 0 < b) (k : Nat) : 0 < b ^ k := Int.pow_pos h
theorem pow_mono {b c : Int} (h0 : 0 ≤ b) (h : b ≤ c) (k : Nat) : b ^ k ≤ c ^ k := by
  induction k with
  | zero => simp
  | succ k ih => rw [Int.pow_succ, Int.pow_succ]; exact Int.mul_le_mul ih h h0 (Int.pow_nonneg (Int.le_trans h0 h))
theorem pow_up {b : Int} (h : 1 ≤ b) {j k : Nat} (hjk : j ≤ k) : b ^ j ≤ b ^ k := by
  induction hjk with
  | refl => exact Int.le_refl _
  | @step m _ ih =>
    rw [Int.pow_succ]
    have h1 : 0 ≤ b ^ m := Int.pow_nonneg (by omega)
    have h2 : b ^ m * 1 ≤ b ^ m * b := Int.mul_le_mul_of_nonneg_left h h1
    omega
theorem pow16 {b : Int} (h0 : 0 ≤ b) (h : b ≤ 16) {k : Nat} (hk : k ≤ 9) : b ^ k ≤ 68719476736 := by
  have h1 := pow_mono h0 h k
  have h2 : (16 : Int) ^ k ≤ 16 ^ 9 := pow_up (by omega) hk
  have h3 : (16 : Int) ^ 9 = 68719476736 := by decide
  omega
theorem pow16' {b : Int} (h0 : 0 ≤ b) (h : b ≤ 16) {n : Nat} (hn : n ≤ 9) : ∀ k, k ≤ n → b ^ k ≤ 1000000000000000000 := fun k hk => by
  have := pow16 h0 h (k := k) (by omega)
  omega

/-- The number with k ones as digits. -/
def rep (b : Int) : Nat → Int
  | 0 => 0
  | k + 1 => rep b k * b + 1
theorem rep_mul (b : Int) (k : Nat) : rep b k * (b - 1) = b ^ k - 1 := by
  induction k with
  | zero => simp [rep]
  | succ k ih =>
    have e : rep b (k + 1) * (b - 1) = (rep b k * (b - 1)) * b + (b - 1) := by
      simp only [rep]; grind
    rw [e, ih, Int.pow_succ, Int.sub_mul]; omega
theorem rep_nn {b : Int} (h : 0 ≤ b) (k : Nat) : 0 ≤ rep b k := by
  induction k with
  | zero => simp [rep]
  | succ k ih => have := Int.mul_nonneg ih h; simp only [rep]; omega
theorem rep_div {b : Int} (h : 2 ≤ b) (k : Nat) : (b ^ k - 1) / (b - 1) = rep b k := by
  rw [← rep_mul b k]; exact Int.mul_ediv_cancel _ (by omega)
theorem rep_le {b : Int} (h : 2 ≤ b) (k : Nat) : rep b k ≤ b ^ k := by
  have h1 := rep_mul b k
  have h2 := rep_nn (show 0 ≤ b by omega) k
  have h3 : rep b k * 1 ≤ rep b k * (b - 1) := Int.mul_le_mul_of_nonneg_left (by omega) h2
  omega

/-- What one place adds to the sum of all digits up to n. -/
def place (n b p : Int) : Int := n / (p * b) * p * (b * (b - 1) / 2) + (p * (n % (p * b) / p * (n % (p * b) / p - 1) / 2) + n % (p * b) / p * (n % (p * b) % p))
def sumTo (n b p : Int) : Int := if _h : 1 ≤ p ∧ 2 ≤ b ∧ p ≤ n then place n b p + sumTo n b (p * b) else 0
  termination_by (n + 1 - p).toNat
  decreasing_by
  obtain ⟨h1, h2, h3⟩ := _h
  have : p * 2 ≤ p * b := Int.mul_le_mul_of_nonneg_left h2 (by omega)
  omega

theorem gcd_step {p q : Int} (hp : 0 ≤ p) (h : 0 < q) : Int.gcd q (p % q) = Int.gcd p q := by
  obtain ⟨a, rfl⟩ := Int.eq_ofNat_of_zero_le hp
  obtain ⟨b, rfl⟩ := Int.eq_ofNat_of_zero_le (Int.le_of_lt h)
  have e : ((a : Int) % (b : Int)) = ((a % b : Nat) : Int) := rfl
  rw [e, Int.gcd_natCast_natCast, Int.gcd_natCast_natCast, Nat.gcd_comm b, ← Nat.gcd_rec, Nat.gcd_comm]
theorem div_lt {a b : Int} (ha : 0 < a) (hb : 2 ≤ b) : a / b < a := Int.ediv_lt_of_lt_mul (by omega) (by have := Int.mul_le_mul_of_nonneg_left hb (Int.le_of_lt ha); omega)
theorem div_nn {a b : Int} (ha : 0 ≤ a) (hb : 0 ≤ b) : 0 ≤ a / b := Int.ediv_nonneg ha hb
theorem div_le {a b : Int} (ha : 0 ≤ a) (hb : 2 ≤ b) : a / b ≤ a := by
  by_cases h : 0 < a
  · exact Int.le_of_lt (div_lt h hb)
  · obtain rfl : a = 0 := by omega
    simp
theorem mod_nn {a b : Int} (hb : 0 < b) : 0 ≤ a % b := Int.emod_nonneg a (by omega)
theorem mod_lt {a b : Int} (hb : 0 < b) : a % b < b := Int.emod_lt_of_pos a hb
theorem mod_le {a b : Int} (ha : 0 ≤ a) (hb : 0 < b) : a % b ≤ a := by
  have := Int.emod_add_mul_ediv a b
  have := Int.mul_nonneg (Int.le_of_lt hb) (div_nn ha (Int.le_of_lt hb))
  omega

/-- How many carries are left in a column addition of a and c with a carry k coming in. -/
def cr (b a c k : Int) : Int := if _h : 2 ≤ b ∧ 0 ≤ a ∧ 0 ≤ c ∧ (0 < a ∨ 0 < c) then (a % b + c % b + k) / b + cr b (a / b) (c / b) ((a % b + c % b + k) / b) else 0
  termination_by (a + c).toNat
  decreasing_by
  obtain ⟨h1, h2, h3, h4⟩ := _h
  have := div_le h2 h1
  have := div_le h3 h1
  have := div_nn h2 (show 0 ≤ b by omega)
  have := div_nn h3 (show 0 ≤ b by omega)
  rcases h4 with h4 | h4
  · have := div_lt h4 h1; omega
  · have := div_lt h4 h1; omega
theorem cr_step {b a c k : Int} (h1 : 2 ≤ b) (h2 : 0 ≤ a) (h3 : 0 ≤ c) (h4 : 0 < a ∨ 0 < c) : cr b a c k = (a % b + c % b + k) / b + cr b (a / b) (c / b) ((a % b + c % b + k) / b) := by
  rw [cr, dif_pos ⟨h1, h2, h3, h4⟩]
theorem cr_end (b k : Int) : cr b 0 0 k = 0 := by rw [cr, dif_neg (by omega)]
theorem carry_bd {b a c k : Int} (h1 : 2 ≤ b) (k0 : 0 ≤ k) (k1 : k ≤ 1) : 0 ≤ (a % b + c % b + k) / b ∧ (a % b + c % b + k) / b ≤ 1 := by
  have a0 := mod_nn (a := a) (show 0 < b by omega)
  have c0 := mod_nn (a := c) (show 0 < b by omega)
  have a1 := mod_lt (a := a) (show 0 < b by omega)
  have c1 := mod_lt (a := c) (show 0 < b by omega)
  refine ⟨div_nn (by omega) (by omega), ?_⟩
  have : (a % b + c % b + k) / b < 2 := Int.ediv_lt_of_lt_mul (by omega) (by omega)
  omega

/-- Euclid's way, with the factor that is carried along. -/
def egc (r s x y : Int) : Int × Int := if _h : 0 < s then egc s (r - r / s * s) y (x - r / s * y) else (r, x)
  termination_by s.toNat
  decreasing_by
  have e : r - r / s * s = r % s := by rw [Int.emod_def, Int.mul_comm]
  rw [e]
  have := mod_lt (a := r) _h
  omega
theorem egc_step {r s x y : Int} (h : 0 < s) : egc r s x y = egc s (r - r / s * s) y (x - r / s * y) := by rw [egc, dif_pos h]
theorem egc_end (r x y : Int) : egc r 0 x y = (r, x) := by rw [egc, dif_neg (by omega)]
def EgInv (m r s x y : Int) : Prop := 0 < r ∧ 0 ≤ s ∧ r ≤ m ∧ s < r ∧ ((0 ≤ y ∧ x ≤ 0 ∧ r * y - s * x = m) ∨ (y ≤ 0 ∧ 0 ≤ x ∧ s * x - r * y = m))
theorem EgInv.start {m s : Int} (h0 : 0 ≤ s) (h1 : s < m) : EgInv m m s 0 1 := ⟨by omega, h0, by omega, h1, .inl ⟨by omega, by omega, by omega⟩⟩
theorem EgInv.bd {m r s x y : Int} (h : EgInv m r s x y) : -m ≤ y ∧ y ≤ m ∧ (0 < s → -m ≤ x ∧ x ≤ m) := by
  obtain ⟨h1, h2, h3, h3', ⟨a, b, c⟩ | ⟨a, b, c⟩⟩ := h
  · have p1 : 0 ≤ s * -x := Int.mul_nonneg h2 (by omega)
    have p2 : 1 * y ≤ r * y := Int.mul_le_mul_of_nonneg_right (by omega) a
    have p3 : 0 ≤ r * y := Int.mul_nonneg (by omega) a
    rw [Int.mul_neg] at p1
    refine ⟨by omega, by omega, fun hs => ?_⟩
    have p4 : 1 * -x ≤ s * -x := Int.mul_le_mul_of_nonneg_right (by omega) (by omega)
    simp only [Int.mul_neg] at p4
    omega
  · have p1 : 0 ≤ s * x := Int.mul_nonneg h2 (by omega)
    have p2 : 1 * -y ≤ r * -y := Int.mul_le_mul_of_nonneg_right (by omega) (by omega)
    have p3 : 0 ≤ r * -y := Int.mul_nonneg (by omega) (by omega)
    simp only [Int.mul_neg] at p2 p3
    refine ⟨by omega, by omega, fun hs => ?_⟩
    have p4 : 1 * x ≤ s * x := Int.mul_le_mul_of_nonneg_right (by omega) (by omega)
    omega
theorem EgInv.step {m r s x y : Int} (h : EgInv m r s x y) (hs : 0 < s) : EgInv m s (r - r / s * s) y (x - r / s * y) := by
  obtain ⟨h1, h2, h3, h3', h4⟩ := h
  have e : r - r / s * s = r % s := by rw [Int.emod_def, Int.mul_comm]
  have q0 : 0 ≤ r / s := div_nn (by omega) h2
  have e1 := mod_nn (a := r) hs
  have e2 := mod_lt (a := r) hs
  refine ⟨hs, by omega, by omega, by omega, ?_⟩
  rcases h4 with ⟨a, b, c⟩ | ⟨a, b, c⟩
  · right
    have : 0 ≤ r / s * y := Int.mul_nonneg q0 a
    refine ⟨by omega, by omega, ?_⟩
    generalize r / s = q at *
    grind
  · left
    have : 0 ≤ r / s * -y := Int.mul_nonneg q0 (by omega)
    rw [Int.mul_neg] at this
    refine ⟨by omega, by omega, ?_⟩
    generalize r / s = q at *
    grind
theorem EgInv.qs {r s : Int} (hs : 0 < s) (hr : 0 ≤ r) : 0 ≤ r / s * s ∧ r / s * s ≤ r := by
  have e : r - r / s * s = r % s := by rw [Int.emod_def, Int.mul_comm]
  have e1 := mod_nn (a := r) hs
  exact ⟨Int.mul_nonneg (div_nn hr (by omega)) (by omega), by omega⟩
theorem EgInv.qy {m r s x y : Int} (h : EgInv m r s x y) (hs : 0 < s) : -m ≤ x - r / s * y ∧ x - r / s * y ≤ m ∧ -(2 * m) ≤ r / s * y ∧ r / s * y ≤ 2 * m := by
  have b1 := h.bd
  have b2 := (h.step hs).bd
  have := b1.2.2 hs
  omega
def invV (a m : Int) : Int := if (egc m (a % m) 0 1).1 = 1 then ((egc m (a % m) 0 1).2.tmod m + m) % m else -1
theorem tmod_bd (x : Int) {m : Int} (h : 0 < m) : -m < x.tmod m ∧ x.tmod m < m := by
  exact ⟨Int.lt_tmod_of_pos x h, Int.tmod_lt_of_pos x h⟩

/-- The trying of powers by which the rule of blocks is found. -/
def blk (m b : Int) : Nat → Int → Int × Int
  | 0, _ => (0, 0)
  | f + 1, r => if r * b % m = 1 then (40 - f, 1) else if r * b % m = m - 1 then (40 - f, -1) else blk m b f (r * b % m)

/-- Two numbers of a list that is longer than its range are alike. -/
theorem pigeon : ∀ (m : Nat) (f : Nat → Nat), (∀ i, i ≤ m → f i < m) → ∃ i j, i < j ∧ j ≤ m ∧ f i = f j := by
  intro m
  induction m with
  | zero => intro f h; exact absurd (h 0 (Nat.le_refl _)) (by omega)
  | succ m ih =>
    intro f h
    by_cases hx : ∃ i, i ≤ m ∧ f i = f (m + 1)
    · obtain ⟨i, hi, he⟩ := hx
      exact ⟨i, m + 1, by omega, Nat.le_refl _, he⟩
    · -- move the value m onto the value of the last place
      have hne : ∀ i, i ≤ m → f i ≠ f (m + 1) := fun i hi he => hx ⟨i, hi, he⟩
      have hlast := h (m + 1) (Nat.le_refl _)
      obtain ⟨i, j, hij, hj, he⟩ := ih (fun i => if f i = m then f (m + 1) else f i) (by
        intro i hi
        have h1 := h i (by omega)
        have h2 := hne i hi
        show (if f i = m then f (m + 1) else f i) < m
        split <;> omega)
      refine ⟨i, j, hij, by omega, ?_⟩
      have h1 := hne i (by omega)
      have h2 := hne j hj
      have he' : (if f i = m then f (m + 1) else f i) = (if f j = m then f (m + 1) else f j) := he
      split at he' <;> split at he' <;> omega

/-- The remainders of the repunits. -/
def xr (m b : Int) : Nat → Int
  | 0 => 0
  | k + 1 => (xr m b k * b + 1) % m
theorem xr_nn {m b : Int} (hm : 0 < m) (k : Nat) : 0 ≤ xr m b k ∧ xr m b k < m := by
  cases k with
  | zero => simp [xr, hm]
  | succ k => exact ⟨mod_nn hm, mod_lt hm⟩
theorem dvd_of_cop {m b x : Int} (hc : Int.gcd m b = 1) (h : m ∣ x * b) : m ∣ x := by
  rw [← Int.natAbs_dvd_natAbs] at h ⊢
  rw [Int.natAbs_mul] at h
  exact Nat.Coprime.dvd_of_dvd_mul_right hc h
theorem dvd_of_mod_eq {m x y : Int} (h : x % m = y % m) : m ∣ x - y := Int.dvd_of_emod_eq_zero (Int.emod_eq_emod_iff_emod_sub_eq_zero.1 h)
theorem mod_eq_of_dvd {m x y : Int} (h : m ∣ x - y) : x % m = y % m := Int.emod_eq_emod_iff_emod_sub_eq_zero.2 (Int.emod_eq_zero_of_dvd h)
theorem xr_inj {m b : Int} (hm : 0 < m) (hc : Int.gcd m b = 1) {i j : Nat} (h : xr m b (i + 1) = xr m b (j + 1)) : xr m b i = xr m b j := by
  have h1 : m ∣ (xr m b i * b + 1) - (xr m b j * b + 1) := dvd_of_mod_eq h
  have h2 : (xr m b i * b + 1) - (xr m b j * b + 1) = (xr m b i - xr m b j) * b := by rw [Int.sub_mul]; omega
  rw [h2] at h1
  have h3 := mod_eq_of_dvd (dvd_of_cop hc h1)
  rwa [Int.emod_eq_of_lt (xr_nn hm i).1 (xr_nn hm i).2, Int.emod_eq_of_lt (xr_nn hm j).1 (xr_nn hm j).2] at h3
theorem xr_back {m b : Int} (hm : 0 < m) (hc : Int.gcd m b = 1) : ∀ (i d : Nat), xr m b i = xr m b (i + d) → xr m b 0 = xr m b d := by
  intro i
  induction i with
  | zero => intro d h; rwa [Nat.zero_add] at h
  | succ i ih =>
    intro d h
    exact ih d (xr_inj hm hc (by rwa [show i + 1 + d = i + d + 1 by omega] at h))
/-- A repunit of at most m digits is divisible by m, if m and the base have no common divisor. -/
theorem xr_zero {m b : Int} (hm : 0 < m) (hc : Int.gcd m b = 1) : ∃ k : Nat, 1 ≤ k ∧ (k : Int) ≤ m ∧ xr m b k = 0 := by
  obtain ⟨i, j, hij, hj, he⟩ := pigeon m.toNat (fun i => (xr m b i).toNat) (fun i _ => by have := xr_nn (b := b) hm i; show (xr m b i).toNat < m.toNat; omega)
  have hi := xr_nn (b := b) hm i
  have hj' := xr_nn (b := b) hm j
  have he' : xr m b i = xr m b (i + (j - i)) := by
    rw [show i + (j - i) = j by omega]
    have : (xr m b i).toNat = (xr m b j).toNat := he
    omega
  have := xr_back hm hc i (j - i) he'
  exact ⟨j - i, by omega, by omega, by rw [← this]; rfl⟩
/-- The least number of digits of a repunit that m divides. -/
def IsLeast (m b : Int) (k : Nat) : Prop := 1 ≤ k ∧ xr m b k = 0 ∧ ∀ i, 1 ≤ i → i < k → xr m b i ≠ 0
theorem IsLeast.uniq {m b : Int} {j k : Nat} (h : IsLeast m b j) (h' : IsLeast m b k) : j = k := by
  rcases Nat.lt_trichotomy j k with h1 | h1 | h1
  · exact absurd h.2.1 (h'.2.2 j h.1 h1)
  · exact h1
  · exact absurd h'.2.1 (h.2.2 k h'.1 h1)
theorem even_mul_pred (b : Int) : b * (b - 1) % 2 = 0 := by
  rcases Int.emod_two_eq b with h | h
  · rw [Int.mul_emod, h]; simp
  · rw [Int.mul_emod, show (b - 1) % 2 = 0 by omega]; simp
theorem half_mul (x b : Int) : x * b * (b - 1) / 2 = x * (b * (b - 1) / 2) := by
  rw [Int.mul_assoc, Int.mul_ediv_assoc]
  exact Int.dvd_of_emod_eq_zero (even_mul_pred b)
theorem sumTo_step {n b p : Int} (h1 : 1 ≤ p) (h2 : 2 ≤ b) (h3 : p ≤ n) : sumTo n b p = place n b p + sumTo n b (p * b) := by rw [sumTo, dif_pos ⟨h1, h2, h3⟩]
theorem sumTo_end {n b p : Int} (h : n < p) : sumTo n b p = 0 := by rw [sumTo, dif_neg (by omega)]
structure PlaceB (n b p d m : Int) : Prop where
  pb : 1 ≤ p * b ∧ p * b ≤ 16000000000
  full : 0 ≤ n / (p * b) ∧ n / (p * b) ≤ 1000000000
  fp : 0 ≤ n / (p * b) * p ∧ n / (p * b) * p ≤ 1000000000
  bb : 2 ≤ b * (b - 1) ∧ b * (b - 1) ≤ 240
  fpb : 0 ≤ n / (p * b) * p * b ∧ n / (p * b) * p * b ≤ 1000000000
  fpbb : 0 ≤ n / (p * b) * p * b * (b - 1) ∧ n / (p * b) * p * b * (b - 1) ≤ 15000000000
  fph : 0 ≤ n / (p * b) * p * (b * (b - 1) / 2) ∧ n / (p * b) * p * (b * (b - 1) / 2) ≤ 15000000000
  rest : 0 ≤ n % (p * b) ∧ n % (p * b) < p * b
  dv : 0 ≤ d ∧ d ≤ 15
  dd : 0 ≤ d * (d - 1) ∧ d * (d - 1) ≤ 210
  pd : 0 ≤ p * (d) ∧ p * (d) ≤ 15000000000
  pdd : 0 ≤ p * (d) * (d - 1) ∧ p * (d) * (d - 1) ≤ 210000000000
  ph : 0 ≤ p * (d * (d - 1) / 2) ∧ p * (d * (d - 1) / 2) ≤ 105000000000
  dp : 0 ≤ d * p ∧ d * p ≤ 16000000000
  mv : 0 ≤ m ∧ m < p
  dm : 0 ≤ d * (m) ∧ d * (m) ≤ 15000000000
  e1 : n / (p * b) * p * b * (b - 1) / 2 = n / (p * b) * p * (b * (b - 1) / 2)
  e2 : p * (d) * (d - 1) / 2 = p * (d * (d - 1) / 2)
  e3 : n % (p * b) - d * p = m
  pl : 0 ≤ place n b p ∧ place n b p ≤ 200000000000
theorem place_b {n b p : Int} (h1 : 1 ≤ p) (h2 : 2 ≤ b) (h3 : p ≤ n) (h4 : b ≤ 16) (h5 : n ≤ 1000000000) : PlaceB n b p (n % (p * b) / p) (n % (p * b) % p) := by
  have pb0 : p * 2 ≤ p * b := Int.mul_le_mul_of_nonneg_left h2 (by omega)
  have pb1 : p * b ≤ p * 16 := Int.mul_le_mul_of_nonneg_left h4 (by omega)
  have hpb : 1 ≤ p * b ∧ p * b ≤ 16000000000 := by omega
  have f0 := div_nn (a := n) (b := p * b) (by omega) (by omega)
  have f1 : n / (p * b) * (p * b) ≤ n := Int.ediv_mul_le n (by omega)
  have f2 := Int.ediv_le_self (p * b) (show 0 ≤ n by omega)
  have fp0 : 0 ≤ n / (p * b) * p := Int.mul_nonneg f0 (by omega)
  have fp1 : n / (p * b) * p * b ≤ 1000000000 := by rw [Int.mul_assoc]; omega
  have fp2 : n / (p * b) * p * 2 ≤ n / (p * b) * p * b := Int.mul_le_mul_of_nonneg_left h2 fp0
  have fp3 : 0 ≤ n / (p * b) * p * b * (b - 1) := Int.mul_nonneg (by omega) (by omega)
  have fp4 : n / (p * b) * p * b * (b - 1) ≤ 1000000000 * 15 := Int.mul_le_mul fp1 (by omega) (by omega) (by omega)
  have bb0 : 2 * 1 ≤ b * (b - 1) := Int.mul_le_mul h2 (by omega) (by omega) (by omega)
  have bb1 : b * (b - 1) ≤ 16 * 15 := Int.mul_le_mul h4 (by omega) (by omega) (by omega)
  have e1 := half_mul (n / (p * b) * p) b
  have r0 := mod_nn (a := n) (show 0 < p * b by omega)
  have r1 := mod_lt (a := n) (show 0 < p * b by omega)
  have d0 := div_nn (a := n % (p * b)) (b := p) r0 (by omega)
  have d1 : n % (p * b) / p < b := Int.ediv_lt_of_lt_mul (by omega) (by rw [Int.mul_comm b p]; exact r1)
  have dp : n % (p * b) / p * p ≤ n % (p * b) := Int.ediv_mul_le _ (by omega)
  have dp0 : 0 ≤ n % (p * b) / p * p := Int.mul_nonneg d0 (by omega)
  have m0 := mod_nn (a := n % (p * b)) (show 0 < p by omega)
  have m1 := mod_lt (a := n % (p * b)) (show 0 < p by omega)
  have e3 : n % (p * b) - n % (p * b) / p * p = n % (p * b) % p := by rw [Int.emod_def (n % (p * b)) p, Int.mul_comm p (n % (p * b) / p)]
  have e2 := half_mul p (n % (p * b) / p)
  have hpl : place n b p = n / (p * b) * p * (b * (b - 1) / 2) + (p * (n % (p * b) / p * (n % (p * b) / p - 1) / 2) + n % (p * b) / p * (n % (p * b) % p)) := rfl
  generalize n % (p * b) / p = d at *
  generalize n % (p * b) % p = m at *
  have dd : 0 ≤ d * (d - 1) ∧ d * (d - 1) ≤ 210 := by
    by_cases h : d = 0
    · subst h; simp
    · have h1 : d * (d - 1) ≤ 15 * 14 := Int.mul_le_mul (by omega) (by omega) (by omega) (by omega)
      have h2 : 0 ≤ d * (d - 1) := Int.mul_nonneg d0 (by omega)
      omega
  have pd0 : 0 ≤ p * d := Int.mul_nonneg (by omega) d0
  have pd1 : p * d ≤ 1000000000 * 15 := Int.mul_le_mul (by omega) (by omega) d0 (by omega)
  have pdd : 0 ≤ p * d * (d - 1) ∧ p * d * (d - 1) ≤ 210000000000 := by
    rw [Int.mul_assoc]
    have h1 : p * (d * (d - 1)) ≤ 1000000000 * 210 := Int.mul_le_mul (by omega) dd.2 dd.1 (by omega)
    have h2 : 0 ≤ p * (d * (d - 1)) := Int.mul_nonneg (by omega) dd.1
    omega
  have dm0 : 0 ≤ d * m := Int.mul_nonneg d0 m0
  have dm1 : d * m ≤ 15 * 1000000000 := Int.mul_le_mul (by omega) (by omega) m0 (by omega)
  refine ⟨hpb, by omega, by omega, by omega, by omega, by omega, by omega, by omega, by omega, dd, by omega, pdd, by omega, by omega, by omega, by omega, e1, e2, e3, by omega⟩
theorem two_pow_lt {k : Nat} {p : Int} (h : (2 : Int) ^ k ≤ p) (hp : p ≤ 1000000000) : k < 30 := by
  rcases Nat.lt_or_ge k 30 with h1 | h1
  · exact h1
  · have h2 : (2 : Int) ^ 30 ≤ 2 ^ k := pow_up (by omega) h1
    have h3 : (2 : Int) ^ 30 = 1073741824 := by decide
    omega
end Go.Pl
