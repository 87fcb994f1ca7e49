/-
  Plain facts on the sorted digits of a number. No program in sight.
  Conditions: none.
-/
import Derived.Test.YtnjifahnfmifgaaDigits
namespace Go.Pl
/-- k digits of a number, with zeros at the end. -/
def pl (b : Int) : Nat → Int → List Int
  | 0, _ => []
  | k + 1, n => n % b :: pl b k (n / b)
theorem pl_len (b : Int) : ∀ (k : Nat) (n : Int), (pl b k n).length = k := by
  intro k
  induction k with
  | zero => intro n; rfl
  | succ k ih => intro n; simp [pl, ih]
theorem pl_mem {b : Int} (hb : 1 ≤ b) : ∀ (k : Nat) (n : Int), ∀ d ∈ pl b k n, 0 ≤ d ∧ d < b := by
  intro k
  induction k with
  | zero => intro n d hd; simp [pl] at hd
  | succ k ih =>
    intro n d hd
    rcases List.mem_cons.1 hd with rfl | hd
    · exact ⟨mod_nn (by omega), mod_lt (by omega)⟩
    · exact ih _ d hd
theorem pl_dg {b : Int} (hb : 2 ≤ b) : ∀ (k : Nat) (n : Int), 0 ≤ n → n < b ^ k → pl b k n = dg b n ++ List.replicate (k - (dg b n).length) 0 := by
  intro k
  induction k with
  | zero => intro n h0 h1; rw [Int.pow_zero] at h1; obtain rfl : n = 0 := by omega
            rw [dg_zero]; rfl
  | succ k ih =>
    intro n h0 h1
    rw [Int.pow_succ] at h1
    show n % b :: pl b k (n / b) = _
    rw [ih _ (div_nn h0 (by omega)) ((div_lt_iff (by omega)).2 h1)]
    by_cases h : 0 < n
    · rw [dg_step hb h]; simp
    · obtain rfl : n = 0 := by omega
      simp [dg_zero, List.replicate_succ]
theorem val_pl {b : Int} (hb : 2 ≤ b) : ∀ (k : Nat) (n : Int), val b (pl b k n) = n % b ^ k := by
  intro k
  induction k with
  | zero => intro n; simp [pl, val, Int.emod_one]
  | succ k ih =>
    intro n
    show val b (pl b k (n / b)) * b + n % b = _
    have hp := pow_pos (show 0 < b by omega) k
    have f1 := Int.mul_ediv_add_emod n b
    have f2 := Int.mul_ediv_add_emod (n / b) (b ^ k)
    have m0 := mod_nn (a := n / b) hp
    have m1 := mod_lt (a := n / b) hp
    have d0 := mod_nn (a := n) (show 0 < b by omega)
    have d1 := mod_lt (a := n) (show 0 < b by omega)
    rw [ih, Int.pow_succ]
    generalize n / b / b ^ k = q at *
    have e : n = (n / b % b ^ k * b + n % b) + b ^ k * b * q := by grind
    have hlt : n / b % b ^ k * b + n % b < b ^ k * b := by
      have : (n / b % b ^ k + 1) * b ≤ b ^ k * b := Int.mul_le_mul_of_nonneg_right (by omega) (by omega)
      rw [Int.add_mul] at this; omega
    have hnn : 0 ≤ n / b % b ^ k * b := Int.mul_nonneg m0 (by omega)
    conv => rhs; rw [e]
    rw [Int.add_mul_emod_self_left, Int.emod_eq_of_lt (by omega) hlt]
/-- The last digit goes to the front. -/
theorem pl_rot {b : Int} (hb : 2 ≤ b) : ∀ (k : Nat) (n : Int) (d : Int), 0 ≤ n → n < b ^ k → 0 ≤ d → d < b → pl b (k + 1) (n + d * b ^ k) = pl b k n ++ [d] := by
  intro k
  induction k with
  | zero =>
    intro n d h0 h1 h2 h3
    rw [Int.pow_zero] at h1
    obtain rfl : n = 0 := by omega
    simp [pl, Int.emod_eq_of_lt h2 h3]
  | succ k ih =>
    intro n d h0 h1 h2 h3
    have e : d * b ^ (k + 1) = d * b ^ k * b := by rw [Int.pow_succ, Int.mul_assoc]
    show (n + d * b ^ (k + 1)) % b :: pl b (k + 1) ((n + d * b ^ (k + 1)) / b) = n % b :: pl b k (n / b) ++ [d]
    rw [e, Int.add_mul_emod_self_right, Int.add_mul_ediv_right _ _ (by omega)]
    rw [Int.pow_succ] at h1
    rw [ih (n / b) d (div_nn h0 (by omega)) ((div_lt_iff (by omega)).2 h1) h2 h3]; rfl
theorem sm_perm {l m : List Int} (h : l.Perm m) : sm l = sm m := by
  induction h with
  | nil => rfl
  | cons x _ ih => show x + _ = x + _; rw [ih]
  | swap x y l => show y + (x + sm l) = x + (y + sm l); omega
  | trans _ _ i1 i2 => exact i1.trans i2
theorem dvd_val_sm (b : Int) (l : List Int) : (b - 1) ∣ val b l - sm l := by
  induction l with
  | nil => simp [val, sm]
  | cons d l ih =>
    show (b - 1) ∣ (val b l * b + d) - (d + sm l)
    have e : (val b l * b + d) - (d + sm l) = (b - 1) * val b l + (val b l - sm l) := by rw [Int.sub_mul, Int.mul_comm]; omega
    rw [e]
    exact Int.dvd_add (Int.dvd_mul_right _ _) ih
/-- Rising digits make the greatest number of all orders. -/
theorem val_rev_le {b : Int} (hb : 1 ≤ b) : ∀ (k : Nat) (l : List Int), l.length ≤ k → l.Pairwise (· ≤ ·) → val b l.reverse ≤ val b l := by
  intro k
  induction k using Nat.strongRecOn with
  | _ k ih =>
    intro l hl hs
    match l with
    | [] => exact Int.le_refl _
    | [x] => exact Int.le_refl _
    | x :: y :: t =>
      have hne : y :: t ≠ [] := by simp
      obtain ⟨m, z, hm⟩ : ∃ m z, y :: t = m ++ [z] := ⟨(y :: t).dropLast, (y :: t).getLast hne, (List.dropLast_concat_getLast hne).symm⟩
      rw [hm] at hs hl ⊢
      have hlen : m.length + 2 ≤ k := by simp at hl; omega
      have hxz : x ≤ z := (List.pairwise_cons.1 hs).1 z (by simp)
      have hms : m.Pairwise (· ≤ ·) := (List.pairwise_append.1 (List.pairwise_cons.1 hs).2).1
      have IH := ih m.length (by omega) m (Nat.le_refl _) hms
      have e1 : (x :: (m ++ [z])).reverse = z :: (m.reverse ++ [x]) := by simp
      rw [e1]
      show val b (m.reverse ++ [x]) * b + z ≤ val b (m ++ [z]) * b + x
      rw [val_append, val_append, List.length_reverse]
      have v1 : ∀ u : Int, val b [u] = u := fun u => by simp [val]
      rw [v1, v1]
      have hp := pow_pos (show 0 < b by omega) m.length
      have p1 : val b m.reverse * b ≤ val b m * b := Int.mul_le_mul_of_nonneg_right IH (by omega)
      have p2 : 1 * (z - x) ≤ (b ^ m.length * b) * (z - x) := Int.mul_le_mul_of_nonneg_right (by have : 1 * 1 ≤ b ^ m.length * b := Int.mul_le_mul (by omega) hb (by omega) (by omega); omega) (by omega)
      have e2 : (b ^ m.length * b) * (z - x) = b ^ m.length * z * b - b ^ m.length * x * b := by grind
      rw [Int.add_mul, Int.add_mul]
      omega
/-- The list in rising order. -/
def srt (l : List Int) : List Int := l.mergeSort (fun x y => decide (x ≤ y))
theorem srt_perm (l : List Int) : (srt l).Perm l := List.mergeSort_perm _ _
theorem srt_sorted (l : List Int) : (srt l).Pairwise (· ≤ ·) := by
  have := List.pairwise_mergeSort (le := fun (x y : Int) => decide (x ≤ y)) (fun a b c h1 h2 => by simp at *; omega) (fun a b => by simp; omega) l
  exact this.imp (by simp)
theorem sorted_uniq : ∀ {l m : List Int}, l.Perm m → l.Pairwise (· ≤ ·) → m.Pairwise (· ≤ ·) → l = m := by
  intro l m h h1 h2
  exact h.eq_of_pairwise (fun a b _ _ x y => by omega) h1 h2
theorem srt_eq {l m : List Int} (h : m.Perm l) (hs : m.Pairwise (· ≤ ·)) : srt l = m := sorted_uniq ((srt_perm l).trans h.symm) (srt_sorted l) hs
theorem srt_congr {l m : List Int} (h : l.Perm m) : srt l = srt m := srt_eq ((srt_perm m).trans h.symm) (srt_sorted m)
/-- The greatest number of the k digits minus the least one. -/
def ss (b : Int) (k : Nat) (n : Int) : Int := val b (srt (pl b k n)) - val b (srt (pl b k n)).reverse
theorem ss_facts {b : Int} (hb : 2 ≤ b) (k : Nat) (n : Int) : 0 ≤ ss b k n ∧ ss b k n < b ^ k ∧ (b - 1) ∣ ss b k n := by
  have hm : ∀ d ∈ srt (pl b k n), 0 ≤ d ∧ d < b := fun d hd => pl_mem (by omega) k n d ((srt_perm _).mem_iff.1 hd)
  have hl : (srt (pl b k n)).length = k := by rw [(srt_perm _).length_eq, pl_len]
  have h1 := val_rev_le (show 1 ≤ b by omega) _ (srt (pl b k n)) (Nat.le_refl _) (srt_sorted _)
  have h2 := val_lt (show 1 ≤ b by omega) (srt (pl b k n)) hm
  have h3 := val_nn (show 0 ≤ b by omega) (srt (pl b k n)).reverse (fun d hd => (hm d (by simpa using hd)).1)
  rw [hl] at h2
  refine ⟨by unfold ss; omega, by unfold ss; omega, ?_⟩
  have d1 := dvd_val_sm b (srt (pl b k n))
  have d2 := dvd_val_sm b (srt (pl b k n)).reverse
  rw [sm_perm (List.reverse_perm _)] at d2
  have := Int.dvd_sub d1 d2
  unfold ss
  rwa [show val b (srt (pl b k n)) - sm (srt (pl b k n)) - (val b (srt (pl b k n)).reverse - sm (srt (pl b k n))) = val b (srt (pl b k n)) - val b (srt (pl b k n)).reverse by omega] at this
/-- Only the digits matter. -/
theorem ss_rot {b : Int} (hb : 2 ≤ b) {k : Nat} {n : Int} (hk : 1 ≤ k) (h0 : 0 ≤ n) (h1 : n < b ^ k) : ss b k (n / b + n % b * b ^ (k - 1)) = ss b k n := by
  obtain ⟨j, rfl⟩ : ∃ j, k = j + 1 := ⟨k - 1, by omega⟩
  rw [Int.pow_succ] at h1
  have e := pl_rot hb j (n / b) (n % b) (div_nn h0 (by omega)) ((div_lt_iff (by omega)).2 h1) (mod_nn (by omega)) (mod_lt (by omega))
  unfold ss
  rw [show j + 1 - 1 = j by omega, e]
  have hp : (pl b j (n / b) ++ [n % b]).Perm (pl b (j + 1) n) := (List.perm_append_singleton _ _)
  rw [srt_congr hp]
end Go.Pl
