/-
  Plain facts on the steps to a palindrome. No program in sight.
  Conditions: none.
-/
import Derived.Test.YtioclijkglhigaaPals
namespace Go.Pl
/-- The number with the digits in the other order. -/
def rvN (b n : Int) : Int := val b (dg b n).reverse
/-- The sum with the turned number is not too great. -/
def raB (b n : Int) : Bool := decide (rvN b n ≤ 1000000000000) && decide (n + rvN b n ≤ 1000000000000)
/-- How many sums lead to a palindrome, f at most, or -1. -/
def stp (b : Int) : Nat → Int → Int
  | 0, n => if pal b n then 0 else -1
  | f + 1, n => if pal b n then 0 else if raB b n then (if stp b f (n + rvN b n) < 0 then -1 else stp b f (n + rvN b n) + 1) else -1
theorem stp_bd (b : Int) : ∀ (f : Nat) (n : Int), -1 ≤ stp b f n ∧ stp b f n ≤ f := by
  intro f
  induction f with
  | zero => intro n; unfold stp; split <;> omega
  | succ f ih =>
    intro n
    have := ih (n + rvN b n)
    unfold stp
    split
    · omega
    · split
      · split <;> omega
      · omega
theorem stp_pal {b n : Int} (f : Nat) (h : pal b n = true) : stp b f n = 0 := by
  cases f <;> simp [stp, h]
theorem stp_no {b n : Int} (h : pal b n = false) (h2 : raB b n = false) (f : Nat) : stp b f n = -1 := by
  cases f <;> simp [stp, h, h2]
theorem stp_end {b n : Int} (h : pal b n = false) : stp b 0 n = -1 := by simp [stp, h]
theorem stp_step {b n : Int} (f : Nat) (h : pal b n = false) (h2 : raB b n = true) : stp b (f + 1) n = if stp b f (n + rvN b n) < 0 then -1 else stp b f (n + rvN b n) + 1 := by
  simp [stp, h, h2]
/-- What the rest of the steps comes to, if i are done. -/
def stpAt (b : Int) (i : Int) (f : Nat) (n : Int) : Int := if stp b f n < 0 then -1 else stp b f n + i
theorem stpAt_zero (b : Int) (f : Nat) (n : Int) : stpAt b 0 f n = stp b f n := by
  have := stp_bd b f n
  unfold stpAt
  split <;> omega
theorem stpAt_pal {b n i : Int} (f : Nat) (h : pal b n = true) : stpAt b i f n = i := by
  unfold stpAt; rw [stp_pal f h]; simp
theorem stpAt_no {b n i : Int} (f : Nat) (h : pal b n = false) (h2 : raB b n = false) : stpAt b i f n = -1 := by
  unfold stpAt; rw [stp_no h h2]; simp
theorem stpAt_end {b n i : Int} (h : pal b n = false) : stpAt b i 0 n = -1 := by
  unfold stpAt; rw [stp_end h]; simp
theorem stpAt_step {b n i : Int} (f : Nat) (h : pal b n = false) (h2 : raB b n = true) : stpAt b i (f + 1) n = stpAt b (i + 1) f (n + rvN b n) := by
  have := stp_bd b f (n + rvN b n)
  unfold stpAt
  rw [stp_step f h h2]
  by_cases hh : stp b f (n + rvN b n) < 0
  · rw [if_pos hh, if_pos hh]; simp
  · rw [if_neg hh, if_neg hh, if_neg (by omega)]; omega
/-- One sum on, one step less. -/
theorem stp_less {b n : Int} (f : Nat) (h : 0 < stp b (f + 1) n) : raB b n = true ∧ stp b f (n + rvN b n) = stp b (f + 1) n - 1 := by
  cases hp : pal b n with
  | true => rw [stp_pal _ hp] at h; omega
  | false =>
    cases hr : raB b n with
    | false => rw [stp_no hp hr] at h; omega
    | true =>
      refine ⟨rfl, ?_⟩
      rw [stp_step f hp hr] at h ⊢
      split at h
      · omega
      · rename_i hn; rw [if_neg hn]; omega
theorem stp_zero_iff {b n : Int} (f : Nat) : stp b f n = 0 ↔ pal b n = true := by
  constructor
  · intro h
    cases hp : pal b n with
    | true => rfl
    | false =>
      exfalso
      cases f with
      | zero => rw [stp_end hp] at h; omega
      | succ f =>
        cases hr : raB b n with
        | false => rw [stp_no hp hr] at h; omega
        | true =>
          have := stp_bd b f (n + rvN b n)
          rw [stp_step f hp hr] at h
          split at h <;> omega
  · exact fun h => stp_pal f h
theorem alt_append : ∀ (l m : List Int) (k : Nat), alt k (l ++ m) = alt k l + alt (k + l.length) m := by
  intro l
  induction l with
  | nil => intro m k; simp [alt]
  | cons d l ih =>
    intro m k
    show _ + alt (k + 1) (l ++ m) = _ + alt (k + 1) l + alt (k + (l.length + 1)) m
    rw [ih, show k + 1 + l.length = k + (l.length + 1) by omega]; omega
theorem alt_even (l : List Int) : ∀ j : Nat, alt (2 * j) l = alt 0 l := by
  intro j
  induction j with
  | zero => rfl
  | succ j ih => rw [show 2 * (j + 1) = 2 * j + 1 + 1 by omega, alt_flip, alt_flip, ih]; omega
theorem alt_rev : ∀ (l : List Int) (k : Nat), alt k l.reverse = if l.length % 2 = 0 then -alt k l else alt k l := by
  intro l
  induction l with
  | nil => intro k; simp [alt]
  | cons d l ih =>
    intro k
    rw [List.reverse_cons, alt_append, ih, List.length_reverse, List.length_cons]
    have e : alt (k + l.length) [d] = if l.length % 2 = 0 then alt k [d] else -alt k [d] := by
      simp only [alt]
      split <;> split <;> split <;> omega
    have e2 : alt k (d :: l) = alt k [d] + alt (k + 1) l := by simp [alt]
    rw [e, e2, alt_flip]
    by_cases h : l.length % 2 = 0
    · rw [if_pos h, if_pos h, if_neg (by omega)]; omega
    · rw [if_neg h, if_neg h, if_pos (by omega)]; omega
/-- Palindromes with an even number of digits are divisible by the base plus 1. -/
theorem pal_even_dvd {b n : Int} (hb : 2 ≤ b) (hn : 0 ≤ n) (hp : pal b n = true) (he : (dg b n).length % 2 = 0) : (b + 1) ∣ n := by
  have h1 := dvd_alt hb hn
  have h2 := alt_rev (dg b n) 0
  rw [if_pos he, ← pal_iff.1 hp] at h2
  have h3 : alt 0 (dg b n) = 0 := by omega
  rwa [h3, Int.sub_zero] at h1
end Go.Pl
