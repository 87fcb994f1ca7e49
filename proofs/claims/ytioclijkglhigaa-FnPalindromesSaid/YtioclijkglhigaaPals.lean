/-
  Plain facts on palindromes, their halves and their ranks. No program in sight.
  Conditions: none.
-/
import Derived.Test.YtioclijkglhigaaDigits
namespace Go.Pl
/-- Halves are joined to a palindrome. -/
def jh (l : List Int) (odd : Bool) : List Int := l.reverse ++ (if odd then l.drop 1 else l)
theorem jh_rev (l : List Int) (odd : Bool) : (jh l odd).reverse = jh l odd := by
  cases odd with
  | false => simp [jh]
  | true =>
    cases l with
    | nil => rfl
    | cons x t => simp [jh]
theorem jh_len (l : List Int) (odd : Bool) : (jh l odd).length = if odd then 2 * l.length - 1 else 2 * l.length := by
  cases odd <;> simp [jh] <;> omega
theorem jh_mem {l : List Int} {odd : Bool} {d : Int} (h : d ∈ jh l odd) : d ∈ l := by
  cases odd with
  | false => simpa [jh] using h
  | true =>
    rcases List.mem_append.1 h with h | h
    · simpa using h
    · exact List.mem_of_mem_drop h
theorem jh_last {l : List Int} {odd : Bool} (hl : l ≠ []) : (jh l odd).getLast? = l.getLast? := by
  have h1 : (jh l odd).getLast? = (jh l odd).reverse.head? := by rw [List.head?_reverse]
  rw [h1, jh_rev]
  cases odd with
  | false => simp [jh, List.head?_append, List.head?_reverse]
             cases hx : l.getLast? with
             | none => rw [List.getLast?_eq_none_iff] at hx; exact absurd hx hl
             | some d => rfl
  | true => simp [jh, List.head?_append, List.head?_reverse]
            cases hx : l.getLast? with
            | none => rw [List.getLast?_eq_none_iff] at hx; exact absurd hx hl
            | some d => rfl
/-- The half of a palindrome with k digits: the least one. -/
def lh (k : Nat) (b : Int) : Int := b ^ ((k + 1) / 2 - 1)
/-- How many palindromes have k digits. -/
def cp (k : Nat) (b : Int) : Int := if k = 0 then 1 else (b - 1) * lh k b
/-- The palindrome with k digits and a half. -/
def mir (h : Int) (k : Nat) (b : Int) : Int := val b (jh (dg b h) (k % 2 == 1))
def IsHalf (h : Int) (k : Nat) (b : Int) : Prop := 1 ≤ k ∧ lh k b ≤ h ∧ h < lh k b * b
theorem half_len {h : Int} {k : Nat} {b : Int} (hb : 2 ≤ b) (hh : IsHalf h k b) : 0 < h ∧ (dg b h).length = (k + 1) / 2 := by
  obtain ⟨h1, h2, h3⟩ := hh
  unfold lh at h2 h3
  rw [← Int.pow_succ] at h3
  have h4 := pow_pos (show 0 < b by omega) ((k + 1) / 2 - 1)
  refine ⟨by omega, (dg_len_eq hb (by omega) (by omega)).2 ⟨h2, ?_⟩⟩
  rwa [show ((k + 1) / 2 - 1).succ = (k + 1) / 2 by omega] at h3
theorem mir_facts {h : Int} {k : Nat} {b : Int} (hb : 2 ≤ b) (hh : IsHalf h k b) :
    dg b (mir h k b) = jh (dg b h) (k % 2 == 1) ∧ (dg b (mir h k b)).length = k ∧ mir h k b / b ^ (k / 2) = h ∧ 0 < mir h k b := by
  obtain ⟨hp, hlen⟩ := half_len hb hh
  have hne : dg b h ≠ [] := fun e => by rw [dg_pos_iff hb (by omega)] at e; omega
  have hmem : ∀ d ∈ jh (dg b h) (k % 2 == 1), 0 ≤ d ∧ d < b := fun d hd => dg_mem hb (by omega) d (jh_mem hd)
  obtain ⟨e1, e2, e3⟩ := dg_val hb _ hmem (fun d hd => by rw [jh_last hne] at hd; exact dg_last hb (by omega) d hd)
  have hk := hh.1
  have el : (jh (dg b h) (k % 2 == 1)).length = k := by
    rw [jh_len, hlen]
    by_cases hodd : k % 2 = 1
    · rw [if_pos (by simp [hodd])]; omega
    · rw [if_neg (by simp [hodd])]; omega
  have hpos : 0 < mir h k b := e3 (fun e => by rw [e] at el; simp at el; omega)
  refine ⟨e1, by rw [mir, e1, el], ?_, hpos⟩
  have hd := dg_drop hb (k / 2) (mir h k b) (by omega)
  rw [mir, e1] at hd
  have hd2 : (jh (dg b h) (k % 2 == 1)).drop (k / 2) = dg b h := by
    rw [← jh_rev (dg b h)]
    unfold jh
    rw [List.reverse_append, List.reverse_reverse, List.drop_append]
    by_cases hodd : k % 2 = 1
    · rw [if_pos (by simp [hodd])]
      have : (List.drop 1 (dg b h)).reverse.length = k / 2 := by simp [hlen]; omega
      rw [List.drop_eq_nil_of_le (by omega), this]; simp
    · rw [if_neg (by simp [hodd])]
      have : (dg b h).reverse.length = k / 2 := by simp [hlen]; omega
      rw [List.drop_eq_nil_of_le (by omega), this]; simp
  rw [hd2] at hd
  have := val_dg hb (show 0 ≤ h by omega)
  rw [hd, val_dg hb (div_nn e2 (Int.le_of_lt (pow_pos (by omega) _)))] at this
  exact this
def pal (b n : Int) : Bool := dg b n == (dg b n).reverse
theorem pal_iff {b n : Int} : pal b n = true ↔ dg b n = (dg b n).reverse := by simp [pal]
theorem pal_mir {h : Int} {k : Nat} {b : Int} (hb : 2 ≤ b) (hh : IsHalf h k b) : pal b (mir h k b) = true := by
  rw [pal_iff, (mir_facts hb hh).1, jh_rev]
theorem half_of {n : Int} {k : Nat} {b : Int} (hb : 2 ≤ b) (hn : 0 ≤ n) (hk : 1 ≤ k) (hl : (dg b n).length = k) : IsHalf (n / b ^ (k / 2)) k b := by
  obtain ⟨h1, h2⟩ := (dg_len_eq hb hn hk).1 hl
  have hp := pow_pos (show 0 < b by omega) (k / 2)
  refine ⟨hk, ?_, ?_⟩
  · rw [Int.le_ediv_iff_mul_le hp, lh, ← Int.pow_add]
    rwa [show (k + 1) / 2 - 1 + k / 2 = k - 1 by omega]
  · rw [div_lt_iff hp, lh, ← Int.pow_succ, ← Int.pow_add]
    rwa [show ((k + 1) / 2 - 1).succ + k / 2 = k by omega]
theorem jh_of_pal {l : List Int} (h : l = l.reverse) : jh (l.drop (l.length / 2)) (l.length % 2 == 1) = l := by
  have e : (l.drop (l.length / 2)).reverse = l.take (l.length - l.length / 2) := by
    conv => lhs; rw [h]
    rw [List.drop_reverse, List.reverse_reverse]
    simp
  unfold jh
  rw [e]
  by_cases hodd : l.length % 2 = 1
  · rw [if_pos (by simp [hodd]), List.drop_drop, show l.length / 2 + 1 = l.length - l.length / 2 by omega, List.take_append_drop]
  · rw [if_neg (by simp [hodd]), show l.length / 2 = l.length - l.length / 2 by omega]
    rw [show l.length - (l.length - l.length / 2) = l.length - l.length / 2 by omega, List.take_append_drop]
theorem mir_of_pal {n : Int} {k : Nat} {b : Int} (hb : 2 ≤ b) (hn : 0 ≤ n) (hl : (dg b n).length = k) (hp : pal b n = true) : mir (n / b ^ (k / 2)) k b = n := by
  rw [mir, ← dg_drop hb (k / 2) n hn]
  subst hl
  rw [jh_of_pal (pal_iff.1 hp), val_dg hb hn]
theorem div_bd {n h c : Int} (hc : 0 < c) (h1 : n / c = h) : h * c ≤ n ∧ n < (h + 1) * c := by
  have f := Int.mul_ediv_add_emod n c
  have m0 := mod_nn (a := n) hc
  have m1 := mod_lt (a := n) hc
  rw [h1, Int.mul_comm] at f
  rw [Int.add_mul]
  omega
theorem mir_bd {h : Int} {k : Nat} {b : Int} (hb : 2 ≤ b) (hh : IsHalf h k b) : h * b ^ (k / 2) ≤ mir h k b ∧ mir h k b < (h + 1) * b ^ (k / 2) :=
  div_bd (pow_pos (by omega) _) (mir_facts hb hh).2.2.1

/-- How many palindromes have fewer than k digits. -/
def under (b : Int) : Nat → Int
  | 0 => 0
  | k + 1 => under b k + cp k b
def b2i (x : Bool) : Int := if x then 1 else 0
/-- How many palindromes are less than n. -/
def rank (b n : Int) : Int := let k := (dg b n).length
  if k = 0 then 0 else under b k + (n / b ^ (k / 2) - lh k b) + b2i (decide (mir (n / b ^ (k / 2)) k b < n))
theorem rank_mir {h : Int} {k : Nat} {b : Int} (hb : 2 ≤ b) (hh : IsHalf h k b) : rank b (mir h k b) = under b k + (h - lh k b) := by
  obtain ⟨e1, e2, e3, e4⟩ := mir_facts hb hh
  have hk := hh.1
  simp only [rank, e2]
  rw [if_neg (by omega), e3]
  simp [b2i]
/-- The least palindrome that is greater than n. -/
def nextP (b n : Int) : Int := let k := (dg b (n + 1)).length
  let h := (n + 1) / b ^ (k / 2)
  if n < mir h k b then mir h k b else if h + 1 < lh k b * b then mir (h + 1) k b else b ^ k + 1
theorem lh_succ_div {k : Nat} {b : Int} (_hb : 2 ≤ b) (hk : 1 ≤ k) : lh k b * b * b ^ (k / 2) = b ^ k ∧ lh k b * b ^ (k / 2) = b ^ (k - 1) := by
  constructor
  · rw [lh, ← Int.pow_succ, ← Int.pow_add]
    rw [show ((k + 1) / 2 - 1).succ + k / 2 = k by omega]
  · rw [lh, ← Int.pow_add, show (k + 1) / 2 - 1 + k / 2 = k - 1 by omega]
theorem isHalf_lh {k : Nat} {b : Int} (hb : 2 ≤ b) (hk : 1 ≤ k) : IsHalf (lh k b) k b := by
  have h0 : 0 < lh k b := pow_pos (by omega) _
  have h1 : lh k b * 2 ≤ lh k b * b := Int.mul_le_mul_of_nonneg_left hb (by omega)
  exact ⟨hk, by omega, by omega⟩
theorem rank_of {n : Int} {k : Nat} {b : Int} (hl : (dg b n).length = k) (hk : 1 ≤ k) : rank b n = under b k + (n / b ^ (k / 2) - lh k b) + b2i (decide (mir (n / b ^ (k / 2)) k b < n)) := by
  simp only [rank, hl]
  rw [if_neg (by omega)]
/-- Among the numbers with one upper half, the palindrome decides. -/
theorem rank_same {n h : Int} {k : Nat} {b : Int} (hb : 2 ≤ b) (hn : 0 ≤ n) (hk : 1 ≤ k) (hl : (dg b n).length = k) (hh : n / b ^ (k / 2) = h) :
    rank b n + b2i (pal b n) = under b k + (h - lh k b) + (if n < mir h k b then 0 else 1) := by
  rw [rank_of hl hk, hh]
  have hH : IsHalf h k b := by rw [← hh]; exact half_of hb hn hk hl
  by_cases hp : pal b n = true
  · have e := mir_of_pal hb hn hl hp
    rw [hh] at e
    rw [e, hp]; simp [b2i]
  · have hne : mir h k b ≠ n := fun e => hp (by rw [← e]; exact pal_mir hb hH)
    rw [Bool.not_eq_true] at hp
    rw [hp]
    by_cases hlt : mir h k b < n
    · rw [if_neg (by omega)]; simp [b2i, hlt]
    · rw [if_pos (by omega)]; simp [b2i, hlt]
theorem dg_pow {b : Int} (hb : 2 ≤ b) : ∀ j : Nat, dg b (b ^ j) = List.replicate j 0 ++ [1] := by
  intro j
  induction j with
  | zero => rw [Int.pow_zero, dg_step hb (by omega), Int.ediv_eq_zero_of_lt (by omega) (by omega), dg_zero, Int.emod_eq_of_lt (by omega) (by omega)]; rfl
  | succ j ih =>
    have hp := pow_pos (show 0 < b by omega) (j + 1)
    rw [dg_step hb hp, Int.pow_succ, Int.mul_ediv_cancel _ (by omega), ih, Int.mul_emod_left]; rfl
theorem mir_one {k : Nat} {b : Int} (hb : 2 ≤ b) (hk : 1 ≤ k) : mir (lh (k + 1) b) (k + 1) b = b ^ k + 1 := by
  have hp := pow_pos (show 0 < b by omega) k
  have e1 : b ^ k = b ^ (k - 1) * b := by rw [← Int.pow_succ]; congr 1; omega
  have e2 : (b ^ k + 1) % b = 1 := by rw [e1, Int.add_comm, Int.add_mul_emod_self_right]; exact Int.emod_eq_of_lt (by omega) (by omega)
  have e3 : (b ^ k + 1) / b = b ^ (k - 1) := by rw [e1, Int.add_comm, Int.add_mul_ediv_right _ _ (by omega), Int.ediv_eq_zero_of_lt (by omega) (by omega)]; omega
  have hd : dg b (b ^ k + 1) = 1 :: (List.replicate (k - 1) 0 ++ [1]) := by rw [dg_step hb (by omega), e2, e3, dg_pow hb]
  have hpal : pal b (b ^ k + 1) = true := by rw [pal_iff, hd]; simp
  have hl : (dg b (b ^ k + 1)).length = k + 1 := by rw [hd]; simp; omega
  have hm := mir_of_pal hb (by omega) hl hpal
  have hc := pow_pos (show 0 < b by omega) ((k + 1) / 2)
  have h2 : (b ^ k + 1) / b ^ ((k + 1) / 2) = lh (k + 1) b := by
    have ⟨_, l2⟩ := lh_succ_div hb (show 1 ≤ k + 1 by omega)
    rw [show k + 1 - 1 = k by omega] at l2
    have h1 : b ^ 1 ≤ b ^ ((k + 1) / 2) := pow_up (by omega) (by omega)
    rw [Int.pow_succ, Int.pow_zero] at h1
    rw [← l2, Int.add_comm, Int.add_mul_ediv_right _ _ (by omega), Int.ediv_eq_zero_of_lt (by omega) (by omega)]; omega
  rwa [h2] at hm
theorem under_top {j : Nat} {b : Int} (hb : 2 ≤ b) : rank b (b ^ j - 1) + b2i (pal b (b ^ j - 1)) = under b (j + 1) := by
  cases j with
  | zero => simp [rank, dg_zero, pal, b2i, under, cp]
  | succ j =>
    have hp := pow_pos (show 0 < b by omega) (j + 1)
    have e1 : b ^ (j + 1) = b ^ j * b := Int.pow_succ _ _
    have hp' := pow_pos (show 0 < b by omega) j
    have h2 : b ^ j * 2 ≤ b ^ j * b := Int.mul_le_mul_of_nonneg_left hb (by omega)
    have hl : (dg b (b ^ (j + 1) - 1)).length = j + 1 := (dg_len_eq hb (by omega) (by omega)).2 ⟨by rw [show j + 1 - 1 = j by omega]; omega, by omega⟩
    have hc := pow_pos (show 0 < b by omega) ((j + 1) / 2)
    have ⟨l1, l2⟩ := lh_succ_div hb (show 1 ≤ j + 1 by omega)
    have e2 : (b ^ (j + 1) - 1) / b ^ ((j + 1) / 2) = lh (j + 1) b * b - 1 := by
      have h1 : lh (j + 1) b * b - 1 ≤ (b ^ (j + 1) - 1) / b ^ ((j + 1) / 2) := (Int.le_ediv_iff_mul_le hc).2 (by rw [Int.sub_mul, l1]; omega)
      have h2 : (b ^ (j + 1) - 1) / b ^ ((j + 1) / 2) < lh (j + 1) b * b := (div_lt_iff hc).2 (by rw [l1]; omega)
      omega
    have hH := half_of hb (show 0 ≤ b ^ (j + 1) - 1 by omega) (by omega) hl
    rw [e2] at hH
    have hm := mir_bd hb hH
    rw [show lh (j + 1) b * b - 1 + 1 = lh (j + 1) b * b by omega, l1] at hm
    rw [rank_same hb (by omega) (by omega) hl e2, if_neg (by omega)]
    show _ = under b (j + 1) + cp (j + 1) b
    rw [cp, if_neg (by omega), Int.sub_mul, Int.mul_comm b]; omega
theorem next_facts {b n : Int} (hb : 2 ≤ b) (hn : 0 ≤ n) : n < nextP b n ∧ pal b (nextP b n) = true ∧ rank b (nextP b n) = rank b n + b2i (pal b n) := by
  have hk1 : 1 ≤ (dg b (n + 1)).length := by
    have := dg_len_ge hb (k := 0) (show 0 ≤ n + 1 by omega)
    rw [Int.pow_zero] at this; omega
  have hH := half_of hb (show 0 ≤ n + 1 by omega) hk1 rfl
  have hbd := (dg_len_eq hb (show 0 ≤ n + 1 by omega) hk1).1 rfl
  simp only [nextP]
  generalize (dg b (n + 1)).length = k at *
  generalize hh : (n + 1) / b ^ (k / 2) = h at *
  have hc := pow_pos (show 0 < b by omega) (k / 2)
  have ⟨l1, l2⟩ := lh_succ_div hb hk1
  have hd := div_bd hc hh
  have hm := mir_bd hb hH
  -- the digits of n itself
  by_cases hsame : b ^ (k - 1) ≤ n
  · have hl : (dg b n).length = k := (dg_len_eq hb hn hk1).2 ⟨hsame, by omega⟩
    by_cases c1 : n < mir h k b
    · rw [if_pos c1]
      refine ⟨c1, pal_mir hb hH, ?_⟩
      rw [rank_mir hb hH]
      by_cases c2 : h * b ^ (k / 2) ≤ n
      · have e : n / b ^ (k / 2) = h := by
          have h1 : h ≤ n / b ^ (k / 2) := (Int.le_ediv_iff_mul_le hc).2 c2
          have h2 : n / b ^ (k / 2) < h + 1 := (div_lt_iff hc).2 (by omega)
          omega
        rw [rank_same hb hn hk1 hl e, if_pos c1]; omega
      · have hlow : lh k b ≤ h - 1 := by
          have : lh k b * b ^ (k / 2) < h * b ^ (k / 2) := by omega
          have := Int.lt_of_mul_lt_mul_right this (Int.le_of_lt hc)
          omega
        have hmul : (h - 1) * b ^ (k / 2) = h * b ^ (k / 2) - b ^ (k / 2) := by rw [Int.sub_mul, Int.one_mul]
        have e : n / b ^ (k / 2) = h - 1 := by
          have h1 : h - 1 ≤ n / b ^ (k / 2) := (Int.le_ediv_iff_mul_le hc).2 (by omega)
          have h2 : n / b ^ (k / 2) < h := (div_lt_iff hc).2 (by omega)
          omega
        have hH' : IsHalf (h - 1) k b := ⟨hk1, hlow, by have := hH.2.2; omega⟩
        have hm' := mir_bd hb hH'
        rw [rank_same hb hn hk1 hl e, if_neg (by rw [show h - 1 + 1 = h by omega] at hm'; omega)]; omega
    · rw [if_neg c1]
      have e : n / b ^ (k / 2) = h := by
        have h1 : h ≤ n / b ^ (k / 2) := (Int.le_ediv_iff_mul_le hc).2 (by omega)
        have h2 : n / b ^ (k / 2) < h + 1 := (div_lt_iff hc).2 (by omega)
        omega
      have hr := rank_same hb hn hk1 hl e
      rw [if_neg c1] at hr
      by_cases c2 : h + 1 < lh k b * b
      · rw [if_pos c2]
        have hH' : IsHalf (h + 1) k b := ⟨hk1, by have := hH.2.1; omega, c2⟩
        have hm' := mir_bd hb hH'
        refine ⟨by omega, pal_mir hb hH', ?_⟩
        rw [rank_mir hb hH', hr]; omega
      · rw [if_neg c2]
        have hhe : h + 1 = lh k b * b := by have := hH.2.2; omega
        have hH' := isHalf_lh hb (show 1 ≤ k + 1 by omega)
        rw [← mir_one hb hk1]
        refine ⟨by rw [mir_one hb hk1]; omega, pal_mir hb hH', ?_⟩
        rw [rank_mir hb hH', hr]
        show under b k + cp k b + _ = _
        rw [cp, if_neg (by omega), Int.sub_mul, Int.mul_comm b]; omega
  · have hn1 : n = b ^ (k - 1) - 1 := by omega
    have hhl : h = lh k b := by
      rw [← hh, show n + 1 = b ^ (k - 1) by omega, ← l2, Int.mul_ediv_cancel _ (by omega)]
    rw [hhl] at hm ⊢
    have hH' := isHalf_lh hb hk1
    rw [l2] at hm
    rw [if_pos (by omega)]
    refine ⟨by omega, pal_mir hb hH', ?_⟩
    have ht := under_top hb (j := k - 1)
    rw [show k - 1 + 1 = k by omega, ← hn1] at ht
    rw [rank_mir hb hH', ht]; omega
end Go.Pl
