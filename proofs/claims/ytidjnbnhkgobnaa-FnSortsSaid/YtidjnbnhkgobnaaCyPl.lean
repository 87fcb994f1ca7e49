/-
  Plain facts on the two steps of which cycles are asked: the sum of powers of digits, and the sorting of digits. No program in sight.
  Conditions: none.
-/
import Derived.Test.YtidjnbnhkgobnaaCycles
import Derived.Test.YtidjnbnhkgobnaaSortsPl
import Derived.Test.YtidjnbnhkgobnaaSums
namespace Go.Pl
/-- The sum of the powers of the digits. -/
def pf (b : Int) (e : Nat) (m : Int) : Int := ps e (dg b m)
theorem ps_bd {e : Nat} (he : e ≤ 5) : ∀ l : List Int, (∀ d ∈ l, 0 ≤ d ∧ d ≤ 15) → 0 ≤ ps e l ∧ ps e l ≤ (l.length : Int) * 759375 := by
  intro l
  induction l with
  | nil => intro _; simp [ps]
  | cons d l ih =>
    intro h
    have h1 := ih fun x hx => h x (by simp [hx])
    have h2 := h d (by simp)
    have a := pow_mono h2.1 h2.2 e
    have b : (15 : Int) ^ e ≤ 15 ^ 5 := pow_up (by omega) he
    have c : (15 : Int) ^ 5 = 759375 := by decide
    have f : 0 ≤ d ^ e := Int.pow_nonneg h2.1
    show 0 ≤ d ^ e + ps e l ∧ d ^ e + ps e l ≤ ((l.length + 1 : Nat) : Int) * 759375
    omega
theorem pf_bd {b : Int} {e : Nat} (b1 : 2 ≤ b) (b2 : b ≤ 16) (he : e ≤ 5) {m : Int} (m0 : 0 ≤ m) (m1 : m ≤ 1000000000000) : 0 ≤ pf b e m ∧ pf b e m ≤ 30375000 := by
  have h1 := ps_bd he (dg b m) (fun d hd => by have := dg_mem b1 m0 d hd; omega)
  have h2 := dg_len40 b1 m0 m1
  unfold pf
  omega
theorem pf_orb {b : Int} {e : Nat} (b1 : 2 ≤ b) (b2 : b ≤ 16) (he : e ≤ 5) {n : Int} (n0 : 0 ≤ n) (n1 : n ≤ 1000000000000) : ∀ i, 0 ≤ orb (pf b e) n i ∧ orb (pf b e) n i ≤ 1000000000000 := by
  intro i
  induction i with
  | zero => exact ⟨n0, n1⟩
  | succ i ih =>
    have := pf_bd b1 b2 he ih.1 ih.2
    show 0 ≤ pf b e (orb (pf b e) n i) ∧ pf b e (orb (pf b e) n i) ≤ _
    omega
theorem pf_first {b : Int} {e : Nat} (b1 : 2 ≤ b) (b2 : b ≤ 16) (he : e ≤ 5) {n : Int} (n0 : 0 ≤ n) (n1 : n ≤ 1000000000000) : ∃ N p, N ≤ 100000000 ∧ IsFirst (pf b e) n N p := by
  obtain ⟨N, p, h1, h2, h3, _⟩ := first_exists (f := pf b e) (n := pf b e n) (M := 30375001) (fun i => by
    have h := pf_orb b1 b2 he n0 n1 i
    have := pf_bd b1 b2 he h.1 h.2
    rw [orb_shift]
    show 0 ≤ pf b e (orb (pf b e) n i) ∧ pf b e (orb (pf b e) n i) < _
    omega)
  rw [orb_shift, orb_shift] at h3
  obtain ⟨N', p', h4, h5⟩ := first_of_rep (N + 1) (p + 1) (by omega) h3.symm
  exact ⟨N', p', by omega, h5⟩
/-- The sorting of k digits. -/
def sf (b : Int) (k : Nat) (m : Int) : Int := ss b k m
theorem sf_orb {b : Int} {k : Nat} (b1 : 2 ≤ b) {n : Int} (n0 : 0 ≤ n) (n1 : n < b ^ k) : ∀ i, 0 ≤ orb (sf b k) n i ∧ orb (sf b k) n i < b ^ k := by
  intro i
  induction i with
  | zero => exact ⟨n0, n1⟩
  | succ i ih => exact ⟨(ss_facts b1 k _).1, (ss_facts b1 k _).2.1⟩
theorem sf_first {b : Int} {k : Nat} (b1 : 2 ≤ b) (b2 : b ≤ 16) (hk : k ≤ 5) {n : Int} (n0 : 0 ≤ n) (n1 : n < b ^ k) : ∃ N p, N ≤ 100000000 ∧ IsFirst (sf b k) n N p := by
  obtain ⟨N, p, h1, h2⟩ := first_exists (f := sf b k) (n := n) (M := b ^ k) (sf_orb b1 n0 n1)
  have a := pow_mono (show 0 ≤ b by omega) b2 k
  have c : (16 : Int) ^ k ≤ 16 ^ 5 := pow_up (by omega) hk
  have d : (16 : Int) ^ 5 = 1048576 := by decide
  exact ⟨N, p, by omega, h2⟩
theorem Cyc.len_le {f : Int → Int} {n : Int} {p : Nat} {c : List Int} (h : Cyc f n p c) {N q : Nat} (hf : IsFirst f n N q) : c.length ≤ N ∧ p ≤ N ∧ 0 < c.length := by
  obtain ⟨N', m, h1, h2, rfl⟩ := h
  obtain ⟨rfl, rfl⟩ := h1.uniq hf
  have := h1.1
  rw [List.length_append, List.length_drop, List.length_take, List.length_drop, orbL_len]
  have h4 := h2.1
  rw [List.length_drop, orbL_len] at h4
  omega
theorem CycS.cyc {f : Int → Int} {n : Int} {p : Nat} {c : List Int} {k q : Nat} (h : CycS f n p c k q) : Cyc f n p c := by
  obtain ⟨c', hc⟩ := cyc_exists h.isFirst
  obtain ⟨k', q', h'⟩ := hc.run
  rw [(h.uniq h').2]; exact hc
theorem Cyc.step {f : Int → Int} {n : Int} {p : Nat} {c : List Int} (h : Cyc f n p c) : Cyc f (f n) (p - 1) c := by
  obtain ⟨k, q, h'⟩ := h.run
  obtain ⟨q', h2⟩ := h'.step
  exact h2.cyc
/-- The cycle of a number that is left as it is. -/
theorem cyc_fix {f : Int → Int} {n : Int} (h : f n = n) : Cyc f n 0 [n] := by
  refine CycS.cyc (k := 1) (q := 0) ⟨by omega, by omega, by omega, rfl, h, fun i j h1 h2 => by omega, fun i hi => ?_⟩
  obtain rfl : i = 0 := by omega
  exact Int.le_refl _
theorem cyc_back {f : Int → Int} {n : Int} {p : Nat} {c : List Int} (h : Cyc f (f n) p c) {N q : Nat} (hf : IsFirst f n N q) : ∃ p', Cyc f n p' c := by
  obtain ⟨c', hc⟩ := cyc_exists hf
  rw [(h.uniq hc.step).2]
  exact ⟨q, hc⟩
theorem ps_one : ∀ l : List Int, ps 1 l = sm l := by
  intro l
  induction l with
  | nil => rfl
  | cons d l ih => show d ^ 1 + ps 1 l = d + sm l; rw [ih, Int.pow_succ, Int.pow_zero, Int.one_mul]
theorem dg_one {b n : Int} (hb : 2 ≤ b) (h0 : 0 < n) (h1 : n < b) : dg b n = [n] := by
  rw [dg_step hb h0, Int.emod_eq_of_lt (by omega) h1, Int.ediv_eq_zero_of_lt (by omega) h1, dg_zero]
theorem pf1_small {b n : Int} (hb : 2 ≤ b) (h0 : 0 ≤ n) (h1 : n < b) : pf b 1 n = n := by
  unfold pf
  rw [ps_one]
  by_cases e : n = 0
  · subst e; rw [dg_zero]; rfl
  · rw [dg_one hb (by omega) h1]; show n + 0 = n; omega
/-- The digits are added again and again: the cycle is the last digit. -/
theorem pf1_cyc {b : Int} (b1 : 2 ≤ b) (b2 : b ≤ 16) : ∀ (k : Nat) (n : Int), 0 ≤ n → n ≤ 1000000000000 → n.toNat ≤ k → ∃ p, Cyc (pf b 1) n p [droot b n] := by
  intro k
  induction k using Nat.strongRecOn with
  | _ k ih =>
    intro n n0 n1 hk
    by_cases h : n < b
    · rw [droot_end h]; exact ⟨0, cyc_fix (pf1_small b1 n0 h)⟩
    · have e : pf b 1 n = sm (dg b n) := ps_one _
      have h1 := sm_dg_lt b1 (show b ≤ n by omega)
      have h2 := (sm_dg_le b1 n0).1
      obtain ⟨p, hp⟩ := ih (k - 1) (by omega) (sm (dg b n)) h2 (by omega) (by omega)
      rw [← droot_step b1 (by omega), ← e] at hp
      obtain ⟨N, q, _, hf⟩ := pf_first (e := 1) b1 b2 (by omega) n0 n1
      exact cyc_back hp hf
theorem pf22 {n : Int} (h : 0 ≤ n) : pf 2 2 n = pf 2 1 n := by
  have : ∀ l : List Int, (∀ d ∈ l, 0 ≤ d ∧ d < 2) → ps 2 l = ps 1 l := by
    intro l
    induction l with
    | nil => intro _; rfl
    | cons d l ih =>
      intro hm
      have h1 := hm d (by simp)
      show d ^ 2 + ps 2 l = d ^ 1 + ps 1 l
      rw [ih fun x hx => hm x (by simp [hx])]
      obtain rfl | rfl : d = 0 ∨ d = 1 := by omega
      · rfl
      · rfl
  exact this _ (dg_mem (by omega) h)
theorem orb_congr {f g : Int → Int} {n : Int} (h : ∀ m, 0 ≤ m → f m = g m) (hf : ∀ i, 0 ≤ orb f n i) : ∀ i, orb f n i = orb g n i := by
  intro i
  induction i with
  | zero => rfl
  | succ i ih => show f (orb f n i) = g (orb g n i); rw [← ih, h _ (hf i)]
theorem orbL_congr {f g : Int → Int} {n : Int} (h : ∀ i, orb f n i = orb g n i) (N : Nat) : orbL f n N = orbL g n N := by
  unfold orbL
  exact List.map_congr_left fun i _ => h i
theorem cyc_congr {f g : Int → Int} {n : Int} (h : ∀ i, orb f n i = orb g n i) {p : Nat} {c : List Int} (hc : Cyc g n p c) : Cyc f n p c := by
  obtain ⟨N, m, ⟨a1, a2, a3⟩, h2, h3⟩ := hc
  refine ⟨N, m, ⟨a1, ?_, fun i j hi hj => ?_⟩, ?_, ?_⟩
  · rw [h, h]; exact a2
  · rw [h, h]; exact a3 i j hi hj
  · rw [orbL_congr h]; exact h2
  · rw [orbL_congr h]; exact h3
/-- In base 2 each number from 1 on is happy. -/
theorem happy2 {n : Int} (n0 : 1 ≤ n) (n1 : n ≤ 1000000000000) : ∃ p, Cyc (pf 2 2) n p [1] := by
  obtain ⟨p, hp⟩ := pf1_cyc (show (2 : Int) ≤ 2 by omega) (by omega) n.toNat n (by omega) n1 (Nat.le_refl _)
  have hd : droot 2 n = 1 := by
    have := droot_facts (show (2 : Int) ≤ 2 by omega) n.toNat n (by omega) (Nat.le_refl _)
    omega
  rw [hd] at hp
  exact ⟨p, cyc_congr (orb_congr (fun m hm => pf22 hm) (fun i => (pf_orb (b := 2) (e := 2) (by omega) (by omega) (by omega) (by omega) n1 i).1)) hp⟩
end Go.Pl
