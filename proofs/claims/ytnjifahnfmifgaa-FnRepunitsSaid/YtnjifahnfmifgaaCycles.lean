/-
  Plain facts on the cycle to which a step leads. No program in sight.
  Conditions: none.
-/
import Derived.Test.YtnjifahnfmifgaaDigits
namespace Go.Pl
/-- The numbers to which a step leads from n. -/
def orb (f : Int → Int) (n : Int) : Nat → Int
  | 0 => n
  | i + 1 => f (orb f n i)
theorem orb_shift (f : Int → Int) (n : Int) : ∀ i, orb f (f n) i = orb f n (i + 1) := by
  intro i
  induction i with
  | zero => rfl
  | succ i ih => show f (orb f (f n) i) = f (orb f n (i + 1)); rw [ih]
theorem orb_add (f : Int → Int) (n : Int) (i : Nat) : ∀ j, orb f (orb f n i) j = orb f n (i + j) := by
  intro j
  induction j with
  | zero => rfl
  | succ j ih => show f (orb f (orb f n i) j) = f (orb f n (i + j)); rw [ih]
/-- N is the first place at which a number comes again, p where it stood before. -/
def IsFirst (f : Int → Int) (n : Int) (N p : Nat) : Prop := p < N ∧ orb f n N = orb f n p ∧ ∀ i j, i < j → j < N → orb f n i ≠ orb f n j
theorem first_of_rep {f : Int → Int} {n : Int} : ∀ (j i : Nat), i < j → orb f n i = orb f n j → ∃ N p, N ≤ j ∧ IsFirst f n N p := by
  intro j
  induction j using Nat.strongRecOn with
  | _ j ih =>
    intro i hij he
    by_cases h : ∃ i' j', i' < j' ∧ j' < j ∧ orb f n i' = orb f n j'
    · obtain ⟨i', j', h1, h2, h3⟩ := h
      obtain ⟨N, p, h4, h5⟩ := ih j' h2 i' h1 h3
      exact ⟨N, p, by omega, h5⟩
    · exact ⟨j, i, Nat.le_refl _, hij, he.symm, fun a c h1 h2 h3 => h ⟨a, c, h1, h2, h3⟩⟩
theorem first_exists {f : Int → Int} {n M : Int} (h : ∀ i, 0 ≤ orb f n i ∧ orb f n i < M) : ∃ (N p : Nat), (N : Int) ≤ M ∧ IsFirst f n N p := by
  obtain ⟨i, j, hij, hj, he⟩ := pigeon M.toNat (fun i => (orb f n i).toNat) (fun i _ => by have := h i; show (orb f n i).toNat < M.toNat; omega)
  have e : orb f n i = orb f n j := by
    have h1 := h i
    have h2 := h j
    have h3 : (orb f n i).toNat = (orb f n j).toNat := he
    omega
  obtain ⟨N, p, h1, h2⟩ := first_of_rep j i hij e
  have := h 0
  exact ⟨N, p, by omega, h2⟩
theorem IsFirst.uniq {f : Int → Int} {n : Int} {N p N' p' : Nat} (h : IsFirst f n N p) (h' : IsFirst f n N' p') : N = N' ∧ p = p' := by
  have e : N = N' := by
    rcases Nat.lt_trichotomy N N' with h1 | h1 | h1
    · exact absurd h.2.1.symm (h'.2.2 p N h.1 h1)
    · exact h1
    · exact absurd h'.2.1.symm (h.2.2 p' N' h'.1 h1)
  subst e
  refine ⟨rfl, ?_⟩
  have e : orb f n p = orb f n p' := h.2.1.symm.trans h'.2.1
  rcases Nat.lt_trichotomy p p' with h1 | h1 | h1
  · exact absurd e (h.2.2 p p' h1 h'.1)
  · exact h1
  · exact absurd e.symm (h.2.2 p' p h1 h.1)
/-- The first N numbers. -/
def orbL (f : Int → Int) (n : Int) (N : Nat) : List Int := (List.range N).map (orb f n)
theorem orbL_len (f : Int → Int) (n : Int) (N : Nat) : (orbL f n N).length = N := by simp [orbL]
theorem orbL_get {f : Int → Int} {n : Int} {N i : Nat} (h : i < N) : (orbL f n N).getD i 0 = orb f n i := by
  simp [orbL, List.getD_eq_getElem?_getD, h]
theorem orbL_succ (f : Int → Int) (n : Int) (N : Nat) : orbL f n (N + 1) = orbL f n N ++ [orb f n N] := by
  simp [orbL, List.range_succ]
/-- Place m holds the least number of a list, and no place before it does. -/
def IsMinAt (l : List Int) (m : Nat) : Prop := m < l.length ∧ (∀ i, i < l.length → l.getD m 0 ≤ l.getD i 0) ∧ ∀ i, i < m → l.getD m 0 < l.getD i 0
theorem IsMinAt.uniq {l : List Int} {m m' : Nat} (h : IsMinAt l m) (h' : IsMinAt l m') : m = m' := by
  rcases Nat.lt_trichotomy m m' with h1 | h1 | h1
  · have := h'.2.2 m h1; have := h.2.1 m' h'.1; omega
  · exact h1
  · have := h.2.2 m' h1; have := h'.2.1 m h.1; omega
theorem isMinAt_exists : ∀ (k : Nat) (l : List Int), k < l.length → ∃ m, m ≤ k ∧ (∀ i, i ≤ k → l.getD m 0 ≤ l.getD i 0) ∧ ∀ i, i < m → l.getD m 0 < l.getD i 0 := by
  intro k l
  induction k with
  | zero => intro _; exact ⟨0, Nat.le_refl _, fun i hi => by rw [Nat.le_zero.1 hi]; exact Int.le_refl _, fun i hi => absurd hi (by omega)⟩
  | succ k ih =>
    intro hk
    obtain ⟨m, h1, h2, h3⟩ := ih (by omega)
    by_cases h : l.getD (k + 1) 0 < l.getD m 0
    · refine ⟨k + 1, Nat.le_refl _, fun i hi => ?_, fun i hi => ?_⟩
      · by_cases e : i = k + 1
        · rw [e]; exact Int.le_refl _
        · have := h2 i (by omega); omega
      · have := h2 i (by omega); omega
    · refine ⟨m, by omega, fun i hi => ?_, h3⟩
      by_cases e : i = k + 1
      · rw [e]; omega
      · exact h2 i (by omega)
/-- The cycle that a step leads to, from its least number on, and after how many steps it is reached. -/
def Cyc (f : Int → Int) (n : Int) (p : Nat) (c : List Int) : Prop := ∃ N m, IsFirst f n N p ∧ IsMinAt ((orbL f n N).drop p) m ∧ c = ((orbL f n N).drop p).drop m ++ ((orbL f n N).drop p).take m
theorem Cyc.uniq {f : Int → Int} {n : Int} {p p' : Nat} {c c' : List Int} (h : Cyc f n p c) (h' : Cyc f n p' c') : p = p' ∧ c = c' := by
  obtain ⟨N, m, h1, h2, h3⟩ := h
  obtain ⟨N', m', h1', h2', h3'⟩ := h'
  obtain ⟨rfl, rfl⟩ := h1.uniq h1'
  obtain rfl := h2.uniq h2'
  exact ⟨rfl, h3.trans h3'.symm⟩
theorem cyc_exists {f : Int → Int} {n : Int} {N p : Nat} (h : IsFirst f n N p) : ∃ c, Cyc f n p c := by
  have hl : ((orbL f n N).drop p).length = N - p := by rw [List.length_drop, orbL_len]
  obtain ⟨m, h1, h2, h3⟩ := isMinAt_exists (N - p - 1) ((orbL f n N).drop p) (by have := h.1; omega)
  have := h.1
  exact ⟨_, N, m, h, ⟨by omega, fun i hi => h2 i (by omega), h3⟩, rfl⟩
/-- The cycle as a run of numbers: k numbers from a least one on that leads back to itself. -/
theorem Cyc.shape {f : Int → Int} {n : Int} {p : Nat} {c : List Int} (h : Cyc f n p c) :
    ∃ (k q : Nat), 0 < k ∧ p ≤ q ∧ q < p + k ∧ c = orbL f (orb f n q) k ∧ orb f n (q + k) = orb f n q ∧ orb f n (p + k) = orb f n p ∧ (∀ i j, i < j → j < p + k → orb f n i ≠ orb f n j) ∧
      (∀ i, i < k → orb f n q ≤ orb f n (p + i)) := by
  obtain ⟨N, m, ⟨h1, h2, h3⟩, ⟨h4, h5, h6⟩, rfl⟩ := h
  have hl : ((orbL f n N).drop p).length = N - p := by rw [List.length_drop, orbL_len]
  have hget : ∀ i, i < N - p → ((orbL f n N).drop p).getD i 0 = orb f n (p + i) := by
    intro i hi
    rw [List.getD_eq_getElem?_getD, List.getElem?_drop, ← List.getD_eq_getElem?_getD, orbL_get (by omega)]
  have hper : ∀ j, orb f n (N + j) = orb f n (p + j) := by
    intro j
    induction j with
    | zero => exact h2
    | succ j ih => show f (orb f n (N + j)) = f (orb f n (p + j)); rw [ih]
  refine ⟨N - p, p + m, by omega, by omega, by omega, ?_, ?_, by rw [show p + (N - p) = N by omega]; exact h2, fun i j hij hj => h3 i j hij (by omega), fun i hi => by have := h5 i (by omega); rwa [hget m (by omega), hget i hi] at this⟩
  · apply List.ext_getElem?
    intro i
    by_cases hi : i < N - p
    · have e2 : (orbL f (orb f n (p + m)) (N - p))[i]? = some (orb f n (p + m + i)) := by
        simp [orbL, hi, orb_add]
      rw [e2]
      by_cases c1 : i < N - p - m
      · rw [List.getElem?_append_left (by rw [List.length_drop, hl]; exact c1), List.getElem?_drop, List.getElem?_drop]
        simp [orbL, show p + (m + i) < N by omega]
        congr 1; omega
      · rw [List.getElem?_append_right (by rw [List.length_drop, hl]; omega), List.length_drop, hl, List.getElem?_take, if_pos (by omega), List.getElem?_drop]
        simp [orbL, show p + (i - (N - p - m)) < N by omega]
        have := hper (m + i - (N - p))
        rw [show N + (m + i - (N - p)) = p + m + i by omega] at this
        rw [this]; congr 1; omega
    · rw [List.getElem?_eq_none, List.getElem?_eq_none]
      · rw [orbL_len]; omega
      · rw [List.length_append, List.length_drop, List.length_take, hl]; omega
  · have := hper m
    rw [show N + m = p + m + (N - p) by omega] at this
    exact this
/-- The same, as a run. -/
structure CycS (f : Int → Int) (n : Int) (p : Nat) (c : List Int) (k q : Nat) : Prop where
  pos : 0 < k
  lo : p ≤ q
  hi : q < p + k
  list : c = orbL f (orb f n q) k
  per : orb f n (p + k) = orb f n p
  inj : ∀ i j, i < j → j < p + k → orb f n i ≠ orb f n j
  least : ∀ i, i < k → orb f n q ≤ orb f n (p + i)
theorem Cyc.run {f : Int → Int} {n : Int} {p : Nat} {c : List Int} (h : Cyc f n p c) : ∃ k q, CycS f n p c k q := by
  obtain ⟨k, q, h1, h2, h3, h4, _, h6, h7, h8⟩ := h.shape
  exact ⟨k, q, h1, h2, h3, h4, h6, h7, h8⟩
theorem CycS.isFirst {f : Int → Int} {n : Int} {p : Nat} {c : List Int} {k q : Nat} (h : CycS f n p c k q) : IsFirst f n (p + k) p := ⟨by have := h.pos; omega, h.per, h.inj⟩
theorem CycS.uniq {f : Int → Int} {n : Int} {p p' : Nat} {c c' : List Int} {k q k' q' : Nat} (h : CycS f n p c k q) (h' : CycS f n p' c' k' q') : p = p' ∧ c = c' := by
  obtain ⟨e1, rfl⟩ := h.isFirst.uniq h'.isFirst
  obtain rfl : k = k' := by omega
  refine ⟨rfl, ?_⟩
  have e : q = q' := by
    have a1 := h.least (q' - p) (by have := h'.hi; have := h'.lo; omega)
    have a2 := h'.least (q - p) (by have := h.hi; have := h.lo; omega)
    rw [show p + (q' - p) = q' by have := h'.lo; omega] at a1
    rw [show p + (q - p) = q by have := h.lo; omega] at a2
    rcases Nat.lt_trichotomy q q' with h1 | h1 | h1
    · exact absurd (by omega) (h.inj q q' h1 h'.hi)
    · exact h1
    · exact absurd (by omega) (h.inj q' q h1 h.hi)
  rw [h.list, h'.list, e]
theorem CycS.per' {f : Int → Int} {n : Int} {p : Nat} {c : List Int} {k q : Nat} (h : CycS f n p c k q) : ∀ j, orb f n (p + k + j) = orb f n (p + j) := by
  intro j
  induction j with
  | zero => exact h.per
  | succ j ih => show f (orb f n (p + k + j)) = f (orb f n (p + j)); rw [ih]
theorem CycS.len {f : Int → Int} {n : Int} {p : Nat} {c : List Int} {k q : Nat} (h : CycS f n p c k q) : c.length = k := by rw [h.list, orbL_len]
theorem CycS.get {f : Int → Int} {n : Int} {p : Nat} {c : List Int} {k q : Nat} (h : CycS f n p c k q) {i : Nat} (hi : i < k) : c.getD i 0 = orb f n (q + i) := by
  rw [h.list, orbL_get hi, orb_add]
/-- One step on leads to the same cycle. -/
theorem CycS.step {f : Int → Int} {n : Int} {p : Nat} {c : List Int} {k q : Nat} (h : CycS f n p c k q) : ∃ q', CycS f (f n) (p - 1) c k q' := by
  obtain ⟨h1, h2, h3, h4, h5, h6, h7⟩ := h
  by_cases hp : p = 0
  · subst hp
    rw [Nat.zero_add] at h3 h5 h6
    have hk : orb f n k = orb f n 0 := h5
    have hq : ∃ q', q' < k ∧ orb f n (q' + 1) = orb f n q := by
      by_cases e : q = 0
      · exact ⟨k - 1, by omega, by rw [show k - 1 + 1 = k by omega, hk, e]⟩
      · exact ⟨q - 1, by omega, by rw [show q - 1 + 1 = q by omega]⟩
    obtain ⟨q', hq1, hq2⟩ := hq
    refine ⟨q', h1, by omega, by omega, by rw [h4, orb_shift, hq2], ?_, ?_, ?_⟩
    · rw [orb_shift, orb_shift]
      show f (orb f n (0 - 1 + k)) = f (orb f n (0 - 1))
      rw [show 0 - 1 + k = k by omega, show 0 - 1 = 0 by omega, hk]
    · intro i j hij hj
      rw [orb_shift, orb_shift]
      by_cases e : j + 1 = k
      · rw [e, hk]; exact fun x => h6 0 (i + 1) (by omega) (by omega) x.symm
      · exact h6 (i + 1) (j + 1) (by omega) (by omega)
    · intro i hi
      rw [orb_shift, orb_shift, hq2]
      by_cases e : i + 1 = k
      · rw [show 0 - 1 + i + 1 = k by omega, hk]; have := h7 0 (by omega); exact this
      · have := h7 (i + 1) (by omega)
        rwa [show 0 + (i + 1) = 0 - 1 + i + 1 by omega] at this
  · refine ⟨q - 1, h1, by omega, by omega, by rw [h4, orb_shift, show q - 1 + 1 = q by omega], ?_, ?_, ?_⟩
    · rw [orb_shift, orb_shift, show p - 1 + k + 1 = p + k by omega, show p - 1 + 1 = p by omega]; exact h5
    · intro i j hij hj
      rw [orb_shift, orb_shift]
      exact h6 (i + 1) (j + 1) (by omega) (by omega)
    · intro i hi
      rw [orb_shift, orb_shift, show q - 1 + 1 = q by omega, show p - 1 + i + 1 = p + i by omega]
      exact h7 i hi
theorem CycS.next {f : Int → Int} {n : Int} {p : Nat} {c : List Int} {k q : Nat} (h : CycS f n p c k q) {i : Nat} (hi : i < k) : f (c.getD i 0) = c.getD ((i + 1) % k) 0 := by
  have hk := h.pos
  rw [h.get hi, h.get (Nat.mod_lt _ hk)]
  show orb f n (q + i + 1) = _
  by_cases e : i + 1 = k
  · rw [e, Nat.mod_self]
    have := h.per' (q - p)
    have h2 := h.lo
    rw [show p + k + (q - p) = q + i + 1 by omega, show p + (q - p) = q + 0 by omega] at this
    exact this
  · rw [Nat.mod_eq_of_lt (by omega)]; rfl
theorem CycS.on {f : Int → Int} {n : Int} {p : Nat} {c : List Int} {k q : Nat} (h : CycS f n p c k q) (i : Nat) (hi : p ≤ i) : ∃ j, j < k ∧ orb f n i = orb f n (p + j) := by
  have hk := h.pos
  refine ⟨(i - p) % k, Nat.mod_lt _ hk, ?_⟩
  obtain ⟨d, hd⟩ : ∃ d, d = i - p := ⟨_, rfl⟩
  rw [← hd, show i = p + d by omega]
  clear hd hi
  induction d using Nat.strongRecOn with
  | _ d ih =>
    by_cases e : d < k
    · rw [Nat.mod_eq_of_lt e]
    · have := h.per' (d - k)
      rw [show p + k + (d - k) = p + d by omega] at this
      rw [this, ih (d - k) (by omega), Nat.mod_eq_sub_mod (a := d) (by omega)]
theorem CycS.head_le {f : Int → Int} {n : Int} {p : Nat} {c : List Int} {k q : Nat} (h : CycS f n p c k q) {i : Nat} (hi : i < k) : c.getD 0 0 ≤ c.getD i 0 := by
  rw [h.get h.pos, h.get hi]
  obtain ⟨j, h1, h2⟩ := h.on (q + i) (by have := h.lo; omega)
  rw [h2]
  exact h.least j h1
theorem CycS.inj' {f : Int → Int} {n : Int} {p : Nat} {c : List Int} {k q : Nat} (h : CycS f n p c k q) {i : Nat} (h0 : 0 < i) (hi : i < k) : c.getD i 0 ≠ c.getD 0 0 := by
  rw [h.get h.pos, h.get hi]
  have h2 := h.lo
  have h3 := h.hi
  by_cases e : q + i < p + k
  · exact fun x => h.inj q (q + i) (by omega) e x.symm
  · have := h.per' (q + i - (p + k))
    rw [show p + k + (q + i - (p + k)) = q + i by omega] at this
    rw [this]
    exact h.inj _ q (by omega) h3
theorem CycS.mem_iff {f : Int → Int} {n : Int} {p : Nat} {c : List Int} {k q : Nat} (h : CycS f n p c k q) : p = 0 ↔ n ∈ c := by
  constructor
  · rintro rfl
    have h3 := h.hi
    rw [h.list]
    by_cases e : q = 0
    · subst e
      exact List.mem_map.2 ⟨0, List.mem_range.2 h.pos, rfl⟩
    · refine List.mem_map.2 ⟨k - q, List.mem_range.2 (by omega), ?_⟩
      rw [orb_add, show q + (k - q) = 0 + k by omega, h.per]; rfl
  · intro hm
    rw [h.list] at hm
    obtain ⟨i, hi, he⟩ := List.mem_map.1 hm
    rw [List.mem_range] at hi
    rw [orb_add] at he
    obtain ⟨j, h1, h2⟩ := h.on (q + i) (by have := h.lo; omega)
    rw [h2] at he
    rcases Nat.eq_zero_or_pos p with h0 | h0
    · exact h0
    · exact absurd he.symm (h.inj 0 (p + j) (by omega) (by omega))
end Go.Pl
