/-
  Plain facts on the numbers to which a step leads, each once, in order. No program in sight.
  Conditions: none.
-/
import Derived.Test.YtnjifahnfmifgaaCycles
import Derived.Test.YtnjifahnfmifgaaSortsPl
namespace Go.Pl
/-- The first j numbers, each once. -/
def ddL (f : Int → Int) (n : Int) : Nat → List Int
  | 0 => []
  | j + 1 => if orb f n j ∈ ddL f n j then ddL f n j else ddL f n j ++ [orb f n j]
theorem ddL_yes {f : Int → Int} {n : Int} {j : Nat} (h : orb f n j ∈ ddL f n j) : ddL f n (j + 1) = ddL f n j := by
  show (if _ then _ else _) = _; rw [if_pos h]
theorem ddL_no {f : Int → Int} {n : Int} {j : Nat} (h : ¬ orb f n j ∈ ddL f n j) : ddL f n (j + 1) = ddL f n j ++ [orb f n j] := by
  show (if _ then _ else _) = _; rw [if_neg h]
theorem ddL_len (f : Int → Int) (n : Int) : ∀ j : Nat, (ddL f n j).length ≤ j := by
  intro j
  induction j with
  | zero => simp [ddL]
  | succ j ih =>
    by_cases h : orb f n j ∈ ddL f n j
    · rw [ddL_yes h]; omega
    · rw [ddL_no h]; simp; exact ih
theorem ddL_mem {f : Int → Int} {n x : Int} : ∀ {j : Nat}, x ∈ ddL f n j ↔ ∃ i, i < j ∧ orb f n i = x := by
  intro j
  induction j with
  | zero => simp [ddL]
  | succ j ih =>
    by_cases h : orb f n j ∈ ddL f n j
    · rw [ddL_yes h, ih]
      constructor
      · rintro ⟨i, h1, h2⟩; exact ⟨i, by omega, h2⟩
      · rintro ⟨i, h1, h2⟩
        by_cases hi : i = j
        · subst hi; rw [h2] at h; exact ih.1 h
        · exact ⟨i, by omega, h2⟩
    · rw [ddL_no h, List.mem_append, ih]
      constructor
      · rintro (⟨i, h1, h2⟩ | h1)
        · exact ⟨i, by omega, h2⟩
        · simp at h1; exact ⟨j, by omega, h1.symm⟩
      · rintro ⟨i, h1, h2⟩
        by_cases hi : i = j
        · subst hi; right; simp [h2]
        · left; exact ⟨i, by omega, h2⟩
theorem ddL_nodup (f : Int → Int) (n : Int) : ∀ j : Nat, (ddL f n j).Nodup := by
  intro j
  induction j with
  | zero => simp [ddL]
  | succ j ih =>
    by_cases h : orb f n j ∈ ddL f n j
    · rw [ddL_yes h]; exact ih
    · rw [ddL_no h, List.nodup_append]
      refine ⟨ih, by simp, fun a ha b hb => ?_⟩
      simp at hb; subst hb
      exact fun e => h (by rw [← e]; exact ha)
/-- Two such lists with the same numbers are alike when sorted. -/
theorem srt_same {l m : List Int} (hl : l.Nodup) (hm : m.Nodup) (h : ∀ x, x ∈ l ↔ x ∈ m) : srt l = srt m := by
  refine srt_congr ?_
  rw [List.perm_iff_count]
  intro a
  rw [hl.count, hm.count]
  by_cases ha : a ∈ l
  · rw [if_pos ha, if_pos ((h a).1 ha)]
  · rw [if_neg ha, if_neg (fun hx => ha ((h a).2 hx))]
/-- Where a number stands in a sorted list. -/
structure At (s : List Int) (x : Int) (i : Nat) : Prop where
  le : i ≤ s.length
  low : ∀ j, j < i → s.getD j 0 < x
  up : i = s.length ∨ x ≤ s.getD i 0
theorem getD_eq' {s : List Int} {i : Nat} (hi : i < s.length) : s.getD i 0 = s[i] := by rw [List.getD_eq_getElem?_getD, List.getElem?_eq_getElem hi]; rfl
theorem At.mem {s : List Int} {x : Int} {i : Nat} (hs : s.Pairwise (· ≤ ·)) (h : At s x i) : x ∈ s ↔ i < s.length ∧ s.getD i 0 = x := by
  constructor
  · intro hx
    obtain ⟨j, hj, e⟩ := List.mem_iff_getElem.1 hx
    have e' : s.getD j 0 = x := by rw [getD_eq' hj]; exact e
    by_cases hji : j < i
    · have := h.low j hji; omega
    · have hi : i < s.length := by omega
      refine ⟨hi, ?_⟩
      rcases h.up with hu | hu
      · omega
      · by_cases hij : i = j
        · subst hij; exact e'
        · have := (List.pairwise_iff_getElem.1 hs) i j hi hj (by omega)
          rw [← getD_eq' hi, ← getD_eq' hj] at this
          omega
  · rintro ⟨h1, h2⟩
    rw [← h2, getD_eq' h1]; exact List.getElem_mem h1
theorem At.ins {l : List Int} {x : Int} {i : Nat} (h : At (srt l) x i) : (srt l).take i ++ [x] ++ (srt l).drop i = srt (l ++ [x]) := by
  have hs := srt_sorted l
  refine (srt_eq ?_ ?_).symm
  · have h1 : ((srt l).take i ++ [x] ++ (srt l).drop i).Perm (x :: ((srt l).take i ++ (srt l).drop i)) := by
      rw [List.append_assoc]
      exact List.perm_middle
    rw [List.take_append_drop] at h1
    refine h1.trans (((srt_perm l).cons x).trans ?_)
    exact (List.perm_append_comm (l₁ := [x]) (l₂ := l))
  · have hd : ∀ y ∈ (srt l).drop i, x ≤ y := by
      intro y hy
      obtain ⟨j, hj, e⟩ := List.mem_iff_getElem.1 hy
      rw [List.length_drop] at hj
      rw [List.getElem_drop] at e
      rcases h.up with hu | hu
      · omega
      · have hi : i < (srt l).length := by omega
        rw [getD_eq' hi] at hu
        by_cases hj0 : j = 0
        · subst hj0; rw [← e]; exact hu
        · have := (List.pairwise_iff_getElem.1 hs) i (i + j) hi (by omega) (by omega)
          omega
    have ht : ∀ y ∈ (srt l).take i, y ≤ x := by
      intro y hy
      obtain ⟨j, hj, e⟩ := List.mem_iff_getElem.1 hy
      rw [List.length_take] at hj
      rw [List.getElem_take] at e
      have := h.low j (by omega)
      rw [getD_eq' (by omega)] at this
      omega
    have h2 : (srt l).take i ++ [x] ++ (srt l).drop i = (srt l).take i ++ (x :: (srt l).drop i) := by simp
    rw [h2, List.pairwise_append]
    refine ⟨hs.sublist (List.take_sublist _ _), ?_, fun a ha c hc => ?_⟩
    · rw [List.pairwise_cons]
      exact ⟨fun a ha => hd a ha, hs.sublist (List.drop_sublist _ _)⟩
    · have h3 := ht a ha
      rcases List.mem_cons.1 hc with rfl | hc
      · exact h3
      · have := hd c hc; omega
end Go.Pl
