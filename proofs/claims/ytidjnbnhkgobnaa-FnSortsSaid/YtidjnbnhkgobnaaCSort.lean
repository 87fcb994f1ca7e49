/-
  Plain facts on the sorting by counting. No program in sight.
  Conditions: none.
-/
import Derived.Test.YtidjnbnhkgobnaaSortsPl
namespace Go.Pl
/-- All numbers of d that are less than k, by rising value. -/
def cs (d : List Int) : Nat → List Int
  | 0 => []
  | x + 1 => cs d x ++ d.filter (fun y => y == (x : Int))
theorem cs_mem {d : List Int} {y : Int} : ∀ {k : Nat}, y ∈ cs d k → 0 ≤ y ∧ y < k ∧ y ∈ d := by
  intro k
  induction k with
  | zero => intro h; simp [cs] at h
  | succ k ih =>
    intro h
    rcases List.mem_append.1 h with h | h
    · have := ih h; exact ⟨this.1, by omega, this.2.2⟩
    · rw [List.mem_filter, beq_iff_eq] at h
      obtain ⟨h1, rfl⟩ := h
      exact ⟨by omega, by omega, h1⟩
theorem cs_sorted (d : List Int) : ∀ k : Nat, (cs d k).Pairwise (· ≤ ·) := by
  intro k
  induction k with
  | zero => exact List.Pairwise.nil
  | succ k ih =>
    show (cs d k ++ d.filter _).Pairwise _
    rw [List.pairwise_append]
    refine ⟨ih, ?_, ?_⟩
    · rw [List.pairwise_iff_getElem]
      intro i j hi hj _
      have h1 := List.getElem_mem hi
      have h2 := List.getElem_mem hj
      rw [List.mem_filter, beq_iff_eq] at h1 h2
      rw [h1.2, h2.2]
      exact Int.le_refl _
    · intro a ha c hc
      have h1 := cs_mem ha
      rw [List.mem_filter, beq_iff_eq] at hc
      rw [hc.2]; omega
theorem cs_count (d : List Int) (a : Int) : ∀ k : Nat, (cs d k).count a = if 0 ≤ a ∧ a < k then d.count a else 0 := by
  intro k
  induction k with
  | zero => simp [cs]; omega
  | succ k ih =>
    show (cs d k ++ d.filter _).count a = _
    rw [List.count_append, ih]
    by_cases h : a = k
    · subst h
      rw [if_neg (by omega), if_pos (by omega), List.count_filter (by simp)]; omega
    · have h0 : (d.filter (fun y => y == (k : Int))).count a = 0 := by
        rw [List.count_eq_zero]
        intro hm
        rw [List.mem_filter, beq_iff_eq] at hm
        exact h hm.2
      rw [h0, Nat.add_zero]
      by_cases h2 : 0 ≤ a ∧ a < k
      · rw [if_pos h2, if_pos (by omega)]
      · rw [if_neg h2, if_neg (by omega)]
theorem cs_srt {d : List Int} {k : Nat} (h : ∀ y ∈ d, 0 ≤ y ∧ y < k) : cs d k = srt d := by
  refine (srt_eq (m := cs d k) ?_ (cs_sorted d k)).symm
  rw [List.perm_iff_count]
  intro a
  rw [cs_count]
  split
  · rfl
  · rename_i hn
    symm
    rw [List.count_eq_zero]
    exact fun hm => hn (h a hm)
theorem srt_len (l : List Int) : (srt l).length = l.length := (srt_perm l).length_eq
theorem srt_mem {l : List Int} {d : Int} : d ∈ srt l ↔ d ∈ l := (srt_perm l).mem_iff
end Go.Pl
