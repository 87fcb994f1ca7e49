/-
  Contracts of the search in slices of integers, and of the tests of small primes.
  Conditions: none.
-/
import Derived.Test.YtnjifahnfmifgaaSlicesB
namespace Go.Proofs.Ytnjifahnfmifgaa
open Go.RowKit
/-- r is the first place of x in l, or -1. -/
def IsIdx (l : List Int) (x r : Int) : Prop := (r = -1 ∧ ∀ j, j < l.length → l.getD j 0 ≠ x) ∨ ∃ k : Nat, r = k ∧ k < l.length ∧ l.getD k 0 = x ∧ ∀ j, j < k → l.getD j 0 ≠ x
theorem mem_getD {l : List Int} {x : Int} : x ∈ l ↔ ∃ j, j < l.length ∧ l.getD j 0 = x := by
  rw [List.mem_iff_getElem]
  constructor
  · rintro ⟨i, h, e⟩; exact ⟨i, h, by rw [List.getD_eq_getElem?_getD, List.getElem?_eq_getElem h]; exact e⟩
  · rintro ⟨i, h, e⟩; exact ⟨i, h, by rw [List.getD_eq_getElem?_getD, List.getElem?_eq_getElem h] at e; exact e⟩
theorem IsIdx.sign {l : List Int} {x r : Int} (h : IsIdx l x r) : decide (0 ≤ r) = decide (x ∈ l) := by
  rcases h with ⟨rfl, h⟩ | ⟨k, rfl, h1, h2, _⟩
  · have : ¬ x ∈ l := fun hm => by obtain ⟨j, h1, h2⟩ := mem_getD.1 hm; exact h j h1 h2
    simp [this]
  · have : x ∈ l := mem_getD.2 ⟨k, h1, h2⟩
    simp [this]
theorem slIndex (l : List Int) (ln : Nat) (hln : ln = l.length) (ao : Option Addr) (cap : Nat) (x : Int) (w : World) (hr : Rd w ao cap l) :
    Calls Try.prog 72 #[.slice ao ln cap, .int .i64 x] w fun e w' => ∃ r, e = .returned (.int .i64 r) ∧ IsIdx l x r ∧ w = w' := by
  subst hln
  have HR := Lib.hid hr
  have hcap := hr.1
  have hcap2 := hr.2.1
  unfold maxLen at hcap2
  clear hr
  go_enter Try.func72, Try.ntmps72
  go_wp2
  go_loop [8] (fun vi => ∃ (k : Nat), k ≤ l.length ∧ vi = .int .i64 k ∧ Hid (∀ j, j < k → l.getD j 0 ≠ x)) (fun vi => l.length - (intOf vi).toNat)
  case atStart => exact ⟨0, Nat.zero_le _, rfl, (fun j hj => absurd hj (by omega))⟩
  case round =>
    obtain ⟨k, hk, rfl, hg⟩ := hrel
    by_cases hlt : k < l.length
    · obtain ⟨b, off, rfl, _, hc⟩ := HR.out.at hlt
      by_cases he : l.getD k 0 = x
      · have hb : (l.getD k 0 == x) = true := by rw [he]; simp
        have hb' : (x == l.getD k 0) = true := by rw [he]; simp
        have HE := Lib.hid (show IsIdx l x k from .inr ⟨k, rfl, hlt, he, hg.out⟩)
        clear he
        generalize l.getD k 0 = d at *
        go_wp2
        go_ret
        exact ⟨_, rfl, HE.out, rfl⟩
      · have hb : (l.getD k 0 == x) = false := by rw [beq_eq_false_iff_ne]; exact he
        have hb' : (x == l.getD k 0) = false := by rw [beq_eq_false_iff_ne]; exact fun h => he h.symm
        have HE := Lib.hid (show ∀ j, j < k + 1 → l.getD j 0 ≠ x from fun j hj => if e : j = k then (by subst e; exact he) else hg.out j (by omega))
        clear he
        generalize l.getD k 0 = d at *
        go_wp2
        go_round
        case rel => exact ⟨k + 1, by omega, by go_num, HE.out⟩
        case measure => simp [intOf]; omega
    · have HE := Lib.hid (show IsIdx l x (-1) from .inl ⟨rfl, fun j hj => hg.out j (by omega)⟩)
      go_wp2
      go_ret
      exact ⟨_, rfl, HE.out, rfl⟩
theorem slContains (l : List Int) (ln : Nat) (hln : ln = l.length) (ao : Option Addr) (cap : Nat) (x : Int) (w : World) (hr : Rd w ao cap l) :
    Calls Try.prog 61 #[.slice ao ln cap, .int .i64 x] w fun e w' => e = .returned (.bool (decide (x ∈ l))) ∧ w = w' := by
  subst hln
  have HR := Lib.hid hr
  clear hr
  go_enter Try.func61, Try.ntmps61
  go_wp2_with fail
  refine (slIndex _ _ (by simp) _ _ _ _ HR.out).mono ?_
  rintro e w' ⟨r, rfl, hi, rfl⟩
  have HI := Lib.hid hi.sign
  clear hi
  go_wp2
  go_ret
  exact ⟨ret_bool HI.out, rfl⟩
end Go.Proofs.Ytnjifahnfmifgaa
