/-
  The contract of the turning of a slice of the call's own.
  Conditions: none.
-/
import Derived.Test.YtkddmngbfncocaaDoorSlicesB
import Derived.RegionTactic
import Derived.BigRegion
namespace Go.Proofs.YtkddmngbfncocaaDoor
open Go.RowKit
theorem Own.cellAt {w : World} {B g n cap : Nat} {l : List Int} (h : Own w B (.slice (some ⟨g, 0, none⟩) n cap) l) {j : Nat} (hj : j < l.length) : w.cell? ⟨g, j, none⟩ = some (.int .i64 (l.getD j 0)) := by
  have hn : n = l.length := by
    obtain ⟨ao, c, e, _⟩ := h.shape
    simp at e; exact e.2.1
  subst hn
  rw [World.ownsRow.cellAt h j (by omega)]
  exact vs_get l j hj
theorem Own.free {w : World} {B g n cap : Nat} {l : List Int} (h : Own w B (.slice (some ⟨g, 0, none⟩) n cap) l) (j : Nat) : w.frozen? ⟨g, j, none⟩ = false := by
  have hn : n = l.length := by
    obtain ⟨ao, c, e, _⟩ := h.shape
    simp at e; exact e.2.1
  subst hn
  exact World.ownsRow.frozenAt h j
theorem Own.forms {w : World} {B : Nat} {v : Value} {l : List Int} (h : Own w B v l) : (v = .slice none 0 0 ∧ l = []) ∨ ∃ g cap, v = .slice (some ⟨g, 0, none⟩) l.length cap ∧ B ≤ g ∧ g < w.heap.size ∧ l.length ≤ cap ∧ cap ≤ maxLen := by
  rcases h.2 with ⟨rfl, h0⟩ | ⟨g, cap, cur, rfl, hb, hg, hn, hc, _, _⟩
  · exact .inl ⟨rfl, List.eq_nil_of_length_eq_zero h0⟩
  · exact .inr ⟨g, cap, rfl, hb, (Array.getElem?_eq_some_iff.1 hg).1, hn, hc⟩
theorem getD_set {l : List Int} {i j : Nat} {d : Int} (h : i < l.length) : (l.set i d).getD j 0 = if i = j then d else l.getD j 0 := by
  rw [List.getD_eq_getElem?_getD, List.getElem?_set, List.getD_eq_getElem?_getD]
  by_cases e : i = j
  · rw [if_pos e, if_pos h, if_pos e]; rfl
  · rw [if_neg e, if_neg e]
theorem swap_step {l xs : List Int} {k j : Nat} (hl : xs.length = l.length) (hj : j + k + 1 = l.length) (hkj : k < j)
    (hx : ∀ i, i < l.length → xs.getD i 0 = if i < k ∨ l.length ≤ i + k then l.getD (l.length - 1 - i) 0 else l.getD i 0) :
    ∀ i, i < l.length → ((xs.set k (xs.getD j 0)).set j (xs.getD k 0)).getD i 0 = if i < k + 1 ∨ l.length ≤ i + (k + 1) then l.getD (l.length - 1 - i) 0 else l.getD i 0 := by
  intro i hi
  rw [getD_set (by simp; omega), getD_set (by omega)]
  have hk := hx k (by omega)
  have hj' := hx j (by omega)
  rw [if_neg (by omega)] at hk hj'
  by_cases e1 : j = i
  · rw [if_pos e1, hk, if_pos (by omega)]; congr 1; omega
  · rw [if_neg e1]
    by_cases e2 : k = i
    · rw [if_pos e2, hj', if_pos (by omega)]; congr 1; omega
    · rw [if_neg e2, hx i hi]
      by_cases e3 : i < k ∨ l.length ≤ i + k
      · rw [if_pos e3, if_pos (by omega)]
      · rw [if_neg e3, if_neg (by omega)]
theorem swap_end {l xs : List Int} {k : Nat} (hl : xs.length = l.length) (hk : l.length ≤ k + k + 1)
    (hx : ∀ i, i < l.length → xs.getD i 0 = if i < k ∨ l.length ≤ i + k then l.getD (l.length - 1 - i) 0 else l.getD i 0) : xs = l.reverse := by
  apply List.ext_getElem (by simp [hl])
  intro i h1 h2
  have h := hx i (by omega)
  rw [List.getElem_reverse]
  rw [List.getD_eq_getElem?_getD, List.getElem?_eq_getElem h1] at h
  have e : xs[i] = (if i < k ∨ l.length ≤ i + k then l.getD (l.length - 1 - i) 0 else l.getD i 0) := h
  rw [e]
  by_cases c : i < k ∨ l.length ≤ i + k
  · rw [if_pos c, List.getD_eq_getElem?_getD, List.getElem?_eq_getElem (by omega)]; rfl
  · rw [if_neg c, List.getD_eq_getElem?_getD, List.getElem?_eq_getElem (by omega)]
    have : i = l.length - 1 - i := by omega
    simp only [Option.getD_some]
    congr 1
end Go.Proofs.YtkddmngbfncocaaDoor
