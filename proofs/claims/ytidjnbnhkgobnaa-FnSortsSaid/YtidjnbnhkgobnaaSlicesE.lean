/-
  The contract of the turning of a slice of the call's own.
  Conditions: none.
-/
import Derived.Test.YtidjnbnhkgobnaaSlicesB
import Derived.RegionTactic
import Derived.BigRegion
namespace Go.Proofs.Ytidjnbnhkgobnaa
open Go.RowKit
theorem Own.cellAt {w : World} {B g n cap : Nat} {l : List Int} (h : Own w B (.slice (some ⟨g, 0, none⟩) n cap) l) {j : Nat} (hj : j < l.length) : w.cell? ⟨g, j, none⟩ = some (.int .i64 (l.getD j 0)) := by
  have hn : n = l.length := by
    obtain ⟨ao, c, e, _⟩ := h.shape
    simp at e; exact e.2.1
  subst hn
  rw [World.ownsRow.cellAt h j (by omega)]
  exact vs_get l j hj
theorem Own.free {w : World} {B g n cap : Nat} {l : List Int} (h : Own w B (.slice (some ⟨g, 0, none⟩) n cap) l) (j : Nat) : w.frozen? ⟨g, j, none⟩ = false := by
  have hn : n = l.length := by
    obtain ⟨ao, c, e, _⟩ := h.shape
    simp at e; exact e.2.1
  subst hn
  exact World.ownsRow.frozenAt h j
theorem Own.forms {w : World} {B : Nat} {v : Value} {l : List Int} (h : Own w B v l) : (v = .slice none 0 0 ∧ l = []) ∨ ∃ g cap, v = .slice (some ⟨g, 0, none⟩) l.length cap ∧ B ≤ g ∧ g < w.heap.size ∧ l.length ≤ cap ∧ cap ≤ maxLen := by
  rcases h.2 with ⟨rfl, h0⟩ | ⟨g, cap, cur, rfl, hb, hg, hn, hc, _, _⟩
  · exact .inl ⟨rfl, List.eq_nil_of_length_eq_zero h0⟩
  · exact .inr ⟨g, cap, rfl, hb, (Array.getElem?_eq_some_iff.1 hg).1, hn, hc⟩
theorem getD_set {l : List Int} {i j : Nat} {d : Int} (h : i < l.length) : (l.set i d).getD j 0 = if i = j then d else l.getD j 0 := by
  rw [List.getD_eq_getElem?_getD, List.getElem?_set, List.getD_eq_getElem?_getD]
  by_cases e : i = j
  · rw [if_pos e, if_pos h, if_pos e]; rfl
  · rw [if_neg e, if_neg e]
theorem swap_step {l xs : List Int} {k j : Nat} (hl : xs.length = l.length) (hj : j + k + 1 = l.length) (hkj : k < j)
    (hx : ∀ i, i < l.length → xs.getD i 0 = if i < k ∨ l.length ≤ i + k then l.getD (l.length - 1 - i) 0 else l.getD i 0) :
    ∀ i, i < l.length → ((xs.set k (xs.getD j 0)).set j (xs.getD k 0)).getD i 0 = if i < k + 1 ∨ l.length ≤ i + (k + 1) then l.getD (l.length - 1 - i) 0 else l.getD i 0 := by
  intro i hi
  rw [getD_set (by simp; omega), getD_set (by omega)]
  have hk := hx k (by omega)
  have hj' := hx j (by omega)
  rw [if_neg (by omega)] at hk hj'
  by_cases e1 : j = i
  · rw [if_pos e1, hk, if_pos (by omega)]; congr 1; omega
  · rw [if_neg e1]
    by_cases e2 : k = i
    · rw [if_pos e2, hj', if_pos (by omega)]; congr 1; omega
    · rw [if_neg e2, hx i hi]
      by_cases e3 : i < k ∨ l.length ≤ i + k
      · rw [if_pos e3, if_pos (by omega)]
      · rw [if_neg e3, if_neg (by omega)]
theorem swap_end {l xs : List Int} {k : Nat} (hl : xs.length = l.length) (hk : l.length ≤ k + k + 1)
    (hx : ∀ i, i < l.length → xs.getD i 0 = if i < k ∨ l.length ≤ i + k then l.getD (l.length - 1 - i) 0 else l.getD i 0) : xs = l.reverse := by
  apply List.ext_getElem (by simp [hl])
  intro i h1 h2
  have h := hx i (by omega)
  rw [List.getElem_reverse]
  rw [List.getD_eq_getElem?_getD, List.getElem?_eq_getElem h1] at h
  have e : xs[i] = (if i < k ∨ l.length ≤ i + k then l.getD (l.length - 1 - i) 0 else l.getD i 0) := h
  rw [e]
  by_cases c : i < k ∨ l.length ≤ i + k
  · rw [if_pos c, List.getD_eq_getElem?_getD, List.getElem?_eq_getElem (by omega)]; rfl
  · rw [if_neg c, List.getD_eq_getElem?_getD, List.getElem?_eq_getElem (by omega)]
    have : i = l.length - 1 - i := by omega
    simp only [Option.getD_some]
    congr 1
theorem slReverse (l : List Int) (v : Value) (B : Nat) (w : World) (hown : Own w B v l) :
    Calls Try.prog 73 #[v] w fun e w' => e = .returned (.tuple #[]) ∧ Own w' B v l.reverse ∧ Below B w w' := by
  rcases hown.forms with ⟨rfl, rfl⟩ | ⟨g, cap, rfl, hBg, hg, hcap, hcap2⟩
  · go_enter Try.func73, Try.ntmps73
    go_wp2
    refine wp_loop_rounds 1 ?_
    rw [rounds_succ]
    go_wp2
    go_end0
    exact ⟨rfl, by simpa using hown, Below.refl _ _⟩
  · unfold maxLen at hcap2
    go_enter Try.func73, Try.ntmps73
    go_wp2
    go_loopw [2, 3] (fun vi vj wr => ∃ (k : Nat) (xs : List Int), 2 * k ≤ l.length + 1 ∧ vi = .int .i64 k ∧ vj = .int .i64 ((l.length : Int) - 1 - k) ∧ xs.length = l.length ∧ Own wr B (.slice (some ⟨g, 0, none⟩) l.length cap) xs ∧ Hid (∀ j, j < l.length → xs.getD j 0 = if j < k ∨ l.length ≤ j + k then l.getD (l.length - 1 - j) 0 else l.getD j 0) ∧ Below B w wr) (fun vi vj _ => (intOf vj - intOf vi + 1).toNat)
    case atStart => exact ⟨0, l, by omega, rfl, by simp, rfl, hown, (fun j hj => by rw [if_neg (by omega)]), Below.refl _ _⟩
    case round =>
      obtain ⟨k, xs, hk, rfl, rfl, hxl, hown', hx, hbel⟩ := hrel
      by_cases hlt : k + k + 1 < l.length
      · obtain ⟨j, hj⟩ : ∃ j, j + k + 1 = l.length := ⟨l.length - 1 - k, by omega⟩
        have ej : (l.length : Int) - 1 - k = (j : Int) := by omega
        rw [ej]
        have c1 := hown'.cellAt (show k < xs.length by omega)
        have c2 := hown'.cellAt (show j < xs.length by omega)
        have f1 := hown'.free k
        have f2 := hown'.free j
        have HX := Lib.hid hxl
        have HJ := Lib.hid hj
        have HO := Lib.hid hown'
        clear hxl hj ej hown' hown
        have hkj : k < j := by have := HJ.out; omega
        have hjl : j < l.length := by have := HJ.out; omega
        have HS := Lib.hid (swap_step HX.out HJ.out hkj hx.out)
        generalize xs.getD k 0 = d1 at *
        generalize xs.getD j 0 = d2 at *
        go_wp2
        go_region
        go_wp2
        go_roundw
        case rel =>
          have hj := HJ.out
          have o1 := HO.out.set k d2
          have o2 := o1.1.set j d1
          exact ⟨k + 1, (xs.set k d2).set j d1, by omega, by go_num, by congr 1; omega, by simp; exact HX.out, o2.1, HS.out, (hbel.trans (o1.2.trans o2.2)).drew⟩
        case measure => simp [intOf]; omega
      · have HR := Lib.hid (show xs = l.reverse from swap_end hxl (by omega) hx.out)
        go_wp2
        go_end0
        exact ⟨rfl, by rw [← HR.out]; exact hown', hbel⟩
end Go.Proofs.Ytidjnbnhkgobnaa
