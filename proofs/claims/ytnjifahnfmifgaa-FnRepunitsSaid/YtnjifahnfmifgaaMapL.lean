/-
  Maps from numbers to places, and parts of rows.
  Conditions: none.
-/
import Derived.Test.YtnjifahnfmifgaaCycles
import Derived.Test.YtnjifahnfmifgaaSlicesE
import Derived.Test.YtnjifahnfmifgaaSlicesF
import Derived.Maps.OwnSet
import Derived.Maps.Views
import Derived.Deep.DeepCutAuto
namespace Go.Proofs.Ytnjifahnfmifgaa
open Go.RowKit
namespace Cy
open Go.Maps
theorem lawI : Keyed Try.prog 3 := int_keyed Try.underlying3
theorem zeroI (w : World) : (zeroValue 3).run Try.prog w = .ok (.int .i64 0) w := by kernel_rfl
theorem keyI (x : Int) (hx : -1000000000000000000 ≤ x ∧ x ≤ 1000000000000000000) : keyOf Try.prog 3 (.int .i64 x) = some (.int .i64 x) :=
  keyOf_int_mk Try.underlying3 (WalkArith.wf_i64 (by omega))
/-- The map D tells for each number of l where it stands. -/
structure MapL (D : DataW Unit) (l : List Int) : Prop where
  isMap : IsMap D
  has : ∀ x : Int, Maps.has D (.int .i64 x) = decide (x ∈ l)
  at_ : ∀ i : Nat, i < l.length → ∀ z, D.atKey (.int .i64 (l.getD i 0)) z = .lit (.int .i64 i)
theorem mapL_nil : MapL (.map []) [] := ⟨isMap_empty, fun x => by rfl, fun i hi => by simp at hi⟩
theorem MapL.put {D : DataW Unit} {l : List Int} (h : MapL D l) {x : Int} (hx : x ∉ l) (wx : WideAt.IsKeyLit (.int .i64 x)) : MapL (D.put (.int .i64 x) (.lit (.int .i64 (l.length : Int)))) (l ++ [x]) := by
  refine ⟨h.isMap.put _ _, fun y => ?_, fun i hi z => ?_⟩
  · by_cases e : y = x
    · subst e
      rw [has_put_same h.isMap wx]; simp
    · rw [has_put_other (by intro e'; simp at e'; exact e e'), h.has]
      simp [e]
  · rw [List.length_append] at hi
    by_cases hil : i < l.length
    · have e1 : (l ++ [x]).getD i 0 = l.getD i 0 := by
        rw [List.getD_eq_getElem?_getD, List.getD_eq_getElem?_getD, List.getElem?_append_left hil]
      have hne : l.getD i 0 ≠ x := fun e => hx (by rw [← e]; exact Pl.getD_mem hil)
      rw [e1, atKey_put_other (by intro e'; simp at e'; exact hne (by first | exact e' | exact e'.symm))]
      exact h.at_ i hil z
    · obtain rfl : i = l.length := by simp at hi; omega
      have e1 : (l ++ [x]).getD l.length 0 = x := by
        rw [List.getD_eq_getElem?_getD, List.getElem?_append_right (Nat.le_refl _)]; simp
      rw [e1]
      exact atKey_put_same h.isMap wx _ _
def lenS : Value → Nat | .slice _ n _ => n | _ => 0
theorem ownsMap_below {w w' : World} {R : Value → Option (DataW Unit × List MemPlace)} {b n : Nat} {D : DataW Unit} (h : w.ownsMap Try.prog 3 R b n D) {C : Nat} (hb : Below C w w') (hC : b < C) : w'.ownsMap Try.prog 3 R b n D := by
  obtain ⟨es, clock, h1, h2⟩ := h
  exact ⟨es, clock, by rw [hb.block b hC]; exact h1, h2⟩
theorem rd_take {w : World} {ao : Option Addr} {cap : Nat} {l : List Int} (h : Rd w ao cap l) (s : Nat) : Rd w ao cap (l.take s) := by
  obtain ⟨h1, h2, h3, h4⟩ := h
  refine ⟨by rw [List.length_take]; omega, h2, h3, ?_⟩
  rcases h4 with rfl | ⟨b, off, e, hl, hc⟩
  · left; simp
  · refine .inr ⟨b, off, e, hl, fun j hj => ?_⟩
    rw [List.length_take] at hj
    rw [hc j (by omega), List.getD_eq_getElem?_getD, List.getD_eq_getElem?_getD, List.getElem?_take, if_pos (by omega)]
theorem rd_drop {w : World} {b off cap : Nat} {l : List Int} (h : Rd w (some ⟨b, off, none⟩) cap l) (s : Nat) (hs : s ≤ cap) : Rd w (some ⟨b, off + s, none⟩) (cap - s) (l.drop s) := by
  obtain ⟨h1, h2, h3, h4⟩ := h
  refine ⟨by rw [List.length_drop]; omega, by omega, fun h => by simp at h, ?_⟩
  rcases h4 with rfl | ⟨b', off', e, hl, hcell⟩
  · left; simp
  · simp only [Option.some.injEq, Addr.mk.injEq, and_true] at e
    obtain ⟨rfl, rfl⟩ := e
    refine .inr ⟨b, off + s, rfl, hl, fun j hj => ?_⟩
    rw [List.length_drop] at hj
    rw [show off + s + j = off + (s + j) by omega, hcell (s + j) (by omega), List.getD_eq_getElem?_getD, List.getD_eq_getElem?_getD, List.getElem?_drop]
theorem own_some {w : World} {B : Nat} {v : Value} {l : List Int} (h : Own w B v l) (hl : l ≠ []) : ∃ g cap, v = .slice (some ⟨g, 0, none⟩) l.length cap ∧ l.length ≤ cap ∧ cap ≤ maxLen := by
  rcases h.forms with ⟨_, h0⟩ | ⟨g, cap, e, _, _, h1, h2⟩
  · exact absurd h0 hl
  · exact ⟨g, cap, e, h1, h2⟩
theorem own_below2 {w w' : World} {B C g n cap : Nat} {l : List Int} (h : Own w B (.slice (some ⟨g, 0, none⟩) n cap) l) (hb : Below C w w') (hg : g < C) : Own w' B (.slice (some ⟨g, 0, none⟩) n cap) l := by
  refine ⟨h.1, ?_⟩
  rcases h.2 with ⟨e, _⟩ | ⟨g', cap', cur, e, r1, r2, rest⟩
  · cases e
  · simp only [Value.slice.injEq, Option.some.injEq, Addr.mk.injEq, and_true] at e
    obtain ⟨rfl, e1, rfl⟩ := e
    exact .inr ⟨g, cap, cur, by rw [e1], r1, by rw [hb.block _ hg]; exact r2, rest⟩
end Cy
end Go.Proofs.Ytnjifahnfmifgaa
