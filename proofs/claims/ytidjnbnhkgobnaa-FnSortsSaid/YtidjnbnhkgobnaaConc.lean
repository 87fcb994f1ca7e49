/-
  Contracts of the least number of a slice, and of the joining of two slices.
  Conditions: the sizes that a contract names.
-/
import Derived.Test.YtidjnbnhkgobnaaSlicesC
import Derived.Test.YtidjnbnhkgobnaaSlicesD
import Derived.Lib.AppendZerosOnto
import Derived.Lib.SliceRun
import Derived.Lib.Walk
namespace Go.Proofs.Ytidjnbnhkgobnaa
open Go.RowKit
namespace Cy
/-- x is the least number of l. -/
def IsMin (l : List Int) (x : Int) : Prop := x ∈ l ∧ ∀ y ∈ l, x ≤ y
/-- The least of the first k numbers. -/
def MinTo (l : List Int) (k : Nat) (x : Int) : Prop := (∃ j, j < k ∧ l.getD j 0 = x) ∧ ∀ j, j < k → x ≤ l.getD j 0
theorem MinTo.all {l : List Int} {x : Int} (h : MinTo l l.length x) : IsMin l x := by
  obtain ⟨⟨j, hj, e⟩, h2⟩ := h
  refine ⟨mem_getD.2 ⟨j, hj, e⟩, fun y hy => ?_⟩
  obtain ⟨i, hi, rfl⟩ := mem_getD.1 hy
  exact h2 i hi
theorem MinTo.one (l : List Int) : MinTo l 1 (l.getD 0 0) := by
  refine ⟨⟨0, by omega, rfl⟩, fun j hj => ?_⟩
  obtain rfl : j = 0 := by omega
  exact Int.le_refl _
theorem MinTo.keep {l : List Int} {k : Nat} {x : Int} (h : MinTo l k x) (hx : x ≤ l.getD k 0) : MinTo l (k + 1) x := by
  obtain ⟨⟨j, hj, e⟩, h2⟩ := h
  exact ⟨⟨j, by omega, e⟩, fun i hi => if c : i = k then (by subst c; exact hx) else h2 i (by omega)⟩
theorem MinTo.new {l : List Int} {k : Nat} {x : Int} (h : MinTo l k x) (hx : l.getD k 0 < x) : MinTo l (k + 1) (l.getD k 0) := by
  refine ⟨⟨k, by omega, rfl⟩, fun i hi => if c : i = k then (by subst c; exact Int.le_refl _) else ?_⟩
  have := h.2 i (by omega)
  omega
theorem slMin (l : List Int) (ln : Nat) (hln : ln = l.length) (ao : Option Addr) (cap : Nat) (w : World) (hr : Rd w ao cap l) (hl : 0 < l.length) :
    Calls Try.prog 64 #[.slice ao ln cap] w fun e w' => ∃ x, e = .returned (.int .i64 x) ∧ IsMin l x ∧ w = w' := by
  obtain ⟨g, off, rfl, _, hc0⟩ := hr.at hl
  rw [Nat.add_zero] at hc0
  have HR := Lib.hid hr
  have HL := Lib.hid hln
  have hcap := hr.1
  have hcap2 := hr.2.1
  unfold maxLen at hcap2
  rw [← hln] at hcap hl
  have HM1 := Lib.hid (MinTo.one l)
  clear hr hln
  have h1 : ¬ (ln : Int) < 1 := by omega
  have h2 : (0 : Int) < ln := by omega
  generalize l.getD 0 0 = d0 at *
  go_enter Try.func64, Try.ntmps64
  go_wp2
  go_loop [3, 4] (fun vm vi => ∃ (k : Nat) (m : Int), 1 ≤ k ∧ k ≤ ln ∧ vi = .int .i64 k ∧ vm = .int .i64 m ∧ Hid (MinTo l k m)) (fun _ vi => ln - (intOf vi).toNat)
  case atStart => exact ⟨1, d0, Nat.le_refl _, hl, rfl, rfl, HM1⟩
  case round =>
    obtain ⟨k, m, k1, k2, rfl, rfl, hg⟩ := hrel
    by_cases hlt : k < ln
    · obtain ⟨g', off', e', _, hc⟩ := HR.out.at (show k < l.length by have := HL.out; omega)
      simp only [Option.some.injEq, Addr.mk.injEq, and_true] at e'
      obtain ⟨rfl, rfl⟩ := e'
      by_cases hx : l.getD k 0 < m
      · have HE := Lib.hid (hg.out.new hx)
        generalize l.getD k 0 = d at *
        go_wp2
        go_round
        case rel => exact ⟨k + 1, d, by omega, by omega, by go_num, by first | rfl | (congr 1; omega), HE⟩
        case measure => simp [intOf]; omega
      · have HE := Lib.hid (hg.out.keep (by omega))
        generalize l.getD k 0 = d at *
        go_wp2
        go_round
        case rel => exact ⟨k + 1, m, by omega, by omega, by go_num, by first | rfl | (congr 1; omega), HE⟩
        case measure => simp [intOf]; omega
    · obtain rfl : k = ln := by omega
      have HE := Lib.hid (show IsMin l m from (by have := hg.out; rw [HL.out] at this; exact this.all))
      go_wp2
      go_ret
      exact ⟨m, rfl, HE.out, rfl⟩
theorem grow0 (n : Nat) (w : World) (h0 : 0 < n) (h1 : n ≤ 1000000000000) :
    Calls Try.prog 76 #[.slice none 0 0, .int .i64 n] w fun e w' => ∃ v, e = .returned v ∧ Own w' w.heap.size v [] ∧ Below w.heap.size w w' := by
  obtain ⟨i0, hi, hz0, hz1, hz2⟩ := info_parts Try.infoI
  have hold : (Builtin.firstCells i0.size 0 (.slice none 0 0)).run Try.prog w.drew = .ok ([] : List Value).toArray w.drew := run_firstCells_none w.drew i0.size 0 0 0
  have hrz : ∀ ty, (Builtin.append_ #[22, 3] ty #[.slice none 0 0, .int .i64 (n : Int)]).run Try.prog w =
      .ok (.slice (some ⟨w.heap.size, 0, none⟩) n (grownCap w n 0 3)) (w.drew.alloc (.cells (([] : List Value).toArray ++ Builtin.zeroCells (Value.int .i64 0).cells n ++ Builtin.zeroCells (Value.int .i64 0).cells (grownCap w n 0 3 - n)) 3)) := fun ty => by
    have h := Lib.run_append_grow_zeros w 22 3 ty 3 i0 (.int .i64 0) .i64 .i64 Try.underlying22 Try.underlying3 hi hz0 none 0 0 [] hold n h0 (by omega) (by omega) (by omega) (by rw [hz2]; omega)
      (by rw [Nat.zero_add]; exact growslice_fits h0 (by rw [hz2]; omega))
    simp only [Nat.zero_add] at h
    exact h
  have hGn : n ≤ grownCap w n 0 3 := grownCap_ge w _ _ _
  have hGm := grownCap_le_maxLen w n 0 3 (by unfold maxLen; omega)
  obtain ⟨G, hG⟩ : ∃ G, G = grownCap w n 0 3 := ⟨_, rfl⟩
  rw [← hG] at hrz hGn hGm
  have hown : Own (w.drew.alloc (.cells (([] : List Value).toArray ++ Builtin.zeroCells (Value.int .i64 0).cells n ++ Builtin.zeroCells (Value.int .i64 0).cells (G - n)) 3)) w.heap.size (.slice (some ⟨w.heap.size, 0, none⟩) 0 G) [] :=
    World.ownsRow_made w.drew _ G (Nat.le_refl _) hGm (by rw [Array.size_append, Array.size_append, size_zeroCells, size_zeroCells, show (Value.int .i64 0).cells.size = 1 from rfl]; simp; omega)
  have HO := Lib.hid hown
  have HZ := Lib.hid hrz
  have HB := Lib.hid (show Below w.heap.size w (w.drew.alloc (.cells (([] : List Value).toArray ++ Builtin.zeroCells (Value.int .i64 0).cells n ++ Builtin.zeroCells (Value.int .i64 0).cells (G - n)) 3)) from (Below.drew (Below.refl _ _)).alloc (Nat.le_refl _) _)
  clear hown hrz hG hold hi hz0 hz1 hz2
  unfold maxLen at hGm
  generalize w.drew.alloc (.cells (([] : List Value).toArray ++ Builtin.zeroCells (Value.int .i64 0).cells n ++ Builtin.zeroCells (Value.int .i64 0).cells (G - n)) 3) = w9 at *
  go_enter Try.func76, Try.ntmps76
  go_wp2_with (at_builtin; refine Lib.wpList_append_run _ rfl _ _ _ _ rfl _ _ rfl rfl _ _ (HZ.out _) ?_)
  go_ret
  exact ⟨_, rfl, HO.out, HB.out⟩
theorem concat2 (l1 l2 : List Int) (n1 n2 : Nat) (hn1 : n1 = l1.length) (hn2 : n2 = l2.length) (a1 a2 : Option Addr) (c1 c2 g : Nat) (w : World)
    (h0 : w.cell? ⟨g, 0, none⟩ = some (.slice a1 n1 c1)) (h1 : w.cell? ⟨g, 1, none⟩ = some (.slice a2 n2 c2)) (hg : g < w.heap.size) (hr1 : Rd w a1 c1 l1) (hr2 : Rd w a2 c2 l2) (hb1 : l1.length ≤ 100000000) (hb2 : l2.length ≤ 100000000) (hp : 0 < l1.length + l2.length) :
    Calls Try.prog 65 #[.slice (some ⟨g, 0, none⟩) 2 2] w fun e w' => ∃ v, e = .returned v ∧ Own w' w.heap.size v (l1 ++ l2) ∧ Below w.heap.size w w' := by
  have HR1 := Lib.hid hr1
  have HR2 := Lib.hid hr2
  have HN1 := Lib.hid hn1
  have HN2 := Lib.hid hn2
  have HP := Lib.hid (show 0 < n1 + n2 by omega)
  have b1 : n1 ≤ 100000000 := by omega
  have b2 : n2 ≤ 100000000 := by omega
  clear hr1 hr2 hn1 hn2 hb1 hb2 hp
  go_enter Try.func65, Try.ntmps65
  go_wp2
  refine wp_loop_rounds 3 ?_
  rw [rounds_succ]
  go_wp2
  rw [rounds_succ]
  go_wp2
  rw [rounds_succ]
  go_wp2_with fail
  have en : (n1 : Int) + (n2 : Int) = ((n1 + n2 : Nat) : Int) := by omega
  rw [en]
  clear en
  refine (grow0 (n1 + n2) _ HP.out (by omega)).mono ?_
  rintro e w1 ⟨v1, rfl, hown1, hb1⟩
  have h0' := (hb1.cell (p := ⟨g, 0, none⟩) hg).trans h0
  have h1' := (hb1.cell (p := ⟨g, 1, none⟩) hg).trans h1
  have HR1' := Lib.hid (HR1.out.below hb1 (Nat.le_refl _))
  have HR2' := Lib.hid (HR2.out.below hb1 (Nat.le_refl _))
  have HO1 := Lib.hid hown1
  have HB1 := Lib.hid hb1
  have hsz1 := hb1.size
  have HX1 := Lib.hid (show ([] : List Int).length + l1.length ≤ 17592186044416 by have := HN1.out; simp; omega)
  have HX2 := Lib.hid (show ([] ++ l1).length + l2.length ≤ 17592186044416 by have := HN1.out; have := HN2.out; simp; omega)
  clear hown1 hb1 h0 h1
  go_wp2
  refine wp_loop_rounds 3 ?_
  rw [rounds_succ]
  go_wp2_with (at_builtin; refine wp_pushL w1 w.heap.size _ [] l1 _ _ _ HO1.out HR1'.out rfl _ _ rfl rfl rfl HN1.out HX1.out hsz1 ?_; intro v2 w2 hown2 hb2)
  have h1'' := (hb2.cell (p := ⟨g, 1, none⟩) hg).trans h1'
  have HO2 := Lib.hid hown2
  have HB2 := Lib.hid (HB1.out.trans hb2)
  have HR2'' := Lib.hid (HR2.out.below HB2.out (Nat.le_refl _))
  have hsz2 := HB2.out.size
  clear hown2 hb2 h0' h1'
  rw [rounds_succ]
  go_wp2_with (at_builtin; refine wp_pushL w2 w.heap.size _ ([] ++ l1) l2 _ _ _ HO2.out HR2''.out rfl _ _ rfl rfl rfl HN2.out HX2.out hsz2 ?_; intro v3 w3 hown3 hb3)
  have HO3 := Lib.hid hown3
  have HB3 := Lib.hid (HB2.out.trans hb3)
  clear hown3 hb3
  rw [rounds_succ]
  go_wp2
  go_ret
  exact ⟨_, rfl, by simpa using HO3.out, HB3.out⟩
end Cy
end Go.Proofs.Ytidjnbnhkgobnaa
