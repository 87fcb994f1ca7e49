/-
  The program's law FnExactSortCycle returns true for every input, and its arguments read afterwards as before.
  Conditions: none.
-/
import Derived.Test.YtidjnbnhkgobnaaRows
import Derived.WalkKit
import Derived.ProofKit
import Derived.OpenShut
import Derived.ShutString
import Derived.ChangeOld
import Derived.Below
import Derived.Test.YtidjnbnhkgobnaaCySort
import Derived.Test.YtidjnbnhkgobnaaSlicesF
namespace Go.Proofs.Ytidjnbnhkgobnaa.fnExactSortCycle
open Go.ChangeShapes Go.WideShapes Go.ChangeAt Go.RowKit
set_option linter.unusedVariables false

theorem own : ownKnob Try.prog.godebug = none := by kernel_rfl

theorem walk (a0 : Int) (a1 : Int) (a2 : Int) (w : World) (w0 : (Lit.int .i64 a0).wf = true) (w1 : (Lit.int .i64 a1).wf = true) (w2 : (Lit.int .i64 a2).wf = true) :
    Calls Try.prog 8 #[.int .i64 a0, .int .i64 a1, .int .i64 a2] w fun e w' => e = .returned (.bool true) ∧ Below w.heap.size w w' := by
  obtain ⟨c, r, hc, hcl⟩ := Cy.scV_exists a0 a1 a2
  have hlen : (c).length ≤ 1000000000000 := hcl
  go_enter Try.func8, Try.ntmps8
  go_wp2_with fail
  refine (Cy.sSortCycle a0 a1 a2 c r hc w).mono ?_
  rintro e w1 ⟨v1, rfl, hown1, hb1⟩
  go_wp2_with fail
  refine (Cy.iSortCycle a0 a1 a2 c r hc _).mono ?_
  rintro e w2 ⟨v2, rfl, hown2, hb2⟩
  have HI := Lib.hid (fun w => Cy.iSortCycle a0 a1 a2 c r hc w)
  generalize c = l at *
  obtain ⟨ao1, cap1, rfl, hrd1⟩ := hown1.shape
  obtain ⟨ao2, cap2, rfl, hrd2⟩ := hown2.shape
  have HR1 := Lib.hid hrd1
  have HO2 := Lib.hid hown2
  have HB1 := Lib.hid hb1
  have HB2 := Lib.hid hb2
  have hrd1b := hrd1.below hb2 (Nat.le_refl _)
  clear hown1 hown2 hb1 hb2 hrd1
  go_wp2_with fail
  refine (eqIntS _ _ _ _ (by simp) (by simp) _ _ _ _ _ hrd2 hrd1b).mono ?_
  rintro e w3 ⟨rfl, hb3⟩
  have hown3 := HO2.out.below hb3 (Nat.le_refl _)
  have HB3 := Lib.hid (HB2.out.trans (hb3.mono HB2.out.size))
  clear hrd2 hrd1b hb3
  go_wp2_with fail
  refine (markIntS _ _ _ _ _ hown3 hlen (by omega) (by omega)).mono ?_
  rintro e w4 ⟨rfl, hown4, hb4, _⟩
  have hrd4 := hown4.rd
  have HB4 := Lib.hid (HB3.out.trans hb4)
  clear hown3 hown4 hb4
  go_wp2_with fail
  refine (heldIntS l.length _ (by simp) _ _ _ _ hrd4 hlen (by omega) (by omega)).mono ?_
  rintro e w5 ⟨rfl, rfl⟩
  go_wp2_with fail
  refine (HI.out _).mono ?_
  rintro e w5 ⟨v5, rfl, hown5, hb5⟩
  obtain ⟨ao5, cap5, rfl, hrd5⟩ := hown5.shape
  have HB5 := Lib.hid (HB4.out.trans (hb5.mono HB4.out.size))
  have hrd1c := HR1.out.below HB5.out (Nat.le_refl _)
  have hrd4b := hrd4.below hb5 (Nat.le_refl _)
  clear hown5 hb5 hrd4
  go_wp2_with fail
  refine (eqIntS _ _ _ _ (by simp) (by simp) _ _ _ _ _ hrd5 hrd1c).mono ?_
  rintro e w6 ⟨rfl, hb6⟩
  have HB6 := Lib.hid (HB5.out.trans (hb6.mono HB5.out.size))
  have hrd4c := hrd4b.below hb6 (Nat.le_refl _)
  clear hb6 hrd4b hrd5 hrd1c
  go_wp2_with fail
  refine (heldIntS l.length _ (by simp) _ _ _ _ hrd4c hlen (by omega) (by omega)).mono ?_
  rintro e w7 ⟨rfl, rfl⟩
  go_wp2
  go_ret
  exact ⟨rfl, HB1.out.trans (HB6.out.mono HB1.out.size)⟩

set_option maxRecDepth 100000 in
theorem lifted (os : Os) (started : os.Started) (H : Type) (enc : TypeId × Value → H) :
    ReturnsInHanded {} Try.checked os 8 .any (Rows.fnExactSortCycleSpec.pre6 enc Try.prog Try.f8 Rows.fnExactSortCycleRow.domain false) (Rows.fnExactSortCycleSpec.post enc Try.prog Try.f8 false true false false) := by
  refine returnsInHanded_of_change (C := Try.checked) own started (by kernel_rfl) Try.func8
    (ChangeSpec.witness6 (enc := enc) (C := Try.checked) false ⟨#[], #[.int .i64 0, .int .i64 0, .int .i64 0], []⟩ 8 (by kernel_rfl) (by kernel_rfl) (by kernel_rfl) (by kernel_rfl)) ?_
  intro W base args ds gs before hval0 hW hcnd _
  have hval : ∀ (j : Nat) t v, Try.f8.params[j]? = some t → args[j]? = some v → Value.okWide Try.prog W .any base t v := hval0
  have hW' := hW
  obtain ⟨p, q, hA0, hV, rfl, hfz, hnd⟩ := hW
  have hA : DataW.TrodAll enc Try.prog W 0 (fun _ => true) true Try.f8.params.toList args.toList ds p := hA0
  rw [Try.params8] at hA hval
  obtain ⟨v0, vs0, d0, ds0, p0, q0, hargs, rfl, rfl, h0, r0⟩ := trodAll_cons hA
  obtain ⟨v1, vs1, d1, ds1, p1, q1, rfl, rfl, rfl, h1, r1⟩ := trodAll_cons r0
  obtain ⟨v2, vs2, d2, ds2, p2, q2, rfl, rfl, rfl, h2, r2⟩ := trodAll_cons r1
  obtain ⟨rfl, rfl, rfl⟩ := trodAll_nil r2
  obtain rfl : args = #[v0, v1, v2] := by cases args; simp_all
  obtain ⟨rfl, rfl⟩ := trodVars_none hV
  obtain ⟨a0, rfl, rfl, rfl, w0⟩ := open_int Try.underlying3 (hval 0 3 v0 rfl rfl) h0
  obtain ⟨a1, rfl, rfl, rfl, w1⟩ := open_int Try.underlying3 (hval 1 3 v1 rfl rfl) h1
  obtain ⟨a2, rfl, rfl, rfl, w2⟩ := open_int Try.underlying3 (hval 2 3 v2 rfl rfl) h2
  clear hA0 hval0
  simp only [List.append_nil] at hW'
  refine (walk a0 a1 a2 W w0 w1 w2).mono fun e W' ⟨he, bel⟩ => ?_
  subst he
  exact ⟨_, rfl, _, _, _, [], _, [], hW', trodAll_mk1 (shut_bool Try.underlying4 _), (trodAll_cons_mk (shut_int Try.underlying3 w0) (trodAll_cons_mk (shut_int Try.underlying3 w1) (trodAll_cons_mk (shut_int Try.underlying3 w2) trodAll_mk0))), rfl, bel.frame _, fun h => by cases h⟩

theorem over : Rows.fnExactSortCycleRow.holds Try.pinned (OpenSpec.ofChange Rows.fnExactSortCycleSpec) :=
  OpenClaim.holds_of_wide 8 Try.f8 rfl rfl rfl rfl rfl rfl rfl ⟨rfl, rfl, rfl, rfl, rfl⟩ rfl rfl rfl rfl rfl (by kernel_rfl) Try.func8 (by kernel_rfl)
    (of_decide_eq_true (by kernel_rfl)) (by unfold Func.isWrapper; first | (rw [if_pos (by decide +kernel)]; kernel_rfl) | (rw [if_neg (by decide +kernel)]; exact ⟨rfl, rfl⟩))
    (fun os started H enc _ => lifted os started H enc)

theorem proved : Rows.FnExactSortCycleSaid := over
#print axioms proved
end Go.Proofs.Ytidjnbnhkgobnaa.fnExactSortCycle
