/-
  The program's law FnExactIsRule returns true for every input, and its arguments read afterwards as before.
  Conditions: none.
-/
import Derived.Test.YtioclijkglhigaaRows
import Derived.WalkKit
import Derived.ProofKit
import Derived.OpenShut
import Derived.ShutString
import Derived.ChangeOld
import Derived.Below
import Derived.Test.YtioclijkglhigaaIsRule
import Derived.Test.YtioclijkglhigaaSlicesF
namespace Go.Proofs.Ytioclijkglhigaa.fnExactIsRule
open Go.ChangeShapes Go.WideShapes Go.ChangeAt Go.RowKit
set_option linter.unusedVariables false

theorem own : ownKnob Try.prog.godebug = none := by kernel_rfl
theorem laidOut : laidOutB Try.prog = true := by kernel_rfl

theorem walk (a0 : Option Addr) (len0 cap0 : Nat) (z0 : List Int) (a1 : Int) (a2 : Int) (w : World) (w0 : IsRow .i64 w a0 len0 cap0 z0) (w1 : (Lit.int .i64 a1).wf = true) (w2 : (Lit.int .i64 a2).wf = true) :
    Calls Try.prog 3 #[.slice a0 len0 cap0, .int .i64 a1, .int .i64 a2] w fun e w' => e = .returned (.bool true) ∧ Below w.heap.size w w' := by
  obtain ⟨hrd0, hl0⟩ := w0.rd
  by_cases hbig : 1048576 < len0
  · have hb' : (1048576 : Int) < (len0 : Int) := by omega
    go_enter Try.func3, Try.ntmps3
    go_wp2
    go_ret
    exact ⟨rfl, Below.refl _ _⟩
  have hb' : ¬ (1048576 : Int) < (len0 : Int) := by omega
  have HL := Lib.hid hl0
  have HR0 := Lib.hid hrd0
  clear hl0 hrd0 w0
  generalize z0.take len0 = l at *
  go_enter Try.func3, Try.ntmps3
  go_wp2_with fail
  refine (toIntS l _ HL.out.symm _ _ _ HR0.out (by rw [HL.out]; omega)).mono ?_
  rintro e x1 ⟨v1, rfl, hown1, hb1⟩
  obtain ⟨ao1, cap1, rfl, hrd1⟩ := hown1.shape
  have HB1 := Lib.hid hb1
  have hrd0 := HR0.out.below hb1 (Nat.le_refl _)
  clear hown1 hb1
  go_wp2_with fail
  refine (sIsRule l _ (by simp) _ _ _ _ _ hrd1).mono ?_
  rintro e x2 ⟨rfl, hb2⟩
  have HB2 := Lib.hid (HB1.out.trans (hb2.mono HB1.out.size))
  have hrd0b := HR0.out.below HB2.out (Nat.le_refl _)
  clear hb2 hrd1 hrd0
  go_wp2_with fail
  refine (toIntS l _ HL.out.symm _ _ _ hrd0b (by rw [HL.out]; omega)).mono ?_
  rintro e x3 ⟨v3, rfl, hown3, hb3⟩
  obtain ⟨ao3, cap3, rfl, hrd3⟩ := hown3.shape
  have HB3 := Lib.hid (HB2.out.trans (hb3.mono HB2.out.size))
  clear hown3 hb3 hrd0b
  go_wp2_with fail
  refine (iIsRule l _ (by simp) _ _ _ _ _ hrd3).mono ?_
  rintro e x4 ⟨rfl, hb4⟩
  have HB4 := Lib.hid (HB3.out.trans (hb4.mono HB3.out.size))
  have hrd3b := hrd3.below hb4 (Nat.le_refl _)
  have hrd0c := HR0.out.below HB4.out (Nat.le_refl _)
  clear hb4 hrd3
  go_wp2_with fail
  refine (toIntS l _ HL.out.symm _ _ _ hrd0c (by rw [HL.out]; omega)).mono ?_
  rintro e x5 ⟨v5, rfl, hown5, hb5⟩
  obtain ⟨ao5, cap5, rfl, hrd5⟩ := hown5.shape
  have HB5 := Lib.hid (HB4.out.trans (hb5.mono HB4.out.size))
  have hrd3c := hrd3b.below hb5 (Nat.le_refl _)
  clear hown5 hb5 hrd0c hrd3b
  go_wp2_with fail
  refine (eqIntS l l _ _ (by simp) (by simp) _ _ _ _ _ hrd3c hrd5).mono ?_
  rintro e x6 ⟨rfl, hb6⟩
  have HB6 := Lib.hid (HB5.out.trans (hb6.mono HB5.out.size))
  clear hb6
  go_wp2
  go_ret
  exact ⟨rfl, HB6.out⟩

set_option maxRecDepth 100000 in
theorem lifted (os : Os) (started : os.Started) (H : Type) (enc : TypeId × Value → H) :
    ReturnsInHanded {} Try.checked os 3 .any (Rows.fnExactIsRuleSpec.pre6 enc Try.prog Try.f3 Rows.fnExactIsRuleRow.domain false) (Rows.fnExactIsRuleSpec.post enc Try.prog Try.f3 false true false false) := by
  refine returnsInHanded_of_change (C := Try.checked) own started (by kernel_rfl) Try.func3
    (ChangeSpec.witness6 (enc := enc) (C := Try.checked) false ⟨#[], #[.slice none 0 0, .int .i64 0, .int .i64 0], []⟩ 8 (by kernel_rfl) (by kernel_rfl) (by kernel_rfl) (by kernel_rfl)) ?_
  intro W base args ds gs before hval0 hW hcnd _
  have hval : ∀ (j : Nat) t v, Try.f3.params[j]? = some t → args[j]? = some v → Value.okWide Try.prog W .any base t v := hval0
  have hW' := hW
  obtain ⟨p, q, hA0, hV, rfl, hfz, hnd⟩ := hW
  have hA : DataW.TrodAll enc Try.prog W 0 (fun _ => true) true Try.f3.params.toList args.toList ds p := hA0
  rw [Try.params3] at hA hval
  obtain ⟨v0, vs0, d0, ds0, p0, q0, hargs, rfl, rfl, h0, r0⟩ := trodAll_cons hA
  obtain ⟨v1, vs1, d1, ds1, p1, q1, rfl, rfl, rfl, h1, r1⟩ := trodAll_cons r0
  obtain ⟨v2, vs2, d2, ds2, p2, q2, rfl, rfl, rfl, h2, r2⟩ := trodAll_cons r1
  obtain ⟨rfl, rfl, rfl⟩ := trodAll_nil r2
  obtain rfl : args = #[v0, v1, v2] := by cases args; simp_all
  obtain ⟨rfl, rfl⟩ := trodVars_none hV
  obtain ⟨a0, len0, cap0, rfl⟩ := okWide_slice Try.underlying22 (hval 0 22 v0 rfl rfl)
  have k0 := h0
  have lt0 : ∀ x ∈ p0, x.block < W.heap.size := by obtain ⟨m, hm⟩ := k0; exact DataW.trod_lt m _ _ _ hm
  obtain ⟨z0, w0⟩ : ∃ zs, IsRow .i64 W a0 len0 cap0 zs := by
    obtain ⟨fuel, hf⟩ := h0
    rcases open_ints Try.underlying22 Try.underlying3 (by kernel_rfl) hf with ⟨hcs, _⟩ | ⟨x, l, c, zs, hcs, _, hl, hm, hz, _, hcell, hwz⟩
    · simp [Value.cells] at hcs
      obtain ⟨rfl, rfl, rfl⟩ := hcs
      exact ⟨[], .inl ⟨rfl, rfl, rfl, rfl⟩⟩
    · simp [Value.cells] at hcs
      obtain ⟨rfl, rfl, rfl⟩ := hcs
      exact ⟨zs, .inr ⟨_, rfl, hl, hm, by simpa using hz, hcell, hwz⟩⟩
  obtain ⟨a1, rfl, rfl, rfl, w1⟩ := open_int Try.underlying3 (hval 1 3 v1 rfl rfl) h1
  obtain ⟨a2, rfl, rfl, rfl, w2⟩ := open_int Try.underlying3 (hval 2 3 v2 rfl rfl) h2
  clear hA0 hval0
  refine (walk a0 len0 cap0 z0 a1 a2 W w0 w1 w2).mono fun e W' ⟨he, bel⟩ => ?_
  subst he
  exact ⟨_, rfl, _, _, _, [], _, [], hW', trodAll_mk1 (shut_bool Try.underlying4 _), (trodAll_cons_mk (Below.trod laidOut (by kernel_rfl) (of_decide_eq_true (by kernel_rfl)) k0 bel lt0) (trodAll_cons_mk (shut_int Try.underlying3 w1) (trodAll_cons_mk (shut_int Try.underlying3 w2) trodAll_mk0))), rfl, bel.frame _, fun h => by cases h⟩

theorem over : Rows.fnExactIsRuleRow.holds Try.pinned (OpenSpec.ofChange Rows.fnExactIsRuleSpec) :=
  OpenClaim.holds_of_wide 3 Try.f3 rfl rfl rfl rfl rfl rfl rfl ⟨rfl, rfl, rfl, rfl, rfl⟩ rfl rfl rfl rfl rfl (by kernel_rfl) Try.func3 (by kernel_rfl)
    (of_decide_eq_true (by kernel_rfl)) (by unfold Func.isWrapper; first | (rw [if_pos (by decide +kernel)]; kernel_rfl) | (rw [if_neg (by decide +kernel)]; exact ⟨rfl, rfl⟩))
    (fun os started H enc _ => lifted os started H enc)

theorem proved : Rows.FnExactIsRuleSaid := over
#print axioms proved
end Go.Proofs.Ytioclijkglhigaa.fnExactIsRule
