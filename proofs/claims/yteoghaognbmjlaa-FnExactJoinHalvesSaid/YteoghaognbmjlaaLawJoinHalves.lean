/-
  The program's law FnExactJoinHalves returns true for every input, and its arguments read afterwards as before.
  Conditions: none.
-/
import Derived.Test.YteoghaognbmjlaaRows
import Derived.WalkKit
import Derived.ProofKit
import Derived.OpenShut
import Derived.ShutString
import Derived.ChangeOld
import Derived.Below
import Derived.Test.YteoghaognbmjlaaHalf
import Derived.Test.YteoghaognbmjlaaSlicesF
namespace Go.Proofs.Yteoghaognbmjlaa.fnExactJoinHalves
open Go.ChangeShapes Go.WideShapes Go.ChangeAt Go.RowKit
set_option linter.unusedVariables false

theorem own : ownKnob Try.prog.godebug = none := by kernel_rfl
theorem laidOut : laidOutB Try.prog = true := by kernel_rfl
theorem jh_le (l : List Int) (odd : Bool) : (Pl.jh l odd).length ≤ 2 * l.length := by rw [Pl.jh_len]; split <;> omega

theorem walk (a0 : Option Addr) (len0 cap0 : Nat) (z0 : List Int) (a1 : Bool) (w : World) (w0 : IsRow .i64 w a0 len0 cap0 z0) :
    Calls Try.prog 8 #[.slice a0 len0 cap0, .bool a1] w fun e w' => e = .returned (.bool true) ∧ Below w.heap.size w w' := by
  obtain ⟨hrd0, hl0⟩ := w0.rd
  by_cases hbig : 1048576 < len0
  · have hb' : (1048576 : Int) < (len0 : Int) := by omega
    go_enter Try.func8, Try.ntmps8
    go_wp2
    go_ret
    exact ⟨rfl, Below.refl _ _⟩
  have hb' : ¬ (1048576 : Int) < (len0 : Int) := by omega
  have HL := Lib.hid hl0
  have HR0 := Lib.hid hrd0
  clear hl0 hrd0 w0
  generalize z0.take len0 = l at *
  have hll : l.length ≤ 1048576 := by rw [HL.out]; omega
  have hj := jh_le l a1
  have HJ := Lib.hid (show (Pl.jh l a1).length ≤ 1000000000000 by omega)
  go_enter Try.func8, Try.ntmps8
  go_wp2_with fail
  refine (toIntS l _ HL.out.symm _ _ _ HR0.out (by omega)).mono ?_
  rintro e x1 ⟨v1, rfl, hown1, hb1⟩
  obtain ⟨ao1, cap1, rfl, hrd1⟩ := hown1.shape
  have HB1 := Lib.hid hb1
  clear hown1 hb1
  go_wp2_with fail
  refine (sJoin l _ (by simp) _ _ _ _ hrd1 (by omega)).mono ?_
  rintro e x2 ⟨v2, rfl, hown2, hb2⟩
  obtain ⟨ao2, cap2, rfl, hrd2⟩ := hown2.shape
  have HB2 := Lib.hid (HB1.out.trans (hb2.mono HB1.out.size))
  have hrd0 := HR0.out.below HB2.out (Nat.le_refl _)
  have HW := Lib.hid hrd2
  clear hown2 hb2 hrd1 hrd2
  go_wp2_with fail
  refine (toIntS l _ HL.out.symm _ _ _ hrd0 (by omega)).mono ?_
  rintro e x3 ⟨v3, rfl, hown3, hb3⟩
  obtain ⟨ao3, cap3, rfl, hrd3⟩ := hown3.shape
  have HB3 := Lib.hid (HB2.out.trans (hb3.mono HB2.out.size))
  have HX := Lib.hid hown3
  have H23 := Lib.hid hb3
  clear hown3 hb3 hrd0
  go_wp2_with fail
  refine (iJoin l _ (by simp) _ _ _ _ hrd3 (by omega)).mono ?_
  rintro e x4 ⟨v4, rfl, hown4, hb4⟩
  obtain ⟨ao4, cap4, rfl, hrd4⟩ := hown4.shape
  have HB4 := Lib.hid (HB3.out.trans (hb4.mono HB3.out.size))
  have H24 := Lib.hid (H23.out.trans (hb4.mono H23.out.size))
  have H34 := Lib.hid hb4
  have HG := Lib.hid hown4
  have hw4 := HW.out.below H24.out (Nat.le_refl _)
  clear hown4 hb4 hrd3
  generalize hjl : Pl.jh l a1 = jl at *
  have HJL := Lib.hid hjl
  clear hjl hj
  go_wp2_with fail
  refine (eqIntS jl jl _ _ (by simp) (by simp) _ _ _ _ _ hrd4 hw4).mono ?_
  rintro e x5 ⟨rfl, hb5⟩
  have HB5 := Lib.hid (HB4.out.trans (hb5.mono HB4.out.size))
  have H35 := Lib.hid (H34.out.trans (hb5.mono H34.out.size))
  have H45 := Lib.hid hb5
  have hx5 := (HX.out.below H35.out (Nat.le_refl _)).rd
  have hrd0 := HR0.out.below HB5.out (Nat.le_refl _)
  clear hb5 hrd4 hw4
  go_wp2_with fail
  refine (toIntS l _ HL.out.symm _ _ _ hrd0 (by omega)).mono ?_
  rintro e x6 ⟨v6, rfl, hown6, hb6⟩
  obtain ⟨ao6, cap6, rfl, hrd6⟩ := hown6.shape
  have HB6 := Lib.hid (HB5.out.trans (hb6.mono HB5.out.size))
  have H36 := Lib.hid (H35.out.trans (hb6.mono H35.out.size))
  have H46 := Lib.hid (H45.out.trans (hb6.mono H45.out.size))
  have hx6 := hx5.below hb6 (Nat.le_refl _)
  clear hown6 hb6 hrd0 hx5
  go_wp2_with fail
  refine (eqIntS l l _ _ (by simp) (by simp) _ _ _ _ _ hx6 hrd6).mono ?_
  rintro e x7 ⟨rfl, hb7⟩
  have HB7 := Lib.hid (HB6.out.trans (hb7.mono HB6.out.size))
  have H37 := Lib.hid (H36.out.trans (hb7.mono H36.out.size))
  have H47 := Lib.hid (H46.out.trans (hb7.mono H46.out.size))
  have hx7 := HX.out.below H37.out (Nat.le_refl _)
  clear hb7 hx6 hrd6
  go_wp2_with fail
  refine (markIntS l _ _ _ _ hx7 (by omega) (by omega) (by omega)).mono ?_
  rintro e x8 ⟨rfl, _, hb8, hgr8⟩
  have HK := Lib.hid ((H23.out.trans (H37.out.mono H23.out.size)).trans hb8)
  have hg8 := (HG.out.below H47.out (Nat.le_refl _)).beside hgr8 HX.out.lt (Nat.le_refl _)
  have hw8 := HW.out.below HK.out (Nat.le_refl _)
  have HB8 := Lib.hid (HB2.out.trans (HK.out.mono HB2.out.size))
  have hrd8 := hg8.rd
  have HG8 := Lib.hid hg8
  clear hg8 hgr8 hb8 hx7
  have hneg : ¬ (1 : Int) + (l.length : Int) < 0 := by omega
  go_wp2_with fail
  refine (eqIntS jl jl _ _ (by simp) (by simp) _ _ _ _ _ hrd8 hw8).mono ?_
  rintro e x9 ⟨rfl, hb9⟩
  have HB9 := Lib.hid (HB8.out.trans (hb9.mono HB8.out.size))
  have hg9 := HG8.out.below hb9 (Nat.le_refl _)
  have H29 := Lib.hid (HK.out.trans (hb9.mono HK.out.size))
  clear hb9 hrd8 hw8
  go_wp2_with fail
  refine (markIntS jl _ _ _ _ hg9 HJ.out (by omega) (by omega)).mono ?_
  rintro e x10 ⟨rfl, hown10, hb10, _⟩
  have hrd10 := hown10.rd
  have H2s := Lib.hid (show x2.heap.size ≤ x3.heap.size from H23.out.size)
  have H210 := Lib.hid (H29.out.trans (hb10.mono H2s.out))
  have HB10 := Lib.hid (HB2.out.trans (H210.out.mono HB2.out.size))
  clear hown10 hb10 hg9
  go_wp2_with fail
  refine (heldIntS jl.length _ (by simp) _ _ _ _ hrd10 HJ.out (by omega) (by omega)).mono ?_
  rintro e x11 ⟨rfl, rfl⟩
  have hrd0 := HR0.out.below HB10.out (Nat.le_refl _)
  go_wp2_with fail
  refine (toIntS l _ HL.out.symm _ _ _ hrd0 (by omega)).mono ?_
  rintro e x12 ⟨v12, rfl, hown12, hb12⟩
  obtain ⟨ao12, cap12, rfl, hrd12⟩ := hown12.shape
  have HB12 := Lib.hid (HB10.out.trans (hb12.mono HB10.out.size))
  have H212 := Lib.hid (H210.out.trans (hb12.mono H210.out.size))
  have hrd10b := hrd10.below hb12 (Nat.le_refl _)
  clear hown12 hb12 hrd0 hrd10
  go_wp2_with fail
  refine (iJoin l _ (by simp) _ _ _ _ hrd12 (by omega)).mono ?_
  rintro e x13 ⟨v13, rfl, hown13, hb13⟩
  rw [HJL.out] at hown13
  obtain ⟨ao13, cap13, rfl, hrd13⟩ := hown13.shape
  have HB13 := Lib.hid (HB12.out.trans (hb13.mono HB12.out.size))
  have H213 := Lib.hid (H212.out.trans (hb13.mono H212.out.size))
  have hrd10c := hrd10b.below hb13 (Nat.le_refl _)
  have hw13 := HW.out.below H213.out (Nat.le_refl _)
  clear hown13 hb13 hrd12 hrd10b
  go_wp2_with fail
  refine (eqIntS jl jl _ _ (by simp) (by simp) _ _ _ _ _ hrd13 hw13).mono ?_
  rintro e x14 ⟨rfl, hb14⟩
  have HB14 := Lib.hid (HB13.out.trans (hb14.mono HB13.out.size))
  have hrd10d := hrd10c.below hb14 (Nat.le_refl _)
  clear hb14 hrd13 hw13 hrd10c
  go_wp2_with fail
  refine (heldIntS jl.length _ (by simp) _ _ _ _ hrd10d HJ.out (by omega) (by omega)).mono ?_
  rintro e x15 ⟨rfl, rfl⟩
  go_wp2
  go_ret
  exact ⟨rfl, HB14.out⟩

set_option maxRecDepth 100000 in
theorem lifted (os : Os) (started : os.Started) (H : Type) (enc : TypeId × Value → H) :
    ReturnsInHanded {} Try.checked os 8 .any (Rows.fnExactJoinHalvesSpec.pre6 enc Try.prog Try.f8 Rows.fnExactJoinHalvesRow.domain false) (Rows.fnExactJoinHalvesSpec.post enc Try.prog Try.f8 false true false false) := by
  refine returnsInHanded_of_change (C := Try.checked) own started (by kernel_rfl) Try.func8
    (ChangeSpec.witness6 (enc := enc) (C := Try.checked) false ⟨#[], #[.slice none 0 0, .bool false], []⟩ 8 (by kernel_rfl) (by kernel_rfl) (by kernel_rfl) (by kernel_rfl)) ?_
  intro W base args ds gs before hval0 hW hcnd _
  have hval : ∀ (j : Nat) t v, Try.f8.params[j]? = some t → args[j]? = some v → Value.okWide Try.prog W .any base t v := hval0
  have hW' := hW
  obtain ⟨p, q, hA0, hV, rfl, hfz, hnd⟩ := hW
  have hA : DataW.TrodAll enc Try.prog W 0 (fun _ => true) true Try.f8.params.toList args.toList ds p := hA0
  rw [Try.params8] at hA hval
  obtain ⟨v0, vs0, d0, ds0, p0, q0, hargs, rfl, rfl, h0, r0⟩ := trodAll_cons hA
  obtain ⟨v1, vs1, d1, ds1, p1, q1, rfl, rfl, rfl, h1, r1⟩ := trodAll_cons r0
  obtain ⟨rfl, rfl, rfl⟩ := trodAll_nil r1
  obtain rfl : args = #[v0, v1] := by cases args; simp_all
  obtain ⟨rfl, rfl⟩ := trodVars_none hV
  obtain ⟨a0, len0, cap0, rfl⟩ := okWide_slice Try.underlying29 (hval 0 29 v0 rfl rfl)
  have k0 := h0
  have lt0 : ∀ x ∈ p0, x.block < W.heap.size := by obtain ⟨m, hm⟩ := k0; exact DataW.trod_lt m _ _ _ hm
  obtain ⟨z0, w0⟩ : ∃ zs, IsRow .i64 W a0 len0 cap0 zs := by
    obtain ⟨fuel, hf⟩ := h0
    rcases open_ints Try.underlying29 Try.underlying3 (by kernel_rfl) hf with ⟨hcs, _⟩ | ⟨x, l, c, zs, hcs, _, hl, hm, hz, _, hcell, hwz⟩
    · simp [Value.cells] at hcs
      obtain ⟨rfl, rfl, rfl⟩ := hcs
      exact ⟨[], .inl ⟨rfl, rfl, rfl, rfl⟩⟩
    · simp [Value.cells] at hcs
      obtain ⟨rfl, rfl, rfl⟩ := hcs
      exact ⟨zs, .inr ⟨_, rfl, hl, hm, by simpa using hz, hcell, hwz⟩⟩
  obtain ⟨a1, rfl, rfl, rfl⟩ := open_bool Try.underlying4 (hval 1 4 v1 rfl rfl) h1
  clear hA0 hval0
  refine (walk a0 len0 cap0 z0 a1 W w0).mono fun e W' ⟨he, bel⟩ => ?_
  subst he
  exact ⟨_, rfl, _, _, _, [], _, [], hW', trodAll_mk1 (shut_bool Try.underlying4 _), (trodAll_cons_mk (Below.trod laidOut (by kernel_rfl) (of_decide_eq_true (by kernel_rfl)) k0 bel lt0) (trodAll_cons_mk (shut_bool Try.underlying4 _) trodAll_mk0)), rfl, bel.frame _, fun h => by cases h⟩

theorem over : Rows.fnExactJoinHalvesRow.holds Try.pinned (OpenSpec.ofChange Rows.fnExactJoinHalvesSpec) :=
  OpenClaim.holds_of_wide 8 Try.f8 rfl rfl rfl rfl rfl rfl rfl ⟨rfl, rfl, rfl, rfl, rfl⟩ rfl rfl rfl rfl rfl (by kernel_rfl) Try.func8 (by kernel_rfl)
    (of_decide_eq_true (by kernel_rfl)) (by unfold Func.isWrapper; first | (rw [if_pos (by decide +kernel)]; kernel_rfl) | (rw [if_neg (by decide +kernel)]; exact ⟨rfl, rfl⟩))
    (fun os started H enc _ => lifted os started H enc)

theorem proved : Rows.FnExactJoinHalvesSaid := over
#print axioms proved
end Go.Proofs.Yteoghaognbmjlaa.fnExactJoinHalves
