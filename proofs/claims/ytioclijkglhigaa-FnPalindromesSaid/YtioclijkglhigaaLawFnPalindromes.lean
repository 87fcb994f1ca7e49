/-
  The program's law FnPalindromes returns true for every input, and its arguments read afterwards as before.
  Conditions: none.
-/
import Derived.Test.YtioclijkglhigaaRows
import Derived.WalkKit
import Derived.ProofKit
import Derived.OpenShut
import Derived.ShutString
import Derived.ChangeOld
import Derived.Below
import Derived.Test.YtioclijkglhigaaSlicesA
import Derived.Test.YtioclijkglhigaaMake
import Derived.Test.YtioclijkglhigaaPalLaw
import Derived.Deep.DeepCutAuto
namespace Go.Proofs.Ytioclijkglhigaa.fnPalindromes
open Go.ChangeShapes Go.WideShapes Go.ChangeAt Go.RowKit
set_option linter.unusedVariables false

theorem own : ownKnob Try.prog.godebug = none := by kernel_rfl
theorem laidOut : laidOutB Try.prog = true := by kernel_rfl
open PalLaw Rev
theorem rd_12 (w : World) : Rd (w.alloc (.cells #[.int .i64 1, .int .i64 2] 3)) (some ⟨w.heap.size, 0, none⟩) 2 [1, 2] :=
  have h : Own (w.alloc (.cells #[.int .i64 1, .int .i64 2] 3)) w.heap.size (.slice (some ⟨w.heap.size, 0, none⟩) 2 2) [1, 2] :=
    World.ownsRow_lit w #[.int .i64 1, .int .i64 2] 2 (Nat.le_refl _) (by unfold maxLen; omega) rfl
  by
    obtain ⟨ao, cap, e, hr⟩ := h.shape
    have e' : Value.slice (some ⟨w.heap.size, 0, none⟩) 2 2 = .slice ao 2 cap := e
    simp only [Value.slice.injEq] at e'
    obtain ⟨rfl, _, rfl⟩ := e'
    exact hr
theorem rd_212 (w : World) : Rd (w.alloc (.cells #[.int .i64 2, .int .i64 1, .int .i64 2] 3)) (some ⟨w.heap.size, 0, none⟩) 3 [2, 1, 2] :=
  have h : Own (w.alloc (.cells #[.int .i64 2, .int .i64 1, .int .i64 2] 3)) w.heap.size (.slice (some ⟨w.heap.size, 0, none⟩) 3 3) [2, 1, 2] :=
    World.ownsRow_lit w #[.int .i64 2, .int .i64 1, .int .i64 2] 3 (Nat.le_refl _) (by unfold maxLen; omega) rfl
  by
    obtain ⟨ao, cap, e, hr⟩ := h.shape
    have e' : Value.slice (some ⟨w.heap.size, 0, none⟩) 3 3 = .slice ao 3 cap := e
    simp only [Value.slice.injEq] at e'
    obtain ⟨rfl, _, rfl⟩ := e'
    exact hr

set_option maxRecDepth 100000 in
set_option maxHeartbeats 2000000 in
theorem walk (a0 : Option Addr) (len0 cap0 : Nat) (z0 : List Int) (w : World) (w0 : IsRow .u8 w a0 len0 cap0 z0) :
    Calls Try.prog 13 #[.slice a0 len0 cap0] w fun e w' => e = .returned (.bool true) ∧ Below w.heap.size w w' := by
  by_cases hbig : 1048576 < len0
  · go_enter Try.func13, Try.ntmps13
    go_wp2
    go_ret
    exact ⟨rfl, Below.refl _ _⟩
  have HR := Lib.hid w0.brd
  clear w0
  go_enter Try.func13, Try.ntmps13
  go_wp2_with fail
  refine (makeBase _ _ _ 0 _ HR.out (by omega) (by omega) (by omega)).mono ?_
  rintro e w1 ⟨⟨b, b1, b2, rfl⟩, hb1⟩
  have HB1 := Lib.hid hb1
  clear hb1
  go_wp2_with fail
  refine (makeNumber _ _ _ 2 _ (HR.out.below HB1.out (Nat.le_refl _)) (by omega) (by omega) (by omega)).mono ?_
  rintro e w2 ⟨⟨x, x0, x1, rfl⟩, hb2⟩
  have HB2 := Lib.hid (HB1.out.trans (hb2.mono HB1.out.size))
  clear hb2
  have n1 := Pl.mod_nn (a := x) (show (0 : Int) < 500000 by omega)
  have n2 := Pl.mod_lt (a := x) (show (0 : Int) < 500000 by omega)
  go_wp2_with fail
  generalize x % 500000 = n at *
  obtain ⟨X, R, rv, s, q, F⟩ := pf b1 b2 n1 (show n ≤ 499999 by omega)
  have HF := Lib.hid F
  have xn := F.xn
  have x12 := F.x12
  have ⟨r0, r1⟩ := F.r0
  have ⟨v0, v1⟩ := F.rb
  have ⟨s0, s8⟩ := F.sb
  clear F
  refine (as_int HF.out.ex (iNext _ _ _)).mono ?_
  rintro e w3 ⟨rfl, hb3⟩
  have HB3 := Lib.hid (HB2.out.trans (hb3.mono HB2.out.size))
  clear hb3
  go_wp2_with fail
  refine (as_int HF.out.er (iRank _ _ _)).mono ?_
  rintro e w4 ⟨rfl, hb4⟩
  have HB4 := Lib.hid (HB3.out.trans (hb4.mono HB3.out.size))
  clear hb4
  go_upto_region 7 with fail
  go_cut [62] (fun v62 wx => v62 = .bool false ∧ Below w.heap.size w wx)
  case first =>
    by_cases hX : X ≤ 1000000
    · have HX := Lib.hid (HF.out.rx hX)
      have hq0 : 0 ≤ btI q ∧ btI q ≤ 1 := by unfold btI; split <;> omega
      have ⟨hq1, hq2⟩ := hq0
      clear hq0
      go_wp2_with fail
      refine (as_bool HF.out.px (iIsPal _ _ _)).mono ?_
      rintro e w5 ⟨rfl, hb5⟩
      have HB5 := Lib.hid (HB4.out.trans (hb5.mono HB4.out.size))
      clear hb5
      go_wp2_with fail
      refine (as_int HX.out (iRank _ _ _)).mono ?_
      rintro e w6 ⟨rfl, hb6⟩
      have HB6 := Lib.hid (HB5.out.trans (hb6.mono HB5.out.size))
      clear hb6
      go_wp2_with fail
      refine (as_bool HF.out.pn (iIsPal _ _ _)).mono ?_
      rintro e w7 ⟨rfl, hb7⟩
      have HB7 := Lib.hid (HB6.out.trans (hb7.mono HB6.out.size))
      clear hb7
      go_wp2_with fail
      refine (btoi _ _).mono ?_
      rintro e w8 ⟨rfl, rfl⟩
      go_wp2_with fail
      go_meet
      exact ⟨vb_or (by simp <;> omega), HB7.out⟩
    · go_wp2_with fail
      refine (as_bool HF.out.px (iIsPal _ _ _)).mono ?_
      rintro e w5 ⟨rfl, hb5⟩
      have HB5 := Lib.hid (HB4.out.trans (hb5.mono HB4.out.size))
      clear hb5
      go_wp2_with fail
      go_meet
      exact ⟨vb_or (by simp <;> omega), HB5.out⟩
  case rest =>
    obtain ⟨rfl, hb5⟩ := hcut
    have HB5 := Lib.hid hb5
    clear hb5 xn x12 r0 r1
    go_wp2_with fail
    refine (makeNum _ _ _ 12 _ (HR.out.below HB5.out (Nat.le_refl _)) (by omega) (by omega) (by omega)).mono ?_
    rintro e w6 ⟨⟨y, y0, y1, rfl⟩, hb6⟩
    have HB6 := Lib.hid (HB5.out.trans (hb6.mono HB5.out.size))
    clear hb6
    have k1 : 1 ≤ 1 + y % 4 := by omega
    have k2 : 1 + y % 4 ≤ 4 := by omega
    go_wp2_with fail
    generalize 1 + y % 4 = k at *
    have ⟨c0, c1, c2⟩ := pc b1 b2 (show 0 ≤ k by omega) k2
    have HC := Lib.hid c0
    have HPG := Lib.hid (fun i (i1 : 0 ≤ i) (i2 : i < Pl.cp k.toNat b) => pg b1 b2 k1 k2 i1 i2)
    clear c0
    refine (as_int HC.out (iCountPal _ _ _)).mono ?_
    rintro e w7 ⟨rfl, rfl⟩
    generalize Pl.cp k.toNat b = C at *
    go_wp2_with fail
    refine (makeNum _ _ _ 14 _ (HR.out.below HB6.out (Nat.le_refl _)) (by omega) (by omega) (by omega)).mono ?_
    rintro e w7 ⟨⟨z, z0, z1, rfl⟩, hb7⟩
    have HB7 := Lib.hid (HB6.out.trans (hb7.mono HB6.out.size))
    clear hb7
    have i1 := Pl.mod_nn (a := z) (show 0 < C by omega)
    have i2 := Pl.mod_lt (a := z) (show 0 < C by omega)
    go_wp2_with fail
    generalize z % C = i at *
    obtain ⟨Y, G⟩ := HPG.out i i1 i2
    have HG := Lib.hid G
    have ⟨Y0, Y1⟩ := G.yb
    clear G HPG HC
    refine (as_ib (congrArg Prod.fst HG.out.ep) (congrArg Prod.snd HG.out.ep) (iPalAt _ _ _ _)).mono ?_
    rintro e w8 ⟨rfl, hb8⟩
    have HB8 := Lib.hid (HB7.out.trans (hb8.mono HB7.out.size))
    clear hb8
    obtain ⟨K, rfl⟩ := Int.eq_ofNat_of_zero_le (show 0 ≤ k by omega)
    have K2 : K ≤ 4 := by omega
    go_wp2_with fail
    go_loopw [12, 13] (fun vt vx wr => ∃ (j : Nat) (t : Int), j ≤ K ∧ 0 ≤ t ∧ t ≤ 1000 * (j : Int) ∧ vx = .int .i64 j ∧ vt = .int .i64 t ∧ Hid (Pl.under b j = t) ∧ Below w.heap.size w wr) (fun _ vx _ => K - (intOf vx).toNat)
    case atStart => exact ⟨0, 0, Nat.zero_le _, by omega, by omega, rfl, rfl, Lib.hid rfl, HB8.out⟩
    case round =>
      obtain ⟨j, t, hj, t0, t1, rfl, rfl, hg, hbel⟩ := hrel
      have HB9 := Lib.hid hbel
      clear hbel
      by_cases hlt : j < K
      · have ⟨d0, d1, d2⟩ := pc (k := (j : Int)) b1 b2 (by omega) (by omega)
        rw [Int.toNat_natCast] at d0 d1 d2
        have HD := Lib.hid d0
        have HS := Lib.hid (show Pl.under b (j + 1) = t + Pl.cp j b by rw [← hg.out]; rfl)
        clear d0
        go_wp2_with fail
        refine (as_int HD.out (iCountPal _ _ _)).mono ?_
        rintro e w10 ⟨rfl, rfl⟩
        generalize Pl.cp j b = d at *
        go_wp2
        go_roundw
        case rel => exact ⟨j + 1, t + d, by omega, by omega, by omega, by go_num, rfl, HS, HB9.out⟩
        case measure => simp [intOf]; omega
      · obtain rfl : j = K := by omega
        have HK := Lib.hid (show rkV Y b = t + i by rw [HG.out.rk, Int.toNat_natCast, hg.out])
        go_upto_region 20 with fail
        go_cut [128] (fun v128 wx => v128 = .bool false ∧ Below w.heap.size w wx)
        case first =>
          by_cases hev : (j : Int) % 2 = 0
          · have he1 : ((j : Int) % 2 == 0) = true := by rw [beq_iff_eq]; exact hev
            have he2 : (Y % (b + 1) != 0) = false := by rw [bne_eq_false_iff_eq]; exact Int.emod_eq_zero_of_dvd (HG.out.ev hev)
            clear hev
            go_wp2_with fail
            refine (as_bool HG.out.py (iIsPal _ _ _)).mono ?_
            rintro e w10 ⟨rfl, hb10⟩
            have HB10 := Lib.hid (HB9.out.trans (hb10.mono HB9.out.size))
            clear hb10
            go_wp2_with fail
            refine (as_int HG.out.cd (iCountDigits _ _ _)).mono ?_
            rintro e w11 ⟨rfl, hb11⟩
            have HB11 := Lib.hid (HB10.out.trans (hb11.mono HB10.out.size))
            clear hb11
            go_wp2_with fail
            refine (as_int HK.out (iRank _ _ _)).mono ?_
            rintro e w12 ⟨rfl, hb12⟩
            have HB12 := Lib.hid (HB11.out.trans (hb12.mono HB11.out.size))
            clear hb12
            go_wp2_with fail
            go_meet
            exact ⟨vb_or (by simp <;> omega), HB12.out⟩
          · have he1 : ((j : Int) % 2 == 0) = false := by rw [beq_eq_false_iff_ne]; exact hev
            clear hev
            go_wp2_with fail
            refine (as_bool HG.out.py (iIsPal _ _ _)).mono ?_
            rintro e w10 ⟨rfl, hb10⟩
            have HB10 := Lib.hid (HB9.out.trans (hb10.mono HB9.out.size))
            clear hb10
            go_wp2_with fail
            refine (as_int HG.out.cd (iCountDigits _ _ _)).mono ?_
            rintro e w11 ⟨rfl, hb11⟩
            have HB11 := Lib.hid (HB10.out.trans (hb11.mono HB10.out.size))
            clear hb11
            go_wp2_with fail
            refine (as_int HK.out (iRank _ _ _)).mono ?_
            rintro e w12 ⟨rfl, hb12⟩
            have HB12 := Lib.hid (HB11.out.trans (hb12.mono HB11.out.size))
            clear hb12
            go_wp2_with fail
            go_meet
            exact ⟨vb_or (by simp <;> omega), HB12.out⟩
        case rest =>
          obtain ⟨rfl, hb10⟩ := hcut
          have HB10 := Lib.hid hb10
          clear hb10
          go_wp2_with fail
          refine (as_ib (congrArg Prod.fst HF.out.ra) (congrArg Prod.snd HF.out.ra) (iRevAdd _ _ _)).mono ?_
          rintro e w11 ⟨rfl, hb11⟩
          have HB11 := Lib.hid (HB10.out.trans (hb11.mono HB10.out.size))
          clear hb11
          go_wp2_with fail
          refine (as_ib (congrArg Prod.fst HF.out.rr) (congrArg Prod.snd HF.out.rr) (iRev _ _ _)).mono ?_
          rintro e w12 ⟨rfl, hb12⟩
          have HB12 := Lib.hid (HB11.out.trans (hb12.mono HB11.out.size))
          clear hb12
          go_wp2_with fail
          refine (as_int HF.out.st (iSteps _ _ _ _)).mono ?_
          rintro e w13 ⟨rfl, hb13⟩
          have HB13 := Lib.hid (HB12.out.trans (hb13.mono HB12.out.size))
          clear hb13
          go_wp2_with fail
          obtain ⟨s1, hs1⟩ : ∃ s1, stV (n + rv) b 7 = s1 := ⟨_, rfl⟩
          have HS1 := Lib.hid hs1
          have HS2 := Lib.hid (show 0 < s → (s1 == s - 1) = true from fun h => by rw [beq_iff_eq, ← hs1]; exact HF.out.s1 h)
          clear hs1
          refine (as_int HS1.out (iSteps _ _ _ _)).mono ?_
          rintro e w14 ⟨rfl, hb14⟩
          have HB14 := Lib.hid (HB13.out.trans (hb14.mono HB13.out.size))
          clear hb14
          have sq := HF.out.sq
          go_wp2_with fail
          refine (as_bool HF.out.pn (iIsPal _ _ _)).mono ?_
          rintro e w15 ⟨rfl, hb15⟩
          have HB15 := Lib.hid (HB14.out.trans (hb15.mono HB14.out.size))
          clear hb15
          have HPd := Lib.hid (show (palV Y b && palV Y b) = true by rw [HG.out.py]; rfl)
          by_cases hs : s ≤ 0
          all_goals
            first
            | (have hs2 := HS2.out (by omega))
            | skip
            go_wp2_with fail
            refine (as_bool HPd.out (iIsDouble _ _ _ _)).mono ?_
            rintro e w16 ⟨rfl, hb16⟩
            have HB16 := Lib.hid (HB15.out.trans (hb16.mono HB15.out.size))
            clear hb16
            go_wp2_with fail
            refine (as_bool HF.out.p0 (iIsPal _ _ _)).mono ?_
            rintro e w17 ⟨rfl, hb17⟩
            have HB17 := Lib.hid (HB16.out.trans (hb17.mono HB16.out.size))
            clear hb17
            go_wp2_with fail
            refine (iJoin [1, 2] _ rfl _ _ _ _ (rd_12 _) (by simp)).mono ?_
            rintro e w18 ⟨v, rfl, hown, hb18⟩
            obtain ⟨ao, cap, rfl, hrd⟩ := hown.shape
            have HB18 := Lib.hid ((HB17.out.alloc HB17.out.size _).trans (hb18.mono (HB17.out.alloc HB17.out.size _).size))
            have HJ := Lib.hid (show (Pl.jh [1, 2] true == [2, 1, 2]) = true by decide)
            have HL := Lib.hid (show 3 = (Pl.jh [1, 2] true).length by decide)
            have HRD := Lib.hid (hrd.below ((Below.refl w18.heap.size w18).alloc (Nat.le_refl _) (.cells #[.int .i64 2, .int .i64 1, .int .i64 2] 3)) (Nat.le_refl _))
            clear hown hb18 hrd
            go_wp2_with fail
            refine (as_bool HJ.out (same _ [2, 1, 2] _ _ (by first | rfl | simp [Pl.jh]) rfl _ _ _ _ _ HRD.out (rd_212 _))).mono ?_
            rintro e w19 ⟨rfl, rfl⟩
            go_wp2
            go_ret
            exact ⟨by first | rfl | simp, HB18.out.alloc HB18.out.size _⟩

set_option maxRecDepth 100000 in
theorem lifted (os : Os) (started : os.Started) (H : Type) (enc : TypeId × Value → H) :
    ReturnsInHanded {} Try.checked os 13 .any (Rows.fnPalindromesSpec.pre6 enc Try.prog Try.f13 Rows.fnPalindromesRow.domain false) (Rows.fnPalindromesSpec.post enc Try.prog Try.f13 false true false false) := by
  refine returnsInHanded_of_change (C := Try.checked) own started (by kernel_rfl) Try.func13
    (ChangeSpec.witness6 (enc := enc) (C := Try.checked) false ⟨#[], #[.slice none 0 0], []⟩ 8 (by kernel_rfl) (by kernel_rfl) (by kernel_rfl) (by kernel_rfl)) ?_
  intro W base args ds gs before hval0 hW hcnd _
  have hval : ∀ (j : Nat) t v, Try.f13.params[j]? = some t → args[j]? = some v → Value.okWide Try.prog W .any base t v := hval0
  have hW' := hW
  obtain ⟨p, q, hA0, hV, rfl, hfz, hnd⟩ := hW
  have hA : DataW.TrodAll enc Try.prog W 0 (fun _ => true) true Try.f13.params.toList args.toList ds p := hA0
  rw [Try.params13] at hA hval
  obtain ⟨v0, vs0, d0, ds0, p0, q0, hargs, rfl, rfl, h0, r0⟩ := trodAll_cons hA
  obtain ⟨rfl, rfl, rfl⟩ := trodAll_nil r0
  obtain rfl : args = #[v0] := by cases args; simp_all
  obtain ⟨rfl, rfl⟩ := trodVars_none hV
  obtain ⟨a0, len0, cap0, rfl⟩ := okWide_slice Try.underlying37 (hval 0 37 v0 rfl rfl)
  have k0 := h0
  have lt0 : ∀ x ∈ p0, x.block < W.heap.size := by obtain ⟨m, hm⟩ := k0; exact DataW.trod_lt m _ _ _ hm
  obtain ⟨z0, w0⟩ : ∃ zs, IsRow .u8 W a0 len0 cap0 zs := by
    obtain ⟨fuel, hf⟩ := h0
    rcases open_ints Try.underlying37 Try.underlying5 (by kernel_rfl) hf with ⟨hcs, _⟩ | ⟨x, l, c, zs, hcs, _, hl, hm, hz, _, hcell, hwz⟩
    · simp [Value.cells] at hcs
      obtain ⟨rfl, rfl, rfl⟩ := hcs
      exact ⟨[], .inl ⟨rfl, rfl, rfl, rfl⟩⟩
    · simp [Value.cells] at hcs
      obtain ⟨rfl, rfl, rfl⟩ := hcs
      exact ⟨zs, .inr ⟨_, rfl, hl, hm, by simpa using hz, hcell, hwz⟩⟩
  clear hA0 hval0
  refine (walk a0 len0 cap0 z0 W w0).mono fun e W' ⟨he, bel⟩ => ?_
  subst he
  exact ⟨_, rfl, _, _, _, [], _, [], hW', trodAll_mk1 (shut_bool Try.underlying4 _), (trodAll_cons_mk (Below.trod laidOut (by kernel_rfl) (of_decide_eq_true (by kernel_rfl)) k0 bel lt0) trodAll_mk0), rfl, bel.frame _, fun h => by cases h⟩

theorem over : Rows.fnPalindromesRow.holds Try.pinned (OpenSpec.ofChange Rows.fnPalindromesSpec) :=
  OpenClaim.holds_of_wide 13 Try.f13 rfl rfl rfl rfl rfl rfl rfl ⟨rfl, rfl, rfl, rfl, rfl⟩ rfl rfl rfl rfl rfl (by kernel_rfl) Try.func13 (by kernel_rfl)
    (of_decide_eq_true (by kernel_rfl)) (by unfold Func.isWrapper; first | (rw [if_pos (by decide +kernel)]; kernel_rfl) | (rw [if_neg (by decide +kernel)]; exact ⟨rfl, rfl⟩))
    (fun os started H enc _ => lifted os started H enc)

theorem proved : Rows.FnPalindromesSaid := over
#print axioms proved
end Go.Proofs.Ytioclijkglhigaa.fnPalindromes
