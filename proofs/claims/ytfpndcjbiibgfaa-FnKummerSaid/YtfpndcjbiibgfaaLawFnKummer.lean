/-
  The program's law FnKummer returns true for every input, and its arguments read afterwards as before.
  Conditions: none.
-/
import Derived.Test.YtfpndcjbiibgfaaRows
import Derived.WalkKit
import Derived.ProofKit
import Derived.OpenShut
import Derived.ShutString
import Derived.ChangeOld
import Derived.Below
import Derived.Test.YtfpndcjbiibgfaaSlicesA
import Derived.Test.YtfpndcjbiibgfaaMake
import Derived.Test.YtfpndcjbiibgfaaKumPl
import Derived.Test.YtfpndcjbiibgfaaDig2
import Derived.Deep.DeepCutAuto
namespace Go.Proofs.Ytfpndcjbiibgfaa.fnKummer
open Go.ChangeShapes Go.WideShapes Go.ChangeAt Go.RowKit
set_option linter.unusedVariables false

theorem own : ownKnob Try.prog.godebug = none := by kernel_rfl
theorem laidOut : laidOutB Try.prog = true := by kernel_rfl
/-- What the law asks of a prime and two numbers. -/
structure KF (p n k c Fn Fk Fm Dn Dk Dm br : Int) (q : Bool) : Prop where
  ec : bpV n k p = c
  ecc : ccV k (n - k) p = c
  ecd : ccV (n - k) k p = c
  fn : facV n p = Fn
  fk : facV k p = Fk
  fm : facV (n - k) p = Fm
  dn : Pl.sm (Pl.dg p n) = Dn
  dk : Pl.sm (Pl.dg p k) = Dk
  dm : Pl.sm (Pl.dg p (n - k)) = Dm
  eb : brV n k p = br
  cb : 0 ≤ c ∧ c ≤ 10000000000
  Fb : (0 ≤ Fn ∧ Fn ≤ 10000000000) ∧ (0 ≤ Fk ∧ Fk ≤ 10000000000) ∧ (0 ≤ Fm ∧ Fm ≤ 10000000000)
  Db : (0 ≤ Dn ∧ Dn ≤ 10000000000) ∧ (0 ≤ Dk ∧ Dk ≤ 10000000000) ∧ (0 ≤ Dm ∧ Dm ≤ 10000000000)
  pF : 0 ≤ (p - 1) * Fn ∧ (p - 1) * Fn ≤ 10000000000
  pc : 0 ≤ (p - 1) * c ∧ (p - 1) * c ≤ 120000000000
  t1 : (c != Fn - Fk - Fm) = false
  t2 : ((p - 1) * Fn != n - Dn) = false
  t3 : ((p - 1) * c != Dk + Dm - Dn) = false
  q1 : (br != 0) = q
  q2 : (c == 0) = q
theorem kf {p n k : Int} (hp : primeB p = true) (n0 : 0 ≤ n) (n1 : n ≤ 9999999999) (k0 : 0 ≤ k) (k1 : k ≤ n) : ∃ c Fn Fk Fm Dn Dk Dm br q, KF p n k c Fn Fk Fm Dn Dk Dm br q := by
  have ⟨p1, p2⟩ := bp_bd hp
  have hb := inB_mk p1 (show p ≤ 16 by omega)
  have hn := inB_mk n0 (show n ≤ 1000000000000 by omega)
  have hk := inB_mk k0 (show k ≤ 1000000000000 by omega)
  have hm := inB_mk (show 0 ≤ n - k by omega) (show n - k ≤ 1000000000000 by omega)
  have ⟨c1, c2, c3⟩ := Pl.cr_leg p1 k0 k1
  have ⟨d1, d2⟩ := Pl.sm_dg_le p1 n0
  have ⟨d3, d4⟩ := Pl.sm_dg_le p1 k0
  have ⟨d5, d6⟩ := Pl.sm_dg_le p1 (show 0 ≤ n - k by omega)
  have ⟨f1, f2⟩ := Pl.leg_bd p1 n0
  have ⟨f3, f4⟩ := Pl.leg_bd p1 k0
  have ⟨f5, f6⟩ := Pl.leg_bd p1 (show 0 ≤ n - k by omega)
  have cc := (Pl.cr_nn p1 _ k (n - k) 0 k0 (by omega) (by omega) (by omega) (Nat.le_refl _)).1
  have pc0 : 0 ≤ (p - 1) * Pl.cr p k (n - k) 0 := Int.mul_nonneg (by omega) cc
  have pf0 : 0 ≤ (p - 1) * Pl.leg p n := Int.mul_nonneg (by omega) f1
  have br := br_cr hp n.toNat n k 1 (Nat.le_refl _) k0 k1 (by omega) (by omega)
  refine ⟨Pl.cr p k (n - k) 0, Pl.leg p n, Pl.leg p k, Pl.leg p (n - k), _, _, _, _root_.Go.Proofs.Ytfpndcjbiibgfaa.br p n k 1, (Pl.cr p k (n - k) 0 == 0), ⟨?_, ?_, ?_, ?_, ?_, ?_, rfl, rfl, rfl, ?_, ⟨cc, by omega⟩, ⟨⟨f1, by omega⟩, ⟨f3, by omega⟩, ⟨f5, by omega⟩⟩, ⟨⟨d1, by omega⟩, ⟨d3, by omega⟩, ⟨d5, by omega⟩⟩, ⟨pf0, by omega⟩, ⟨pc0, by omega⟩, ?_, ?_, ?_, ?_, rfl⟩⟩
  · rw [bpV, hp, decide_eq_true (show 0 ≤ k ∧ k ≤ n ∧ n ≤ 1000000000000 by omega)]; rfl
  · rw [ccV, hk, hm, hb]; rfl
  · rw [ccV, hm, hk, hb]
    exact Pl.cr_comm p1 _ _ _ _ (by omega) k0 (Nat.le_refl _)
  · rw [facV, hp, hn]; rfl
  · rw [facV, hp, hk]; rfl
  · rw [facV, hp, hm]; rfl
  · rw [brV, hp, decide_eq_true (show 0 ≤ k ∧ k ≤ n ∧ n ≤ 1000000000000 by omega)]; rfl
  · rw [bne_eq_false_iff_eq]; exact c1
  · rw [bne_eq_false_iff_eq]; exact c2
  · rw [bne_eq_false_iff_eq]; exact c3
  · rw [Bool.eq_iff_iff, bne_iff_ne, beq_iff_eq]
    have := br.2
    omega
theorem left_step {p : Int} (hp : primeB p = true) {m : Nat} (hm : m < 29) (j : Nat) : leftZ p m (j + 1) = leftZ p m j + if br p m j 1 = 0 then 0 else 1 := by
  rw [brF_br (bp_bd hp).1 5 _ _ _ (by omega) (by omega)]; rfl
theorem left_bd (p m : Int) : ∀ j : Nat, 0 ≤ leftZ p m j ∧ leftZ p m j ≤ j := by
  intro j
  induction j with
  | zero => simp [leftZ]
  | succ j ih =>
    have e : leftZ p m (j + 1) = leftZ p m j + (if brF p 5 m j 1 = 0 then 0 else 1) := rfl
    rw [e]
    split <;> omega
theorem prime_at {j : Nat} (hj : j < 6) : primeB (primeL.getD j 0) = true := by
  unfold primeB
  simp only [decide_eq_true_eq]
  exact Pl.getD_mem hj

set_option maxRecDepth 100000 in
set_option maxHeartbeats 2000000 in
theorem walk (a0 : Option Addr) (len0 cap0 : Nat) (z0 : List Int) (w : World) (w0 : IsRow .u8 w a0 len0 cap0 z0) :
    Calls Try.prog 3 #[.slice a0 len0 cap0] w fun e w' => e = .returned (.bool true) ∧ Below w.heap.size w w' := by
  by_cases hbig : 1048576 < len0
  · go_enter Try.func3, Try.ntmps3
    go_wp2
    go_ret
    exact ⟨rfl, Below.refl _ _⟩
  have hal : Below w.heap.size w (w.alloc (.cells #[.int .i64 2, .int .i64 3, .int .i64 5, .int .i64 7, .int .i64 11, .int .i64 13] 3)) := (Below.refl _ _).alloc (Nat.le_refl _) _
  have HR := Lib.hid (w0.brd.below hal (Nat.le_refl _))
  have HAL := Lib.hid hal
  have HR0 := Lib.hid w0.brd
  clear w0 hal
  go_enter Try.func3, Try.ntmps3
  go_wp2_with fail
  refine (makeNum _ _ _ 0 _ HR.out (by omega) (by omega) (by omega)).mono ?_
  rintro e w1 ⟨⟨y, y0, y1, rfl⟩, hb1⟩
  have hrd := (rd_prime w).below hb1 (Nat.le_refl _)
  have HR1 := Lib.hid (HR.out.below hb1 (Nat.le_refl _))
  have HB1 := Lib.hid (HAL.out.trans (hb1.mono HAL.out.size))
  clear hb1
  have j1 := Pl.mod_nn (a := y) (show (0 : Int) < 6 by omega)
  have j2 := Pl.mod_lt (a := y) (show (0 : Int) < 6 by omega)
  have hj : (y % 6).toNat < 6 := by omega
  obtain ⟨p, hp, hc⟩ : ∃ p, primeB p = true ∧ w1.cell? ⟨w.heap.size, (y % 6).toNat, none⟩ = some (.int .i64 p) := by
    obtain ⟨b, off, e, _, hc⟩ := hrd.at (show (y % 6).toNat < primeL.length from hj)
    simp only [Option.some.injEq, Addr.mk.injEq, and_true] at e
    obtain ⟨rfl, rfl⟩ := e
    rw [Nat.zero_add] at hc
    exact ⟨_, prime_at hj, hc⟩
  have HP := Lib.hid hp
  have ⟨p1, p2⟩ := bp_bd hp
  clear hp hrd
  go_wp2_with fail
  refine (makeNumber _ _ _ 2 _ HR1.out (by omega) (by omega) (by omega)).mono ?_
  rintro e w2 ⟨⟨n, n1, n2, rfl⟩, hb2⟩
  have HR2 := Lib.hid (HR1.out.below hb2 (Nat.le_refl _))
  have HB2 := Lib.hid (HB1.out.trans (hb2.mono HB1.out.size))
  clear hb2 hc j1 j2 hj
  go_wp2_with fail
  refine (makeNumber _ _ _ 12 _ HR2.out (by omega) (by omega) (by omega)).mono ?_
  rintro e w3 ⟨⟨x, x0, x1, rfl⟩, hb3⟩
  have HR3 := Lib.hid (HR2.out.below hb3 (Nat.le_refl _))
  have HB3 := Lib.hid (HB2.out.trans (hb3.mono HB2.out.size))
  clear hb3
  have k0 := Pl.mod_nn (a := x) (show 0 < n + 1 by omega)
  have k1 := Pl.mod_lt (a := x) (show 0 < n + 1 by omega)
  go_wp2_with fail
  generalize x % (n + 1) = k at *
  obtain ⟨c, Fn, Fk, Fm, Dn, Dk, Dm, br, q, F⟩ := kf HP.out n1 n2 k0 (by omega)
  have HF := Lib.hid F
  have ⟨c0, c1⟩ := F.cb
  have ⟨⟨f0, f1⟩, ⟨f2, f3⟩, ⟨f4, f5⟩⟩ := F.Fb
  have ⟨⟨d0, d1⟩, ⟨d2, d3⟩, ⟨d4, d5⟩⟩ := F.Db
  have ⟨g0, g1⟩ := F.pF
  have ⟨g2, g3⟩ := F.pc
  have t1 := F.t1
  have t2 := F.t2
  have t3 := F.t3
  have q1 := F.q1
  have q2 := F.q2
  have Hb := Lib.hid (inB_mk p1 (show p ≤ 16 by omega))
  have Hn := Lib.hid (inB_mk n1 (show n ≤ 1000000000000 by omega))
  have Hk := Lib.hid (inB_mk k0 (show k ≤ 1000000000000 by omega))
  have Hm := Lib.hid (inB_mk (show 0 ≤ n - k by omega) (show n - k ≤ 1000000000000 by omega))
  clear F
  refine (as_int HF.out.ec (iBinPow _ _ _ _)).mono ?_
  rintro e w4 ⟨rfl, hb4⟩
  have HB4 := Lib.hid (HB3.out.trans (hb4.mono HB3.out.size))
  clear hb4
  go_wp2_with fail
  refine (as_int HF.out.ecc (iCountCarries _ _ _ _)).mono ?_
  rintro e w5 ⟨rfl, hb5⟩
  have HB5 := Lib.hid (HB4.out.trans (hb5.mono HB4.out.size))
  clear hb5
  go_wp2_with fail
  refine (as_int HF.out.fn (iFacPow _ _ _)).mono ?_
  rintro e w6 ⟨rfl, hb6⟩
  have HB6 := Lib.hid (HB5.out.trans (hb6.mono HB5.out.size))
  clear hb6
  go_wp2_with fail
  refine (as_int HF.out.fk (iFacPow _ _ _)).mono ?_
  rintro e w7 ⟨rfl, hb7⟩
  have HB7 := Lib.hid (HB6.out.trans (hb7.mono HB6.out.size))
  clear hb7
  go_wp2_with fail
  refine (as_int HF.out.fm (iFacPow _ _ _)).mono ?_
  rintro e w8 ⟨rfl, hb8⟩
  have HB8 := Lib.hid (HB7.out.trans (hb8.mono HB7.out.size))
  clear hb8
  go_wp2_with fail
  refine (as_int HF.out.fn (iFacPow _ _ _)).mono ?_
  rintro e w9 ⟨rfl, hb9⟩
  have HB9 := Lib.hid (HB8.out.trans (hb9.mono HB8.out.size))
  clear hb9
  go_wp2_with fail
  refine (as_int HF.out.dn (digitSum _ _ _ Hb.out Hn.out)).mono ?_
  rintro e w10 ⟨rfl, hb10⟩
  have HB10 := Lib.hid (HB9.out.trans (hb10.mono HB9.out.size))
  clear hb10
  go_wp2_with fail
  refine (as_int HF.out.dk (digitSum _ _ _ Hb.out Hk.out)).mono ?_
  rintro e w11 ⟨rfl, hb11⟩
  have HB11 := Lib.hid (HB10.out.trans (hb11.mono HB10.out.size))
  clear hb11
  go_wp2_with fail
  refine (as_int HF.out.dm (digitSum _ _ _ Hb.out Hm.out)).mono ?_
  rintro e w12 ⟨rfl, hb12⟩
  have HB12 := Lib.hid (HB11.out.trans (hb12.mono HB11.out.size))
  clear hb12
  go_wp2_with fail
  refine (as_int HF.out.dn (digitSum _ _ _ Hb.out Hn.out)).mono ?_
  rintro e w13 ⟨rfl, hb13⟩
  have HB13 := Lib.hid (HB12.out.trans (hb13.mono HB12.out.size))
  clear hb13
  go_wp2_with fail
  refine (as_int HF.out.eb (iBinRest _ _ _ _)).mono ?_
  rintro e w14 ⟨rfl, hb14⟩
  have HB14 := Lib.hid (HB13.out.trans (hb14.mono HB13.out.size))
  have HR14 := Lib.hid (HR0.out.below HB14.out (Nat.le_refl _))
  clear hb14
  go_wp2_with fail
  clear t1 t2 t3 q1 q2 g0 g1 g2 g3
  refine (makeNum _ _ _ 22 _ HR14.out (by omega) (by omega) (by omega)).mono ?_
  rintro e w15 ⟨⟨y, y0, y1, rfl⟩, hb15⟩
  have HB15 := Lib.hid (HB14.out.trans (hb15.mono HB14.out.size))
  clear hb15
  have m1 := Pl.mod_nn (a := y) (show (0 : Int) < 29 by omega)
  have m2 := Pl.mod_lt (a := y) (show (0 : Int) < 29 by omega)
  go_wp2_with fail
  generalize y % 29 = m at *
  obtain ⟨M, rfl⟩ := Int.eq_ofNat_of_zero_le m1
  have M2 : M < 29 := by omega
  go_loopw [8, 9] (fun vl vi wr => ∃ (j : Nat) (t : Int), j ≤ M + 1 ∧ 0 ≤ t ∧ t ≤ (j : Int) ∧ vi = .int .i64 j ∧ vl = .int .i64 t ∧ Hid (leftZ p M j = t) ∧ Below w.heap.size w wr) (fun _ vi _ => M + 1 - (intOf vi).toNat)
  case atStart => exact ⟨0, 0, Nat.zero_le _, by omega, by omega, rfl, rfl, Lib.hid rfl, HB15.out⟩
  case round =>
    obtain ⟨j, t, hj, t0, t1, rfl, rfl, hg, hbel⟩ := hrel
    have HB16 := Lib.hid hbel
    clear hbel
    by_cases hlt : j ≤ M
    · have hbr := ((kum_all HP.out).2 M M2).2 j hlt
      have HV := Lib.hid (show brV M j p = binZ M j % p by
        rw [brV, HP.out, decide_eq_true (show (0 : Int) ≤ j ∧ (j : Int) ≤ M ∧ (M : Int) ≤ 1000000000000 by omega)]; exact hbr)
      have Hi1 := Lib.hid (inB_mk (show (0 : Int) ≤ M by omega) (show (M : Int) ≤ 30 by omega))
      have Hi2 := Lib.hid (inB_mk (show (0 : Int) ≤ j by omega) (show (j : Int) ≤ 30 by omega))
      have ⟨z0, z1⟩ := binZ_bd (n := (M : Int)) (k := (j : Int)) (by omega) (by omega) (by omega)
      have HS := Lib.hid (show leftZ p M (j + 1) = t + if binZ M j % p = 0 then 0 else 1 by rw [left_step HP.out M2, hbr, hg.out])
      clear hbr
      go_wp2_with fail
      refine (as_int HV.out (iBinRest _ _ _ _)).mono ?_
      rintro e w17 ⟨rfl, hb17⟩
      have HB17 := Lib.hid (HB16.out.trans (hb17.mono HB16.out.size))
      clear hb17
      go_wp2_with fail
      refine (iBin _ _ _ Hi1.out Hi2.out).mono ?_
      rintro e w18 ⟨rfl, rfl⟩
      generalize binZ M j = B at *
      have e0 := Pl.mod_nn (a := B) (show 0 < p by omega)
      by_cases hz : B % p = 0
      · have hz1 : (B % p != 0) = false := by rw [bne_eq_false_iff_eq]; exact hz
        have HS2 := Lib.hid (show leftZ p M (j + 1) = t by rw [HS.out, if_pos hz]; omega)
        clear hz
        go_wp2
        go_roundw
        case rel => exact ⟨j + 1, t, by omega, t0, by omega, by go_num, rfl, HS2, HB17.out⟩
        case measure => simp [intOf]; omega
      · have hz1 : (B % p != 0) = true := by rw [bne_iff_ne]; exact hz
        have HS2 := Lib.hid (show leftZ p M (j + 1) = t + 1 by rw [HS.out, if_neg hz])
        clear hz
        go_wp2
        go_roundw
        case rel => exact ⟨j + 1, t + 1, by omega, by omega, by omega, by go_num, rfl, HS2, HB17.out⟩
        case measure => simp [intOf]; omega
    · obtain rfl : j = M + 1 := by omega
      have HV := Lib.hid (show crV M p = t by
        rw [crV, HP.out, inB_mk (by omega) (by omega)]
        exact ((kum_all HP.out).2 M M2).1.trans hg.out)
      go_wp2_with fail
      refine (as_int HV.out (iCountRest _ _ _)).mono ?_
      rintro e w17 ⟨rfl, hb17⟩
      have HB17 := Lib.hid (HB16.out.trans (hb17.mono HB16.out.size))
      clear hb17
      go_wp2_with fail
      refine (as_int HF.out.ecc (iCountCarries _ _ _ _)).mono ?_
      rintro e w18 ⟨rfl, hb18⟩
      have HB18 := Lib.hid (HB17.out.trans (hb18.mono HB17.out.size))
      clear hb18
      go_wp2_with fail
      refine (as_int HF.out.ecd (iCountCarries _ _ _ _)).mono ?_
      rintro e w19 ⟨rfl, hb19⟩
      have HB19 := Lib.hid (HB18.out.trans (hb19.mono HB18.out.size))
      clear hb19
      go_wp2
      go_ret
      exact ⟨by first | rfl | simp, HB19.out⟩

set_option maxRecDepth 100000 in
theorem lifted (os : Os) (started : os.Started) (H : Type) (enc : TypeId × Value → H) :
    ReturnsInHanded {} Try.checked os 3 .any (Rows.fnKummerSpec.pre6 enc Try.prog Try.f3 Rows.fnKummerRow.domain false) (Rows.fnKummerSpec.post enc Try.prog Try.f3 false true false false) := by
  refine returnsInHanded_of_change (C := Try.checked) own started (by kernel_rfl) Try.func3
    (ChangeSpec.witness6 (enc := enc) (C := Try.checked) false ⟨#[], #[.slice none 0 0], []⟩ 8 (by kernel_rfl) (by kernel_rfl) (by kernel_rfl) (by kernel_rfl)) ?_
  intro W base args ds gs before hval0 hW hcnd _
  have hval : ∀ (j : Nat) t v, Try.f3.params[j]? = some t → args[j]? = some v → Value.okWide Try.prog W .any base t v := hval0
  have hW' := hW
  obtain ⟨p, q, hA0, hV, rfl, hfz, hnd⟩ := hW
  have hA : DataW.TrodAll enc Try.prog W 0 (fun _ => true) true Try.f3.params.toList args.toList ds p := hA0
  rw [Try.params3] at hA hval
  obtain ⟨v0, vs0, d0, ds0, p0, q0, hargs, rfl, rfl, h0, r0⟩ := trodAll_cons hA
  obtain ⟨rfl, rfl, rfl⟩ := trodAll_nil r0
  obtain rfl : args = #[v0] := by cases args; simp_all
  obtain ⟨rfl, rfl⟩ := trodVars_none hV
  obtain ⟨a0, len0, cap0, rfl⟩ := okWide_slice Try.underlying22 (hval 0 22 v0 rfl rfl)
  have k0 := h0
  have lt0 : ∀ x ∈ p0, x.block < W.heap.size := by obtain ⟨m, hm⟩ := k0; exact DataW.trod_lt m _ _ _ hm
  obtain ⟨z0, w0⟩ : ∃ zs, IsRow .u8 W a0 len0 cap0 zs := by
    obtain ⟨fuel, hf⟩ := h0
    rcases open_ints Try.underlying22 Try.underlying5 (by kernel_rfl) hf with ⟨hcs, _⟩ | ⟨x, l, c, zs, hcs, _, hl, hm, hz, _, hcell, hwz⟩
    · simp [Value.cells] at hcs
      obtain ⟨rfl, rfl, rfl⟩ := hcs
      exact ⟨[], .inl ⟨rfl, rfl, rfl, rfl⟩⟩
    · simp [Value.cells] at hcs
      obtain ⟨rfl, rfl, rfl⟩ := hcs
      exact ⟨zs, .inr ⟨_, rfl, hl, hm, by simpa using hz, hcell, hwz⟩⟩
  clear hA0 hval0
  refine (walk a0 len0 cap0 z0 W w0).mono fun e W' ⟨he, bel⟩ => ?_
  subst he
  exact ⟨_, rfl, _, _, _, [], _, [], hW', trodAll_mk1 (shut_bool Try.underlying4 _), (trodAll_cons_mk (Below.trod laidOut (by kernel_rfl) (of_decide_eq_true (by kernel_rfl)) k0 bel lt0) trodAll_mk0), rfl, bel.frame _, fun h => by cases h⟩

theorem over : Rows.fnKummerRow.holds Try.pinned (OpenSpec.ofChange Rows.fnKummerSpec) :=
  OpenClaim.holds_of_wide 3 Try.f3 rfl rfl rfl rfl rfl rfl rfl ⟨rfl, rfl, rfl, rfl, rfl⟩ rfl rfl rfl rfl rfl (by kernel_rfl) Try.func3 (by kernel_rfl)
    (of_decide_eq_true (by kernel_rfl)) (by unfold Func.isWrapper; first | (rw [if_pos (by decide +kernel)]; kernel_rfl) | (rw [if_neg (by decide +kernel)]; exact ⟨rfl, rfl⟩))
    (fun os started H enc _ => lifted os started H enc)

theorem proved : Rows.FnKummerSaid := over
#print axioms proved
end Go.Proofs.Ytfpndcjbiibgfaa.fnKummer
