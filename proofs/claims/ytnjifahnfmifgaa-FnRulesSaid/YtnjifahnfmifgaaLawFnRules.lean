/-
  The program's law FnRules returns true for every input, and its arguments read afterwards as before.
  Conditions: none.
-/
import Derived.Test.YtnjifahnfmifgaaRows
import Derived.WalkKit
import Derived.ProofKit
import Derived.OpenShut
import Derived.ShutString
import Derived.ChangeOld
import Derived.Below
import Derived.Test.YtnjifahnfmifgaaSlicesA
import Derived.Test.YtnjifahnfmifgaaMake
import Derived.Test.YtnjifahnfmifgaaHelps
import Derived.Test.YtnjifahnfmifgaaGcdC
import Derived.Test.YtnjifahnfmifgaaRulePl
import Derived.Test.YtnjifahnfmifgaaSums
import Derived.Test.YtnjifahnfmifgaaTrim
import Derived.Test.YtnjifahnfmifgaaAlt1
import Derived.Test.YtnjifahnfmifgaaDig1
import Derived.Test.YtnjifahnfmifgaaExt
import Derived.Deep.DeepCutAuto
import Derived.Deep.RegionHeld3
namespace Go.Proofs.Ytnjifahnfmifgaa.fnRules
open Go.ChangeShapes Go.WideShapes Go.ChangeAt Go.RowKit
set_option linter.unusedVariables false

theorem own : ownKnob Try.prog.godebug = none := by kernel_rfl
theorem laidOut : laidOutB Try.prog = true := by kernel_rfl
open Rule
theorem dot_bd : ∀ (l w : List Int), (∀ d ∈ l, 0 ≤ d ∧ d ≤ 15) → (∀ x ∈ w, -1000 ≤ x ∧ x ≤ 1000) → -(15000 * (l.length : Int)) ≤ dot l w ∧ dot l w ≤ 15000 * (l.length : Int) := by
  intro l
  induction l with
  | nil => intro w _ _; simp [dot]
  | cons d l ih =>
    intro w hl hw
    cases w with
    | nil => simp only [dot, List.length_cons]; omega
    | cons x w =>
      have h1 := ih w (fun y hy => hl y (by simp [hy])) (fun y hy => hw y (by simp [hy]))
      have h2 := hl d (by simp)
      have h3 := hw x (by simp)
      have h4 := prod_bd h2.1 (show d < 16 by omega) h3.1 h3.2
      show -(15000 * ((l.length + 1 : Nat) : Int)) ≤ d * x + dot l w ∧ d * x + dot l w ≤ 15000 * ((l.length + 1 : Nat) : Int)
      omega
theorem bs_bd {b sign V : Int} {k : Nat} (b1 : 1 ≤ b) (hs : sign = 1 ∨ sign = -1) (V1 : V ≤ 1000000000000) (hk : 0 < k) : ∀ (N : Nat) (l : List Int) (own : Int), l.length ≤ N → (own = 1 ∨ own = -1) → (∀ d ∈ l, 0 ≤ d) → Pl.val b l ≤ V → -(1000000000000 * (l.length : Int)) ≤ bs b sign k own l ∧ bs b sign k own l ≤ 1000000000000 * (l.length : Int) := by
  intro N
  induction N with
  | zero =>
    intro l own hl _ _ _
    rw [bs_end (by omega)]; omega
  | succ N ih =>
    intro l own hl ho hm hv
    by_cases h : 0 < l.length
    · have h1 := val_take_le b1 hm k
      have h2 := Pl.val_drop_le b1 hm k
      have h3 := pm_bd ho h1.1 (by omega)
      have h4 := ih (l.drop k) (own * sign) (by rw [List.length_drop]; omega) (pm_mul ho hs) (fun d hd => hm d (List.mem_of_mem_drop hd)) (by omega)
      rw [bs_step h hk]
      rw [List.length_drop] at h4
      omega
    · rw [bs_end (by omega)]; omega
/-- What the law asks of the weights and the inverse. -/
structure RF (n m b x y t : Int) (g : Bool) : Prop where
  F : Facts n m b
  ex : arV n b (rwV m b 40) = x
  ey : arV n b (swV m b 40) = y
  xb : -600000 ≤ x ∧ x ≤ 600000
  yb : -600000 ≤ y ∧ y ≤ 600000
  tx : ((x - n).tmod m != 0) = false
  ty : ((y - n).tmod m != 0) = false
  et : tfV m b = t
  tb : -1 ≤ t ∧ t ≤ 1000
  tg : ((Int.gcd m b : Int) == 1) = g
  tg2 : decide (0 ≤ t) = g
theorem rf {n m b : Int} (b1 : 2 ≤ b) (b2 : b ≤ 16) (m1 : 2 ≤ m) (m2 : m ≤ 61) (n1 : 0 ≤ n) (n2 : n ≤ 9999999999) : ∃ x y t g, RF n m b x y t g := by
  have F := facts b1 b2 m1 (show m ≤ 1000 by omega) n1 (show n ≤ 1000000000000 by omega)
  have hd := dg_mem16 b1 b2 n1
  have hl := Pl.dg_len40 b1 n1 (show n ≤ 1000000000000 by omega)
  have hx := dot_bd _ (rwV m b 40) hd F.rbd
  have hy := dot_bd _ (swV m b 40) hd (fun d h => ⟨(F.sbd d h).1, (F.sbd d h).2.1⟩)
  have htg := tf_gcd b1 b2 m1 (show m ≤ 1000 by omega)
  have ht : -1 ≤ tfV m b ∧ tfV m b ≤ 1000 := by
    by_cases h : 0 ≤ tfV m b
    · have := (chain b1 b2 m1 (show m ≤ 1000 by omega) n1 (show n ≤ 1000000000000 by omega) h).2.1
      omega
    · have : tfV m b = -1 := by
        rw [tfV, inB_mk b1 b2, inB_mk m1 (show m ≤ 1000 by omega)] at h ⊢
        simp only [Bool.and_self, if_true] at h ⊢
        unfold Pl.invV at h ⊢
        split at h
        · exact absurd (Int.emod_nonneg _ (by omega)) h
        · rename_i h'; rw [if_neg h']
      omega
  refine ⟨_, _, _, (Int.gcd m b : Int) == 1, F, rfl, rfl, ?_, ?_, ?_, ?_, rfl, ht, rfl, ?_⟩
  · rw [arV, if_pos F.arB1]; omega
  · rw [arV, if_pos F.arB2]; omega
  · rw [bne_eq_false_iff_eq]; exact Int.tmod_eq_zero_of_dvd F.d1
  · rw [bne_eq_false_iff_eq]; exact Int.tmod_eq_zero_of_dvd F.d2
  · rw [Bool.eq_iff_iff, decide_eq_true_eq, beq_iff_eq, htg]; omega
/-- What it asks of the chain. -/
structure CF (n m b t : Int) (c : List Int) (u : Bool) : Prop where
  hc : tcV n m b = c
  c0 : c.getD 0 0 = n
  len : 0 < c.length ∧ c.length ≤ 40
  inv : (t * b % m != 1) = false
  tb2 : 0 ≤ t * b ∧ t * b ≤ 16000
  hu : (n % m == 0) = u
  bd : ∀ i, i < c.length → 0 ≤ c.getD i 0 ∧ c.getD i 0 ≤ 1000000000000
  dv : ∀ i, i < c.length → (c.getD i 0 % m == 0) = u
  nx : ∀ i, 0 < i → i < c.length → trimV (c.getD (i - 1) 0) b t = c.getD i 0
theorem cf {n m b t : Int} (b1 : 2 ≤ b) (b2 : b ≤ 16) (m1 : 2 ≤ m) (m2 : m ≤ 61) (n1 : 0 ≤ n) (n2 : n ≤ 9999999999) (h : tfV m b = t) (t0 : 0 ≤ t) : ∃ c u, CF n m b t c u := by
  have C := chain b1 b2 m1 (show m ≤ 1000 by omega) n1 (show n ≤ 1000000000000 by omega) (by rw [h]; exact t0)
  rw [h] at C
  obtain ⟨c1, c2, c3, c4, c5, c6⟩ := C
  have e1 : 0 ≤ t * b := Int.mul_nonneg t0 (by omega)
  have e2 : t * b ≤ 1000 * 16 := Int.mul_le_mul c2 b2 (by omega) (by omega)
  refine ⟨_, (n % m == 0), rfl, c3, ⟨c4, c5⟩, by rw [c1]; rfl, ⟨e1, by omega⟩, rfl, fun i hi => (c6 i hi).1, fun i hi => ?_, fun i h0 hi => ?_⟩
  · rw [Bool.eq_iff_iff, beq_iff_eq, beq_iff_eq]
    have := (c6 i hi).2.1
    rwa [Int.dvd_iff_emod_eq_zero, Int.dvd_iff_emod_eq_zero] at this
  · have hp := (c6 (i - 1) (by omega)).1
    rw [trimV_in b1 b2 t0 c2 hp.1 hp.2]
    exact ((c6 i hi).2.2 h0).symm
/-- What it asks of the blocks. -/
structure BF (n m b k sign s d a : Int) : Prop where
  ek : (blkV m b).1 = k
  es : (blkV m b).2 = sign
  kb : 0 ≤ k ∧ k ≤ 40
  sb : -1 ≤ sign ∧ sign ≤ 1
  no : ¬ 0 < k → sign = 0
  s1 : 0 < k → sign = 1 ∨ sign = -1
  yes : 0 < k → blkB n b k sign = true
  hs : blkS n b k sign = s
  sbd : -40000000000000 ≤ s ∧ s ≤ 40000000000000
  st : 0 < k → ((s - n).tmod m != 0) = false
  d1 : blkB n b 1 1 = true
  a1 : blkB n b 1 (-1) = true
  ed : blkS n b 1 1 = d
  ea : blkS n b 1 (-1) = a
  dd : Pl.sm (Pl.dg b n) = d
  aa : altV n b = a
theorem bf {n m b : Int} (b1 : 2 ≤ b) (b2 : b ≤ 16) (m1 : 2 ≤ m) (m2 : m ≤ 61) (n1 : 0 ≤ n) (n2 : n ≤ 9999999999) : ∃ k sign s d a, BF n m b k sign s d a := by
  have B := blkV_facts b1 b2 m1 (show m ≤ 1000 by omega)
  have hb := inB_mk b1 b2
  have hn := inB_mk n1 (show n ≤ 1000000000000 by omega)
  have hl := Pl.dg_len40 b1 n1 (show n ≤ 1000000000000 by omega)
  have hm := dg_mem16 b1 b2 n1
  obtain ⟨k, hk⟩ : ∃ k, (blkV m b).1 = k := ⟨_, rfl⟩
  obtain ⟨sign, hs⟩ : ∃ sign, (blkV m b).2 = sign := ⟨_, rfl⟩
  rw [hk, hs] at B
  obtain ⟨B1, B2, B3⟩ := B
  have hyes : 0 < k → blkB n b k sign = true := fun h => by
    unfold blkB
    rw [hb, hn, inB_mk (show 1 ≤ k by omega) B1.2]
    have := (B2 h).1
    simpa using this
  have h1 : blkB n b 1 1 = true := by unfold blkB; rw [hb, hn]; decide
  have h2 : blkB n b 1 (-1) = true := by unfold blkB; rw [hb, hn]; decide
  refine ⟨k, sign, blkS n b k sign, blkS n b 1 1, blkS n b 1 (-1), hk, hs, B1, ?_, B3, fun h => (B2 h).1, hyes, rfl, ?_, fun h => ?_, h1, h2, rfl, rfl, ?_, ?_⟩
  · by_cases h : 0 < k
    · have := (B2 h).1; omega
    · have := B3 h; omega
  · by_cases h : blkB n b k sign = true
    · unfold blkS
      rw [if_pos h]
      by_cases h0 : 0 < k
      · have := bs_bd (b := b) (k := k.toNat) (V := n) (by omega) (B2 h0).1 (by omega) (by omega) _ (Pl.dg b n) 1 (Nat.le_refl _) (.inl rfl) (fun d hd => (hm d hd).1) (by rw [Pl.val_dg b1 n1]; omega)
        omega
      · have hz := B3 h0
        rw [hz] at h
        unfold blkB at h
        simp at h
    · unfold blkS
      rw [if_neg h]; omega
  · rw [bne_eq_false_iff_eq]
    apply Int.tmod_eq_zero_of_dvd
    unfold blkS
    rw [if_pos (hyes h)]
    have := bs_dvd (m := m) (b := b) (sign := sign) (k := k.toNat) (by omega) (B2 h).2 _ (Pl.dg b n) 1 (Nat.le_refl _)
    rwa [Int.one_mul, Pl.val_dg b1 n1] at this
  · unfold blkS
    rw [if_pos h1]
    exact (bs_sm b _).symm
  · unfold blkS altV
    rw [if_pos h2, hb, hn]
    have := bs_alt b (Pl.dg b n) 1
    rw [Int.one_mul] at this
    exact this.symm

set_option maxRecDepth 100000 in
set_option maxHeartbeats 2000000 in
theorem walk (a0 : Option Addr) (len0 cap0 : Nat) (z0 : List Int) (w : World) (w0 : IsRow .u8 w a0 len0 cap0 z0) :
    Calls Try.prog 4 #[.slice a0 len0 cap0] w fun e w' => e = .returned (.bool true) ∧ Below w.heap.size w w' := by
  by_cases hbig : 1048576 < len0
  · go_enter Try.func4, Try.ntmps4
    go_wp2
    go_ret
    exact ⟨rfl, Below.refl _ _⟩
  have HR := Lib.hid w0.brd
  clear w0
  go_enter Try.func4, Try.ntmps4
  go_wp2_with fail
  refine (makeBase _ _ _ 0 _ HR.out (by omega) (by omega) (by omega)).mono ?_
  rintro e w1 ⟨⟨b, b1, b2, rfl⟩, hb1⟩
  have HB1 := Lib.hid hb1
  clear hb1
  go_wp2_with fail
  refine (makeNum _ _ _ 2 _ (HR.out.below HB1.out (Nat.le_refl _)) (by omega) (by omega) (by omega)).mono ?_
  rintro e w2 ⟨⟨y0, y1, y2, rfl⟩, hb2⟩
  have HB2 := Lib.hid (HB1.out.trans (hb2.mono HB1.out.size))
  clear hb2
  have m1 : 2 ≤ 2 + y0 % 60 := by omega
  have m2 : 2 + y0 % 60 ≤ 61 := by omega
  go_wp2_with fail
  generalize 2 + y0 % 60 = m at *
  refine (makeNumber _ _ _ 4 _ (HR.out.below HB2.out (Nat.le_refl _)) (by omega) (by omega) (by omega)).mono ?_
  rintro e w3 ⟨⟨n, n1, n2, rfl⟩, hb3⟩
  have HB3 := Lib.hid (HB2.out.trans (hb3.mono HB2.out.size))
  clear hb3
  obtain ⟨x, y, t, g, F⟩ := rf b1 b2 m1 m2 n1 n2
  have HF := Lib.hid F
  have ⟨xb1, xb2⟩ := F.xb
  have ⟨yb1, yb2⟩ := F.yb
  have tx := F.tx
  have ty := F.ty
  have ⟨tb1, tb2⟩ := F.tb
  have tg := F.tg
  have tg2 := F.tg2
  obtain ⟨lw, hlw⟩ : ∃ lw, rwV m b 40 = lw := ⟨_, rfl⟩
  obtain ⟨lv, hlv⟩ : ∃ lv, swV m b 40 = lv := ⟨_, rfl⟩
  have hw40 : lw.length = 40 := hlw ▸ F.F.rlen
  have hv40 : lv.length = 40 := hlv ▸ F.F.slen
  have HLW := Lib.hid hlw
  have HLV := Lib.hid hlv
  have HV2 := Lib.hid (hlv ▸ F.F.sbd)
  have HA1 := Lib.hid (show arB n b lw = true from hlw ▸ F.F.arB1)
  have HA2 := Lib.hid (show arB n b lv = true from hlv ▸ F.F.arB2)
  have HX1 := Lib.hid (show arV n b lw = x from hlw ▸ F.ex)
  have HX2 := Lib.hid (show arV n b lv = y from hlv ▸ F.ey)
  have HI1 := Lib.hid (show irV lw m b = true from hlw ▸ F.F.ir1)
  have HI2 := Lib.hid (show irV lv m b = true from hlv ▸ F.F.ir2)
  have HW40 := Lib.hid hw40
  have HV40 := Lib.hid hv40
  clear F hlw hlv hw40 hv40
  go_wp2_with fail
  refine (iRuleW _ _ _ _).mono ?_
  rintro e w4 ⟨v, rfl, hown, hb4⟩
  rw [HLW.out] at hown
  obtain ⟨ao, cap, rfl, hrd⟩ := hown.shape
  rw [HW40.out] at ⊢
  have HRW := Lib.hid hrd
  have HB4 := Lib.hid (HB3.out.trans (hb4.mono HB3.out.size))
  have hcapw : 40 ≤ cap := HW40.out ▸ hrd.1
  clear hown hb4 hrd
  go_wp2_with fail
  refine (iSmallW _ _ _ _).mono ?_
  rintro e w5 ⟨v, rfl, hown, hb5⟩
  rw [HLV.out] at hown
  obtain ⟨ao2, cap2, rfl, hrd2⟩ := hown.shape
  rw [HV40.out] at ⊢
  have HRW5 := Lib.hid (HRW.out.below hb5 (Nat.le_refl _))
  have HRV5 := Lib.hid hrd2
  have HB5 := Lib.hid (HB4.out.trans (hb5.mono HB4.out.size))
  have hcapv : 40 ≤ cap2 := HV40.out ▸ hrd2.1
  have hcapv2 := hrd2.2.1
  unfold maxLen at hcapv2
  clear hown hb5 hrd2 HRW
  go_wp2_with fail
  refine (as_ib HX1.out HA1.out (iApply n b lw 40 HW40.out.symm _ _ _ HRW5.out)).mono ?_
  rintro e w6 ⟨rfl, hb6⟩
  have HRW6 := Lib.hid (HRW5.out.below hb6 (Nat.le_refl _))
  have HRV6 := Lib.hid (HRV5.out.below hb6 (Nat.le_refl _))
  have HB6 := Lib.hid (HB5.out.trans (hb6.mono HB5.out.size))
  clear hb6 HRW5 HRV5
  go_wp2_with fail
  refine (as_ib HX2.out HA2.out (iApply n b lv 40 HV40.out.symm _ _ _ HRV6.out)).mono ?_
  rintro e w7 ⟨rfl, hb7⟩
  have HRW7 := Lib.hid (HRW6.out.below hb7 (Nat.le_refl _))
  have HRV7 := Lib.hid (HRV6.out.below hb7 (Nat.le_refl _))
  have HB7 := Lib.hid (HB6.out.trans (hb7.mono HB6.out.size))
  clear hb7 HRW6 HRV6
  go_wp2_with fail
  refine (as_bool HI1.out (iIsRule lw 40 HW40.out.symm _ _ _ _ _ HRW7.out)).mono ?_
  rintro e w8 ⟨rfl, hb8⟩
  have HRV8 := Lib.hid (HRV7.out.below hb8 (Nat.le_refl _))
  have HB8 := Lib.hid (HB7.out.trans (hb8.mono HB7.out.size))
  clear hb8 HRV7 HRW7
  go_wp2_with fail
  refine (as_bool HI2.out (iIsRule lv 40 HV40.out.symm _ _ _ _ _ HRV8.out)).mono ?_
  rintro e w9 ⟨rfl, hb9⟩
  have HRV9 := Lib.hid (HRV8.out.below hb9 (Nat.le_refl _))
  have HB9 := Lib.hid (HB8.out.trans (hb9.mono HB8.out.size))
  clear hb9 HRV8
  go_wp2_with fail
  go_loop [100] (fun vi => ∃ i : Nat, i ≤ 40 ∧ vi = .int .i64 i) (fun vi => 40 - (intOf vi).toNat)
  case atStart => exact ⟨0, Nat.zero_le _, rfl⟩
  case round =>
    obtain ⟨i, hi, rfl⟩ := hrel
    by_cases hlt : i < 40
    · obtain ⟨g1, off, rfl, _, hc⟩ := HRV9.out.at (show i < lv.length by rw [HV40.out]; exact hlt)
      have ⟨z1, z2, z3, z4⟩ := HV2.out _ (Pl.getD_mem (show i < lv.length by rw [HV40.out]; exact hlt))
      generalize lv.getD i 0 = z at *
      go_wp2
      go_round
      case rel => exact ⟨i + 1, by omega, by go_num⟩
      case measure => simp [intOf]; omega
    · have hil : ¬ i < 40 := hlt
      clear tx ty xb1 xb2 yb1 yb2
      go_wp2_with fail
      refine (as_int HF.out.et (iTrimFactor _ _ _)).mono ?_
      rintro e w10 ⟨rfl, hb10⟩
      have HB10 := Lib.hid (HB9.out.trans (hb10.mono HB9.out.size))
      clear hb10
      go_wp2_with fail
      refine (iGcd m b _ (by omega) (by omega) b1 b2).mono ?_
      rintro e w11 ⟨rfl, hb11⟩
      have HB11 := Lib.hid (HB10.out.trans (hb11.mono HB10.out.size))
      have HFin := Lib.hid (Below.refl w11.heap.size w11)
      clear hb11
      go_upto_region 21 with fail
      clear tg tg2
      go_upto_if 127 with fail
      go_cut [2, 15, 16, 17] from 119 to 187 (fun _ _ _ _ wx => Below w11.heap.size w11 wx)
      case first =>
        by_cases ht : 0 ≤ t
        · have hd : decide (0 ≤ t) = true := by simpa using ht
          obtain ⟨c, u, C⟩ := cf b1 b2 m1 m2 n1 n2 HF.out.et ht
          have HC := Lib.hid C
          have ⟨c1, c2⟩ := C.len
          have hinv := C.inv
          have ⟨tb3, tb4⟩ := C.tb2
          have hu := C.hu
          clear C
          go_wp2_with fail
          refine (iTrimC n m b _).mono ?_
          rintro e w12 ⟨v, rfl, hown, hb12⟩
          rw [HC.out.hc] at hown
          obtain ⟨ao3, cap3, rfl, hrd3⟩ := hown.shape
          have HRD := Lib.hid hrd3
          have HB12 := Lib.hid hb12
          have hcap3 := hrd3.1
          have hcap4 := hrd3.2.1
          unfold maxLen at hcap4
          obtain ⟨g1, off, rfl, hg, hc0⟩ := hrd3.at (show 0 < c.length from c1)
          rw [HC.out.c0] at hc0
          have hc0' : w12.cell? ⟨g1, off, none⟩ = some (.int .i64 n) := hc0
          have hl0 : ((c.length : Int) == 0) = false := by rw [beq_eq_false_iff_ne]; omega
          have hnn : (n != n) = false := by simp
          clear hown hb12 hrd3 hc0
          go_wp2_with fail
          clear hc0' hinv
          go_loopw [152] (fun vi wr => ∃ i : Nat, i ≤ c.length ∧ vi = .int .i64 i ∧ Below w12.heap.size w12 wr) (fun vi _ => c.length - (intOf vi).toNat)
          case atStart => exact ⟨0, Nat.zero_le _, rfl, Below.refl _ _⟩
          case round =>
            obtain ⟨i', hi', rfl, hbel⟩ := hrel
            have HB13 := Lib.hid hbel
            have HRD13 := Lib.hid (HRD.out.below hbel (Nat.le_refl _))
            clear hbel
            by_cases hlt2 : i' < c.length
            · obtain ⟨g', off', eg, _, hc1⟩ := HRD13.out.at hlt2
              simp only [Option.some.injEq, Addr.mk.injEq, and_true] at eg
              obtain ⟨rfl, rfl⟩ := eg
              have ⟨z1, z2⟩ := HC.out.bd i' hlt2
              have hzu := HC.out.dv i' hlt2
              have hnx := HC.out.nx i'
              have hprev : 0 < i' → ∃ z', w12.cell? ⟨g1, off + (i' - 1), none⟩ = some (.int .i64 z') ∧ trimV z' b t = c.getD i' 0 := fun h => by
                obtain ⟨g', off', eg, _, hcp⟩ := HRD.out.at (show i' - 1 < c.length by omega)
                simp only [Option.some.injEq, Addr.mk.injEq, and_true] at eg
                obtain ⟨rfl, rfl⟩ := eg
                exact ⟨_, hcp, hnx h hlt2⟩
              clear hnx
              generalize c.getD i' 0 = z at *
              have HW1 := Lib.hid (show z.tmod m = z % m from Int.tmod_eq_emod_of_nonneg z1)
              have HW2 := Lib.hid (show n.tmod m = n % m from Int.tmod_eq_emod_of_nonneg n1)
              have HW3 := Lib.hid (show ¬ (m = 0) by omega)
              have hd1 : decide (z < 0) = false := by simp; omega
              have huu : (u != u) = false := by simp
              have hzz : (z != z) = false := by simp
              go_upto_region 28 with fail
              go_cut [185] from 157 to 186 (fun v wx => v = .bool false ∧ Below w12.heap.size w12 wx)
              case first =>
                by_cases h0 : 0 < i'
                · obtain ⟨z', hcp, htv⟩ := hprev h0
                  have HTN := Lib.hid (ext_b w12 (fun wx => as_int htv (iTrim_any z' b t wx)))
                  have HS := Lib.hid (show ∀ wx, Below w12.heap.size w12 wx → Below w12.heap.size w12 wx ∧ wx.cell? ⟨g1, off + (i' - 1), none⟩ = some (.int .i64 z') from fun wx hx => ⟨hx, (hx.cell (p := ⟨g1, off + (i' - 1), none⟩) hg).trans hcp⟩)
                  obtain ⟨j, rfl⟩ : ∃ j, i' = j + 1 := ⟨i' - 1, by omega⟩
                  have HW4 : Hid (IntKind.i64.wrap (((j + 1 : Nat) : Int) - 1) = (j : Int)) := Lib.hid ((IntWalk.i64_in _ (by omega)).trans (by omega))
                  have HW5 : Hid (IntKind.i64.wrap (j : Int) = (j : Int)) := Lib.hid (IntWalk.i64_in _ (by omega))
                  have hd2 : decide ((0 : Int) < ((j + 1 : Nat) : Int)) = true := by simp
                  rw [show j + 1 - 1 = j by omega] at HS hcp
                  have hj1 : j < c.length := by omega
                  have hj2 : (j : Int) < (c.length : Int) := by omega
                  have hj3 : (0 : Int) ≤ (j : Int) := by omega
                  have hw1 := HW1.out
                  have hw2 := HW2.out
                  have hw3 := HW3.out
                  have hw4 := HW4.out
                  have hw5 := HW5.out
                  clear hprev htv hcp
                  refine wp_region_held_drew (S := (fun wx => Below w12.heap.size w12 wx ∧ wx.cell? ⟨g1, off + j, none⟩ = some (.int .i64 z'))) (by kernel_rfl) ?hS2000 (fun hHeld => ?hR2000)
                  case hS2000 => ((try dsimp only); (first | exact HS.out _ (Below.drew HB13.out) | exact HS.out _ (by assumption)))
                  refine wpAnyH_take (i := 0) (oi := { dst := some 157, op := Go.Op.move (Go.Operand.tmp 17), type := 3, pos := "laws.go:1068", after := #[], guard := none }) (v := ?v2001) rfl (by kernel_rfl) (by kernel_rfl) (by kernel_rfl) (fun _ _ _ h => h) (Or.inl ⟨by rfl, ?hy2001⟩) (by assumption) ?hr2001
                  case hy2001 => (intro w hSw; (try dsimp only at hSw); go_simp; (try with_reducible rfl))
                  (try simp only [Act.put, List.setIfInBounds_toArray, List.set_cons_zero, List.set_cons_succ])
                  refine wpAnyH_take (i := 1) (oi := { dst := some 158, op := Go.Op.binOp Go.BinOp.lss 3 (Go.Operand.tmp 157) (Go.Operand.const (Go.Value.int Go.IntKind.i64 0)) 3, type := 4, pos := "laws.go:1068", after := #[{ on := 0, ground := Go.Ground.data }], guard := none }) (v := ?v2002) rfl (by kernel_rfl) (by kernel_rfl) (by kernel_rfl) (fun _ _ _ h => h) (Or.inl ⟨by rfl, ?hy2002⟩) (by assumption) ?hr2002
                  case hy2002 => (intro w hSw; (try dsimp only at hSw); go_simp; (try with_reducible rfl))
                  (try simp only [Act.put, List.setIfInBounds_toArray, List.set_cons_zero, List.set_cons_succ])
                  refine wpAnyH_take (i := 2) (oi := { dst := some 159, op := Go.Op.move (Go.Operand.tmp 158), type := 4, pos := "laws.go:1068", after := #[{ on := 1, ground := Go.Ground.data }], guard := none }) (v := ?v2003) rfl (by kernel_rfl) (by kernel_rfl) (by kernel_rfl) (fun _ _ _ h => h) (Or.inl ⟨by rfl, ?hy2003⟩) (by assumption) ?hr2003
                  case hy2003 => (intro w hSw; (try dsimp only at hSw); go_simp; (try with_reducible rfl))
                  (try simp only [Act.put, List.setIfInBounds_toArray, List.set_cons_zero, List.set_cons_succ])
                  refine wpAnyH_take (i := 3) (oi := { dst := some 160, op := Go.Op.move (Go.Operand.tmp 17), type := 3, pos := "laws.go:1068", after := #[{ on := 2, ground := Go.Ground.guard }], guard := some (2, false) }) (v := ?v2004) rfl (by kernel_rfl) (by kernel_rfl) (by kernel_rfl) (fun _ _ _ h => h) (Or.inl ⟨by rfl, ?hy2004⟩) (by assumption) ?hr2004
                  case hy2004 => (intro w hSw; (try dsimp only at hSw); go_simp; (try with_reducible rfl))
                  (try simp only [Act.put, List.setIfInBounds_toArray, List.set_cons_zero, List.set_cons_succ])
                  refine wpAnyH_take (i := 4) (oi := { dst := some 161, op := Go.Op.move (Go.Operand.tmp 4), type := 3, pos := "laws.go:1068", after := #[{ on := 2, ground := Go.Ground.guard }], guard := some (2, false) }) (v := ?v2005) rfl (by kernel_rfl) (by kernel_rfl) (by kernel_rfl) (fun _ _ _ h => h) (Or.inl ⟨by rfl, ?hy2005⟩) (by assumption) ?hr2005
                  case hy2005 => (intro w hSw; (try dsimp only at hSw); go_simp; (try with_reducible rfl))
                  (try simp only [Act.put, List.setIfInBounds_toArray, List.set_cons_zero, List.set_cons_succ])
                  refine wpAnyH_take (i := 5) (oi := { dst := some 162, op := Go.Op.binOp Go.BinOp.rem 3 (Go.Operand.tmp 160) (Go.Operand.tmp 161) 3, type := 3, pos := "laws.go:1068", after := #[{ on := 3, ground := Go.Ground.data }, { on := 4, ground := Go.Ground.data }, { on := 2, ground := Go.Ground.guard }], guard := some (2, false) }) (v := ?v2006) rfl (by kernel_rfl) (by kernel_rfl) (by kernel_rfl) (fun _ _ _ h => h) (Or.inl ⟨by rfl, ?hy2006⟩) (by assumption) ?hr2006
                  case hy2006 => (intro w hSw; (try dsimp only at hSw); go_simp; (try with_reducible rfl))
                  (try simp only [Act.put, List.setIfInBounds_toArray, List.set_cons_zero, List.set_cons_succ])
                  refine wpAnyH_take (i := 6) (oi := { dst := some 163, op := Go.Op.binOp Go.BinOp.eql 3 (Go.Operand.tmp 162) (Go.Operand.const (Go.Value.int Go.IntKind.i64 0)) 3, type := 4, pos := "laws.go:1068", after := #[{ on := 5, ground := Go.Ground.data }, { on := 2, ground := Go.Ground.guard }], guard := some (2, false) }) (v := ?v2007) rfl (by kernel_rfl) (by kernel_rfl) (by kernel_rfl) (fun _ _ _ h => h) (Or.inl ⟨by rfl, ?hy2007⟩) (by assumption) ?hr2007
                  case hy2007 => (intro w hSw; (try dsimp only at hSw); go_simp; (try with_reducible rfl))
                  (try simp only [Act.put, List.setIfInBounds_toArray, List.set_cons_zero, List.set_cons_succ])
                  refine wpAnyH_take (i := 7) (oi := { dst := some 164, op := Go.Op.move (Go.Operand.tmp 5), type := 3, pos := "laws.go:1068", after := #[{ on := 2, ground := Go.Ground.guard }], guard := some (2, false) }) (v := ?v2008) rfl (by kernel_rfl) (by kernel_rfl) (by kernel_rfl) (fun _ _ _ h => h) (Or.inl ⟨by rfl, ?hy2008⟩) (by assumption) ?hr2008
                  case hy2008 => (intro w hSw; (try dsimp only at hSw); go_simp; (try with_reducible rfl))
                  (try simp only [Act.put, List.setIfInBounds_toArray, List.set_cons_zero, List.set_cons_succ])
                  refine wpAnyH_take (i := 8) (oi := { dst := some 165, op := Go.Op.move (Go.Operand.tmp 4), type := 3, pos := "laws.go:1068", after := #[{ on := 2, ground := Go.Ground.guard }], guard := some (2, false) }) (v := ?v2009) rfl (by kernel_rfl) (by kernel_rfl) (by kernel_rfl) (fun _ _ _ h => h) (Or.inl ⟨by rfl, ?hy2009⟩) (by assumption) ?hr2009
                  case hy2009 => (intro w hSw; (try dsimp only at hSw); go_simp; (try with_reducible rfl))
                  (try simp only [Act.put, List.setIfInBounds_toArray, List.set_cons_zero, List.set_cons_succ])
                  refine wpAnyH_take (i := 9) (oi := { dst := some 166, op := Go.Op.binOp Go.BinOp.rem 3 (Go.Operand.tmp 164) (Go.Operand.tmp 165) 3, type := 3, pos := "laws.go:1068", after := #[{ on := 7, ground := Go.Ground.data }, { on := 8, ground := Go.Ground.data }, { on := 2, ground := Go.Ground.guard }], guard := some (2, false) }) (v := ?v2010) rfl (by kernel_rfl) (by kernel_rfl) (by kernel_rfl) (fun _ _ _ h => h) (Or.inl ⟨by rfl, ?hy2010⟩) (by assumption) ?hr2010
                  case hy2010 => (intro w hSw; (try dsimp only at hSw); go_simp; (try with_reducible rfl))
                  (try simp only [Act.put, List.setIfInBounds_toArray, List.set_cons_zero, List.set_cons_succ])
                  refine wpAnyH_take (i := 10) (oi := { dst := some 167, op := Go.Op.binOp Go.BinOp.eql 3 (Go.Operand.tmp 166) (Go.Operand.const (Go.Value.int Go.IntKind.i64 0)) 3, type := 4, pos := "laws.go:1068", after := #[{ on := 9, ground := Go.Ground.data }, { on := 2, ground := Go.Ground.guard }], guard := some (2, false) }) (v := ?v2011) rfl (by kernel_rfl) (by kernel_rfl) (by kernel_rfl) (fun _ _ _ h => h) (Or.inl ⟨by rfl, ?hy2011⟩) (by assumption) ?hr2011
                  case hy2011 => (intro w hSw; (try dsimp only at hSw); go_simp; (try with_reducible rfl))
                  (try simp only [Act.put, List.setIfInBounds_toArray, List.set_cons_zero, List.set_cons_succ])
                  refine wpAnyH_take (i := 11) (oi := { dst := some 168, op := Go.Op.binOp Go.BinOp.neq 4 (Go.Operand.tmp 163) (Go.Operand.tmp 167) 4, type := 4, pos := "laws.go:1068", after := #[{ on := 6, ground := Go.Ground.data }, { on := 10, ground := Go.Ground.data }, { on := 2, ground := Go.Ground.guard }], guard := some (2, false) }) (v := ?v2012) rfl (by kernel_rfl) (by kernel_rfl) (by kernel_rfl) (fun _ _ _ h => h) (Or.inl ⟨by rfl, ?hy2012⟩) (by assumption) ?hr2012
                  case hy2012 => (intro w hSw; (try dsimp only at hSw); go_simp; (try with_reducible rfl))
                  (try simp only [Act.put, List.setIfInBounds_toArray, List.set_cons_zero, List.set_cons_succ])
                  refine wpAnyH_take (i := 12) (oi := { dst := some 169, op := Go.Op.pick (Go.Operand.tmp 159) (Go.Operand.const (Go.Value.bool true)) (Go.Operand.tmp 168), type := 4, pos := "laws.go:1068", after := #[{ on := 2, ground := Go.Ground.data }, { on := 11, ground := Go.Ground.data }], guard := none }) (v := ?v2013) rfl (by kernel_rfl) (by kernel_rfl) (by kernel_rfl) (fun _ _ _ h => h) (Or.inl ⟨by rfl, ?hy2013⟩) (by assumption) ?hr2013
                  case hy2013 => (intro w hSw; (try dsimp only at hSw); go_simp; (try with_reducible rfl))
                  (try simp only [Act.put, List.setIfInBounds_toArray, List.set_cons_zero, List.set_cons_succ])
                  refine wpAnyH_take (i := 13) (oi := { dst := some 170, op := Go.Op.move (Go.Operand.tmp 169), type := 4, pos := "laws.go:1068", after := #[{ on := 12, ground := Go.Ground.data }, { on := 2, ground := Go.Ground.chain }], guard := none }) (v := ?v2014) rfl (by kernel_rfl) (by kernel_rfl) (by kernel_rfl) (fun _ _ _ h => h) (Or.inl ⟨by rfl, ?hy2014⟩) (by assumption) ?hr2014
                  case hy2014 => (intro w hSw; (try dsimp only at hSw); go_simp; (try with_reducible rfl))
                  (try simp only [Act.put, List.setIfInBounds_toArray, List.set_cons_zero, List.set_cons_succ])
                  refine wpAnyH_take (i := 14) (oi := { dst := some 171, op := Go.Op.move (Go.Operand.tmp 16), type := 3, pos := "laws.go:1068", after := #[{ on := 13, ground := Go.Ground.guard }], guard := some (13, false) }) (v := ?v2015) rfl (by kernel_rfl) (by kernel_rfl) (by kernel_rfl) (fun _ _ _ h => h) (Or.inl ⟨by rfl, ?hy2015⟩) (by assumption) ?hr2015
                  case hy2015 => (intro w hSw; (try dsimp only at hSw); go_simp; (try with_reducible rfl))
                  (try simp only [Act.put, List.setIfInBounds_toArray, List.set_cons_zero, List.set_cons_succ])
                  refine wpAnyH_take (i := 15) (oi := { dst := some 172, op := Go.Op.binOp Go.BinOp.gtr 3 (Go.Operand.tmp 171) (Go.Operand.const (Go.Value.int Go.IntKind.i64 0)) 3, type := 4, pos := "laws.go:1068", after := #[{ on := 14, ground := Go.Ground.data }, { on := 13, ground := Go.Ground.guard }], guard := some (13, false) }) (v := ?v2016) rfl (by kernel_rfl) (by kernel_rfl) (by kernel_rfl) (fun _ _ _ h => h) (Or.inl ⟨by rfl, ?hy2016⟩) (by assumption) ?hr2016
                  case hy2016 => (intro w hSw; (try dsimp only at hSw); go_simp; (try with_reducible rfl))
                  (try simp only [Act.put, List.setIfInBounds_toArray, List.set_cons_zero, List.set_cons_succ])
                  refine wpAnyH_take (i := 16) (oi := { dst := some 173, op := Go.Op.move (Go.Operand.tmp 172), type := 4, pos := "laws.go:1068", after := #[{ on := 15, ground := Go.Ground.data }, { on := 13, ground := Go.Ground.chain }, { on := 13, ground := Go.Ground.guard }], guard := some (13, false) }) (v := ?v2017) rfl (by kernel_rfl) (by kernel_rfl) (by kernel_rfl) (fun _ _ _ h => h) (Or.inl ⟨by rfl, ?hy2017⟩) (by assumption) ?hr2017
                  case hy2017 => (intro w hSw; (try dsimp only at hSw); go_simp; (try with_reducible rfl))
                  (try simp only [Act.put, List.setIfInBounds_toArray, List.set_cons_zero, List.set_cons_succ])
                  refine wpAnyH_take (i := 17) (oi := { dst := some 174, op := Go.Op.move (Go.Operand.tmp 17), type := 3, pos := "laws.go:1068", after := #[{ on := 16, ground := Go.Ground.guard }], guard := some (16, true) }) (v := ?v2018) rfl (by kernel_rfl) (by kernel_rfl) (by kernel_rfl) (fun _ _ _ h => h) (Or.inl ⟨by rfl, ?hy2018⟩) (by assumption) ?hr2018
                  case hy2018 => (intro w hSw; (try dsimp only at hSw); go_simp; (try with_reducible rfl))
                  (try simp only [Act.put, List.setIfInBounds_toArray, List.set_cons_zero, List.set_cons_succ])
                  refine wpAnyH_take (i := 18) (oi := { dst := some 175, op := Go.Op.move (Go.Operand.tmp 15), type := 27, pos := "laws.go:1068", after := #[{ on := 16, ground := Go.Ground.guard }], guard := some (16, true) }) (v := ?v2019) rfl (by kernel_rfl) (by kernel_rfl) (by kernel_rfl) (fun _ _ _ h => h) (Or.inl ⟨by rfl, ?hy2019⟩) (by assumption) ?hr2019
                  case hy2019 => (intro w hSw; (try dsimp only at hSw); go_simp; (try with_reducible rfl))
                  (try simp only [Act.put, List.setIfInBounds_toArray, List.set_cons_zero, List.set_cons_succ])
                  refine wpAnyH_take (i := 19) (oi := { dst := some 176, op := Go.Op.move (Go.Operand.tmp 16), type := 3, pos := "laws.go:1068", after := #[{ on := 16, ground := Go.Ground.guard }], guard := some (16, true) }) (v := ?v2020) rfl (by kernel_rfl) (by kernel_rfl) (by kernel_rfl) (fun _ _ _ h => h) (Or.inl ⟨by rfl, ?hy2020⟩) (by assumption) ?hr2020
                  case hy2020 => (intro w hSw; (try dsimp only at hSw); go_simp; (try with_reducible rfl))
                  (try simp only [Act.put, List.setIfInBounds_toArray, List.set_cons_zero, List.set_cons_succ])
                  refine wpAnyH_take (i := 20) (oi := { dst := some 177, op := Go.Op.binOp Go.BinOp.sub 3 (Go.Operand.tmp 176) (Go.Operand.const (Go.Value.int Go.IntKind.i64 1)) 3, type := 3, pos := "laws.go:1068", after := #[{ on := 19, ground := Go.Ground.data }, { on := 16, ground := Go.Ground.guard }], guard := some (16, true) }) (v := ?v2021) rfl (by kernel_rfl) (by kernel_rfl) (by kernel_rfl) (fun _ _ _ h => h) (Or.inl ⟨by rfl, ?hy2021⟩) (by assumption) ?hr2021
                  case hy2021 => (intro w hSw; (try dsimp only at hSw); go_simp; (try with_reducible rfl))
                  (try simp only [Act.put, List.setIfInBounds_toArray, List.set_cons_zero, List.set_cons_succ])
                  refine wpAnyH_take (i := 21) (oi := { dst := some 178, op := Go.Op.indexAddr 27 (Go.Operand.tmp 175) (Go.Operand.tmp 177), type := 0, pos := "laws.go:1068", after := #[{ on := 18, ground := Go.Ground.data }, { on := 20, ground := Go.Ground.data }, { on := 16, ground := Go.Ground.guard }], guard := some (16, true) }) (v := ?v2022) rfl (by kernel_rfl) (by kernel_rfl) (by kernel_rfl) (fun _ _ _ h => h) (Or.inl ⟨by rfl, ?hy2022⟩) (by assumption) ?hr2022
                  case hy2022 => (intro w hSw; (try dsimp only at hSw); go_simp; (try with_reducible rfl))
                  (try simp only [Act.put, List.setIfInBounds_toArray, List.set_cons_zero, List.set_cons_succ])
                  refine wpAnyH_take (i := 22) (oi := { dst := some 179, op := Go.Op.load 3 (Go.Operand.tmp 178), type := 3, pos := "laws.go:1068", after := #[{ on := 21, ground := Go.Ground.data }, { on := 16, ground := Go.Ground.guard }], guard := some (16, true) }) (v := ?v2023) rfl (by kernel_rfl) (by kernel_rfl) (by kernel_rfl) (fun _ _ _ h => h) (Or.inl ⟨by rfl, ?hy2023⟩) (by assumption) ?hr2023
                  case hy2023 => (intro w hSw; (try dsimp only at hSw); go_simp; (try with_reducible rfl))
                  (try simp only [Act.put, List.setIfInBounds_toArray, List.set_cons_zero, List.set_cons_succ])
                  refine wpAnyH_take (i := 23) (oi := { dst := some 180, op := Go.Op.move (Go.Operand.tmp 3), type := 3, pos := "laws.go:1068", after := #[{ on := 16, ground := Go.Ground.guard }], guard := some (16, true) }) (v := ?v2024) rfl (by kernel_rfl) (by kernel_rfl) (by kernel_rfl) (fun _ _ _ h => h) (Or.inl ⟨by rfl, ?hy2024⟩) (by assumption) ?hr2024
                  case hy2024 => (intro w hSw; (try dsimp only at hSw); go_simp; (try with_reducible rfl))
                  (try simp only [Act.put, List.setIfInBounds_toArray, List.set_cons_zero, List.set_cons_succ])
                  refine wpAnyH_take (i := 24) (oi := { dst := some 181, op := Go.Op.move (Go.Operand.tmp 14), type := 3, pos := "laws.go:1068", after := #[{ on := 16, ground := Go.Ground.guard }], guard := some (16, true) }) (v := ?v2025) rfl (by kernel_rfl) (by kernel_rfl) (by kernel_rfl) (fun _ _ _ h => h) (Or.inl ⟨by rfl, ?hy2025⟩) (by assumption) ?hr2025
                  case hy2025 => (intro w hSw; (try dsimp only at hSw); go_simp; (try with_reducible rfl))
                  (try simp only [Act.put, List.setIfInBounds_toArray, List.set_cons_zero, List.set_cons_succ])
                  refine wpAnyH_ready (rs := [25]) (by kernel_rfl) (by simp) ?_
                  refine AllReadyH.cons (o := { dst := some 182, op := Go.Op.call { callee := Go.Callee.value (Go.Operand.func 18), args := #[Go.Operand.tmp 179, Go.Operand.tmp 180, Go.Operand.tmp 181], argTypes := #[3, 3, 3] }, type := 3, pos := "laws.go:1068", after := #[{ on := 22, ground := Go.Ground.data }, { on := 23, ground := Go.Ground.data }, { on := 24, ground := Go.Ground.data }, { on := 16, ground := Go.Ground.chain }, { on := 16, ground := Go.Ground.guard }], guard := some (16, true) }) rfl (fun K hK => ?_) AllReadyH.nil
                  go_simp
                  (go_at_call 18; refine (HTN.out _ (by exact hHeld.1)).mono ?_; rintro e' w14 ⟨rfl, hb14⟩)
                  (try go_wp2_with fail)
                  refine hK.out _ _ ?hS2026 (fun hHeld => ?hR2026)
                  case hS2026 => ((try dsimp only); (first | exact HS.out _ (Below.drew HB13.out) | exact HS.out _ (by assumption)))
                  clear hK K
                  (try simp only [Act.put, List.setIfInBounds_toArray, List.set_cons_zero, List.set_cons_succ])
                  refine wpAnyH_take (i := 26) (oi := { dst := some 183, op := Go.Op.binOp Go.BinOp.neq 3 (Go.Operand.tmp 174) (Go.Operand.tmp 182) 3, type := 4, pos := "laws.go:1068", after := #[{ on := 17, ground := Go.Ground.data }, { on := 25, ground := Go.Ground.data }, { on := 16, ground := Go.Ground.guard }], guard := some (16, true) }) (v := ?v2027) rfl (by kernel_rfl) (by kernel_rfl) (by kernel_rfl) (fun _ _ _ h => h) (Or.inl ⟨by rfl, ?hy2027⟩) (by assumption) ?hr2027
                  case hy2027 => (intro w hSw; (try dsimp only at hSw); go_simp; (try with_reducible rfl))
                  (try simp only [Act.put, List.setIfInBounds_toArray, List.set_cons_zero, List.set_cons_succ])
                  refine wpAnyH_take (i := 27) (oi := { dst := some 184, op := Go.Op.pick (Go.Operand.tmp 173) (Go.Operand.tmp 183) (Go.Operand.const (Go.Value.bool false)), type := 4, pos := "laws.go:1068", after := #[{ on := 16, ground := Go.Ground.data }, { on := 26, ground := Go.Ground.data }, { on := 13, ground := Go.Ground.guard }], guard := some (13, false) }) (v := ?v2028) rfl (by kernel_rfl) (by kernel_rfl) (by kernel_rfl) (fun _ _ _ h => h) (Or.inl ⟨by rfl, ?hy2028⟩) (by assumption) ?hr2028
                  case hy2028 => (intro w hSw; (try dsimp only at hSw); go_simp; (try with_reducible rfl))
                  (try simp only [Act.put, List.setIfInBounds_toArray, List.set_cons_zero, List.set_cons_succ])
                  refine wpAnyH_take (i := 28) (oi := { dst := some 185, op := Go.Op.pick (Go.Operand.tmp 170) (Go.Operand.const (Go.Value.bool true)) (Go.Operand.tmp 184), type := 4, pos := "laws.go:1068", after := #[{ on := 13, ground := Go.Ground.data }, { on := 27, ground := Go.Ground.data }], guard := none }) (v := ?v2029) rfl (by kernel_rfl) (by kernel_rfl) (by kernel_rfl) (fun _ _ _ h => h) (Or.inl ⟨by rfl, ?hy2029⟩) (by assumption) ?hr2029
                  case hy2029 => (intro w hSw; (try dsimp only at hSw); go_simp; (try with_reducible rfl))
                  (try simp only [Act.put, List.setIfInBounds_toArray, List.set_cons_zero, List.set_cons_succ])
                  refine wpAnyH_done (by kernel_rfl) ?_ _
                  go_wp2_with fail
                  go_meet
                  exact ⟨rfl, hb14⟩
                · obtain rfl : i' = 0 := by omega
                  have hw1 := HW1.out
                  have hw2 := HW2.out
                  have hw3 := HW3.out
                  clear hprev
                  refine wp_region_held_drew (S := (fun wx => Below w12.heap.size w12 wx)) (by kernel_rfl) ?hS3000 (fun hHeld => ?hR3000)
                  case hS3000 => ((try dsimp only); (first | exact Below.drew HB13.out | assumption))
                  refine wpAnyH_take (i := 0) (oi := { dst := some 157, op := Go.Op.move (Go.Operand.tmp 17), type := 3, pos := "laws.go:1068", after := #[], guard := none }) (v := ?v3001) rfl (by kernel_rfl) (by kernel_rfl) (by kernel_rfl) (fun _ _ _ h => h) (Or.inl ⟨by rfl, ?hy3001⟩) (by assumption) ?hr3001
                  case hy3001 => (intro w hSw; (try dsimp only at hSw); go_simp; (try with_reducible rfl))
                  (try simp only [Act.put, List.setIfInBounds_toArray, List.set_cons_zero, List.set_cons_succ])
                  refine wpAnyH_take (i := 1) (oi := { dst := some 158, op := Go.Op.binOp Go.BinOp.lss 3 (Go.Operand.tmp 157) (Go.Operand.const (Go.Value.int Go.IntKind.i64 0)) 3, type := 4, pos := "laws.go:1068", after := #[{ on := 0, ground := Go.Ground.data }], guard := none }) (v := ?v3002) rfl (by kernel_rfl) (by kernel_rfl) (by kernel_rfl) (fun _ _ _ h => h) (Or.inl ⟨by rfl, ?hy3002⟩) (by assumption) ?hr3002
                  case hy3002 => (intro w hSw; (try dsimp only at hSw); go_simp; (try with_reducible rfl))
                  (try simp only [Act.put, List.setIfInBounds_toArray, List.set_cons_zero, List.set_cons_succ])
                  refine wpAnyH_take (i := 2) (oi := { dst := some 159, op := Go.Op.move (Go.Operand.tmp 158), type := 4, pos := "laws.go:1068", after := #[{ on := 1, ground := Go.Ground.data }], guard := none }) (v := ?v3003) rfl (by kernel_rfl) (by kernel_rfl) (by kernel_rfl) (fun _ _ _ h => h) (Or.inl ⟨by rfl, ?hy3003⟩) (by assumption) ?hr3003
                  case hy3003 => (intro w hSw; (try dsimp only at hSw); go_simp; (try with_reducible rfl))
                  (try simp only [Act.put, List.setIfInBounds_toArray, List.set_cons_zero, List.set_cons_succ])
                  refine wpAnyH_take (i := 3) (oi := { dst := some 160, op := Go.Op.move (Go.Operand.tmp 17), type := 3, pos := "laws.go:1068", after := #[{ on := 2, ground := Go.Ground.guard }], guard := some (2, false) }) (v := ?v3004) rfl (by kernel_rfl) (by kernel_rfl) (by kernel_rfl) (fun _ _ _ h => h) (Or.inl ⟨by rfl, ?hy3004⟩) (by assumption) ?hr3004
                  case hy3004 => (intro w hSw; (try dsimp only at hSw); go_simp; (try with_reducible rfl))
                  (try simp only [Act.put, List.setIfInBounds_toArray, List.set_cons_zero, List.set_cons_succ])
                  refine wpAnyH_take (i := 4) (oi := { dst := some 161, op := Go.Op.move (Go.Operand.tmp 4), type := 3, pos := "laws.go:1068", after := #[{ on := 2, ground := Go.Ground.guard }], guard := some (2, false) }) (v := ?v3005) rfl (by kernel_rfl) (by kernel_rfl) (by kernel_rfl) (fun _ _ _ h => h) (Or.inl ⟨by rfl, ?hy3005⟩) (by assumption) ?hr3005
                  case hy3005 => (intro w hSw; (try dsimp only at hSw); go_simp; (try with_reducible rfl))
                  (try simp only [Act.put, List.setIfInBounds_toArray, List.set_cons_zero, List.set_cons_succ])
                  refine wpAnyH_take (i := 5) (oi := { dst := some 162, op := Go.Op.binOp Go.BinOp.rem 3 (Go.Operand.tmp 160) (Go.Operand.tmp 161) 3, type := 3, pos := "laws.go:1068", after := #[{ on := 3, ground := Go.Ground.data }, { on := 4, ground := Go.Ground.data }, { on := 2, ground := Go.Ground.guard }], guard := some (2, false) }) (v := ?v3006) rfl (by kernel_rfl) (by kernel_rfl) (by kernel_rfl) (fun _ _ _ h => h) (Or.inl ⟨by rfl, ?hy3006⟩) (by assumption) ?hr3006
                  case hy3006 => (intro w hSw; (try dsimp only at hSw); go_simp; (try with_reducible rfl))
                  (try simp only [Act.put, List.setIfInBounds_toArray, List.set_cons_zero, List.set_cons_succ])
                  refine wpAnyH_take (i := 6) (oi := { dst := some 163, op := Go.Op.binOp Go.BinOp.eql 3 (Go.Operand.tmp 162) (Go.Operand.const (Go.Value.int Go.IntKind.i64 0)) 3, type := 4, pos := "laws.go:1068", after := #[{ on := 5, ground := Go.Ground.data }, { on := 2, ground := Go.Ground.guard }], guard := some (2, false) }) (v := ?v3007) rfl (by kernel_rfl) (by kernel_rfl) (by kernel_rfl) (fun _ _ _ h => h) (Or.inl ⟨by rfl, ?hy3007⟩) (by assumption) ?hr3007
                  case hy3007 => (intro w hSw; (try dsimp only at hSw); go_simp; (try with_reducible rfl))
                  (try simp only [Act.put, List.setIfInBounds_toArray, List.set_cons_zero, List.set_cons_succ])
                  refine wpAnyH_take (i := 7) (oi := { dst := some 164, op := Go.Op.move (Go.Operand.tmp 5), type := 3, pos := "laws.go:1068", after := #[{ on := 2, ground := Go.Ground.guard }], guard := some (2, false) }) (v := ?v3008) rfl (by kernel_rfl) (by kernel_rfl) (by kernel_rfl) (fun _ _ _ h => h) (Or.inl ⟨by rfl, ?hy3008⟩) (by assumption) ?hr3008
                  case hy3008 => (intro w hSw; (try dsimp only at hSw); go_simp; (try with_reducible rfl))
                  (try simp only [Act.put, List.setIfInBounds_toArray, List.set_cons_zero, List.set_cons_succ])
                  refine wpAnyH_take (i := 8) (oi := { dst := some 165, op := Go.Op.move (Go.Operand.tmp 4), type := 3, pos := "laws.go:1068", after := #[{ on := 2, ground := Go.Ground.guard }], guard := some (2, false) }) (v := ?v3009) rfl (by kernel_rfl) (by kernel_rfl) (by kernel_rfl) (fun _ _ _ h => h) (Or.inl ⟨by rfl, ?hy3009⟩) (by assumption) ?hr3009
                  case hy3009 => (intro w hSw; (try dsimp only at hSw); go_simp; (try with_reducible rfl))
                  (try simp only [Act.put, List.setIfInBounds_toArray, List.set_cons_zero, List.set_cons_succ])
                  refine wpAnyH_take (i := 9) (oi := { dst := some 166, op := Go.Op.binOp Go.BinOp.rem 3 (Go.Operand.tmp 164) (Go.Operand.tmp 165) 3, type := 3, pos := "laws.go:1068", after := #[{ on := 7, ground := Go.Ground.data }, { on := 8, ground := Go.Ground.data }, { on := 2, ground := Go.Ground.guard }], guard := some (2, false) }) (v := ?v3010) rfl (by kernel_rfl) (by kernel_rfl) (by kernel_rfl) (fun _ _ _ h => h) (Or.inl ⟨by rfl, ?hy3010⟩) (by assumption) ?hr3010
                  case hy3010 => (intro w hSw; (try dsimp only at hSw); go_simp; (try with_reducible rfl))
                  (try simp only [Act.put, List.setIfInBounds_toArray, List.set_cons_zero, List.set_cons_succ])
                  refine wpAnyH_take (i := 10) (oi := { dst := some 167, op := Go.Op.binOp Go.BinOp.eql 3 (Go.Operand.tmp 166) (Go.Operand.const (Go.Value.int Go.IntKind.i64 0)) 3, type := 4, pos := "laws.go:1068", after := #[{ on := 9, ground := Go.Ground.data }, { on := 2, ground := Go.Ground.guard }], guard := some (2, false) }) (v := ?v3011) rfl (by kernel_rfl) (by kernel_rfl) (by kernel_rfl) (fun _ _ _ h => h) (Or.inl ⟨by rfl, ?hy3011⟩) (by assumption) ?hr3011
                  case hy3011 => (intro w hSw; (try dsimp only at hSw); go_simp; (try with_reducible rfl))
                  (try simp only [Act.put, List.setIfInBounds_toArray, List.set_cons_zero, List.set_cons_succ])
                  refine wpAnyH_take (i := 11) (oi := { dst := some 168, op := Go.Op.binOp Go.BinOp.neq 4 (Go.Operand.tmp 163) (Go.Operand.tmp 167) 4, type := 4, pos := "laws.go:1068", after := #[{ on := 6, ground := Go.Ground.data }, { on := 10, ground := Go.Ground.data }, { on := 2, ground := Go.Ground.guard }], guard := some (2, false) }) (v := ?v3012) rfl (by kernel_rfl) (by kernel_rfl) (by kernel_rfl) (fun _ _ _ h => h) (Or.inl ⟨by rfl, ?hy3012⟩) (by assumption) ?hr3012
                  case hy3012 => (intro w hSw; (try dsimp only at hSw); go_simp; (try with_reducible rfl))
                  (try simp only [Act.put, List.setIfInBounds_toArray, List.set_cons_zero, List.set_cons_succ])
                  refine wpAnyH_take (i := 12) (oi := { dst := some 169, op := Go.Op.pick (Go.Operand.tmp 159) (Go.Operand.const (Go.Value.bool true)) (Go.Operand.tmp 168), type := 4, pos := "laws.go:1068", after := #[{ on := 2, ground := Go.Ground.data }, { on := 11, ground := Go.Ground.data }], guard := none }) (v := ?v3013) rfl (by kernel_rfl) (by kernel_rfl) (by kernel_rfl) (fun _ _ _ h => h) (Or.inl ⟨by rfl, ?hy3013⟩) (by assumption) ?hr3013
                  case hy3013 => (intro w hSw; (try dsimp only at hSw); go_simp; (try with_reducible rfl))
                  (try simp only [Act.put, List.setIfInBounds_toArray, List.set_cons_zero, List.set_cons_succ])
                  refine wpAnyH_take (i := 13) (oi := { dst := some 170, op := Go.Op.move (Go.Operand.tmp 169), type := 4, pos := "laws.go:1068", after := #[{ on := 12, ground := Go.Ground.data }, { on := 2, ground := Go.Ground.chain }], guard := none }) (v := ?v3014) rfl (by kernel_rfl) (by kernel_rfl) (by kernel_rfl) (fun _ _ _ h => h) (Or.inl ⟨by rfl, ?hy3014⟩) (by assumption) ?hr3014
                  case hy3014 => (intro w hSw; (try dsimp only at hSw); go_simp; (try with_reducible rfl))
                  (try simp only [Act.put, List.setIfInBounds_toArray, List.set_cons_zero, List.set_cons_succ])
                  refine wpAnyH_take (i := 14) (oi := { dst := some 171, op := Go.Op.move (Go.Operand.tmp 16), type := 3, pos := "laws.go:1068", after := #[{ on := 13, ground := Go.Ground.guard }], guard := some (13, false) }) (v := ?v3015) rfl (by kernel_rfl) (by kernel_rfl) (by kernel_rfl) (fun _ _ _ h => h) (Or.inl ⟨by rfl, ?hy3015⟩) (by assumption) ?hr3015
                  case hy3015 => (intro w hSw; (try dsimp only at hSw); go_simp; (try with_reducible rfl))
                  (try simp only [Act.put, List.setIfInBounds_toArray, List.set_cons_zero, List.set_cons_succ])
                  refine wpAnyH_take (i := 15) (oi := { dst := some 172, op := Go.Op.binOp Go.BinOp.gtr 3 (Go.Operand.tmp 171) (Go.Operand.const (Go.Value.int Go.IntKind.i64 0)) 3, type := 4, pos := "laws.go:1068", after := #[{ on := 14, ground := Go.Ground.data }, { on := 13, ground := Go.Ground.guard }], guard := some (13, false) }) (v := ?v3016) rfl (by kernel_rfl) (by kernel_rfl) (by kernel_rfl) (fun _ _ _ h => h) (Or.inl ⟨by rfl, ?hy3016⟩) (by assumption) ?hr3016
                  case hy3016 => (intro w hSw; (try dsimp only at hSw); go_simp; (try with_reducible rfl))
                  (try simp only [Act.put, List.setIfInBounds_toArray, List.set_cons_zero, List.set_cons_succ])
                  refine wpAnyH_take (i := 16) (oi := { dst := some 173, op := Go.Op.move (Go.Operand.tmp 172), type := 4, pos := "laws.go:1068", after := #[{ on := 15, ground := Go.Ground.data }, { on := 13, ground := Go.Ground.chain }, { on := 13, ground := Go.Ground.guard }], guard := some (13, false) }) (v := ?v3017) rfl (by kernel_rfl) (by kernel_rfl) (by kernel_rfl) (fun _ _ _ h => h) (Or.inl ⟨by rfl, ?hy3017⟩) (by assumption) ?hr3017
                  case hy3017 => (intro w hSw; (try dsimp only at hSw); go_simp; (try with_reducible rfl))
                  (try simp only [Act.put, List.setIfInBounds_toArray, List.set_cons_zero, List.set_cons_succ])
                  refine wpAnyH_take (i := 17) (oi := { dst := some 174, op := Go.Op.move (Go.Operand.tmp 17), type := 3, pos := "laws.go:1068", after := #[{ on := 16, ground := Go.Ground.guard }], guard := some (16, true) }) (v := undef) rfl (by kernel_rfl) (by kernel_rfl) (by kernel_rfl) (fun _ _ _ h => h) (Or.inr ⟨by rfl, rfl⟩) (by assumption) ?_
                  (try simp only [Act.put, List.setIfInBounds_toArray, List.set_cons_zero, List.set_cons_succ])
                  refine wpAnyH_take (i := 18) (oi := { dst := some 175, op := Go.Op.move (Go.Operand.tmp 15), type := 27, pos := "laws.go:1068", after := #[{ on := 16, ground := Go.Ground.guard }], guard := some (16, true) }) (v := undef) rfl (by kernel_rfl) (by kernel_rfl) (by kernel_rfl) (fun _ _ _ h => h) (Or.inr ⟨by rfl, rfl⟩) (by assumption) ?_
                  (try simp only [Act.put, List.setIfInBounds_toArray, List.set_cons_zero, List.set_cons_succ])
                  refine wpAnyH_take (i := 19) (oi := { dst := some 176, op := Go.Op.move (Go.Operand.tmp 16), type := 3, pos := "laws.go:1068", after := #[{ on := 16, ground := Go.Ground.guard }], guard := some (16, true) }) (v := undef) rfl (by kernel_rfl) (by kernel_rfl) (by kernel_rfl) (fun _ _ _ h => h) (Or.inr ⟨by rfl, rfl⟩) (by assumption) ?_
                  (try simp only [Act.put, List.setIfInBounds_toArray, List.set_cons_zero, List.set_cons_succ])
                  refine wpAnyH_take (i := 20) (oi := { dst := some 177, op := Go.Op.binOp Go.BinOp.sub 3 (Go.Operand.tmp 176) (Go.Operand.const (Go.Value.int Go.IntKind.i64 1)) 3, type := 3, pos := "laws.go:1068", after := #[{ on := 19, ground := Go.Ground.data }, { on := 16, ground := Go.Ground.guard }], guard := some (16, true) }) (v := undef) rfl (by kernel_rfl) (by kernel_rfl) (by kernel_rfl) (fun _ _ _ h => h) (Or.inr ⟨by rfl, rfl⟩) (by assumption) ?_
                  (try simp only [Act.put, List.setIfInBounds_toArray, List.set_cons_zero, List.set_cons_succ])
                  refine wpAnyH_take (i := 21) (oi := { dst := some 178, op := Go.Op.indexAddr 27 (Go.Operand.tmp 175) (Go.Operand.tmp 177), type := 0, pos := "laws.go:1068", after := #[{ on := 18, ground := Go.Ground.data }, { on := 20, ground := Go.Ground.data }, { on := 16, ground := Go.Ground.guard }], guard := some (16, true) }) (v := undef) rfl (by kernel_rfl) (by kernel_rfl) (by kernel_rfl) (fun _ _ _ h => h) (Or.inr ⟨by rfl, rfl⟩) (by assumption) ?_
                  (try simp only [Act.put, List.setIfInBounds_toArray, List.set_cons_zero, List.set_cons_succ])
                  refine wpAnyH_take (i := 22) (oi := { dst := some 179, op := Go.Op.load 3 (Go.Operand.tmp 178), type := 3, pos := "laws.go:1068", after := #[{ on := 21, ground := Go.Ground.data }, { on := 16, ground := Go.Ground.guard }], guard := some (16, true) }) (v := undef) rfl (by kernel_rfl) (by kernel_rfl) (by kernel_rfl) (fun _ _ _ h => h) (Or.inr ⟨by rfl, rfl⟩) (by assumption) ?_
                  (try simp only [Act.put, List.setIfInBounds_toArray, List.set_cons_zero, List.set_cons_succ])
                  refine wpAnyH_take (i := 23) (oi := { dst := some 180, op := Go.Op.move (Go.Operand.tmp 3), type := 3, pos := "laws.go:1068", after := #[{ on := 16, ground := Go.Ground.guard }], guard := some (16, true) }) (v := undef) rfl (by kernel_rfl) (by kernel_rfl) (by kernel_rfl) (fun _ _ _ h => h) (Or.inr ⟨by rfl, rfl⟩) (by assumption) ?_
                  (try simp only [Act.put, List.setIfInBounds_toArray, List.set_cons_zero, List.set_cons_succ])
                  refine wpAnyH_take (i := 24) (oi := { dst := some 181, op := Go.Op.move (Go.Operand.tmp 14), type := 3, pos := "laws.go:1068", after := #[{ on := 16, ground := Go.Ground.guard }], guard := some (16, true) }) (v := undef) rfl (by kernel_rfl) (by kernel_rfl) (by kernel_rfl) (fun _ _ _ h => h) (Or.inr ⟨by rfl, rfl⟩) (by assumption) ?_
                  (try simp only [Act.put, List.setIfInBounds_toArray, List.set_cons_zero, List.set_cons_succ])
                  refine wpAnyH_take (i := 25) (oi := { dst := some 182, op := Go.Op.call { callee := Go.Callee.value (Go.Operand.func 18), args := #[Go.Operand.tmp 179, Go.Operand.tmp 180, Go.Operand.tmp 181], argTypes := #[3, 3, 3] }, type := 3, pos := "laws.go:1068", after := #[{ on := 22, ground := Go.Ground.data }, { on := 23, ground := Go.Ground.data }, { on := 24, ground := Go.Ground.data }, { on := 16, ground := Go.Ground.chain }, { on := 16, ground := Go.Ground.guard }], guard := some (16, true) }) (v := undef) rfl (by kernel_rfl) (by kernel_rfl) (by kernel_rfl) (fun _ _ _ h => h) (Or.inr ⟨by rfl, rfl⟩) (by assumption) ?_
                  (try simp only [Act.put, List.setIfInBounds_toArray, List.set_cons_zero, List.set_cons_succ])
                  refine wpAnyH_take (i := 26) (oi := { dst := some 183, op := Go.Op.binOp Go.BinOp.neq 3 (Go.Operand.tmp 174) (Go.Operand.tmp 182) 3, type := 4, pos := "laws.go:1068", after := #[{ on := 17, ground := Go.Ground.data }, { on := 25, ground := Go.Ground.data }, { on := 16, ground := Go.Ground.guard }], guard := some (16, true) }) (v := undef) rfl (by kernel_rfl) (by kernel_rfl) (by kernel_rfl) (fun _ _ _ h => h) (Or.inr ⟨by rfl, rfl⟩) (by assumption) ?_
                  (try simp only [Act.put, List.setIfInBounds_toArray, List.set_cons_zero, List.set_cons_succ])
                  refine wpAnyH_take (i := 27) (oi := { dst := some 184, op := Go.Op.pick (Go.Operand.tmp 173) (Go.Operand.tmp 183) (Go.Operand.const (Go.Value.bool false)), type := 4, pos := "laws.go:1068", after := #[{ on := 16, ground := Go.Ground.data }, { on := 26, ground := Go.Ground.data }, { on := 13, ground := Go.Ground.guard }], guard := some (13, false) }) (v := ?v3028) rfl (by kernel_rfl) (by kernel_rfl) (by kernel_rfl) (fun _ _ _ h => h) (Or.inl ⟨by rfl, ?hy3028⟩) (by assumption) ?hr3028
                  case hy3028 => (intro w hSw; (try dsimp only at hSw); go_simp; (try with_reducible rfl))
                  (try simp only [Act.put, List.setIfInBounds_toArray, List.set_cons_zero, List.set_cons_succ])
                  refine wpAnyH_take (i := 28) (oi := { dst := some 185, op := Go.Op.pick (Go.Operand.tmp 170) (Go.Operand.const (Go.Value.bool true)) (Go.Operand.tmp 184), type := 4, pos := "laws.go:1068", after := #[{ on := 13, ground := Go.Ground.data }, { on := 27, ground := Go.Ground.data }], guard := none }) (v := ?v3029) rfl (by kernel_rfl) (by kernel_rfl) (by kernel_rfl) (fun _ _ _ h => h) (Or.inl ⟨by rfl, ?hy3029⟩) (by assumption) ?hr3029
                  case hy3029 => (intro w hSw; (try dsimp only at hSw); go_simp; (try with_reducible rfl))
                  (try simp only [Act.put, List.setIfInBounds_toArray, List.set_cons_zero, List.set_cons_succ])
                  refine wpAnyH_done (by kernel_rfl) ?_ _
                  go_wp2_with fail
                  go_meet
                  exact ⟨rfl, Below.drew HB13.out⟩
              case rest =>
                obtain ⟨rfl, hb14⟩ := hcut
                clear hprev
                go_wp2
                go_roundw
                case rel => exact ⟨i' + 1, by omega, by go_num, hb14⟩
                case measure => simp [intOf]; omega
            · have hil2 : ¬ i' < c.length := hlt2
              go_wp2_with fail
              go_meet
              exact HB12.out.trans (HB13.out.mono HB12.out.size)
        · have hd : decide (0 ≤ t) = false := by simpa using ht
          go_wp2_with fail
          go_meet
          exact HFin.out
      case rest =>
        have HB12 := Lib.hid (HB11.out.trans (hcut.mono HB11.out.size))
        obtain ⟨k, sign, s, d, a, B⟩ := bf b1 b2 m1 m2 n1 n2
        have HB := Lib.hid B
        have ⟨k1, k2⟩ := B.kb
        have ⟨s1, s2⟩ := B.sb
        have ⟨s3, s4⟩ := B.sbd
        clear B hcut
        go_wp2_with fail
        refine (iBlockRule m b _).mono ?_
        rw [HB.out.ek, HB.out.es]
        rintro e w13 ⟨rfl, rfl⟩
        go_upto_if 194 with fail
        go_cut [2, 20, 21] from 193 to 221 (fun _ _ _ wx => Below w.heap.size w wx)
        case first =>
          by_cases hk : 0 < k
          · have hd : decide (0 < k) = true := by simpa using hk
            have hst := HB.out.st hk
            have hsg := HB.out.s1 hk
            go_wp2_with fail
            refine (as_ib HB.out.hs (HB.out.yes hk) (iBlockSum n b k sign _)).mono ?_
            rintro e w14 ⟨rfl, hb14⟩
            have HB14 := Lib.hid (HB12.out.trans (hb14.mono HB12.out.size))
            clear hb14
            rcases hsg with rfl | rfl
            all_goals
              go_wp2_with fail
              go_meet
              exact HB14.out
          · have hd : decide (0 < k) = false := by simpa using hk
            go_wp2_with fail
            go_meet
            exact HB12.out
        case rest =>
          have HB13 := Lib.hid hcut
          have HK : 0 < k ∨ sign = 0 := by
            by_cases h : 0 < k
            · exact .inl h
            · exact .inr (HB.out.no h)
          clear hcut
          go_wp2_with fail
          refine (as_ib HB.out.ed HB.out.d1 (iBlockSum n b 1 1 _)).mono ?_
          rintro e w14 ⟨rfl, hb14⟩
          have HB14 := Lib.hid (HB13.out.trans (hb14.mono HB13.out.size))
          clear hb14
          go_wp2_with fail
          refine (as_ib HB.out.ea HB.out.a1 (iBlockSum n b 1 (-1) _)).mono ?_
          rintro e w15 ⟨rfl, hb15⟩
          have HB15 := Lib.hid (HB14.out.trans (hb15.mono HB14.out.size))
          clear hb15
          have Hb := Lib.hid (inB_mk b1 b2)
          have Hn := Lib.hid (inB_mk n1 (show n ≤ 1000000000000 by omega))
          rcases HK with hk | rfl
          · have hd : decide (0 < k) = true := by simpa using hk
            go_wp2_with fail
            refine (as_int HB.out.dd (digitSum n b _ Hb.out Hn.out)).mono ?_
            rintro e w16 ⟨rfl, hb16⟩
            have HB16 := Lib.hid (HB15.out.trans (hb16.mono HB15.out.size))
            clear hb16
            go_wp2_with fail
            refine (as_int HB.out.aa (iAlt n b _)).mono ?_
            rintro e w17 ⟨rfl, hb17⟩
            have HB17 := Lib.hid (HB16.out.trans (hb17.mono HB16.out.size))
            clear hb17
            go_wp2
            go_ret
            exact ⟨by first | rfl | simp, HB17.out⟩
          · go_wp2_with fail
            refine (as_int HB.out.dd (digitSum n b _ Hb.out Hn.out)).mono ?_
            rintro e w16 ⟨rfl, hb16⟩
            have HB16 := Lib.hid (HB15.out.trans (hb16.mono HB15.out.size))
            clear hb16
            go_wp2_with fail
            refine (as_int HB.out.aa (iAlt n b _)).mono ?_
            rintro e w17 ⟨rfl, hb17⟩
            have HB17 := Lib.hid (HB16.out.trans (hb17.mono HB16.out.size))
            clear hb17
            go_wp2
            all_goals
              go_ret
              exact ⟨by first | rfl | simp, HB17.out⟩

set_option maxRecDepth 100000 in
theorem lifted (os : Os) (started : os.Started) (H : Type) (enc : TypeId × Value → H) :
    ReturnsInHanded {} Try.checked os 4 .any (Rows.fnRulesSpec.pre6 enc Try.prog Try.f4 Rows.fnRulesRow.domain false) (Rows.fnRulesSpec.post enc Try.prog Try.f4 false true false false) := by
  refine returnsInHanded_of_change (C := Try.checked) own started (by kernel_rfl) Try.func4
    (ChangeSpec.witness6 (enc := enc) (C := Try.checked) false ⟨#[], #[.slice none 0 0], []⟩ 8 (by kernel_rfl) (by kernel_rfl) (by kernel_rfl) (by kernel_rfl)) ?_
  intro W base args ds gs before hval0 hW hcnd _
  have hval : ∀ (j : Nat) t v, Try.f4.params[j]? = some t → args[j]? = some v → Value.okWide Try.prog W .any base t v := hval0
  have hW' := hW
  obtain ⟨p, q, hA0, hV, rfl, hfz, hnd⟩ := hW
  have hA : DataW.TrodAll enc Try.prog W 0 (fun _ => true) true Try.f4.params.toList args.toList ds p := hA0
  rw [Try.params4] at hA hval
  obtain ⟨v0, vs0, d0, ds0, p0, q0, hargs, rfl, rfl, h0, r0⟩ := trodAll_cons hA
  obtain ⟨rfl, rfl, rfl⟩ := trodAll_nil r0
  obtain rfl : args = #[v0] := by cases args; simp_all
  obtain ⟨rfl, rfl⟩ := trodVars_none hV
  obtain ⟨a0, len0, cap0, rfl⟩ := okWide_slice Try.underlying25 (hval 0 25 v0 rfl rfl)
  have k0 := h0
  have lt0 : ∀ x ∈ p0, x.block < W.heap.size := by obtain ⟨m, hm⟩ := k0; exact DataW.trod_lt m _ _ _ hm
  obtain ⟨z0, w0⟩ : ∃ zs, IsRow .u8 W a0 len0 cap0 zs := by
    obtain ⟨fuel, hf⟩ := h0
    rcases open_ints Try.underlying25 Try.underlying5 (by kernel_rfl) hf with ⟨hcs, _⟩ | ⟨x, l, c, zs, hcs, _, hl, hm, hz, _, hcell, hwz⟩
    · simp [Value.cells] at hcs
      obtain ⟨rfl, rfl, rfl⟩ := hcs
      exact ⟨[], .inl ⟨rfl, rfl, rfl, rfl⟩⟩
    · simp [Value.cells] at hcs
      obtain ⟨rfl, rfl, rfl⟩ := hcs
      exact ⟨zs, .inr ⟨_, rfl, hl, hm, by simpa using hz, hcell, hwz⟩⟩
  clear hA0 hval0
  refine (walk a0 len0 cap0 z0 W w0).mono fun e W' ⟨he, bel⟩ => ?_
  subst he
  exact ⟨_, rfl, _, _, _, [], _, [], hW', trodAll_mk1 (shut_bool Try.underlying4 _), (trodAll_cons_mk (Below.trod laidOut (by kernel_rfl) (of_decide_eq_true (by kernel_rfl)) k0 bel lt0) trodAll_mk0), rfl, bel.frame _, fun h => by cases h⟩

theorem over : Rows.fnRulesRow.holds Try.pinned (OpenSpec.ofChange Rows.fnRulesSpec) :=
  OpenClaim.holds_of_wide 4 Try.f4 rfl rfl rfl rfl rfl rfl rfl ⟨rfl, rfl, rfl, rfl, rfl⟩ rfl rfl rfl rfl rfl (by kernel_rfl) Try.func4 (by kernel_rfl)
    (of_decide_eq_true (by kernel_rfl)) (by unfold Func.isWrapper; first | (rw [if_pos (by decide +kernel)]; kernel_rfl) | (rw [if_neg (by decide +kernel)]; exact ⟨rfl, rfl⟩))
    (fun os started H enc _ => lifted os started H enc)

theorem proved : Rows.FnRulesSaid := over
#print axioms proved
end Go.Proofs.Ytnjifahnfmifgaa.fnRules
