/-
  The program's law FnSequences returns true for every input, and its arguments read afterwards as before; the card, tied.
  Conditions: none.
-/
import Derived.Test.YtkddmngbfncocaaDoorRows
import Derived.Test.YtkddmngbfncocaaDoorCards
import Derived.Test.YtkddmngbfncocaaDoorTie
import Derived.Test.YtkddmngbfncocaaDoorDoor
import Derived.WalkKit
import Derived.ProofKit
import Derived.LaidMore
import Derived.OpenShut
import Derived.Stop.Joined
import Derived.SevenTiedAt
import Derived.Below
import Derived.Test.YtkddmngbfncocaaDoorSlicesA
import Derived.Test.YtkddmngbfncocaaDoorMake
import Derived.Test.YtkddmngbfncocaaDoorSeqF
import Derived.Test.YtkddmngbfncocaaDoorSeqE
import Derived.Test.YtkddmngbfncocaaDoorSeqC
import Derived.Deep.DeepCutAuto
import Derived.Deep.RegionHeld3
namespace Go.Proofs.YtkddmngbfncocaaDoor.fnSequences
open Go Go.ChangeShapes Go.WideShapes Go.ChangeAt Go.RowKit
set_option linter.unusedVariables false

theorem own : ownKnob Tryd.prog.godebug = none := by kernel_rfl
theorem laidOut : laidOutB Tryd.prog = true := by kernel_rfl
open Sq
/-- What the law asks of the numbers of the sequences. -/
structure SF (N a1 a2 b2 a3 a4 : Nat) : Prop where
  x1 : seqI 1 (2 * N) = a1
  x2 : seqI 1 N = a1
  x3 : seqI 1 (2 * N + 1) = 1 - a1
  x4 : a1 ≤ 1
  y1 : seqI 2 (2 * N) = a2
  y2 : seqI 2 N = a2
  y3 : seqI 2 (4 * N + 1) = a2
  y4 : seqI 2 (4 * N + 3) = 1 - b2
  y5 : seqI 2 (2 * N + 1) = b2
  y6 : b2 ≤ 1
  z1 : seqI 3 (2 * N) = a3
  z2 : seqI 3 N = a3
  z3 : seqI 3 (4 * N + 1) = 0
  z4 : seqI 3 (4 * N + 3) = 1
  u1 : seqI 4 (2 * N + 1) = a4
  u2 : seqI 4 N = a4
  u3 : seqI 4 (4 * N + 2) = 0
  v1 : seqI 5 (2 * N + 1) = 0
theorem sf (N : Nat) (hn : N < 1000000000000) : ∃ a1 a2 b2 a3 a4, SF N a1 a2 b2 a3 a4 := by
  have ⟨p1, p2, p3⟩ := seq1 N hn
  have ⟨q1, q2, q3, q4⟩ := seq2 N hn
  have ⟨r1, r2, r3⟩ := seq3 N hn
  have ⟨s1, s2, _⟩ := seq4 N hn
  have ⟨t1, _⟩ := seq5 N hn
  exact ⟨_, _, _, _, _, p1, rfl, p2, p3, q1, rfl, q2, q3, rfl, q4, r1, rfl, r2, r3, s1, rfl, s2, t1⟩
theorem seqZ (w : World) (hT : TabAt 1 Lib.deBruijn64tab w) (kind m : Nat) (z v : Int) (hz : z = (m : Int)) (hv : (seqI kind m : Int) = v) (k1 : 1 ≤ kind) (k2 : kind ≤ 5) (hm : m ≤ 1000000000000) :
    Calls Tryd.prog 11 #[.int .i64 kind, .int .i64 z] w fun e w' => e = .returned (.int .i64 v) ∧ w = w' := by
  subst hz; subst hv
  exact iSeqAt kind m k1 k2 hm w hT
theorem pow_i {i : Nat} (h : i ≤ 4) : IntKind.i64.wrap ((2 : Int) ^ i) = ((2 ^ i : Nat) : Int) ∧ 1 ≤ 2 ^ i ∧ 2 ^ i ≤ 16 := ⟨(pow_k (by omega)).2.2, pow_le4 h⟩
theorem mk_int {q : Nat} (h : q ≤ 9) : ((mk q).toNat : Int) = 48 + (q : Int) := by rw [mk_nat h]; omega
theorem sgn_succ (kind n : Nat) : sgn kind (n + 1) = sgn kind n + (1 - 2 * ((seqI kind n : Int) % 2)) := rfl

set_option maxRecDepth 100000 in
set_option maxHeartbeats 2000000 in
theorem walk (a0 : Option Addr) (len0 cap0 : Nat) (z0 : List Int) (w : World) (w0 : IsRow .u8 w a0 len0 cap0 z0) (hT : TabAt 1 Lib.deBruijn64tab w) :
    Calls Tryd.prog 5 #[.slice a0 len0 cap0] w fun e w' => e = .returned (.bool true) ∧ Below w.heap.size w w' := by
  by_cases hbig : 1048576 < len0
  · go_enter Tryd.func5, Tryd.ntmps5
    go_wp2
    go_ret
    exact ⟨rfl, Below.refl _ _⟩
  have HR0 := Lib.hid w0.brd
  have HT := Lib.hid hT
  clear w0 hT
  go_enter Tryd.func5, Tryd.ntmps5
  go_wp2_with fail
  refine (makeNumber _ _ _ 0 _ HR0.out (by omega) (by omega) (by omega)).mono ?_
  rintro e w1 ⟨⟨n, n0, n1, rfl⟩, hb1⟩
  have HR1 := Lib.hid (HR0.out.below hb1 (Nat.le_refl _))
  have HB1 := Lib.hid hb1
  clear hb1
  obtain ⟨N, rfl⟩ := Int.eq_ofNat_of_zero_le n0
  have HN := Lib.hid n1
  clear n0
  go_upto_region 4 with fail
  go_cut [138] from 23 to 138 (fun s wx => s = .bool false ∧ w1 = wx)
  case first =>
    have HS := Lib.hid (seqZ w1 (tab_below HT.out HB1.out (Nat.le_refl _)))
    obtain ⟨a1, a2, b2, a3, a4, F⟩ := sf N (by omega)
    have ⟨x1, x2, x3, x4, y1, y2, y3, y4, y5, y6, z1, z2, z3, z4, u1, u2, u3, v1⟩ := F
    clear F
    go_wp2_with fail
    refine (HS.out 1 (2 * N) (2 * (N : Int)) (a1) (by omega) (by omega) (by omega) (by omega) (by omega)).mono ?_
    rintro e w2 ⟨rfl, rfl⟩
    go_wp2_with fail
    refine (HS.out 1 (N) ((N : Int)) (a1) (by omega) (by omega) (by omega) (by omega) (by omega)).mono ?_
    rintro e w2 ⟨rfl, rfl⟩
    go_wp2_with fail
    refine (HS.out 1 (2 * N + 1) (2 * (N : Int) + 1) (1 - (a1 : Int)) (by omega) (by omega) (by omega) (by omega) (by omega)).mono ?_
    rintro e w2 ⟨rfl, rfl⟩
    go_wp2_with fail
    refine (HS.out 1 (N) ((N : Int)) (a1) (by omega) (by omega) (by omega) (by omega) (by omega)).mono ?_
    rintro e w2 ⟨rfl, rfl⟩
    go_wp2_with fail
    refine (HS.out 2 (2 * N) (2 * (N : Int)) (a2) (by omega) (by omega) (by omega) (by omega) (by omega)).mono ?_
    rintro e w2 ⟨rfl, rfl⟩
    go_wp2_with fail
    refine (HS.out 2 (N) ((N : Int)) (a2) (by omega) (by omega) (by omega) (by omega) (by omega)).mono ?_
    rintro e w2 ⟨rfl, rfl⟩
    go_wp2_with fail
    refine (HS.out 2 (4 * N + 1) (4 * (N : Int) + 1) (a2) (by omega) (by omega) (by omega) (by omega) (by omega)).mono ?_
    rintro e w2 ⟨rfl, rfl⟩
    go_wp2_with fail
    refine (HS.out 2 (N) ((N : Int)) (a2) (by omega) (by omega) (by omega) (by omega) (by omega)).mono ?_
    rintro e w2 ⟨rfl, rfl⟩
    go_wp2_with fail
    refine (HS.out 2 (4 * N + 3) (4 * (N : Int) + 3) (1 - (b2 : Int)) (by omega) (by omega) (by omega) (by omega) (by omega)).mono ?_
    rintro e w2 ⟨rfl, rfl⟩
    go_wp2_with fail
    refine (HS.out 2 (2 * N + 1) (2 * (N : Int) + 1) (b2) (by omega) (by omega) (by omega) (by omega) (by omega)).mono ?_
    rintro e w2 ⟨rfl, rfl⟩
    go_wp2_with fail
    refine (HS.out 3 (2 * N) (2 * (N : Int)) (a3) (by omega) (by omega) (by omega) (by omega) (by omega)).mono ?_
    rintro e w2 ⟨rfl, rfl⟩
    go_wp2_with fail
    refine (HS.out 3 (N) ((N : Int)) (a3) (by omega) (by omega) (by omega) (by omega) (by omega)).mono ?_
    rintro e w2 ⟨rfl, rfl⟩
    go_wp2_with fail
    refine (HS.out 3 (4 * N + 1) (4 * (N : Int) + 1) (0) (by omega) (by omega) (by omega) (by omega) (by omega)).mono ?_
    rintro e w2 ⟨rfl, rfl⟩
    go_wp2_with fail
    refine (HS.out 3 (4 * N + 3) (4 * (N : Int) + 3) (1) (by omega) (by omega) (by omega) (by omega) (by omega)).mono ?_
    rintro e w2 ⟨rfl, rfl⟩
    go_wp2_with fail
    refine (HS.out 4 (2 * N + 1) (2 * (N : Int) + 1) (a4) (by omega) (by omega) (by omega) (by omega) (by omega)).mono ?_
    rintro e w2 ⟨rfl, rfl⟩
    go_wp2_with fail
    refine (HS.out 4 (N) ((N : Int)) (a4) (by omega) (by omega) (by omega) (by omega) (by omega)).mono ?_
    rintro e w2 ⟨rfl, rfl⟩
    go_wp2_with fail
    refine (HS.out 4 (4 * N + 2) (4 * (N : Int) + 2) (0) (by omega) (by omega) (by omega) (by omega) (by omega)).mono ?_
    rintro e w2 ⟨rfl, rfl⟩
    by_cases h0 : 0 < N
    · have h0' : (0 : Int) < (N : Int) := by omega
      have u4 := (seq4 N (by omega)).2.2 h0
      have v2 := (seq5 N (by omega)).2 h0
      have v3 := seq_le 5 N
      rw [u2] at u4
      obtain ⟨a5, v4⟩ : ∃ a, seqI 5 N = a := ⟨_, rfl⟩
      rw [v4] at v2 v3
      by_cases h9 : a5 = 9
      · rw [h9] at v2 v4
        have v2 : seqI 5 (2 * N) = 9 := v2
        clear h9 v3
        go_wp2_with fail
        refine (HS.out 4 (4 * N) (4 * (N : Int)) (a4) (by omega) (by omega) (by omega) (by omega) (by omega)).mono ?_
        rintro e w2 ⟨rfl, rfl⟩
        go_wp2_with fail
        refine (HS.out 4 (N) ((N : Int)) (a4) (by omega) (by omega) (by omega) (by omega) (by omega)).mono ?_
        rintro e w2 ⟨rfl, rfl⟩
        go_wp2_with fail
        refine (HS.out 5 (2 * N + 1) (2 * (N : Int) + 1) (0) (by omega) (by omega) (by omega) (by omega) (by omega)).mono ?_
        rintro e w2 ⟨rfl, rfl⟩
        go_wp2_with fail
        refine (HS.out 5 (2 * N) (2 * (N : Int)) (9) (by omega) (by omega) (by omega) (by omega) (by omega)).mono ?_
        rintro e w2 ⟨rfl, rfl⟩
        go_wp2_with fail
        refine (HS.out 5 (N) ((N : Int)) (9) (by omega) (by omega) (by omega) (by omega) (by omega)).mono ?_
        rintro e w2 ⟨rfl, rfl⟩
        go_wp2_with fail
        go_meet
        exact ⟨rfl, rfl⟩
      · have v2 : seqI 5 (2 * N) = a5 + 1 := by omega
        have v6 : a5 + 1 ≤ 9 := by omega
        clear h9 v3
        go_wp2_with fail
        refine (HS.out 4 (4 * N) (4 * (N : Int)) (a4) (by omega) (by omega) (by omega) (by omega) (by omega)).mono ?_
        rintro e w2 ⟨rfl, rfl⟩
        go_wp2_with fail
        refine (HS.out 4 (N) ((N : Int)) (a4) (by omega) (by omega) (by omega) (by omega) (by omega)).mono ?_
        rintro e w2 ⟨rfl, rfl⟩
        go_wp2_with fail
        refine (HS.out 5 (2 * N + 1) (2 * (N : Int) + 1) (0) (by omega) (by omega) (by omega) (by omega) (by omega)).mono ?_
        rintro e w2 ⟨rfl, rfl⟩
        go_wp2_with fail
        refine (HS.out 5 (2 * N) (2 * (N : Int)) ((a5 : Int) + 1) (by omega) (by omega) (by omega) (by omega) (by omega)).mono ?_
        rintro e w2 ⟨rfl, rfl⟩
        go_wp2_with fail
        refine (HS.out 5 (N) ((N : Int)) (a5) (by omega) (by omega) (by omega) (by omega) (by omega)).mono ?_
        rintro e w2 ⟨rfl, rfl⟩
        go_wp2_with fail
        go_meet
        exact ⟨by rw [show min (9 : Int) ((a5 : Int) + 1) = (a5 : Int) + 1 by omega, bne_self_eq_false], rfl⟩
    · have h0' : ¬ (0 : Int) < (N : Int) := by omega
      go_wp2_with fail
      refine (HS.out 5 (2 * N + 1) (2 * (N : Int) + 1) (0) (by omega) (by omega) (by omega) (by omega) (by omega)).mono ?_
      rintro e w2 ⟨rfl, rfl⟩
      go_wp2_with fail
      go_meet
      exact ⟨rfl, rfl⟩
  case rest =>
    obtain ⟨rfl, rfl⟩ := hcut
    go_wp2_with fail
    refine (makeNum _ _ _ 12 _ HR1.out (by omega) (by omega) (by omega)).mono ?_
    rintro e w2 ⟨⟨y, y0, y1, rfl⟩, hb2⟩
    have HR2 := Lib.hid (HR1.out.below hb2 (Nat.le_refl _))
    have HB2 := Lib.hid (HB1.out.trans (hb2.mono HB1.out.size))
    clear hb2
    have m1 := Pl.mod_nn (a := y) (show (0 : Int) < 6 by omega)
    have m2 := Pl.mod_lt (a := y) (show (0 : Int) < 6 by omega)
    go_wp2_with fail
    generalize y % 6 = k at *
    obtain ⟨K, rfl⟩ := Int.eq_ofNat_of_zero_le m1
    refine (makeNum _ _ _ 14 _ HR2.out (by omega) (by omega) (by omega)).mono ?_
    rintro e w3 ⟨⟨y', y0', y1', rfl⟩, hb3⟩
    have HR3 := Lib.hid (HR2.out.below hb3 (Nat.le_refl _))
    have HB3 := Lib.hid (HB2.out.trans (hb3.mono HB2.out.size))
    clear hb3 y0 y1
    have e1 := Pl.mod_nn (a := y') (show (0 : Int) < 7 by omega)
    have e2 := Pl.mod_lt (a := y') (show (0 : Int) < 7 by omega)
    go_wp2_with fail
    generalize y' % 7 = e at *
    obtain ⟨E, rfl⟩ := Int.eq_ofNat_of_zero_le e1
    have HE := Lib.hid (show Calls Tryd.prog 13 #[.int .i64 (1 + (K : Int)), .int .i64 E] w3 fun r w' => r = .returned (.tuple #[.int .i64 (ep E 0 (2 ^ (K + 1))), .int .i64 (ep E 1 (2 ^ (K + 1))), .bool true]) ∧ Below w3.heap.size w3 w' by
      have h := iEps (K + 1) E (by omega) (by omega) (by omega) w3 (tab_below HT.out HB3.out (Nat.le_refl _))
      rwa [show ((K + 1 : Nat) : Int) = 1 + (K : Int) by omega] at h)
    have ⟨p1, p2, _⟩ := pow_k (show K + 1 ≤ 6 by omega)
    have ⟨q1, q2⟩ := ep_eq (show E ≤ 6 by omega) (show K + 1 ≤ 6 by omega)
    have ⟨l1, l2, _⟩ := ep_le (show E ≤ 6 by omega) p2
    have htn : (1 + (K : Int)).toNat = K + 1 := by omega
    clear y0' y1'
    generalize ep E 0 (2 ^ (K + 1)) = A at *
    generalize ep E 1 (2 ^ (K + 1)) = B at *
    generalize hM : 2 ^ (K + 1) = M at *
    clear hM
    refine HE.out.mono ?_
    rintro e w4 ⟨rfl, hb4⟩
    have HR4 := Lib.hid (HR3.out.below hb4 (Nat.le_refl _))
    have HB4 := Lib.hid (HB3.out.trans (hb4.mono HB3.out.size))
    clear hb4 HE
    go_upto_region 9 with fail
    go_cut [176] from 153 to 176 (fun s wx => s = .bool false ∧ w4 = wx)
    case first =>
      by_cases hE0 : E = 0
      · have h1 := q1 (by omega)
        have h2 := q2 hE0
        subst h1
        subst hE0
        have h3 : ((M : Int) != (M : Int)) = false := by simp
        have h4 : (A : Int) + (A : Int) = (M : Int) := by omega
        have h5 : ((0 : Nat) : Int) < 1 + (K : Int) := by omega
        clear q1 q2
        go_wp2_with fail
        go_meet
        exact ⟨rfl, rfl⟩
      · have hE1 : ((E : Int) == 0) = false := by rw [beq_eq_false_iff_ne]; omega
        by_cases hlt : E < K + 1
        · have h1 := q1 hlt
          subst h1
          have h5 : (E : Int) < 1 + (K : Int) := by omega
          clear q1 q2
          go_wp2_with fail
          go_meet
          exact ⟨rfl, rfl⟩
        · have h5 : ¬ (E : Int) < 1 + (K : Int) := by omega
          clear q1 q2
          go_wp2_with fail
          go_meet
          exact ⟨rfl, rfl⟩
    case rest =>
      obtain ⟨rfl, rfl⟩ := hcut
      clear q1 q2 l1 l2 p1 p2 htn
      go_wp2_with fail
      refine (makeNum _ _ _ 16 _ HR4.out (by omega) (by omega) (by omega)).mono ?_
      rintro e w5 ⟨⟨y, y0, y1, rfl⟩, hb5⟩
      have HR5 := Lib.hid (HR4.out.below hb5 (Nat.le_refl _))
      have HB5 := Lib.hid (HB4.out.trans (hb5.mono HB4.out.size))
      clear hb5
      have m1 := Pl.mod_nn (a := y) (show (0 : Int) < 5 by omega)
      have m2 := Pl.mod_lt (a := y) (show (0 : Int) < 5 by omega)
      go_wp2_with fail
      generalize y % 5 = kd at *
      obtain ⟨D, hD⟩ : ∃ D : Nat, 1 + kd = (D : Int) := ⟨(1 + kd).toNat, by omega⟩
      rw [hD]
      have d1 : 1 ≤ D := by omega
      have d2 : D ≤ 5 := by omega
      clear hD m1 m2 y0 y1
      refine (makeNum _ _ _ 18 _ HR5.out (by omega) (by omega) (by omega)).mono ?_
      rintro e w6 ⟨⟨y, y0, y1, rfl⟩, hb6⟩
      have HR6 := Lib.hid (HR5.out.below hb6 (Nat.le_refl _))
      have HB6 := Lib.hid (HB5.out.trans (hb6.mono HB5.out.size))
      clear hb6
      have m1 := Pl.mod_nn (a := y) (show (0 : Int) < 60 by omega)
      have m2 := Pl.mod_lt (a := y) (show (0 : Int) < 60 by omega)
      go_wp2_with fail
      generalize y % 60 = l at *
      obtain ⟨L, rfl⟩ := Int.eq_ofNat_of_zero_le m1
      have L1 : L < 60 := by omega
      clear m1 m2 y0 y1
      have HW := Lib.hid (show seqW (D : Int) (L : Int) = wb D 0 1 L by
        unfold seqW
        rw [inB_mk (show (1 : Int) ≤ (D : Int) by omega) (show (D : Int) ≤ 5 by omega), inB_mk (show (0 : Int) ≤ (L : Int) by omega) (show (L : Int) ≤ 256 by omega), Int.toNat_natCast, Int.toNat_natCast]
        rfl)
      refine (iSeqW (D : Int) (L : Int) _ (tab_below HT.out HB6.out (Nat.le_refl _))).mono ?_
      rw [HW.out]
      rintro e w7 ⟨rfl, hb7⟩
      have HR7 := Lib.hid (HR6.out.below hb7 (Nat.le_refl _))
      have HB7 := Lib.hid (HB6.out.trans (hb7.mono HB6.out.size))
      clear hb7 HW
      have hs : (wb D 0 1 L).size = L := wb_size D 0 1 L
      have hsg : ∀ (j : Nat) (h : j < (wb D 0 1 L).size), (((wb D 0 1 L)[j]'h).toNat : Int) = 48 + (seqI D j : Int) := fun j h => by
        rw [wb_get, show 0 + j * 1 = j by omega]
        exact mk_int (seq_le D j)
      generalize wb D 0 1 L = s at *
      have HSG := Lib.hid hsg
      clear hsg
      go_wp2_with fail
      refine (makeNum _ _ _ 20 _ HR7.out (by omega) (by omega) (by omega)).mono ?_
      rintro e w8 ⟨⟨y, y0, y1, rfl⟩, hb8⟩
      have HR8 := Lib.hid (HR7.out.below hb8 (Nat.le_refl _))
      have HB8 := Lib.hid (HB7.out.trans (hb8.mono HB7.out.size))
      clear hb8
      have m1 := Pl.mod_nn (a := y) (show (0 : Int) < 5 by omega)
      have m2 := Pl.mod_lt (a := y) (show (0 : Int) < 5 by omega)
      go_upto_region 15 with fail
      generalize y % 5 = i at *
      obtain ⟨I, rfl⟩ := Int.eq_ofNat_of_zero_le m1
      have I1 : I ≤ 4 := by omega
      clear m1 m2 y0 y1
      have ⟨p1, p2, p3⟩ := pow_i I1
      have HPT := Lib.hid (fun (r : Nat) (hr : r < 2 ^ I) => iWord D I r d1 d2 I1 hr)
      have HWS := Lib.hid (fun r : Nat => show (wb D r (2 ^ I) 12).size = 12 from wb_size D r (2 ^ I) 12)
      have HWG := Lib.hid (fun (r j : Nat) (h : j < (wb D r (2 ^ I) 12).size) => show (((wb D r (2 ^ I) 12)[j]'h).toNat : Int) = 48 + (seqI D (r + j * 2 ^ I) : Int) by rw [wb_get]; exact mk_int (seq_le D _))
      have HSH := Lib.hid (fun (x : Nat) (hx : x < 12) => show IntKind.i64.wrap ((x : Int) * (2 : Int) ^ I) = ((x * 2 ^ I : Nat) : Int) by
        have e : (x : Int) * (2 : Int) ^ I = ((x * 2 ^ I : Nat) : Int) := by simp
        have : x * 2 ^ I ≤ 12 * 16 := Nat.mul_le_mul (by omega) p3
        rw [e]; exact IntWalk.i64_in _ (by omega))
      generalize 2 ^ I = M2 at *
      have hM0 : ¬ M2 = 0 := by omega
      refine wp_region_held_drew (S := (fun wx => Below w8.heap.size w8 wx)) (by kernel_rfl) ?hS6000 (fun hHeld => ?hR6000)
      case hS6000 => ((try dsimp only); (first | exact Below.drew (Below.refl _ _) | assumption))
      refine wpAnyH_take (i := 0) (oi := { dst := some 190, op := Go.Op.move (Go.Operand.tmp 0), type := 25, pos := "laws.go:845", after := #[], guard := none }) (v := ?v6001) rfl (by kernel_rfl) (by kernel_rfl) (by kernel_rfl) (fun _ _ _ h => h) (Or.inl ⟨by rfl, ?hy6001⟩) (by assumption) ?hr6001
      case hy6001 => (intro w hSw; (try dsimp only at hSw); go_simp; (try with_reducible rfl))
      (try simp only [Act.put, List.setIfInBounds_toArray, List.set_cons_zero, List.set_cons_succ])
      refine wpAnyH_take (i := 2) (oi := { dst := some 192, op := Go.Op.move (Go.Operand.tmp 12), type := 3, pos := "laws.go:845", after := #[], guard := none }) (v := ?v6002) rfl (by kernel_rfl) (by kernel_rfl) (by kernel_rfl) (fun _ _ _ h => h) (Or.inl ⟨by rfl, ?hy6002⟩) (by assumption) ?hr6002
      case hy6002 => (intro w hSw; (try dsimp only at hSw); go_simp; (try with_reducible rfl))
      (try simp only [Act.put, List.setIfInBounds_toArray, List.set_cons_zero, List.set_cons_succ])
      refine wpAnyH_take (i := 3) (oi := { dst := some 193, op := Go.Op.binOp Go.BinOp.shl 3 (Go.Operand.const (Go.Value.int Go.IntKind.i64 1)) (Go.Operand.tmp 192) 3, type := 3, pos := "laws.go:845", after := #[{ on := 2, ground := Go.Ground.data }], guard := none }) (v := ?v6003) rfl (by kernel_rfl) (by kernel_rfl) (by kernel_rfl) (fun _ _ _ h => h) (Or.inl ⟨by rfl, ?hy6003⟩) (by assumption) ?hr6003
      case hy6003 => (intro w hSw; (try dsimp only at hSw); go_simp; (try with_reducible rfl))
      (try simp only [Act.put, List.setIfInBounds_toArray, List.set_cons_zero, List.set_cons_succ])
      refine wpAnyH_ready (rs := [1]) (by kernel_rfl) (by simp) ?_
      refine AllReadyH.cons (o := { dst := some 191, op := Go.Op.call { callee := Go.Callee.value (Go.Operand.func 12), args := #[Go.Operand.tmp 190, Go.Operand.const (Go.Value.int Go.IntKind.i64 22)], argTypes := #[25, 3] }, type := 3, pos := "laws.go:845", after := #[{ on := 0, ground := Go.Ground.data }], guard := none }) rfl (fun K hK => ?_) AllReadyH.nil
      go_simp
      (go_at_call 12; refine (makeNum _ _ _ 22 _ (HR8.out.below hHeld (Nat.le_refl _)) (by omega) (by omega) (by omega)).mono ?_; rintro e w9 ⟨⟨y, y0, y1, rfl⟩, hb9'⟩; have hb9 := hHeld.trans (hb9'.mono hHeld.size); have hy : y.tmod (M2 : Int) = y % (M2 : Int) := Int.tmod_eq_emod_of_nonneg y0)
      (try go_wp2_with fail)
      refine hK.out _ _ ?hS6004 (fun hHeld => ?hR6004)
      case hS6004 => ((try dsimp only); (first | exact Below.drew (Below.refl _ _) | assumption))
      clear hK K
      (try simp only [Act.put, List.setIfInBounds_toArray, List.set_cons_zero, List.set_cons_succ])
      refine wpAnyH_take (i := 4) (oi := { dst := some 194, op := Go.Op.binOp Go.BinOp.rem 3 (Go.Operand.tmp 191) (Go.Operand.tmp 193) 3, type := 3, pos := "laws.go:845", after := #[{ on := 1, ground := Go.Ground.data }, { on := 3, ground := Go.Ground.data }], guard := none }) (v := ?v6005) rfl (by kernel_rfl) (by kernel_rfl) (by kernel_rfl) (fun _ _ _ h => h) (Or.inl ⟨by rfl, ?hy6005⟩) (by assumption) ?hr6005
      case hy6005 => (intro w hSw; (try dsimp only at hSw); go_simp; (try with_reducible rfl))
      (try simp only [Act.put, List.setIfInBounds_toArray, List.set_cons_zero, List.set_cons_succ])
      refine wpAnyH_take (i := 5) (oi := { dst := some 13, op := Go.Op.assign (Go.Operand.tmp 194), type := 3, pos := "laws.go:845", after := #[{ on := 4, ground := Go.Ground.data }, { on := 1, ground := Go.Ground.chain }, { on := 0, ground := Go.Ground.phase }, { on := 1, ground := Go.Ground.phase }, { on := 2, ground := Go.Ground.phase }, { on := 3, ground := Go.Ground.phase }, { on := 4, ground := Go.Ground.phase }], guard := none }) (v := ?v6006) rfl (by kernel_rfl) (by kernel_rfl) (by kernel_rfl) (fun _ _ _ h => h) (Or.inl ⟨by rfl, ?hy6006⟩) (by assumption) ?hr6006
      case hy6006 => (intro w hSw; (try dsimp only at hSw); go_simp; (try with_reducible rfl))
      (try simp only [Act.put, List.setIfInBounds_toArray, List.set_cons_zero, List.set_cons_succ])
      refine wpAnyH_done (by kernel_rfl) ?_ _
      clear p1
      have r0 := Pl.mod_nn (a := y) (show 0 < (M2 : Int) by omega)
      have r1 := Pl.mod_lt (a := y) (show 0 < (M2 : Int) by omega)
      go_upto_region 16 with fail
      generalize y % (M2 : Int) = rr at *
      obtain ⟨R, rfl⟩ := Int.eq_ofNat_of_zero_le r0
      have R1 : R < M2 := by omega
      clear r0 r1 hy y0 y1
      have HT9 := Lib.hid (tab_below HT.out (HB8.out.trans (hb9.mono HB8.out.size)) (Nat.le_refl _))
      have HB9 := Lib.hid (HB8.out.trans (hb9.mono HB8.out.size))
      clear hM0
      go_wp2_with fail
      refine (HPT.out R R1 _ HT9.out).mono ?_
      rintro e w10 ⟨rfl, hb10⟩
      have HB10 := Lib.hid (HB9.out.trans (hb10.mono HB9.out.size))
      clear hb10 hb9
      have ht := HWS.out R
      have HTG := Lib.hid (HWG.out R)
      clear HWS HWG HPT
      generalize wb D R M2 12 = t at *
      go_wp2_with fail
      go_loopw [15, 16] (fun vp vx wr => ∃ (x p : Nat), x ≤ L ∧ p ≤ x ∧ vp = .int .i64 p ∧ vx = .int .i64 x ∧ Hid (sgn D x = 2 * (p : Int) - x) ∧ Below w.heap.size w wr) (fun _ vx _ => L - (intOf vx).toNat)
      case atStart => exact ⟨0, 0, Nat.zero_le _, Nat.le_refl _, rfl, rfl, Lib.hid rfl, HB10.out⟩
      case round =>
        obtain ⟨x, p, hx, hp, rfl, rfl, hg, hbel⟩ := hrel
        have HBr := Lib.hid hbel
        clear hbel
        by_cases hlt : x < L
        · have h1 : x < s.size := by omega
          have h2 : (x : Int) < (L : Int) := by omega
          have hq := seq_le D x
          have hgx : ∀ h : x < s.size, ((s[x]'h).toNat : Int) = 48 + (seqI D x : Int) := HSG.out x
          have HSQ := Lib.hid (show ∀ wx, Below w.heap.size w wx → Calls Tryd.prog 11 #[.int .i64 D, .int .i64 x] wx fun e w' => e = .returned (.int .i64 (seqI D x)) ∧ wx = w' from fun wx hb => iSeqAt D x d1 d2 (by omega) wx (tab_below HT.out hb (Nat.le_refl _)))
          have HSS := Lib.hid (show sgn D (x + 1) = 2 * (p : Int) - x + (1 - 2 * ((seqI D x : Int) % 2)) by rw [sgn_succ, hg.out])
          generalize seqI D x = q at *
          have hu1 : IntKind.u8.wrap (48 + (q : Int) - 48) = (q : Int) := by rw [show 48 + (q : Int) - 48 = q by omega, IntKind.wrap_u8]; omega
          have hu2 : IntKind.i64.wrap (q : Int) = (q : Int) := IntWalk.i64_in _ (by omega)
          have hw1 : IntKind.i64.wrap (x : Int) = (x : Int) := IntWalk.i64_in _ (by omega)
          go_upto_region 23 with fail
          refine wp_region_held_drew (S := (fun wx => Below w.heap.size w wx)) (by kernel_rfl) ?hS7000 (fun hHeld => ?hR7000)
          case hS7000 => ((try dsimp only); (first | exact Below.drew HBr.out | assumption))
          refine wpAnyH_take (i := 0) (oi := { dst := some 213, op := Go.Op.move (Go.Operand.tmp 9), type := 3, pos := "laws.go:852", after := #[], guard := none }) (v := ?v7001) rfl (by kernel_rfl) (by kernel_rfl) (by kernel_rfl) (fun _ _ _ h => h) (Or.inl ⟨by rfl, ?hy7001⟩) (by assumption) ?hr7001
          case hy7001 => (intro w hSw; (try dsimp only at hSw); go_simp; (try with_reducible rfl))
          (try simp only [Act.put, List.setIfInBounds_toArray, List.set_cons_zero, List.set_cons_succ])
          refine wpAnyH_take (i := 1) (oi := { dst := some 214, op := Go.Op.move (Go.Operand.tmp 16), type := 3, pos := "laws.go:852", after := #[], guard := none }) (v := ?v7002) rfl (by kernel_rfl) (by kernel_rfl) (by kernel_rfl) (fun _ _ _ h => h) (Or.inl ⟨by rfl, ?hy7002⟩) (by assumption) ?hr7002
          case hy7002 => (intro w hSw; (try dsimp only at hSw); go_simp; (try with_reducible rfl))
          (try simp only [Act.put, List.setIfInBounds_toArray, List.set_cons_zero, List.set_cons_succ])
          refine wpAnyH_take (i := 3) (oi := { dst := some 216, op := Go.Op.move (Go.Operand.tmp 11), type := 9, pos := "laws.go:852", after := #[], guard := none }) (v := ?v7003) rfl (by kernel_rfl) (by kernel_rfl) (by kernel_rfl) (fun _ _ _ h => h) (Or.inl ⟨by rfl, ?hy7003⟩) (by assumption) ?hr7003
          case hy7003 => (intro w hSw; (try dsimp only at hSw); go_simp; (try with_reducible rfl))
          (try simp only [Act.put, List.setIfInBounds_toArray, List.set_cons_zero, List.set_cons_succ])
          refine wpAnyH_take (i := 4) (oi := { dst := some 217, op := Go.Op.move (Go.Operand.tmp 16), type := 3, pos := "laws.go:852", after := #[], guard := none }) (v := ?v7004) rfl (by kernel_rfl) (by kernel_rfl) (by kernel_rfl) (fun _ _ _ h => h) (Or.inl ⟨by rfl, ?hy7004⟩) (by assumption) ?hr7004
          case hy7004 => (intro w hSw; (try dsimp only at hSw); go_simp; (try with_reducible rfl))
          (try simp only [Act.put, List.setIfInBounds_toArray, List.set_cons_zero, List.set_cons_succ])
          refine wpAnyH_take (i := 5) (oi := { dst := some 218, op := Go.Op.index 9 (Go.Operand.tmp 216) (Go.Operand.tmp 217), type := 5, pos := "laws.go:852", after := #[{ on := 3, ground := Go.Ground.data }, { on := 4, ground := Go.Ground.data }], guard := none }) (v := ?v7005) rfl (by kernel_rfl) (by kernel_rfl) (by kernel_rfl) (fun _ _ _ h => h) (Or.inl ⟨by rfl, ?hy7005⟩) (by assumption) ?hr7005
          case hy7005 => (intro w hSw; (try dsimp only at hSw); go_simp; (try with_reducible rfl))
          (try simp only [Act.put, List.setIfInBounds_toArray, List.set_cons_zero, List.set_cons_succ])
          refine wpAnyH_take (i := 6) (oi := { dst := some 219, op := Go.Op.binOp Go.BinOp.sub 5 (Go.Operand.tmp 218) (Go.Operand.const (Go.Value.int Go.IntKind.u8 48)) 5, type := 5, pos := "laws.go:852", after := #[{ on := 5, ground := Go.Ground.data }], guard := none }) (v := ?v7006) rfl (by kernel_rfl) (by kernel_rfl) (by kernel_rfl) (fun _ _ _ h => h) (Or.inl ⟨by rfl, ?hy7006⟩) (by assumption) ?hr7006
          case hy7006 => (intro w hSw; (try dsimp only at hSw); go_simp; (try with_reducible rfl))
          (try simp only [Act.put, List.setIfInBounds_toArray, List.set_cons_zero, List.set_cons_succ])
          refine wpAnyH_take (i := 7) (oi := { dst := some 220, op := Go.Op.convert 5 3 (Go.Operand.tmp 219), type := 3, pos := "laws.go:852", after := #[{ on := 6, ground := Go.Ground.data }], guard := none }) (v := ?v7007) rfl (by kernel_rfl) (by kernel_rfl) (by kernel_rfl) (fun _ _ _ h => h) (Or.inl ⟨by rfl, ?hy7007⟩) (by assumption) ?hr7007
          case hy7007 => (intro w hSw; (try dsimp only at hSw); go_simp; (try with_reducible rfl))
          (try simp only [Act.put, List.setIfInBounds_toArray, List.set_cons_zero, List.set_cons_succ])
          refine wpAnyH_ready (rs := [2]) (by kernel_rfl) (by simp) ?_
          refine AllReadyH.cons (o := { dst := some 215, op := Go.Op.call { callee := Go.Callee.value (Go.Operand.func 11), args := #[Go.Operand.tmp 213, Go.Operand.tmp 214], argTypes := #[3, 3] }, type := 3, pos := "laws.go:852", after := #[{ on := 0, ground := Go.Ground.data }, { on := 1, ground := Go.Ground.data }], guard := none }) rfl (fun K hK => ?_) AllReadyH.nil
          go_simp
          (go_at_call 11; refine (HSQ.out _ hHeld).mono ?_; rintro e w12 ⟨rfl, rfl⟩)
          (try go_wp2_with fail)
          refine hK.out _ _ ?hS7008 (fun hHeld => ?hR7008)
          case hS7008 => ((try dsimp only); (first | exact Below.drew HBr.out | assumption))
          clear hK K
          (try simp only [Act.put, List.setIfInBounds_toArray, List.set_cons_zero, List.set_cons_succ])
          refine wpAnyH_take (i := 8) (oi := { dst := some 221, op := Go.Op.binOp Go.BinOp.neq 3 (Go.Operand.tmp 215) (Go.Operand.tmp 220) 3, type := 4, pos := "laws.go:852", after := #[{ on := 2, ground := Go.Ground.data }, { on := 7, ground := Go.Ground.data }], guard := none }) (v := ?v7009) rfl (by kernel_rfl) (by kernel_rfl) (by kernel_rfl) (fun _ _ _ h => h) (Or.inl ⟨by rfl, ?hy7009⟩) (by assumption) ?hr7009
          case hy7009 => (intro w hSw; (try dsimp only at hSw); go_simp; (try with_reducible rfl))
          (try simp only [Act.put, List.setIfInBounds_toArray, List.set_cons_zero, List.set_cons_succ])
          refine wpAnyH_done (by kernel_rfl) ?_ _
          clear hw1 hu2
          by_cases hq2 : q % 2 = 0
          · have hb2 : ((q : Int) % 2 == 0) = true := by rw [beq_iff_eq]; omega
            have HSS2 := Lib.hid (show sgn D (x + 1) = 2 * ((p + 1 : Nat) : Int) - ((x + 1 : Nat) : Int) by rw [HSS.out]; omega)
            clear hq2
            go_wp2
            go_roundw
            case rel => exact ⟨x + 1, p + 1, by omega, by omega, by go_num, by go_num, HSS2, Below.drew HBr.out⟩
            case measure => simp [intOf]; omega
          · have hb2 : ((q : Int) % 2 == 0) = false := by rw [beq_eq_false_iff_ne]; omega
            have HSS2 := Lib.hid (show sgn D (x + 1) = 2 * (p : Int) - ((x + 1 : Nat) : Int) by rw [HSS.out]; omega)
            clear hq2
            go_wp2
            go_roundw
            case rel => exact ⟨x + 1, p, by omega, by omega, rfl, by go_num, HSS2, Below.drew HBr.out⟩
            case measure => simp [intOf]; omega
        · obtain rfl : x = L := by omega
          have HSG2 := Lib.hid hg.out
          go_wp2_with fail
          go_loopw [17] (fun vx wr => ∃ y : Nat, y ≤ 12 ∧ vx = .int .i64 y ∧ Below w.heap.size w wr) (fun vx _ => 12 - (intOf vx).toNat)
          case atStart => exact ⟨0, Nat.zero_le _, rfl, HBr.out⟩
          case round =>
            obtain ⟨y, hy, rfl, hbel⟩ := hrel
            have HBy := Lib.hid hbel
            clear hbel
            by_cases hlt2 : y < 12
            · have h1 : y < t.size := by omega
              have hsh := Lib.hid (HSH.out y hlt2)
              have hz1 : y * M2 ≤ 12 * 16 := Nat.mul_le_mul (by omega) p3
              have hgx : ∀ h : y < t.size, ((t[y]'h).toNat : Int) = 48 + (seqI D (R + y * M2) : Int) := HTG.out y
              generalize y * M2 = z at *
              have hq := seq_le D (R + z)
              have HSQ := Lib.hid (show ∀ wx, Below w.heap.size w wx → Calls Tryd.prog 11 #[.int .i64 D, .int .i64 ((R + z : Nat) : Int)] wx fun e w' => e = .returned (.int .i64 (seqI D (R + z))) ∧ wx = w' from fun wx hb => iSeqAt D (R + z) d1 d2 (by omega) wx (tab_below HT.out hb (Nat.le_refl _)))
              generalize seqI D (R + z) = q at *
              have hu1 : IntKind.u8.wrap (48 + (q : Int) - 48) = (q : Int) := by rw [show 48 + (q : Int) - 48 = q by omega, IntKind.wrap_u8]; omega
              have hu2 : IntKind.i64.wrap (q : Int) = (q : Int) := IntWalk.i64_in _ (by omega)
              have hw1 : IntKind.i64.wrap (y : Int) = (y : Int) := IntWalk.i64_in _ (by omega)
              have hw2 : IntKind.i64.wrap ((R : Int) + (z : Int)) = ((R + z : Nat) : Int) := (IntWalk.i64_in _ (by omega)).trans (by omega)
              have hsh := hsh.out
              go_upto_region 30 with fail
              refine wp_region_held_drew (S := (fun wx => Below w.heap.size w wx)) (by kernel_rfl) ?hS8000 (fun hHeld => ?hR8000)
              case hS8000 => ((try dsimp only); (first | exact Below.drew HBy.out | assumption))
              refine wpAnyH_take (i := 0) (oi := { dst := some 234, op := Go.Op.move (Go.Operand.tmp 9), type := 3, pos := "laws.go:860", after := #[], guard := none }) (v := ?v8001) rfl (by kernel_rfl) (by kernel_rfl) (by kernel_rfl) (fun _ _ _ h => h) (Or.inl ⟨by rfl, ?hy8001⟩) (by assumption) ?hr8001
              case hy8001 => (intro w hSw; (try dsimp only at hSw); go_simp; (try with_reducible rfl))
              (try simp only [Act.put, List.setIfInBounds_toArray, List.set_cons_zero, List.set_cons_succ])
              refine wpAnyH_take (i := 1) (oi := { dst := some 235, op := Go.Op.move (Go.Operand.tmp 13), type := 3, pos := "laws.go:860", after := #[], guard := none }) (v := ?v8002) rfl (by kernel_rfl) (by kernel_rfl) (by kernel_rfl) (fun _ _ _ h => h) (Or.inl ⟨by rfl, ?hy8002⟩) (by assumption) ?hr8002
              case hy8002 => (intro w hSw; (try dsimp only at hSw); go_simp; (try with_reducible rfl))
              (try simp only [Act.put, List.setIfInBounds_toArray, List.set_cons_zero, List.set_cons_succ])
              refine wpAnyH_take (i := 2) (oi := { dst := some 236, op := Go.Op.move (Go.Operand.tmp 17), type := 3, pos := "laws.go:860", after := #[], guard := none }) (v := ?v8003) rfl (by kernel_rfl) (by kernel_rfl) (by kernel_rfl) (fun _ _ _ h => h) (Or.inl ⟨by rfl, ?hy8003⟩) (by assumption) ?hr8003
              case hy8003 => (intro w hSw; (try dsimp only at hSw); go_simp; (try with_reducible rfl))
              (try simp only [Act.put, List.setIfInBounds_toArray, List.set_cons_zero, List.set_cons_succ])
              refine wpAnyH_take (i := 3) (oi := { dst := some 237, op := Go.Op.move (Go.Operand.tmp 12), type := 3, pos := "laws.go:860", after := #[], guard := none }) (v := ?v8004) rfl (by kernel_rfl) (by kernel_rfl) (by kernel_rfl) (fun _ _ _ h => h) (Or.inl ⟨by rfl, ?hy8004⟩) (by assumption) ?hr8004
              case hy8004 => (intro w hSw; (try dsimp only at hSw); go_simp; (try with_reducible rfl))
              (try simp only [Act.put, List.setIfInBounds_toArray, List.set_cons_zero, List.set_cons_succ])
              refine wpAnyH_take (i := 4) (oi := { dst := some 238, op := Go.Op.binOp Go.BinOp.shl 3 (Go.Operand.tmp 236) (Go.Operand.tmp 237) 3, type := 3, pos := "laws.go:860", after := #[{ on := 2, ground := Go.Ground.data }, { on := 3, ground := Go.Ground.data }], guard := none }) (v := ?v8005) rfl (by kernel_rfl) (by kernel_rfl) (by kernel_rfl) (fun _ _ _ h => h) (Or.inl ⟨by rfl, ?hy8005⟩) (by assumption) ?hr8005
              case hy8005 => (intro w hSw; (try dsimp only at hSw); go_simp; (try with_reducible rfl))
              (try simp only [Act.put, List.setIfInBounds_toArray, List.set_cons_zero, List.set_cons_succ])
              refine wpAnyH_take (i := 5) (oi := { dst := some 239, op := Go.Op.binOp Go.BinOp.add 3 (Go.Operand.tmp 235) (Go.Operand.tmp 238) 3, type := 3, pos := "laws.go:860", after := #[{ on := 1, ground := Go.Ground.data }, { on := 4, ground := Go.Ground.data }], guard := none }) (v := ?v8006) rfl (by kernel_rfl) (by kernel_rfl) (by kernel_rfl) (fun _ _ _ h => h) (Or.inl ⟨by rfl, ?hy8006⟩) (by assumption) ?hr8006
              case hy8006 => (intro w hSw; (try dsimp only at hSw); go_simp; (try with_reducible rfl))
              (try simp only [Act.put, List.setIfInBounds_toArray, List.set_cons_zero, List.set_cons_succ])
              refine wpAnyH_take (i := 7) (oi := { dst := some 241, op := Go.Op.move (Go.Operand.tmp 14), type := 9, pos := "laws.go:860", after := #[], guard := none }) (v := ?v8007) rfl (by kernel_rfl) (by kernel_rfl) (by kernel_rfl) (fun _ _ _ h => h) (Or.inl ⟨by rfl, ?hy8007⟩) (by assumption) ?hr8007
              case hy8007 => (intro w hSw; (try dsimp only at hSw); go_simp; (try with_reducible rfl))
              (try simp only [Act.put, List.setIfInBounds_toArray, List.set_cons_zero, List.set_cons_succ])
              refine wpAnyH_take (i := 8) (oi := { dst := some 242, op := Go.Op.move (Go.Operand.tmp 17), type := 3, pos := "laws.go:860", after := #[], guard := none }) (v := ?v8008) rfl (by kernel_rfl) (by kernel_rfl) (by kernel_rfl) (fun _ _ _ h => h) (Or.inl ⟨by rfl, ?hy8008⟩) (by assumption) ?hr8008
              case hy8008 => (intro w hSw; (try dsimp only at hSw); go_simp; (try with_reducible rfl))
              (try simp only [Act.put, List.setIfInBounds_toArray, List.set_cons_zero, List.set_cons_succ])
              refine wpAnyH_take (i := 9) (oi := { dst := some 243, op := Go.Op.index 9 (Go.Operand.tmp 241) (Go.Operand.tmp 242), type := 5, pos := "laws.go:860", after := #[{ on := 7, ground := Go.Ground.data }, { on := 8, ground := Go.Ground.data }], guard := none }) (v := ?v8009) rfl (by kernel_rfl) (by kernel_rfl) (by kernel_rfl) (fun _ _ _ h => h) (Or.inl ⟨by rfl, ?hy8009⟩) (by assumption) ?hr8009
              case hy8009 => (intro w hSw; (try dsimp only at hSw); go_simp; (try with_reducible rfl))
              (try simp only [Act.put, List.setIfInBounds_toArray, List.set_cons_zero, List.set_cons_succ])
              refine wpAnyH_take (i := 10) (oi := { dst := some 244, op := Go.Op.binOp Go.BinOp.sub 5 (Go.Operand.tmp 243) (Go.Operand.const (Go.Value.int Go.IntKind.u8 48)) 5, type := 5, pos := "laws.go:860", after := #[{ on := 9, ground := Go.Ground.data }], guard := none }) (v := ?v8010) rfl (by kernel_rfl) (by kernel_rfl) (by kernel_rfl) (fun _ _ _ h => h) (Or.inl ⟨by rfl, ?hy8010⟩) (by assumption) ?hr8010
              case hy8010 => (intro w hSw; (try dsimp only at hSw); go_simp; (try with_reducible rfl))
              (try simp only [Act.put, List.setIfInBounds_toArray, List.set_cons_zero, List.set_cons_succ])
              refine wpAnyH_take (i := 11) (oi := { dst := some 245, op := Go.Op.convert 5 3 (Go.Operand.tmp 244), type := 3, pos := "laws.go:860", after := #[{ on := 10, ground := Go.Ground.data }], guard := none }) (v := ?v8011) rfl (by kernel_rfl) (by kernel_rfl) (by kernel_rfl) (fun _ _ _ h => h) (Or.inl ⟨by rfl, ?hy8011⟩) (by assumption) ?hr8011
              case hy8011 => (intro w hSw; (try dsimp only at hSw); go_simp; (try with_reducible rfl))
              (try simp only [Act.put, List.setIfInBounds_toArray, List.set_cons_zero, List.set_cons_succ])
              refine wpAnyH_ready (rs := [6]) (by kernel_rfl) (by simp) ?_
              refine AllReadyH.cons (o := { dst := some 240, op := Go.Op.call { callee := Go.Callee.value (Go.Operand.func 11), args := #[Go.Operand.tmp 234, Go.Operand.tmp 239], argTypes := #[3, 3] }, type := 3, pos := "laws.go:860", after := #[{ on := 0, ground := Go.Ground.data }, { on := 5, ground := Go.Ground.data }], guard := none }) rfl (fun K hK => ?_) AllReadyH.nil
              go_simp
              (go_at_call 11; refine (HSQ.out _ hHeld).mono ?_; rintro e w12 ⟨rfl, rfl⟩)
              (try go_wp2_with fail)
              refine hK.out _ _ ?hS8012 (fun hHeld => ?hR8012)
              case hS8012 => ((try dsimp only); (first | exact Below.drew HBy.out | assumption))
              clear hK K
              (try simp only [Act.put, List.setIfInBounds_toArray, List.set_cons_zero, List.set_cons_succ])
              refine wpAnyH_take (i := 12) (oi := { dst := some 246, op := Go.Op.binOp Go.BinOp.neq 3 (Go.Operand.tmp 240) (Go.Operand.tmp 245) 3, type := 4, pos := "laws.go:860", after := #[{ on := 6, ground := Go.Ground.data }, { on := 11, ground := Go.Ground.data }], guard := none }) (v := ?v8013) rfl (by kernel_rfl) (by kernel_rfl) (by kernel_rfl) (fun _ _ _ h => h) (Or.inl ⟨by rfl, ?hy8013⟩) (by assumption) ?hr8013
              case hy8013 => (intro w hSw; (try dsimp only at hSw); go_simp; (try with_reducible rfl))
              (try simp only [Act.put, List.setIfInBounds_toArray, List.set_cons_zero, List.set_cons_succ])
              refine wpAnyH_done (by kernel_rfl) ?_ _
              clear hw1 hu2 hu1 hw2 hsh
              go_wp2
              go_roundw
              case rel => exact ⟨y + 1, by omega, by go_num, Below.drew HBy.out⟩
              case measure => simp [intOf]; omega
            · obtain rfl : y = 12 := by omega
              go_wp2_with fail
              refine (as_int HSG2.out (iSum D x d1 d2 (by omega) _ (tab_below HT.out HBy.out (Nat.le_refl _)))).mono ?_
              rintro e w12 ⟨rfl, rfl⟩
              go_wp2_with fail
              refine (iNoCube _ (tab_below HT.out HBy.out (Nat.le_refl _))).mono ?_
              rintro e w13 ⟨rfl, hb13⟩
              have HB13 := Lib.hid (HBy.out.trans (hb13.mono HBy.out.size))
              clear hb13
              go_wp2_with fail
              refine (iTwo _ (tab_below HT.out HB13.out (Nat.le_refl _))).mono ?_
              rintro e w14 ⟨rfl, hb14⟩
              have HB14 := Lib.hid (HB13.out.trans (hb14.mono HB13.out.size))
              clear hb14
              go_wp2_with fail
              refine (iFirst _ (tab_below HT.out HB14.out (Nat.le_refl _))).mono ?_
              rintro e w15 ⟨rfl, hb15⟩
              have HB15 := Lib.hid (HB14.out.trans (hb15.mono HB14.out.size))
              clear hb15
              go_wp2
              go_ret
              exact ⟨rfl, HB15.out⟩

set_option maxRecDepth 100000 in
theorem lifted (os : Os) (started : os.Started) (H : Type) (enc : TypeId × Value → H) :
    ReturnsInHanded {} Tryd.checked os 5 .any (fun w args => (Rows.fnSequencesSpec.pre enc Tryd.prog Tryd.f5 [] false w args ∧ laidMetH Tryd.prog laidL w) ∧ sizedMet enc Tryd.prog Tryd.f5 (OpenSpec.ofChange Rows.fnSequencesSpec) false w args)
      (Rows.fnSequencesSpec.post enc Tryd.prog Tryd.f5 false true false false) := by
  refine returnsInHanded_of_change_and (C := Tryd.checked) (X := fun w _ => laidMetH Tryd.prog laidL w) (fun _ _ _ hh h => h.of_heap hh) own started (by kernel_rfl) Tryd.func5
    (ChangeSpec.witness_shaped (enc := enc) (C := Tryd.checked) (os := os) (X := fun w _ => laidMetH Tryd.prog laidL w) false (World.doorLaid Tryd.prog 400 os) #[.slice none 0 0] 8 rfl (World.shaped_of_RefB (by kernel_rfl) (by kernel_rfl)) (by kernel_rfl) (by kernel_rfl) (by kernel_rfl) (door_met os _)) ?_
  intro W base args ds gs before hval0 hW _ _ hL _
  have hval : ∀ (j : Nat) t v, Tryd.f5.params[j]? = some t → args[j]? = some v → Value.okWide Tryd.prog W .any base t v := hval0
  have hW' := hW
  obtain ⟨p, q, hA0, hV, rfl, hfz, hnd⟩ := hW
  have hA : DataW.TrodAll enc Tryd.prog W 0 (fun _ => true) true Tryd.f5.params.toList args.toList ds p := hA0
  rw [Tryd.params5] at hA hval
  obtain ⟨v0, vs0, d0, ds0, p0, q0, hargs, rfl, rfl, h0, r0⟩ := trodAll_cons hA
  obtain ⟨rfl, rfl, rfl⟩ := trodAll_nil r0
  obtain rfl : args = #[v0] := by cases args; simp_all
  obtain ⟨rfl, rfl⟩ := trodVars_none hV
  obtain ⟨a0, len0, cap0, rfl⟩ := okWide_slice Tryd.underlying25 (hval 0 25 v0 rfl rfl)
  have k0 := h0
  have lt0 : ∀ x ∈ p0, x.block < W.heap.size := by obtain ⟨m, hm⟩ := k0; exact DataW.trod_lt m _ _ _ hm
  obtain ⟨z0, w0⟩ : ∃ zs, IsRow .u8 W a0 len0 cap0 zs := by
    obtain ⟨fuel, hf⟩ := h0
    rcases open_ints Tryd.underlying25 Tryd.underlying5 (by kernel_rfl) hf with ⟨hcs, _⟩ | ⟨x, l, c, zs, hcs, _, hl, hm, hz, _, hcell, hwz⟩
    · simp [Value.cells] at hcs
      obtain ⟨rfl, rfl, rfl⟩ := hcs
      exact ⟨[], .inl ⟨rfl, rfl, rfl, rfl⟩⟩
    · simp [Value.cells] at hcs
      obtain ⟨rfl, rfl, rfl⟩ := hcs
      exact ⟨zs, .inr ⟨_, rfl, hl, hm, by simpa using hz, hcell, hwz⟩⟩
  clear hA0 hval0
  refine (walk a0 len0 cap0 z0 W w0 (tab_of_laid hL)).mono fun e W' ⟨he, bel⟩ => ?_
  subst he
  exact ⟨_, rfl, _, _, _, [], _, [], hW', trodAll_mk1 (shut_bool Tryd.underlying4 _), (trodAll_cons_mk (Below.trod laidOut (by kernel_rfl) (of_decide_eq_true (by kernel_rfl)) k0 bel lt0) trodAll_mk0), rfl, bel.frame _, fun h => by cases h⟩

theorem over : Rows.FnSequencesSaid :=
  OpenClaim.holds_of_wide 5 Tryd.f5 rfl rfl rfl rfl rfl rfl rfl ⟨rfl, rfl, rfl, rfl, rfl⟩ rfl rfl rfl rfl rfl (by kernel_rfl) Tryd.func5 (by kernel_rfl)
    (of_decide_eq_true (by kernel_rfl)) (by unfold Func.isWrapper; first | (rw [if_pos (by decide +kernel)]; kernel_rfl) | (rw [if_neg (by decide +kernel)]; exact ⟨rfl, rfl⟩))
    (fun os started H enc _ => lifted os started H enc)

theorem proved : Rows.FnSequencesCardSaid :=
  Claim7.holds_tied_plain_at .later [] [.data, .data] true (true, "ec5eb17ef33bec58b6abf43bd0bdbde82f3223ecc3971a5ccd59e49d4bfe79aa") false
    over (fun _ h => by cases h) (by kernel_rfl) (fun _ h => by cases h) fnSequences_row_tie rfl ⟨rfl, rfl⟩ (by kernel_rfl) rfl
    (fun f fn hf hfn => by
      obtain rfl : f = 5 := Option.some.inj ((show Tryd.prog.funcNamed "loop.example/g03203/laws.FnSequences" = some 5 by kernel_rfl).symm.trans hf) |>.symm
      obtain rfl : fn = Tryd.f5 := (Option.some.inj (Tryd.func5.symm.trans hfn)).symm
      exact ⟨by kernel_rfl, fun j t ht => by
        rw [Tryd.params5] at ht
        have hm : t ∈ [25] := by simpa using Array.mem_of_getElem? ht
        have hall : ([25].all fun u => !Tryd.prog.wantsStandIn u) = true := by kernel_rfl
        exact (show Tryd.prog.wantsStandIn t = false by simpa using List.all_eq_true.1 hall t hm)⟩)
    (by kernel_rfl)
#print axioms proved
end Go.Proofs.YtkddmngbfncocaaDoor.fnSequences
