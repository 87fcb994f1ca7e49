/-
  The program's law FnSorts returns true for every input, and its arguments read afterwards as before.
  Conditions: none.
-/
import Derived.Test.YtidjnbnhkgobnaaRows
import Derived.WalkKit
import Derived.ProofKit
import Derived.OpenShut
import Derived.ShutString
import Derived.ChangeOld
import Derived.Below
import Derived.Test.YtidjnbnhkgobnaaSlicesA
import Derived.Test.YtidjnbnhkgobnaaMake
import Derived.Test.YtidjnbnhkgobnaaHelps
import Derived.Test.YtidjnbnhkgobnaaCySort
import Derived.Test.YtidjnbnhkgobnaaFixS
import Derived.Test.YtidjnbnhkgobnaaRot1
import Derived.Test.YtidjnbnhkgobnaaExt
import Derived.Deep.DeepCutAuto
import Derived.Deep.RegionHeld3
namespace Go.Proofs.Ytidjnbnhkgobnaa.fnSorts
open Go.ChangeShapes Go.WideShapes Go.ChangeAt Go.RowKit
set_option linter.unusedVariables false

theorem own : ownKnob Try.prog.godebug = none := by kernel_rfl
theorem laidOut : laidOutB Try.prog = true := by kernel_rfl
open Cy Srt
theorem ssV_ss {n b k : Int} (b1 : 2 ≤ b) (b2 : b ≤ 16) (k1 : 2 ≤ k) (k2 : k ≤ 5) (n1 : 0 ≤ n) (n2 : n < b ^ k.toNat) : ssV n b k = Pl.ss b k.toNat n := by
  unfold ssV fitB; rw [inB_mk b1 b2, inB_mk k1 k2, inB_mk n1 (show n ≤ b ^ k.toNat - 1 by omega)]; rfl
theorem fit_yes {n b k : Int} (b1 : 2 ≤ b) (b2 : b ≤ 16) (k1 : 2 ≤ k) (k2 : k ≤ 5) (n1 : 0 ≤ n) (n2 : n < b ^ k.toNat) : fitB n b k = true := by
  unfold fitB; rw [inB_mk b1 b2, inB_mk k1 k2, inB_mk n1 (show n ≤ b ^ k.toNat - 1 by omega)]; rfl
theorem scV_mk {n b k : Int} (b1 : 2 ≤ b) (b2 : b ≤ 16) (k1 : 2 ≤ k) (k2 : k ≤ 5) (n1 : 0 ≤ n) (n2 : n < b ^ k.toNat) {p : Nat} {l : List Int} (h : Pl.Cyc (Pl.sf b k.toNat) n p l) : ScV n b k l p :=
  ⟨fun _ => ⟨p, rfl, h⟩, fun h' => by rw [fit_yes b1 b2 k1 k2 n1 n2] at h'; exact absurd h' (by simp)⟩
/-- What the law asks of the sorting of digits. -/
structure SD (n b k x : Int) (l : List Int) (p : Int) (p2 : Int) (u : Bool) : Prop where
  hx : ssV n b k = x
  x0 : 0 ≤ x ∧ x < b ^ k.toNat
  t1 : (x % (b - 1) != 0) = false
  hr : ssV (rotV n b k) b k = x
  hl : ScV n b k l p
  hl2 : ScV x b k l p2
  hp2 : 0 < p → p2 = p - 1
  p0 : 0 ≤ p ∧ p ≤ 1000000000
  q1 : (p == 0) = u
  q2 : decide (n ∈ l) = u
  len0 : 0 < l.length ∧ l.length ≤ 1000000000000
  nx : ∀ i, i < l.length → ssV (l.getD i 0) b k = l.getD ((i + 1) % l.length) 0
  hd : ∀ i, i < l.length → l.getD 0 0 ≤ l.getD i 0
  dv : ∀ i, i < l.length → (l.getD i 0 % (b - 1) != 0) = false
  bd : ∀ i, i < l.length → 0 ≤ l.getD i 0 ∧ l.getD i 0 < b ^ k.toNat
theorem sd {n b k : Int} (b1 : 2 ≤ b) (b2 : b ≤ 16) (k1 : 2 ≤ k) (k2 : k ≤ 4) (n1 : 0 ≤ n) (n2 : n < b ^ k.toNat) : ∃ x l p p2 u, SD n b k x l p p2 u := by
  have hf := Pl.ss_facts b1 k.toNat n
  obtain ⟨N, p, hN, hfi⟩ := Pl.sf_first (k := k.toNat) b1 b2 (by omega) n1 n2
  obtain ⟨l, hc⟩ := Pl.cyc_exists hfi
  have hll := hc.len_le hfi
  obtain ⟨m, q, hs⟩ := hc.run
  have hL := hs.len
  have horb := Pl.sf_orb (k := k.toNat) b1 n1 n2
  have p9 : b ^ k.toNat ≤ 68719476736 := by
    have := (pow4 b1 b2 (show 0 ≤ k by omega) k2).2; omega
  have hbd : ∀ i, i < l.length → 0 ≤ l.getD i 0 ∧ l.getD i 0 < b ^ k.toNat := fun i hi => by
    rw [hs.get (by omega)]; exact horb _
  have hnx : ∀ i, i < l.length → ssV (l.getD i 0) b k = l.getD ((i + 1) % l.length) 0 := fun i hi => by
    rw [ssV_ss b1 b2 k1 (by omega) (hbd i hi).1 (hbd i hi).2]
    rw [hL] at hi ⊢
    exact hs.next hi
  have hrot := rot_bd (k := k) b1 b2 (by omega) (by omega) n1 n2
  have hrv : rotV n b k = rotZ n b k := by
    unfold rotV rokB; rw [inB_mk b1 b2, inB_mk (show 1 ≤ k by omega) (show k ≤ 9 by omega), inB_mk n1 (show n ≤ 1000000000000 by omega)]; simp [n2]
  have hpos : 0 < l.length := hll.2.2
  refine ⟨Pl.ss b k.toNat n, l, p, ((p - 1 : Nat) : Int), ((p : Int) == 0), ssV_ss b1 b2 k1 (by omega) n1 n2, ⟨hf.1, hf.2.1⟩, ?_, ?_, scV_mk b1 b2 k1 (by omega) n1 n2 hc, scV_mk b1 b2 k1 (by omega) hf.1 hf.2.1 hc.step, by omega, by omega, rfl, ?_, ⟨hpos, by omega⟩, hnx, ?_, ?_, hbd⟩
  · rw [bne_eq_false_iff_eq]; exact Int.emod_eq_zero_of_dvd hf.2.2
  · rw [hrv, ssV_ss b1 b2 k1 (by omega) hrot.2.2.2.2.1 hrot.2.2.2.2.2.1]
    exact Pl.ss_rot b1 (by omega) n1 n2
  · rw [Bool.eq_iff_iff, decide_eq_true_eq, beq_iff_eq, ← hs.mem_iff]; omega
  · intro i hi
    rw [hL] at hi
    exact hs.head_le hi
  · intro i hi
    rw [bne_eq_false_iff_eq]
    apply Int.emod_eq_zero_of_dvd
    have hprev : ∃ i', i' < l.length ∧ (i' + 1) % l.length = i := by
      by_cases e : i = 0
      · exact ⟨l.length - 1, by omega, by rw [show l.length - 1 + 1 = l.length by omega, Nat.mod_self, e]⟩
      · exact ⟨i - 1, by omega, by rw [show i - 1 + 1 = i by omega, Nat.mod_eq_of_lt hi]⟩
    obtain ⟨i', h1, h2⟩ := hprev
    have h3 := hnx i' h1
    rw [h2, ssV_ss b1 b2 k1 (by omega) (hbd i' h1).1 (hbd i' h1).2] at h3
    rw [← h3]
    exact (Pl.ss_facts b1 k.toNat _).2.2
theorem fsL_mem {b : Int} {k : Nat} {y : Int} : ∀ j : Nat, y ∈ fsL b k j ↔ ∃ i : Nat, i < j ∧ y = i ∧ Pl.ss b k i = i := by
  intro j
  induction j with
  | zero => simp [fsL]
  | succ j ih =>
    show y ∈ fsL b k j ++ (if Pl.ss b k j = j then [(j : Int)] else []) ↔ _
    rw [List.mem_append, ih]
    constructor
    · rintro (⟨i, h1, h2, h3⟩ | h)
      · exact ⟨i, by omega, h2, h3⟩
      · by_cases e : Pl.ss b k j = j
        · rw [if_pos e] at h; exact ⟨j, by omega, by simpa using h, e⟩
        · rw [if_neg e] at h; simp at h
    · rintro ⟨i, h1, h2, h3⟩
      by_cases e : i = j
      · subst e; right; rw [if_pos h3]; simpa using h2
      · left; exact ⟨i, by omega, h2, h3⟩
theorem ss2_zero (b : Int) : Pl.ss b 2 0 = 0 := by
  have hp : Pl.pl b 2 0 = [0, 0] := by simp [Pl.pl]
  have hs : Pl.srt [(0 : Int), 0] = [0, 0] := Pl.srt_eq (List.Perm.refl _) (by decide)
  unfold Pl.ss
  rw [hp, hs]
  simp
/-- What the law asks of the fixed numbers. -/
theorem fs2 {b : Int} (b1 : 2 ≤ b) (b2 : b ≤ 16) : decide ((0 : Int) ∈ fsV b 2) = true ∧ ∀ i, i < (fsV b 2).length → ssV ((fsV b 2).getD i 0) b 2 = (fsV b 2).getD i 0 := by
  have hv : fsV b 2 = fsL b 2 (b ^ 2).toNat := fsV_in (inB_mk b1 b2) (inB_mk (by omega) (by omega))
  have hp := pow4 (k := 2) b1 b2 (by omega) (by omega)
  have h2 : (2 : Int).toNat = 2 := rfl
  rw [h2] at hp
  constructor
  · rw [hv, decide_eq_true_eq, fsL_mem]
    exact ⟨0, by omega, rfl, ss2_zero b⟩
  · intro i hi
    have hm : (fsV b 2).getD i 0 ∈ fsV b 2 := Pl.getD_mem hi
    generalize (fsV b 2).getD i 0 = y at *
    rw [hv, fsL_mem] at hm
    obtain ⟨i, h3, rfl, h4⟩ := hm
    rw [ssV_ss b1 b2 (by omega) (by omega) (by omega) (by rw [h2]; omega)]
    exact h4
theorem ss_of {b n : Int} {k : Nat} {l m : List Int} (h : Pl.pl b k n = l) (hp : m.Perm l) (hs : m.Pairwise (· ≤ ·)) : Pl.ss b k n = Pl.val b m - Pl.val b m.reverse := by
  unfold Pl.ss
  rw [h, Pl.srt_eq hp hs]
theorem ss_a : Pl.ss 10 4 3524 = 3087 := by rw [ss_of (l := [4, 2, 5, 3]) (m := [2, 3, 4, 5]) (by decide) (by decide) (by decide)]; decide
theorem ss_b : Pl.ss 10 4 3087 = 8352 := by rw [ss_of (l := [7, 8, 0, 3]) (m := [0, 3, 7, 8]) (by decide) (by decide) (by decide)]; decide
theorem ss_c : Pl.ss 10 4 8352 = 6174 := by rw [ss_of (l := [2, 5, 3, 8]) (m := [2, 3, 5, 8]) (by decide) (by decide) (by decide)]; decide
theorem ss_d : Pl.ss 10 4 6174 = 6174 := by rw [ss_of (l := [4, 7, 1, 6]) (m := [1, 4, 6, 7]) (by decide) (by decide) (by decide)]; decide
theorem ssV_a : ssV 3524 10 4 = 3087 := by rw [ssV_ss (by omega) (by omega) (by omega) (by omega) (by omega) (by decide)]; exact ss_a
theorem sc_a : ∃ p : Nat, ScV 3524 10 4 [6174] p := by
  have first : ∀ n : Int, 0 ≤ n → n < 10000 → ∃ N p, Pl.IsFirst (Pl.sf 10 4) n N p := fun n h1 h2 => by
    obtain ⟨N, p, _, h⟩ := Pl.sf_first (b := 10) (k := 4) (n := n) (by omega) (by omega) (by omega) h1 (by simpa using h2)
    exact ⟨N, p, h⟩
  have c0 : Pl.Cyc (Pl.sf 10 4) 6174 0 [6174] := Pl.cyc_fix ss_d
  obtain ⟨_, _, f1⟩ := first 8352 (by omega) (by omega)
  obtain ⟨p1, c1⟩ := Pl.cyc_back (n := 8352) (p := 0) (c := [6174]) (by rw [show Pl.sf 10 4 8352 = 6174 from ss_c]; exact c0) f1
  obtain ⟨_, _, f2⟩ := first 3087 (by omega) (by omega)
  obtain ⟨p2, c2⟩ := Pl.cyc_back (n := 3087) (p := p1) (c := [6174]) (by rw [show Pl.sf 10 4 3087 = 8352 from ss_b]; exact c1) f2
  obtain ⟨_, _, f3⟩ := first 3524 (by omega) (by omega)
  obtain ⟨p3, c3⟩ := Pl.cyc_back (n := 3524) (p := p2) (c := [6174]) (by rw [show Pl.sf 10 4 3524 = 3087 from ss_a]; exact c2) f3
  exact ⟨p3, scV_mk (by omega) (by omega) (by omega) (by omega) (by omega) (by decide) c3⟩
theorem rd_one (w : World) (n : Int) : Rd (w.alloc (.cells #[.int .i64 n] 3)) (some ⟨w.heap.size, 0, none⟩) 1 [n] :=
  have h : Own (w.alloc (.cells #[.int .i64 n] 3)) w.heap.size (.slice (some ⟨w.heap.size, 0, none⟩) 1 1) [n] :=
    World.ownsRow_lit w #[.int .i64 n] 1 (Nat.le_refl _) (by unfold maxLen; omega) rfl
  by
    obtain ⟨ao, cap, e, hr⟩ := h.shape
    have e' : Value.slice (some ⟨w.heap.size, 0, none⟩) 1 1 = .slice ao 1 cap := e
    simp only [Value.slice.injEq] at e'
    obtain ⟨rfl, _, rfl⟩ := e'
    exact hr

set_option maxRecDepth 100000 in
set_option maxHeartbeats 2000000 in
theorem walk (a0 : Option Addr) (len0 cap0 : Nat) (z0 : List Int) (w : World) (w0 : IsRow .u8 w a0 len0 cap0 z0) :
    Calls Try.prog 9 #[.slice a0 len0 cap0] w fun e w' => e = .returned (.bool true) ∧ Below w.heap.size w w' := by
  by_cases hbig : 1048576 < len0
  · go_enter Try.func9, Try.ntmps9
    go_wp2
    go_ret
    exact ⟨rfl, Below.refl _ _⟩
  have HR := Lib.hid w0.brd
  clear w0
  go_enter Try.func9, Try.ntmps9
  go_wp2_with fail
  refine (makeBase _ _ _ 0 _ HR.out (by omega) (by omega) (by omega)).mono ?_
  rintro e w1 ⟨⟨b, b1, b2, rfl⟩, hb1⟩
  have HB1 := Lib.hid hb1
  clear hb1
  go_wp2_with fail
  refine (makeNum _ _ _ 2 _ (HR.out.below HB1.out (Nat.le_refl _)) (by omega) (by omega) (by omega)).mono ?_
  rintro e w2 ⟨⟨y, y0, y1, rfl⟩, hb2⟩
  have HB2 := Lib.hid (HB1.out.trans (hb2.mono HB1.out.size))
  clear hb2
  have k1 : 2 ≤ 2 + y % 3 := by omega
  have k2 : 2 + y % 3 ≤ 4 := by omega
  go_wp2_with fail
  generalize 2 + y % 3 = k at *
  have ⟨pb1, pb2⟩ := pow4 b1 b2 (show 0 ≤ k by omega) k2
  refine (lpowerZ _ _ _ (by omega) (by omega) (by omega) (fun j hj => ?_)).mono ?_
  · have := (pow4 (k := (j : Int)) b1 b2 (by omega) (by omega)).2
    rw [Int.toNat_natCast] at this; omega
  rintro e w2' ⟨rfl, rfl⟩
  obtain ⟨size, hsize⟩ : ∃ size, b ^ k.toNat = size := ⟨_, rfl⟩
  rw [hsize] at pb1 pb2 ⊢
  have HSZ := Lib.hid hsize
  clear hsize
  go_wp2_with fail
  refine (makeNum _ _ _ 4 _ (HR.out.below HB2.out (Nat.le_refl _)) (by omega) (by omega) (by omega)).mono ?_
  rintro e w3 ⟨⟨z, z0, z1, rfl⟩, hb3⟩
  have HB3 := Lib.hid (HB2.out.trans (hb3.mono HB2.out.size))
  clear hb3
  have n1 := Pl.mod_nn (a := z) (show (0 : Int) < size by omega)
  have n2 := Pl.mod_lt (a := z) (show (0 : Int) < size by omega)
  go_wp2_with fail
  generalize z % size = n at *
  obtain ⟨x, l, p, p2, u, F⟩ := sd (n := n) b1 b2 k1 k2 n1 (by rw [HSZ.out]; exact n2)
  have HF := Lib.hid F
  have ⟨x0, x1⟩ := F.x0
  rw [HSZ.out] at x1
  have t1 := F.t1
  have ⟨p0, p1⟩ := F.p0
  have q1 := F.q1
  have ⟨l0, l1⟩ := F.len0
  have l2 : ((l.length : Int) == 0) = false := by rw [beq_eq_false_iff_ne]; omega
  clear F
  refine (as_int HF.out.hx (iSS _ _ _ _)).mono ?_
  rintro e w4 ⟨rfl, hb4⟩
  have HB4 := Lib.hid (HB3.out.trans (hb4.mono HB3.out.size))
  clear hb4
  go_wp2_with fail
  refine (iSortCycle _ _ _ _ _ HF.out.hl _).mono ?_
  rintro e w5 ⟨v, rfl, hown, hb5⟩
  obtain ⟨ao, cap, rfl, hrd⟩ := hown.shape
  have HRD5 := Lib.hid hrd
  have HB5 := Lib.hid (HB4.out.trans (hb5.mono HB4.out.size))
  have hcap := hrd.1
  have hcap2 := hrd.2.1
  unfold maxLen at hcap2
  clear hown hb5 hrd
  go_wp2_with fail
  refine (iSortLength _ _ _ _ _ HF.out.hl _).mono ?_
  rintro e w6 ⟨rfl, hb6⟩
  have HRD6 := Lib.hid (HRD5.out.below hb6 (Nat.le_refl _))
  have HB6 := Lib.hid (HB5.out.trans (hb6.mono HB5.out.size))
  clear hb6 HRD5
  go_upto_region 10 with fail
  go_cut [106] from 43 to 107 (fun v wx => v = .bool false ∧ Below w6.heap.size w6 wx)
  case first =>
    go_wp2_with fail
    refine (iRotN _ _ _ _).mono ?_
    rintro e w7 ⟨rfl, hb7⟩
    have HB7 := Lib.hid hb7
    clear hb7
    go_wp2_with fail
    refine (as_int HF.out.hr (iSS _ _ _ _)).mono ?_
    rintro e w8 ⟨rfl, hb8⟩
    have HB8 := Lib.hid (HB7.out.trans (hb8.mono HB7.out.size))
    clear hb8
    go_wp2_with fail
    refine (iSortCycle _ _ _ _ _ HF.out.hl2 _).mono ?_
    rintro e w9 ⟨v, rfl, hown, hb9⟩
    obtain ⟨ao2, cap2, rfl, hrd2⟩ := hown.shape
    have HRD9 := Lib.hid (HRD6.out.below (HB8.out.trans (hb9.mono HB8.out.size)) (Nat.le_refl _))
    have HRD9' := Lib.hid hrd2
    have HB9 := Lib.hid (HB8.out.trans (hb9.mono HB8.out.size))
    have HSame := Lib.hid (show (l == l) = true by simp)
    clear hown hb9 hrd2
    go_wp2_with fail
    refine (as_bool HSame.out (same l l _ _ rfl rfl _ _ _ _ _ HRD9.out HRD9'.out)).mono ?_
    rintro e w10 ⟨rfl, rfl⟩
    go_wp2_with fail
    refine (as_bool HF.out.q2 (hasC l _ rfl _ _ _ _ HRD9.out)).mono ?_
    rintro e w10 ⟨rfl, rfl⟩
    have hu : (u != u) = false := by simp
    by_cases hp : 0 < p
    · have hp3 := HF.out.hp2 hp
      have hp4 : (p2 != p - 1) = false := by rw [bne_eq_false_iff_eq]; exact hp3
      have hp5 : decide (0 < p) = true := by simpa using hp
      clear hp3
      go_wp2_with fail
      refine (iSortLength _ _ _ _ _ HF.out.hl2 _).mono ?_
      rintro e w11 ⟨rfl, hb11⟩
      have HB11 := Lib.hid (HB9.out.trans (hb11.mono HB9.out.size))
      clear hb11
      go_wp2_with fail
      go_meet
      exact ⟨vb_or (by simp <;> omega), HB11.out⟩
    · have hp5 : decide (0 < p) = false := by simpa using hp
      go_wp2_with fail
      go_meet
      exact ⟨vb_or (by simp <;> omega), HB9.out⟩
  case rest =>
    obtain ⟨rfl, hb7⟩ := hcut
    have HB7 := Lib.hid hb7
    clear hb7 t1 q1
    go_wp2_with fail
    go_loopw [109] (fun vi wr => ∃ i : Nat, i ≤ l.length ∧ vi = .int .i64 i ∧ Below w6.heap.size w6 wr) (fun vi _ => l.length - (intOf vi).toNat)
    case atStart => exact ⟨0, Nat.zero_le _, rfl, HB7.out⟩
    case round =>
      obtain ⟨i, hi, rfl, hbel⟩ := hrel
      have HB8 := Lib.hid hbel
      have HRD8 := Lib.hid (HRD6.out.below hbel (Nat.le_refl _))
      clear hbel
      by_cases hlt : i < l.length
      · have hmod : (i + 1) % l.length < l.length := Nat.mod_lt _ l0
        obtain ⟨g, off, rfl, hg, hc0⟩ := HRD6.out.at l0
        obtain ⟨g', off', eg, _, hc1⟩ := HRD8.out.at hlt
        simp only [Option.some.injEq, Addr.mk.injEq, and_true] at eg
        obtain ⟨rfl, rfl⟩ := eg
        obtain ⟨g', off', eg, _, hc2⟩ := HRD6.out.at hmod
        simp only [Option.some.injEq, Addr.mk.injEq, and_true] at eg
        obtain ⟨rfl, rfl⟩ := eg
        have HNX := Lib.hid (HF.out.nx i hlt)
        have hle := HF.out.hd i hlt
        have ⟨bd1, bd2⟩ := HF.out.bd i hlt
        rw [HSZ.out] at bd2
        have hdv := HF.out.dv i hlt
        generalize l.getD i 0 = yy at *
        generalize l.getD 0 0 = y0' at *
        generalize l.getD ((i + 1) % l.length) 0 = y2 at *
        have HS := Lib.hid (show ∀ wx, Below w6.heap.size w6 wx → Below w6.heap.size w6 wx ∧ wx.cell? ⟨g, off, none⟩ = some (.int .i64 y0') ∧ wx.cell? ⟨g, off + (i + 1) % l.length, none⟩ = some (.int .i64 y2) from
          fun wx hx => ⟨hx, (hx.cell (p := ⟨g, off, none⟩) hg).trans hc0, (hx.cell (p := ⟨g, off + (i + 1) % l.length, none⟩) hg).trans hc2⟩)
        have HPS := Lib.hid (ext_b w6 (fun wx => as_int HNX.out (iSS yy b k wx)))
        have hw1 : IntKind.i64.wrap ((i : Int) + 1) = (i : Int) + 1 := IntWalk.i64_in _ (by omega)
        have hw2 : ((i : Int) + 1).tmod (l.length : Int) = (((i + 1) % l.length : Nat) : Int) := by
          rw [Int.tmod_eq_emod_of_nonneg (by omega)]; simp
        have hw3 : (0 : Int) ≤ (((i + 1) % l.length : Nat) : Int) := by omega
        have hw4 : (((i + 1) % l.length : Nat) : Int) < (l.length : Int) := by omega
        have hw5 : ¬ ((l.length : Int) = 0) := by omega
        have hw6 : ¬ (l.length = 0) := by omega
        have hw7 : IntKind.i64.wrap (b - 1) = b - 1 := IntWalk.i64_in _ (by omega)
        have hw8 : yy.tmod (b - 1) = yy % (b - 1) := Int.tmod_eq_emod_of_nonneg bd1
        have hw9 : ¬ (b - 1 = 0) := by omega
        have hk1 : (i : Int) + 1 ≤ (l.length : Int) := by omega
        have hd1 : decide (yy < y0') = false := by simp; omega
        clear HNX hc0 hc2
        generalize (i + 1) % l.length = k1' at *
        go_upto_region 15 with fail
        go_cut [140] from 114 to 141 (fun v wx => v = .bool false ∧ Below w6.heap.size w6 wx)
        case first =>
          refine wp_region_held_drew (S := (fun wx => Below w6.heap.size w6 wx ∧ wx.cell? ⟨g, off, none⟩ = some (.int .i64 y0') ∧ wx.cell? ⟨g, off + k1', none⟩ = some (.int .i64 y2))) (by kernel_rfl) ?hS4000 (fun hHeld => ?hR4000)
          case hS4000 => ((try dsimp only); (first | exact HS.out _ (Below.drew HB8.out) | exact HS.out _ (by assumption)))
          refine wpAnyH_take (i := 0) (oi := { dst := some 114, op := Go.Op.move (Go.Operand.tmp 11), type := 3, pos := "laws.go:991", after := #[], guard := none }) (v := ?v4001) rfl (by kernel_rfl) (by kernel_rfl) (by kernel_rfl) (fun _ _ _ h => h) (Or.inl ⟨by rfl, ?hy4001⟩) (by assumption) ?hr4001
          case hy4001 => (intro w hSw; (try dsimp only at hSw); go_simp; (try with_reducible rfl))
          (try simp only [Act.put, List.setIfInBounds_toArray, List.set_cons_zero, List.set_cons_succ])
          refine wpAnyH_take (i := 1) (oi := { dst := some 115, op := Go.Op.move (Go.Operand.tmp 3), type := 3, pos := "laws.go:991", after := #[], guard := none }) (v := ?v4002) rfl (by kernel_rfl) (by kernel_rfl) (by kernel_rfl) (fun _ _ _ h => h) (Or.inl ⟨by rfl, ?hy4002⟩) (by assumption) ?hr4002
          case hy4002 => (intro w hSw; (try dsimp only at hSw); go_simp; (try with_reducible rfl))
          (try simp only [Act.put, List.setIfInBounds_toArray, List.set_cons_zero, List.set_cons_succ])
          refine wpAnyH_take (i := 2) (oi := { dst := some 116, op := Go.Op.move (Go.Operand.tmp 4), type := 3, pos := "laws.go:991", after := #[], guard := none }) (v := ?v4003) rfl (by kernel_rfl) (by kernel_rfl) (by kernel_rfl) (fun _ _ _ h => h) (Or.inl ⟨by rfl, ?hy4003⟩) (by assumption) ?hr4003
          case hy4003 => (intro w hSw; (try dsimp only at hSw); go_simp; (try with_reducible rfl))
          (try simp only [Act.put, List.setIfInBounds_toArray, List.set_cons_zero, List.set_cons_succ])
          refine wpAnyH_take (i := 4) (oi := { dst := some 118, op := Go.Op.move (Go.Operand.tmp 8), type := 22, pos := "laws.go:991", after := #[], guard := none }) (v := ?v4004) rfl (by kernel_rfl) (by kernel_rfl) (by kernel_rfl) (fun _ _ _ h => h) (Or.inl ⟨by rfl, ?hy4004⟩) (by assumption) ?hr4004
          case hy4004 => (intro w hSw; (try dsimp only at hSw); go_simp; (try with_reducible rfl))
          (try simp only [Act.put, List.setIfInBounds_toArray, List.set_cons_zero, List.set_cons_succ])
          refine wpAnyH_take (i := 5) (oi := { dst := some 119, op := Go.Op.move (Go.Operand.tmp 10), type := 3, pos := "laws.go:991", after := #[], guard := none }) (v := ?v4005) rfl (by kernel_rfl) (by kernel_rfl) (by kernel_rfl) (fun _ _ _ h => h) (Or.inl ⟨by rfl, ?hy4005⟩) (by assumption) ?hr4005
          case hy4005 => (intro w hSw; (try dsimp only at hSw); go_simp; (try with_reducible rfl))
          (try simp only [Act.put, List.setIfInBounds_toArray, List.set_cons_zero, List.set_cons_succ])
          refine wpAnyH_take (i := 6) (oi := { dst := some 120, op := Go.Op.binOp Go.BinOp.add 3 (Go.Operand.tmp 119) (Go.Operand.const (Go.Value.int Go.IntKind.i64 1)) 3, type := 3, pos := "laws.go:991", after := #[{ on := 5, ground := Go.Ground.data }], guard := none }) (v := ?v4006) rfl (by kernel_rfl) (by kernel_rfl) (by kernel_rfl) (fun _ _ _ h => h) (Or.inl ⟨by rfl, ?hy4006⟩) (by assumption) ?hr4006
          case hy4006 => (intro w hSw; (try dsimp only at hSw); go_simp; (try with_reducible rfl))
          (try simp only [Act.put, List.setIfInBounds_toArray, List.set_cons_zero, List.set_cons_succ])
          refine wpAnyH_take (i := 7) (oi := { dst := some 121, op := Go.Op.move (Go.Operand.tmp 8), type := 22, pos := "laws.go:991", after := #[], guard := none }) (v := ?v4007) rfl (by kernel_rfl) (by kernel_rfl) (by kernel_rfl) (fun _ _ _ h => h) (Or.inl ⟨by rfl, ?hy4007⟩) (by assumption) ?hr4007
          case hy4007 => (intro w hSw; (try dsimp only at hSw); go_simp; (try with_reducible rfl))
          (try simp only [Act.put, List.setIfInBounds_toArray, List.set_cons_zero, List.set_cons_succ])
          refine wpAnyH_take (i := 8) (oi := { dst := some 122, op := Go.Op.call { callee := Go.Callee.builtin Go.Builtin.len, args := #[Go.Operand.tmp 121], argTypes := #[22] }, type := 3, pos := "laws.go:991", after := #[{ on := 7, ground := Go.Ground.data }], guard := none }) (v := ?v4008) rfl (by kernel_rfl) (by kernel_rfl) (by kernel_rfl) (fun _ _ _ h => h) (Or.inl ⟨by rfl, ?hy4008⟩) (by assumption) ?hr4008
          case hy4008 => (intro w hSw; (try dsimp only at hSw); go_simp; (try with_reducible rfl))
          (try simp only [Act.put, List.setIfInBounds_toArray, List.set_cons_zero, List.set_cons_succ])
          refine wpAnyH_take (i := 9) (oi := { dst := some 123, op := Go.Op.binOp Go.BinOp.rem 3 (Go.Operand.tmp 120) (Go.Operand.tmp 122) 3, type := 3, pos := "laws.go:991", after := #[{ on := 6, ground := Go.Ground.data }, { on := 8, ground := Go.Ground.data }], guard := none }) (v := ?v4009) rfl (by kernel_rfl) (by kernel_rfl) (by kernel_rfl) (fun _ _ _ h => h) (Or.inl ⟨by rfl, ?hy4009⟩) (by assumption) ?hr4009
          case hy4009 => (intro w hSw; (try dsimp only at hSw); go_simp; (try with_reducible rfl))
          (try simp only [Act.put, List.setIfInBounds_toArray, List.set_cons_zero, List.set_cons_succ])
          refine wpAnyH_take (i := 10) (oi := { dst := some 124, op := Go.Op.indexAddr 22 (Go.Operand.tmp 118) (Go.Operand.tmp 123), type := 0, pos := "laws.go:991", after := #[{ on := 4, ground := Go.Ground.data }, { on := 9, ground := Go.Ground.data }], guard := none }) (v := ?v4010) rfl (by kernel_rfl) (by kernel_rfl) (by kernel_rfl) (fun _ _ _ h => h) (Or.inl ⟨by rfl, ?hy4010⟩) (by assumption) ?hr4010
          case hy4010 => (intro w hSw; (try dsimp only at hSw); go_simp; (try with_reducible rfl))
          (try simp only [Act.put, List.setIfInBounds_toArray, List.set_cons_zero, List.set_cons_succ])
          refine wpAnyH_take (i := 11) (oi := { dst := some 125, op := Go.Op.load 3 (Go.Operand.tmp 124), type := 3, pos := "laws.go:991", after := #[{ on := 10, ground := Go.Ground.data }], guard := none }) (v := ?v4011) rfl (by kernel_rfl) (by kernel_rfl) (by kernel_rfl) (fun _ _ _ h => h) (Or.inl ⟨by rfl, ?hy4011⟩) (by assumption) ?hr4011
          case hy4011 => (intro w hSw; (try dsimp only at hSw); go_simp; (try with_reducible rfl))
          (try simp only [Act.put, List.setIfInBounds_toArray, List.set_cons_zero, List.set_cons_succ])
          refine wpAnyH_ready (rs := [3]) (by kernel_rfl) (by simp) ?_
          refine AllReadyH.cons (o := { dst := some 117, op := Go.Op.call { callee := Go.Callee.value (Go.Operand.func 32), args := #[Go.Operand.tmp 114, Go.Operand.tmp 115, Go.Operand.tmp 116], argTypes := #[3, 3, 3] }, type := 3, pos := "laws.go:991", after := #[{ on := 0, ground := Go.Ground.data }, { on := 1, ground := Go.Ground.data }, { on := 2, ground := Go.Ground.data }], guard := none }) rfl (fun K hK => ?_) AllReadyH.nil
          go_simp
          (go_at_call 32; refine (HPS.out _ (by exact hHeld.1)).mono ?_; rintro e' w9 ⟨rfl, hb9⟩)
          (try go_wp2_with fail)
          refine hK.out _ _ ?hS4012 (fun hHeld => ?hR4012)
          case hS4012 => ((try dsimp only); (first | exact HS.out _ (Below.drew HB8.out) | exact HS.out _ (by assumption)))
          clear hK K
          (try simp only [Act.put, List.setIfInBounds_toArray, List.set_cons_zero, List.set_cons_succ])
          refine wpAnyH_take (i := 12) (oi := { dst := some 126, op := Go.Op.binOp Go.BinOp.neq 3 (Go.Operand.tmp 117) (Go.Operand.tmp 125) 3, type := 4, pos := "laws.go:991", after := #[{ on := 3, ground := Go.Ground.data }, { on := 11, ground := Go.Ground.data }], guard := none }) (v := ?v4013) rfl (by kernel_rfl) (by kernel_rfl) (by kernel_rfl) (fun _ _ _ h => h) (Or.inl ⟨by rfl, ?hy4013⟩) (by assumption) ?hr4013
          case hy4013 => (intro w hSw; (try dsimp only at hSw); go_simp; (try with_reducible rfl))
          (try simp only [Act.put, List.setIfInBounds_toArray, List.set_cons_zero, List.set_cons_succ])
          refine wpAnyH_take (i := 13) (oi := { dst := some 127, op := Go.Op.move (Go.Operand.tmp 126), type := 4, pos := "laws.go:991", after := #[{ on := 12, ground := Go.Ground.data }, { on := 3, ground := Go.Ground.chain }], guard := none }) (v := ?v4014) rfl (by kernel_rfl) (by kernel_rfl) (by kernel_rfl) (fun _ _ _ h => h) (Or.inl ⟨by rfl, ?hy4014⟩) (by assumption) ?hr4014
          case hy4014 => (intro w hSw; (try dsimp only at hSw); go_simp; (try with_reducible rfl))
          (try simp only [Act.put, List.setIfInBounds_toArray, List.set_cons_zero, List.set_cons_succ])
          refine wpAnyH_take (i := 14) (oi := { dst := some 128, op := Go.Op.move (Go.Operand.tmp 11), type := 3, pos := "laws.go:991", after := #[{ on := 13, ground := Go.Ground.guard }], guard := some (13, false) }) (v := ?v4015) rfl (by kernel_rfl) (by kernel_rfl) (by kernel_rfl) (fun _ _ _ h => h) (Or.inl ⟨by rfl, ?hy4015⟩) (by assumption) ?hr4015
          case hy4015 => (intro w hSw; (try dsimp only at hSw); go_simp; (try with_reducible rfl))
          (try simp only [Act.put, List.setIfInBounds_toArray, List.set_cons_zero, List.set_cons_succ])
          refine wpAnyH_take (i := 15) (oi := { dst := some 129, op := Go.Op.move (Go.Operand.tmp 8), type := 22, pos := "laws.go:991", after := #[{ on := 13, ground := Go.Ground.guard }], guard := some (13, false) }) (v := ?v4016) rfl (by kernel_rfl) (by kernel_rfl) (by kernel_rfl) (fun _ _ _ h => h) (Or.inl ⟨by rfl, ?hy4016⟩) (by assumption) ?hr4016
          case hy4016 => (intro w hSw; (try dsimp only at hSw); go_simp; (try with_reducible rfl))
          (try simp only [Act.put, List.setIfInBounds_toArray, List.set_cons_zero, List.set_cons_succ])
          refine wpAnyH_take (i := 16) (oi := { dst := some 130, op := Go.Op.indexAddr 22 (Go.Operand.tmp 129) (Go.Operand.const (Go.Value.int Go.IntKind.i64 0)), type := 0, pos := "laws.go:991", after := #[{ on := 15, ground := Go.Ground.data }, { on := 13, ground := Go.Ground.guard }], guard := some (13, false) }) (v := ?v4017) rfl (by kernel_rfl) (by kernel_rfl) (by kernel_rfl) (fun _ _ _ h => h) (Or.inl ⟨by rfl, ?hy4017⟩) (by assumption) ?hr4017
          case hy4017 => (intro w hSw; (try dsimp only at hSw); go_simp; (try with_reducible rfl))
          (try simp only [Act.put, List.setIfInBounds_toArray, List.set_cons_zero, List.set_cons_succ])
          refine wpAnyH_take (i := 17) (oi := { dst := some 131, op := Go.Op.load 3 (Go.Operand.tmp 130), type := 3, pos := "laws.go:991", after := #[{ on := 16, ground := Go.Ground.data }, { on := 13, ground := Go.Ground.guard }], guard := some (13, false) }) (v := ?v4018) rfl (by kernel_rfl) (by kernel_rfl) (by kernel_rfl) (fun _ _ _ h => h) (Or.inl ⟨by rfl, ?hy4018⟩) (by assumption) ?hr4018
          case hy4018 => (intro w hSw; (try dsimp only at hSw); go_simp; (try with_reducible rfl))
          (try simp only [Act.put, List.setIfInBounds_toArray, List.set_cons_zero, List.set_cons_succ])
          refine wpAnyH_take (i := 18) (oi := { dst := some 132, op := Go.Op.binOp Go.BinOp.lss 3 (Go.Operand.tmp 128) (Go.Operand.tmp 131) 3, type := 4, pos := "laws.go:991", after := #[{ on := 14, ground := Go.Ground.data }, { on := 17, ground := Go.Ground.data }, { on := 13, ground := Go.Ground.guard }], guard := some (13, false) }) (v := ?v4019) rfl (by kernel_rfl) (by kernel_rfl) (by kernel_rfl) (fun _ _ _ h => h) (Or.inl ⟨by rfl, ?hy4019⟩) (by assumption) ?hr4019
          case hy4019 => (intro w hSw; (try dsimp only at hSw); go_simp; (try with_reducible rfl))
          (try simp only [Act.put, List.setIfInBounds_toArray, List.set_cons_zero, List.set_cons_succ])
          refine wpAnyH_take (i := 19) (oi := { dst := some 133, op := Go.Op.pick (Go.Operand.tmp 127) (Go.Operand.const (Go.Value.bool true)) (Go.Operand.tmp 132), type := 4, pos := "laws.go:991", after := #[{ on := 13, ground := Go.Ground.data }, { on := 18, ground := Go.Ground.data }], guard := none }) (v := ?v4020) rfl (by kernel_rfl) (by kernel_rfl) (by kernel_rfl) (fun _ _ _ h => h) (Or.inl ⟨by rfl, ?hy4020⟩) (by assumption) ?hr4020
          case hy4020 => (intro w hSw; (try dsimp only at hSw); go_simp; (try with_reducible rfl))
          (try simp only [Act.put, List.setIfInBounds_toArray, List.set_cons_zero, List.set_cons_succ])
          refine wpAnyH_take (i := 20) (oi := { dst := some 134, op := Go.Op.move (Go.Operand.tmp 133), type := 4, pos := "laws.go:991", after := #[{ on := 19, ground := Go.Ground.data }, { on := 13, ground := Go.Ground.chain }], guard := none }) (v := ?v4021) rfl (by kernel_rfl) (by kernel_rfl) (by kernel_rfl) (fun _ _ _ h => h) (Or.inl ⟨by rfl, ?hy4021⟩) (by assumption) ?hr4021
          case hy4021 => (intro w hSw; (try dsimp only at hSw); go_simp; (try with_reducible rfl))
          (try simp only [Act.put, List.setIfInBounds_toArray, List.set_cons_zero, List.set_cons_succ])
          refine wpAnyH_take (i := 21) (oi := { dst := some 135, op := Go.Op.move (Go.Operand.tmp 11), type := 3, pos := "laws.go:991", after := #[{ on := 20, ground := Go.Ground.guard }], guard := some (20, false) }) (v := ?v4022) rfl (by kernel_rfl) (by kernel_rfl) (by kernel_rfl) (fun _ _ _ h => h) (Or.inl ⟨by rfl, ?hy4022⟩) (by assumption) ?hr4022
          case hy4022 => (intro w hSw; (try dsimp only at hSw); go_simp; (try with_reducible rfl))
          (try simp only [Act.put, List.setIfInBounds_toArray, List.set_cons_zero, List.set_cons_succ])
          refine wpAnyH_take (i := 22) (oi := { dst := some 136, op := Go.Op.move (Go.Operand.tmp 3), type := 3, pos := "laws.go:991", after := #[{ on := 20, ground := Go.Ground.guard }], guard := some (20, false) }) (v := ?v4023) rfl (by kernel_rfl) (by kernel_rfl) (by kernel_rfl) (fun _ _ _ h => h) (Or.inl ⟨by rfl, ?hy4023⟩) (by assumption) ?hr4023
          case hy4023 => (intro w hSw; (try dsimp only at hSw); go_simp; (try with_reducible rfl))
          (try simp only [Act.put, List.setIfInBounds_toArray, List.set_cons_zero, List.set_cons_succ])
          refine wpAnyH_take (i := 23) (oi := { dst := some 137, op := Go.Op.binOp Go.BinOp.sub 3 (Go.Operand.tmp 136) (Go.Operand.const (Go.Value.int Go.IntKind.i64 1)) 3, type := 3, pos := "laws.go:991", after := #[{ on := 22, ground := Go.Ground.data }, { on := 20, ground := Go.Ground.guard }], guard := some (20, false) }) (v := ?v4024) rfl (by kernel_rfl) (by kernel_rfl) (by kernel_rfl) (fun _ _ _ h => h) (Or.inl ⟨by rfl, ?hy4024⟩) (by assumption) ?hr4024
          case hy4024 => (intro w hSw; (try dsimp only at hSw); go_simp; (try with_reducible rfl))
          (try simp only [Act.put, List.setIfInBounds_toArray, List.set_cons_zero, List.set_cons_succ])
          refine wpAnyH_take (i := 24) (oi := { dst := some 138, op := Go.Op.binOp Go.BinOp.rem 3 (Go.Operand.tmp 135) (Go.Operand.tmp 137) 3, type := 3, pos := "laws.go:991", after := #[{ on := 21, ground := Go.Ground.data }, { on := 23, ground := Go.Ground.data }, { on := 20, ground := Go.Ground.guard }], guard := some (20, false) }) (v := ?v4025) rfl (by kernel_rfl) (by kernel_rfl) (by kernel_rfl) (fun _ _ _ h => h) (Or.inl ⟨by rfl, ?hy4025⟩) (by assumption) ?hr4025
          case hy4025 => (intro w hSw; (try dsimp only at hSw); go_simp; (try with_reducible rfl))
          (try simp only [Act.put, List.setIfInBounds_toArray, List.set_cons_zero, List.set_cons_succ])
          refine wpAnyH_take (i := 25) (oi := { dst := some 139, op := Go.Op.binOp Go.BinOp.neq 3 (Go.Operand.tmp 138) (Go.Operand.const (Go.Value.int Go.IntKind.i64 0)) 3, type := 4, pos := "laws.go:991", after := #[{ on := 24, ground := Go.Ground.data }, { on := 20, ground := Go.Ground.guard }], guard := some (20, false) }) (v := ?v4026) rfl (by kernel_rfl) (by kernel_rfl) (by kernel_rfl) (fun _ _ _ h => h) (Or.inl ⟨by rfl, ?hy4026⟩) (by assumption) ?hr4026
          case hy4026 => (intro w hSw; (try dsimp only at hSw); go_simp; (try with_reducible rfl))
          (try simp only [Act.put, List.setIfInBounds_toArray, List.set_cons_zero, List.set_cons_succ])
          refine wpAnyH_take (i := 26) (oi := { dst := some 140, op := Go.Op.pick (Go.Operand.tmp 134) (Go.Operand.const (Go.Value.bool true)) (Go.Operand.tmp 139), type := 4, pos := "laws.go:991", after := #[{ on := 20, ground := Go.Ground.data }, { on := 25, ground := Go.Ground.data }], guard := none }) (v := ?v4027) rfl (by kernel_rfl) (by kernel_rfl) (by kernel_rfl) (fun _ _ _ h => h) (Or.inl ⟨by rfl, ?hy4027⟩) (by assumption) ?hr4027
          case hy4027 => (intro w hSw; (try dsimp only at hSw); go_simp; (try with_reducible rfl))
          (try simp only [Act.put, List.setIfInBounds_toArray, List.set_cons_zero, List.set_cons_succ])
          refine wpAnyH_done (by kernel_rfl) ?_ _
          go_wp2_with fail
          go_meet
          exact ⟨rfl, hb9⟩
        case rest =>
          obtain ⟨rfl, hb8⟩ := hcut
          go_wp2
          go_roundw
          case rel => exact ⟨i + 1, by omega, by go_num, hb8⟩
          case measure => simp [intOf]; omega
      · have hil : ¬ i < l.length := hlt
        have HB9 := Lib.hid (HB6.out.trans (HB8.out.mono HB6.out.size))
        clear HRD6 HRD8 HB8 hlt
        obtain ⟨f, hf⟩ : ∃ f, fsV b 2 = f := ⟨_, rfl⟩
        have HFV := Lib.hid hf
        have HF0 := Lib.hid (fs2 b1 b2)
        rw [hf] at HF0
        have hfl : f.length ≤ 65536 := by rw [← hf]; exact fsV_len b 2
        clear hf
        go_wp2_with fail
        refine (iFS b 2 _).mono ?_
        rintro e w10 ⟨v, rfl, hown, hb10⟩
        rw [HFV.out] at hown
        obtain ⟨ao3, cap3, rfl, hrd3⟩ := hown.shape
        have HRD10 := Lib.hid hrd3
        have HB10 := Lib.hid (HB9.out.trans (hb10.mono HB9.out.size))
        have hcap' := hrd3.1
        have hcap3 := hrd3.2.1
        unfold maxLen at hcap3
        clear hown hb10 hrd3
        go_wp2_with fail
        go_loopw [146] (fun vi wr => ∃ i : Nat, i ≤ f.length ∧ vi = .int .i64 i ∧ Below w10.heap.size w10 wr) (fun vi _ => f.length - (intOf vi).toNat)
        case atStart => exact ⟨0, Nat.zero_le _, rfl, Below.refl _ _⟩
        case round =>
          obtain ⟨i', hi', rfl, hbel⟩ := hrel
          have HB11 := Lib.hid hbel
          have HRD11 := Lib.hid (HRD10.out.below hbel (Nat.le_refl _))
          clear hbel
          by_cases hlt : i' < f.length
          · obtain ⟨g, off, rfl, hg, hc0⟩ := HRD11.out.at hlt
            have HNX := Lib.hid (HF0.out.2 i' hlt)
            generalize f.getD i' 0 = yy at *
            go_wp2_with fail
            refine (as_int HNX.out (iSS _ _ _ _)).mono ?_
            rintro e w12 ⟨rfl, hb12⟩
            have HB12 := Lib.hid (HB11.out.trans (hb12.mono HB11.out.size))
            clear hb12
            go_wp2
            go_roundw
            case rel => exact ⟨i' + 1, by omega, by go_num, HB12.out⟩
            case measure => simp [intOf]; omega
          · have HB12 := Lib.hid (HB10.out.trans (HB11.out.mono HB10.out.size))
            obtain ⟨pa, hpa⟩ := sc_a
            have HSA := Lib.hid hpa
            have HSame := Lib.hid (show (([6174] : List Int) == [6174]) = true by decide)
            clear hpa
            go_wp2_with fail
            refine (as_bool HF0.out.1 (hasC f _ rfl _ _ _ _ HRD11.out)).mono ?_
            rintro e w13 ⟨rfl, rfl⟩
            go_wp2_with fail
            refine (as_int ssV_a (iSS _ _ _ _)).mono ?_
            rintro e w14 ⟨rfl, hb14⟩
            have HB14 := Lib.hid (HB12.out.trans (hb14.mono HB12.out.size))
            clear hb14
            go_wp2_with fail
            refine (iSortCycle _ _ _ _ _ HSA.out _).mono ?_
            rintro e w15 ⟨v, rfl, hown, hb15⟩
            obtain ⟨ao4, cap4, rfl, hrd4⟩ := hown.shape
            have HB15 := Lib.hid (HB14.out.trans (hb15.mono HB14.out.size))
            have HRD := Lib.hid (hrd4.below ((Below.refl w15.heap.size w15).alloc (Nat.le_refl _) (.cells #[.int .i64 6174] 3)) (Nat.le_refl _))
            clear hown hb15 hrd4
            go_wp2_with fail
            refine (as_bool HSame.out (same [6174] [6174] _ _ (by first | rfl | simp) (by first | rfl | simp) _ _ _ _ _ HRD.out (rd_one _ _))).mono ?_
            rintro e w16 ⟨rfl, rfl⟩
            go_wp2
            go_ret
            exact ⟨by first | rfl | simp, HB15.out.alloc HB15.out.size _⟩

set_option maxRecDepth 100000 in
theorem lifted (os : Os) (started : os.Started) (H : Type) (enc : TypeId × Value → H) :
    ReturnsInHanded {} Try.checked os 9 .any (Rows.fnSortsSpec.pre6 enc Try.prog Try.f9 Rows.fnSortsRow.domain false) (Rows.fnSortsSpec.post enc Try.prog Try.f9 false true false false) := by
  refine returnsInHanded_of_change (C := Try.checked) own started (by kernel_rfl) Try.func9
    (ChangeSpec.witness6 (enc := enc) (C := Try.checked) false ⟨#[], #[.slice none 0 0], []⟩ 8 (by kernel_rfl) (by kernel_rfl) (by kernel_rfl) (by kernel_rfl)) ?_
  intro W base args ds gs before hval0 hW hcnd _
  have hval : ∀ (j : Nat) t v, Try.f9.params[j]? = some t → args[j]? = some v → Value.okWide Try.prog W .any base t v := hval0
  have hW' := hW
  obtain ⟨p, q, hA0, hV, rfl, hfz, hnd⟩ := hW
  have hA : DataW.TrodAll enc Try.prog W 0 (fun _ => true) true Try.f9.params.toList args.toList ds p := hA0
  rw [Try.params9] at hA hval
  obtain ⟨v0, vs0, d0, ds0, p0, q0, hargs, rfl, rfl, h0, r0⟩ := trodAll_cons hA
  obtain ⟨rfl, rfl, rfl⟩ := trodAll_nil r0
  obtain rfl : args = #[v0] := by cases args; simp_all
  obtain ⟨rfl, rfl⟩ := trodVars_none hV
  obtain ⟨a0, len0, cap0, rfl⟩ := okWide_slice Try.underlying29 (hval 0 29 v0 rfl rfl)
  have k0 := h0
  have lt0 : ∀ x ∈ p0, x.block < W.heap.size := by obtain ⟨m, hm⟩ := k0; exact DataW.trod_lt m _ _ _ hm
  obtain ⟨z0, w0⟩ : ∃ zs, IsRow .u8 W a0 len0 cap0 zs := by
    obtain ⟨fuel, hf⟩ := h0
    rcases open_ints Try.underlying29 Try.underlying5 (by kernel_rfl) hf with ⟨hcs, _⟩ | ⟨x, l, c, zs, hcs, _, hl, hm, hz, _, hcell, hwz⟩
    · simp [Value.cells] at hcs
      obtain ⟨rfl, rfl, rfl⟩ := hcs
      exact ⟨[], .inl ⟨rfl, rfl, rfl, rfl⟩⟩
    · simp [Value.cells] at hcs
      obtain ⟨rfl, rfl, rfl⟩ := hcs
      exact ⟨zs, .inr ⟨_, rfl, hl, hm, by simpa using hz, hcell, hwz⟩⟩
  clear hA0 hval0
  refine (walk a0 len0 cap0 z0 W w0).mono fun e W' ⟨he, bel⟩ => ?_
  subst he
  exact ⟨_, rfl, _, _, _, [], _, [], hW', trodAll_mk1 (shut_bool Try.underlying4 _), (trodAll_cons_mk (Below.trod laidOut (by kernel_rfl) (of_decide_eq_true (by kernel_rfl)) k0 bel lt0) trodAll_mk0), rfl, bel.frame _, fun h => by cases h⟩

theorem over : Rows.fnSortsRow.holds Try.pinned (OpenSpec.ofChange Rows.fnSortsSpec) :=
  OpenClaim.holds_of_wide 9 Try.f9 rfl rfl rfl rfl rfl rfl rfl ⟨rfl, rfl, rfl, rfl, rfl⟩ rfl rfl rfl rfl rfl (by kernel_rfl) Try.func9 (by kernel_rfl)
    (of_decide_eq_true (by kernel_rfl)) (by unfold Func.isWrapper; first | (rw [if_pos (by decide +kernel)]; kernel_rfl) | (rw [if_neg (by decide +kernel)]; exact ⟨rfl, rfl⟩))
    (fun os started H enc _ => lifted os started H enc)

theorem proved : Rows.FnSortsSaid := over
#print axioms proved
end Go.Proofs.Ytidjnbnhkgobnaa.fnSorts
