/-
  The program's law FnRepunits returns true for every input, and its arguments read afterwards as before.
  Conditions: none.
-/
import Derived.Test.YtnjifahnfmifgaaRows
import Derived.WalkKit
import Derived.ProofKit
import Derived.OpenShut
import Derived.ShutString
import Derived.ChangeOld
import Derived.Below
import Derived.Test.YtnjifahnfmifgaaSlicesA
import Derived.Test.YtnjifahnfmifgaaMake
import Derived.Test.YtnjifahnfmifgaaHelps
import Derived.Test.YtnjifahnfmifgaaGcdC
import Derived.Test.YtnjifahnfmifgaaRepPl
import Derived.Test.YtnjifahnfmifgaaExt
import Derived.Deep.DeepCutAuto
import Derived.Deep.RegionHeld3
namespace Go.Proofs.Ytnjifahnfmifgaa.fnRepunits
open Go.ChangeShapes Go.WideShapes Go.ChangeAt Go.RowKit
set_option linter.unusedVariables false

theorem own : ownKnob Try.prog.godebug = none := by kernel_rfl
theorem laidOut : laidOutB Try.prog = true := by kernel_rfl
open Rep Rots
/-- What the law asks of repunits. -/
structure RA (b m k u B : Int) : Prop where
  eu : repV k b = u
  ub : 0 ≤ u ∧ u ≤ 68719476736
  eB : b ^ k.toNat = B
  Bb : 1 ≤ B ∧ B ≤ 68719476736
  mul : u * (b - 1) = B - 1
  dv : ∀ l : Nat, Pl.IsLeast m b l → (u % m == 0) = (k % (l : Int) == 0)
theorem ra {b m k : Int} (b1 : 2 ≤ b) (b2 : b ≤ 16) (_m1 : 1 ≤ m) (k1 : 0 ≤ k) (k2 : k ≤ 9) : ∃ u B, RA b m k u B := by
  have h1 := Pl.rep_mul b k.toNat
  have h2 := Pl.rep_nn (show 0 ≤ b by omega) k.toNat
  have h3 := Pl.rep_le b1 k.toNat
  have h4 := Pl.pow_pos (show 0 < b by omega) k.toNat
  have h5 := Pl.pow_mono (show 0 ≤ b by omega) b2 k.toNat
  have h6 : (16 : Int) ^ k.toNat ≤ 16 ^ 9 := Pl.pow_up (by omega) (by omega)
  have h7 : (16 : Int) ^ 9 = 68719476736 := by decide
  refine ⟨Pl.rep b k.toNat, b ^ k.toNat, ?_, ⟨h2, by omega⟩, rfl, ⟨by omega, by omega⟩, h1, fun l hl => ?_⟩
  · unfold repV; rw [inB_mk b1 b2, inB_mk k1 k2]; rfl
  · have h := rep_dvd hl (xr_iff m b) k.toNat
    rw [Int.dvd_iff_emod_eq_zero] at h
    rw [Bool.eq_iff_iff, beq_iff_eq, beq_iff_eq, h]
    have hk : k = (k.toNat : Int) := by omega
    constructor
    · intro e; rw [hk]; omega
    · intro e; rw [hk] at e; omega
/-- What it asks of rotations. -/
structure RB (b n : Int) (q : Nat) (l : List Int) (x0 : Int) : Prop where
  ok : ∀ i, rokB (Pl.orb (rf b q) n i) b q = true
  nx : ∀ i, rotV (Pl.orb (rf b q) n i) b q = Pl.orb (rf b q) n (i + 1)
  back : Pl.orb (rf b q) n q = n
  el : rotsV n b q = l
  el2 : rotsV (rotV n b q) b q = l
  l0 : 0 < l.length ∧ l.length ≤ 9
  dv : (q : Int) % (l.length : Int) = 0
  mem : decide (n ∈ l) = true
  ex : lrV n b q = x0
  hx : l.getD 0 0 = x0
theorem rb {b n : Int} {q : Nat} (b1 : 2 ≤ b) (b2 : b ≤ 16) (q1 : 1 ≤ q) (q2 : q ≤ 9) (n0 : 0 ≤ n) (n1 : n < b ^ q) (n2 : n ≤ 1000000000000) : ∃ l x0, RB b n q l x0 := by
  have hok : rokB n b q = true := by
    rw [rok_mk (inB_mk b1 b2) (inB_mk (by omega) (by omega)) (inB_mk n0 n2), Int.toNat_natCast]; simpa using n1
  have hb := rot_id b1 b2 q1 q2 n0 n1
  have hoks := rok_orb hok
  have hnx : ∀ i, rotV (Pl.orb (rf b q) n i) b q = Pl.orb (rf b q) n (i + 1) := fun i => by
    unfold rotV; rw [if_pos (hoks i)]; rfl
  have hrot : rotV n b q = Pl.orb (rf b q) n 1 := hnx 0
  have hdd := dd_len (f := rf b q) q1 hb
  have hv : rotsV n b q = Pl.srt (rotsL n b q q) := by rw [rotsV, if_pos hok, Int.toNat_natCast]
  have hlen : (rotsV n b q).length = (Pl.ddL (rf b q) n q).length := by rw [hv, (Pl.srt_perm _).length_eq]; rfl
  refine ⟨rotsV n b q, (rotsV n b q).getD 0 0, hoks, hnx, hb, rfl, ?_, ⟨rotsV_pos hok, rotsV_len n b q⟩, ?_, ?_, ?_, rfl⟩
  · rw [hrot, hv]
    rw [rotsV, if_pos (hoks 1), Int.toNat_natCast]
    refine Pl.srt_same (Pl.ddL_nodup _ _ _) (Pl.ddL_nodup _ _ _) fun x => ?_
    show x ∈ Pl.ddL (rf b q) (Pl.orb (rf b q) n 1) q ↔ x ∈ Pl.ddL (rf b q) n q
    rw [Pl.ddL_mem, Pl.ddL_mem]
    constructor
    · rintro ⟨i, hi, rfl⟩
      rw [Pl.orb_add]
      by_cases e : 1 + i = q
      · exact ⟨0, by omega, by rw [e, hb]; rfl⟩
      · exact ⟨1 + i, by omega, rfl⟩
    · rintro ⟨i, hi, rfl⟩
      by_cases e : i = 0
      · subst e
        exact ⟨q - 1, by omega, by rw [Pl.orb_add, show 1 + (q - 1) = q by omega, hb]; rfl⟩
      · exact ⟨i - 1, by omega, by rw [Pl.orb_add, show 1 + (i - 1) = i by omega]⟩
  · rw [hlen]; have := hdd.1; omega
  · rw [decide_eq_true_eq, hv, (Pl.srt_perm _).mem_iff]
    exact Pl.ddL_mem.2 ⟨0, by omega, rfl⟩
  · rw [lrV, if_pos hok]
/-- What it asks of cyclic numbers. -/
structure RC (t b : Int) (N P : Nat) (c : Int) (ok : Bool) (p : Int) : Prop where
  hN : N ≤ 10
  hf : inB t 2 10 = true → inB b 2 16 = true → Pl.IsFirst (Xp.xf b t) 1 N P
  ec : (Xp.cycV t b N P).1 = c
  eo : (Xp.cycV t b N P).2 = ok
  ep : Xp.PerP t b N P = p
  pt : (p == t - 1) = ok
  pb : -1 ≤ p ∧ p ≤ 10
  ic : ok = true → icV c b (t - 1) = true
  cb : 0 ≤ c ∧ c ≤ 1099511627776
  mul : ok = true → c * t = b ^ (t - 1).toNat - 1
theorem rc {t b : Int} (b1 : 2 ≤ b) (b2 : b ≤ 16) (t1 : 2 ≤ t) (t2 : t ≤ 10) : ∃ N P c ok p, RC t b N P c ok p := by
  obtain ⟨N, P, hN, hf⟩ := Xp.first (b := b) t1 t2
  have ht := inB_mk t1 t2
  have hb := inB_mk b1 b2
  have hp : Xp.PerP t b N P = ((Xp.perL b t N P).length : Int) := by unfold Xp.PerP; rw [hb]; rfl
  refine ⟨N, P, _, _, _, hN, fun _ _ => hf, rfl, rfl, rfl, ?_, Xp.per_bd hN, ?_, ?_, ?_⟩
  · unfold Xp.cycV
    rw [ht]
    cases h : (Xp.PerP t b N P == t - 1) <;> rfl
  · intro h
    cases hq : (Xp.PerP t b N P == t - 1) with
    | true =>
      have h2 := (Xp.per_ok t1 hq).2
      have h3 := (cyc_ok t1 t2 b1 b2 hN hf h2).1
      unfold Xp.cycV
      rw [ht, hq]; exact h3
    | false => unfold Xp.cycV at h; rw [ht, hq] at h; exact absurd h (by simp)
  · unfold Xp.cycV
    cases hq : (inB t 2 10 && Xp.PerP t b N P == t - 1) with
    | true =>
      have hl : (Xp.perL b t N P).length ≤ 10 := by have := (Xp.per_bd (q := t) (b := b) (P := P) hN).2; omega
      have := Xp.val_rev_bd b1 b2 hl (Xp.perL_mem b1 t1 N P) (Xp.perL b t N P).length
      rw [List.take_length] at this
      exact this
    | false => show (0 : Int) ≤ 0 ∧ (0 : Int) ≤ _; omega
  · intro h
    cases hq : (Xp.PerP t b N P == t - 1) with
    | true =>
      have h2 := (Xp.per_ok t1 hq).2
      have h3 := (cyc_ok t1 t2 b1 b2 hN hf h2).2
      unfold Xp.cycV
      rw [ht, hq]; exact h3
    | false => unfold Xp.cycV at h; rw [ht, hq] at h; exact absurd h (by simp)
/-- What it asks of the least repunit. -/
structure RL (m b L : Int) (g : Bool) : Prop where
  hg : ((Int.gcd m b : Int) == 1) = g
  Lb : -1 ≤ L ∧ L ≤ m
  yes : g = true → ∃ l : Nat, L = l ∧ 1 ≤ l ∧ Pl.IsLeast m b l
  no : g = false → L = -1
theorem rl {m b : Int} {e : Ending} (b1 : 2 ≤ b) (b2 : b ≤ 16) (m1 : 1 ≤ m) (m2 : m ≤ 1000) (h : LRiLeast m b e) : ∃ L g, e = .returned (.int .i64 L) ∧ RL m b L g := by
  unfold LRiLeast at h
  by_cases hg : Int.gcd m b = 1
  · rw [if_pos ⟨inB_mk b1 b2, inB_mk m1 m2, hg⟩] at h
    obtain ⟨k, hk, hl, rfl⟩ := h
    exact ⟨k, true, rfl, by rw [hg]; rfl, by omega, fun _ => ⟨k, rfl, hl.1, hl⟩, fun h => by simp at h⟩
  · rw [if_neg (fun h => hg h.2.2)] at h
    exact ⟨-1, false, h, by rw [beq_eq_false_iff_ne]; omega, by omega, fun h => by simp at h, fun _ => rfl⟩
theorem powQ {b q : Int} (b1 : 2 ≤ b) (b2 : b ≤ 16) (q2 : q ≤ 9) : 1 ≤ b ^ q.toNat ∧ b ^ q.toNat ≤ 68719476736 := by
  have h4 := Pl.pow_pos (show 0 < b by omega) q.toNat
  have h5 := Pl.pow_mono (show 0 ≤ b by omega) b2 q.toNat
  have h6 : (16 : Int) ^ q.toNat ≤ 16 ^ 9 := Pl.pow_up (by omega) (by omega)
  have h7 : (16 : Int) ^ 9 = 68719476736 := by decide
  omega
theorem lpow9 (b q : Int) (w : World) (b1 : 2 ≤ b) (b2 : b ≤ 16) (q1 : 0 ≤ q) (q2 : q ≤ 9) : Calls Try.prog 25 #[.int .i64 b, .int .i64 q] w fun e w' => e = .returned (.int .i64 (b ^ q.toNat)) ∧ w = w' :=
  lpowerZ b q w (by omega) q1 (by omega) fun j hj => by
    have := (powQ (q := (j : Int)) b1 b2 (by omega)).2
    rw [Int.toNat_natCast] at this; omega

set_option maxRecDepth 100000 in
set_option maxHeartbeats 2000000 in
theorem walk (a0 : Option Addr) (len0 cap0 : Nat) (z0 : List Int) (w : World) (w0 : IsRow .u8 w a0 len0 cap0 z0) :
    Calls Try.prog 5 #[.slice a0 len0 cap0] w fun e w' => e = .returned (.bool true) ∧ Below w.heap.size w w' := by
  by_cases hbig : 1048576 < len0
  · go_enter Try.func5, Try.ntmps5
    go_wp2
    go_ret
    exact ⟨rfl, Below.refl _ _⟩
  have HR := Lib.hid w0.brd
  clear w0
  go_enter Try.func5, Try.ntmps5
  go_wp2_with fail
  refine (makeBase _ _ _ 0 _ HR.out (by omega) (by omega) (by omega)).mono ?_
  rintro e w1 ⟨⟨b, b1, b2, rfl⟩, hb1⟩
  have HB1 := Lib.hid hb1
  clear hb1
  go_wp2_with fail
  refine (makeNum _ _ _ 2 _ (HR.out.below HB1.out (Nat.le_refl _)) (by omega) (by omega) (by omega)).mono ?_
  rintro e w2 ⟨⟨y0, y1, y2, rfl⟩, hb2⟩
  have HB2 := Lib.hid (HB1.out.trans (hb2.mono HB1.out.size))
  clear hb2
  have m1 : 1 ≤ 1 + y0 % 120 := by omega
  have m2 : 1 + y0 % 120 ≤ 120 := by omega
  go_wp2_with fail
  generalize 1 + y0 % 120 = m at *
  refine (makeNum _ _ _ 4 _ (HR.out.below HB2.out (Nat.le_refl _)) (by omega) (by omega) (by omega)).mono ?_
  rintro e w3 ⟨⟨z0, z1, z2, rfl⟩, hb3⟩
  have HB3 := Lib.hid (HB2.out.trans (hb3.mono HB2.out.size))
  clear hb3
  have k1 : 0 ≤ z0 % 10 := by omega
  have k2 : z0 % 10 ≤ 9 := by omega
  go_wp2_with fail
  generalize z0 % 10 = k at *
  obtain ⟨u, B, F⟩ := ra (m := m) b1 b2 m1 k1 k2
  have HF := Lib.hid F
  have ⟨u0, u1⟩ := F.ub
  have ⟨B0, B1⟩ := F.Bb
  clear F
  refine (as_int HF.out.eu (iRepunit k b _)).mono ?_
  rintro e w4 ⟨rfl, hb4⟩
  have HB4 := Lib.hid (HB3.out.trans (hb4.mono HB3.out.size))
  clear hb4
  go_wp2_with fail
  refine (iLeast m b _).mono ?_
  rintro e w5 ⟨hle, hb5⟩
  obtain ⟨L, g, rfl, G⟩ := rl b1 b2 m1 (show m ≤ 1000 by omega) hle
  have HB5 := Lib.hid (HB4.out.trans (hb5.mono HB4.out.size))
  have HG := Lib.hid G
  have ⟨L1, L2⟩ := G.Lb
  have HFin := Lib.hid (Below.refl w5.heap.size w5)
  have HA1 := Lib.hid (ext_b w5 (fun wx => iGcd m b wx m1 (show m ≤ 1000 by omega) b1 b2))
  have HA2 := Lib.hid (ext_q w5 (fun wx => as_int HF.out.eB (lpow9 b k wx b1 b2 k1 k2)))
  have HW1 : Hid (IntKind.i64.wrap (b - 1) = b - 1) := Lib.hid (IntWalk.i64_in _ (by omega))
  have HW2 : Hid (IntKind.i64.wrap (u * (b - 1)) = B - 1) := Lib.hid (by rw [HF.out.mul]; exact IntWalk.i64_in _ (by omega))
  have HW3 : Hid (IntKind.i64.wrap (B - 1 + 1) = B) := Lib.hid ((IntWalk.i64_in _ (by omega)).trans (by omega))
  have HW4 : Hid (IntKind.i64.wrap B = B) := Lib.hid (IntWalk.i64_in _ (by omega))
  have HW5 := Lib.hid (show u.tmod m = u % m from Int.tmod_eq_emod_of_nonneg u0)
  have HW6 := Lib.hid (show k.tmod L = k % L from Int.tmod_eq_emod_of_nonneg k1)
  have hm0 : ¬ (m = 0) := by omega
  have hd1 : decide (u < 0) = false := by simp; omega
  have hBB : (B != B) = false := by simp
  clear hle hb5 G
  go_upto_region 8 with fail
  go_cut [83] from 39 to 84 (fun v wx => v = .bool false ∧ Below w5.heap.size w5 wx)
  case first =>
    cases hg : g with
    | true =>
      obtain ⟨l, rfl, hl1, hl2⟩ := HG.out.yes hg
      have HGc := Lib.hid (show ((Int.gcd m b : Int) == 1) = true by rw [HG.out.hg]; exact hg)
      have hgc := HGc.out
      obtain ⟨v, hv⟩ : ∃ v, ((k % (l : Int)) == 0) = v := ⟨_, rfl⟩
      have hv2 : (u % m == 0) = v := (HF.out.dv l hl2).trans hv
      have hvv : (v != v) = false := by simp
      have hL0 : ¬ ((l : Int) = 0) := by omega
      have hL0' : ¬ (l = 0) := by omega
      have hL1 : decide ((1 : Int) ≤ (l : Int)) = true := by simp; omega
      have hL1' : (1 : Int) ≤ (l : Int) := by omega
      have hL2 : decide ((l : Int) < 1) = false := by simp; omega
      have hL3 : decide ((0 : Int) < (l : Int)) = true := by simp; omega
      have hL4 : decide (1 ≤ l) = true := by simpa using hl1
      have hL5 : decide (0 < l) = true := by simp; omega
      have hw1 := HW1.out
      have hw2 := HW2.out
      have hw3 := HW3.out
      have hw4 := HW4.out
      have hw5 := HW5.out
      have hw6 := HW6.out
      clear hl2
      refine wp_region_held_drew (S := (fun wx => Below w5.heap.size w5 wx)) (by kernel_rfl) ?hS2000 (fun hHeld => ?hR2000)
      case hS2000 => ((try dsimp only); (first | exact Below.drew HFin.out | assumption))
      refine wpAnyH_take (i := 0) (oi := { dst := some 39, op := Go.Op.move (Go.Operand.tmp 6), type := 3, pos := "laws.go:1014", after := #[], guard := none }) (v := ?v2001) rfl (by kernel_rfl) (by kernel_rfl) (by kernel_rfl) (fun _ _ _ h => h) (Or.inl ⟨by rfl, ?hy2001⟩) (by assumption) ?hr2001
      case hy2001 => (intro w hSw; (try dsimp only at hSw); go_simp; (try with_reducible rfl))
      (try simp only [Act.put, List.setIfInBounds_toArray, List.set_cons_zero, List.set_cons_succ])
      refine wpAnyH_take (i := 1) (oi := { dst := some 40, op := Go.Op.binOp Go.BinOp.lss 3 (Go.Operand.tmp 39) (Go.Operand.const (Go.Value.int Go.IntKind.i64 0)) 3, type := 4, pos := "laws.go:1014", after := #[{ on := 0, ground := Go.Ground.data }], guard := none }) (v := ?v2002) rfl (by kernel_rfl) (by kernel_rfl) (by kernel_rfl) (fun _ _ _ h => h) (Or.inl ⟨by rfl, ?hy2002⟩) (by assumption) ?hr2002
      case hy2002 => (intro w hSw; (try dsimp only at hSw); go_simp; (try with_reducible rfl))
      (try simp only [Act.put, List.setIfInBounds_toArray, List.set_cons_zero, List.set_cons_succ])
      refine wpAnyH_take (i := 2) (oi := { dst := some 41, op := Go.Op.move (Go.Operand.tmp 40), type := 4, pos := "laws.go:1014", after := #[{ on := 1, ground := Go.Ground.data }], guard := none }) (v := ?v2003) rfl (by kernel_rfl) (by kernel_rfl) (by kernel_rfl) (fun _ _ _ h => h) (Or.inl ⟨by rfl, ?hy2003⟩) (by assumption) ?hr2003
      case hy2003 => (intro w hSw; (try dsimp only at hSw); go_simp; (try with_reducible rfl))
      (try simp only [Act.put, List.setIfInBounds_toArray, List.set_cons_zero, List.set_cons_succ])
      refine wpAnyH_take (i := 3) (oi := { dst := some 42, op := Go.Op.move (Go.Operand.tmp 7), type := 3, pos := "laws.go:1014", after := #[{ on := 2, ground := Go.Ground.guard }], guard := some (2, false) }) (v := ?v2004) rfl (by kernel_rfl) (by kernel_rfl) (by kernel_rfl) (fun _ _ _ h => h) (Or.inl ⟨by rfl, ?hy2004⟩) (by assumption) ?hr2004
      case hy2004 => (intro w hSw; (try dsimp only at hSw); go_simp; (try with_reducible rfl))
      (try simp only [Act.put, List.setIfInBounds_toArray, List.set_cons_zero, List.set_cons_succ])
      refine wpAnyH_take (i := 4) (oi := { dst := some 43, op := Go.Op.binOp Go.BinOp.geq 3 (Go.Operand.tmp 42) (Go.Operand.const (Go.Value.int Go.IntKind.i64 1)) 3, type := 4, pos := "laws.go:1014", after := #[{ on := 3, ground := Go.Ground.data }, { on := 2, ground := Go.Ground.guard }], guard := some (2, false) }) (v := ?v2005) rfl (by kernel_rfl) (by kernel_rfl) (by kernel_rfl) (fun _ _ _ h => h) (Or.inl ⟨by rfl, ?hy2005⟩) (by assumption) ?hr2005
      case hy2005 => (intro w hSw; (try dsimp only at hSw); go_simp; (try with_reducible rfl))
      (try simp only [Act.put, List.setIfInBounds_toArray, List.set_cons_zero, List.set_cons_succ])
      refine wpAnyH_take (i := 5) (oi := { dst := some 44, op := Go.Op.move (Go.Operand.tmp 4), type := 3, pos := "laws.go:1014", after := #[{ on := 2, ground := Go.Ground.guard }], guard := some (2, false) }) (v := ?v2006) rfl (by kernel_rfl) (by kernel_rfl) (by kernel_rfl) (fun _ _ _ h => h) (Or.inl ⟨by rfl, ?hy2006⟩) (by assumption) ?hr2006
      case hy2006 => (intro w hSw; (try dsimp only at hSw); go_simp; (try with_reducible rfl))
      (try simp only [Act.put, List.setIfInBounds_toArray, List.set_cons_zero, List.set_cons_succ])
      refine wpAnyH_take (i := 6) (oi := { dst := some 45, op := Go.Op.move (Go.Operand.tmp 3), type := 3, pos := "laws.go:1014", after := #[{ on := 2, ground := Go.Ground.guard }], guard := some (2, false) }) (v := ?v2007) rfl (by kernel_rfl) (by kernel_rfl) (by kernel_rfl) (fun _ _ _ h => h) (Or.inl ⟨by rfl, ?hy2007⟩) (by assumption) ?hr2007
      case hy2007 => (intro w hSw; (try dsimp only at hSw); go_simp; (try with_reducible rfl))
      (try simp only [Act.put, List.setIfInBounds_toArray, List.set_cons_zero, List.set_cons_succ])
      refine wpAnyH_ready (rs := [7]) (by kernel_rfl) (by simp) ?_
      refine AllReadyH.cons (o := { dst := some 46, op := Go.Op.call { callee := Go.Callee.value (Go.Operand.func 16), args := #[Go.Operand.tmp 44, Go.Operand.tmp 45], argTypes := #[3, 3] }, type := 3, pos := "laws.go:1014", after := #[{ on := 5, ground := Go.Ground.data }, { on := 6, ground := Go.Ground.data }, { on := 2, ground := Go.Ground.chain }, { on := 2, ground := Go.Ground.guard }], guard := some (2, false) }) rfl (fun K hK => ?_) AllReadyH.nil
      go_simp
      (go_at_call 16; refine (HA1.out _ (by exact hHeld)).mono ?_; rintro e' w6 ⟨rfl, hb6⟩)
      (try go_wp2_with fail)
      refine hK.out _ _ ?hS2008 (fun hHeld => ?hR2008)
      case hS2008 => ((try dsimp only); (first | exact Below.drew HFin.out | assumption))
      clear hK K
      (try simp only [Act.put, List.setIfInBounds_toArray, List.set_cons_zero, List.set_cons_succ])
      refine wpAnyH_take (i := 8) (oi := { dst := some 47, op := Go.Op.binOp Go.BinOp.eql 3 (Go.Operand.tmp 46) (Go.Operand.const (Go.Value.int Go.IntKind.i64 1)) 3, type := 4, pos := "laws.go:1014", after := #[{ on := 7, ground := Go.Ground.data }, { on := 2, ground := Go.Ground.guard }], guard := some (2, false) }) (v := ?v2009) rfl (by kernel_rfl) (by kernel_rfl) (by kernel_rfl) (fun _ _ _ h => h) (Or.inl ⟨by rfl, ?hy2009⟩) (by assumption) ?hr2009
      case hy2009 => (intro w hSw; (try dsimp only at hSw); go_simp; (try with_reducible rfl))
      (try simp only [Act.put, List.setIfInBounds_toArray, List.set_cons_zero, List.set_cons_succ])
      refine wpAnyH_take (i := 9) (oi := { dst := some 48, op := Go.Op.binOp Go.BinOp.neq 4 (Go.Operand.tmp 43) (Go.Operand.tmp 47) 4, type := 4, pos := "laws.go:1014", after := #[{ on := 4, ground := Go.Ground.data }, { on := 8, ground := Go.Ground.data }, { on := 2, ground := Go.Ground.guard }], guard := some (2, false) }) (v := ?v2010) rfl (by kernel_rfl) (by kernel_rfl) (by kernel_rfl) (fun _ _ _ h => h) (Or.inl ⟨by rfl, ?hy2010⟩) (by assumption) ?hr2010
      case hy2010 => (intro w hSw; (try dsimp only at hSw); go_simp; (try with_reducible rfl))
      (try simp only [Act.put, List.setIfInBounds_toArray, List.set_cons_zero, List.set_cons_succ])
      refine wpAnyH_take (i := 10) (oi := { dst := some 49, op := Go.Op.pick (Go.Operand.tmp 41) (Go.Operand.const (Go.Value.bool true)) (Go.Operand.tmp 48), type := 4, pos := "laws.go:1014", after := #[{ on := 2, ground := Go.Ground.data }, { on := 9, ground := Go.Ground.data }], guard := none }) (v := ?v2011) rfl (by kernel_rfl) (by kernel_rfl) (by kernel_rfl) (fun _ _ _ h => h) (Or.inl ⟨by rfl, ?hy2011⟩) (by assumption) ?hr2011
      case hy2011 => (intro w hSw; (try dsimp only at hSw); go_simp; (try with_reducible rfl))
      (try simp only [Act.put, List.setIfInBounds_toArray, List.set_cons_zero, List.set_cons_succ])
      refine wpAnyH_take (i := 11) (oi := { dst := some 50, op := Go.Op.move (Go.Operand.tmp 49), type := 4, pos := "laws.go:1014", after := #[{ on := 10, ground := Go.Ground.data }, { on := 7, ground := Go.Ground.chain }], guard := none }) (v := ?v2012) rfl (by kernel_rfl) (by kernel_rfl) (by kernel_rfl) (fun _ _ _ h => h) (Or.inl ⟨by rfl, ?hy2012⟩) (by assumption) ?hr2012
      case hy2012 => (intro w hSw; (try dsimp only at hSw); go_simp; (try with_reducible rfl))
      (try simp only [Act.put, List.setIfInBounds_toArray, List.set_cons_zero, List.set_cons_succ])
      refine wpAnyH_take (i := 12) (oi := { dst := some 51, op := Go.Op.move (Go.Operand.tmp 7), type := 3, pos := "laws.go:1014", after := #[{ on := 11, ground := Go.Ground.guard }], guard := some (11, false) }) (v := ?v2013) rfl (by kernel_rfl) (by kernel_rfl) (by kernel_rfl) (fun _ _ _ h => h) (Or.inl ⟨by rfl, ?hy2013⟩) (by assumption) ?hr2013
      case hy2013 => (intro w hSw; (try dsimp only at hSw); go_simp; (try with_reducible rfl))
      (try simp only [Act.put, List.setIfInBounds_toArray, List.set_cons_zero, List.set_cons_succ])
      refine wpAnyH_take (i := 13) (oi := { dst := some 52, op := Go.Op.binOp Go.BinOp.lss 3 (Go.Operand.tmp 51) (Go.Operand.const (Go.Value.int Go.IntKind.i64 1)) 3, type := 4, pos := "laws.go:1014", after := #[{ on := 12, ground := Go.Ground.data }, { on := 11, ground := Go.Ground.guard }], guard := some (11, false) }) (v := ?v2014) rfl (by kernel_rfl) (by kernel_rfl) (by kernel_rfl) (fun _ _ _ h => h) (Or.inl ⟨by rfl, ?hy2014⟩) (by assumption) ?hr2014
      case hy2014 => (intro w hSw; (try dsimp only at hSw); go_simp; (try with_reducible rfl))
      (try simp only [Act.put, List.setIfInBounds_toArray, List.set_cons_zero, List.set_cons_succ])
      refine wpAnyH_take (i := 14) (oi := { dst := some 53, op := Go.Op.move (Go.Operand.tmp 52), type := 4, pos := "laws.go:1014", after := #[{ on := 13, ground := Go.Ground.data }, { on := 11, ground := Go.Ground.chain }, { on := 11, ground := Go.Ground.guard }], guard := some (11, false) }) (v := ?v2015) rfl (by kernel_rfl) (by kernel_rfl) (by kernel_rfl) (fun _ _ _ h => h) (Or.inl ⟨by rfl, ?hy2015⟩) (by assumption) ?hr2015
      case hy2015 => (intro w hSw; (try dsimp only at hSw); go_simp; (try with_reducible rfl))
      (try simp only [Act.put, List.setIfInBounds_toArray, List.set_cons_zero, List.set_cons_succ])
      refine wpAnyH_take (i := 15) (oi := { dst := some 54, op := Go.Op.move (Go.Operand.tmp 7), type := 3, pos := "laws.go:1014", after := #[{ on := 14, ground := Go.Ground.guard }], guard := some (14, true) }) (v := undef) rfl (by kernel_rfl) (by kernel_rfl) (by kernel_rfl) (fun _ _ _ h => h) (Or.inr ⟨by rfl, rfl⟩) (by assumption) ?_
      (try simp only [Act.put, List.setIfInBounds_toArray, List.set_cons_zero, List.set_cons_succ])
      refine wpAnyH_take (i := 16) (oi := { dst := some 55, op := Go.Op.binOp Go.BinOp.neq 3 (Go.Operand.tmp 54) (Go.Operand.const (Go.Value.int Go.IntKind.i64 (-1))) 3, type := 4, pos := "laws.go:1014", after := #[{ on := 15, ground := Go.Ground.data }, { on := 14, ground := Go.Ground.guard }], guard := some (14, true) }) (v := undef) rfl (by kernel_rfl) (by kernel_rfl) (by kernel_rfl) (fun _ _ _ h => h) (Or.inr ⟨by rfl, rfl⟩) (by assumption) ?_
      (try simp only [Act.put, List.setIfInBounds_toArray, List.set_cons_zero, List.set_cons_succ])
      refine wpAnyH_take (i := 17) (oi := { dst := some 56, op := Go.Op.pick (Go.Operand.tmp 53) (Go.Operand.tmp 55) (Go.Operand.const (Go.Value.bool false)), type := 4, pos := "laws.go:1014", after := #[{ on := 14, ground := Go.Ground.data }, { on := 16, ground := Go.Ground.data }, { on := 11, ground := Go.Ground.guard }], guard := some (11, false) }) (v := ?v2018) rfl (by kernel_rfl) (by kernel_rfl) (by kernel_rfl) (fun _ _ _ h => h) (Or.inl ⟨by rfl, ?hy2018⟩) (by assumption) ?hr2018
      case hy2018 => (intro w hSw; (try dsimp only at hSw); go_simp; (try with_reducible rfl))
      (try simp only [Act.put, List.setIfInBounds_toArray, List.set_cons_zero, List.set_cons_succ])
      refine wpAnyH_take (i := 18) (oi := { dst := some 57, op := Go.Op.pick (Go.Operand.tmp 50) (Go.Operand.const (Go.Value.bool true)) (Go.Operand.tmp 56), type := 4, pos := "laws.go:1014", after := #[{ on := 11, ground := Go.Ground.data }, { on := 17, ground := Go.Ground.data }], guard := none }) (v := ?v2019) rfl (by kernel_rfl) (by kernel_rfl) (by kernel_rfl) (fun _ _ _ h => h) (Or.inl ⟨by rfl, ?hy2019⟩) (by assumption) ?hr2019
      case hy2019 => (intro w hSw; (try dsimp only at hSw); go_simp; (try with_reducible rfl))
      (try simp only [Act.put, List.setIfInBounds_toArray, List.set_cons_zero, List.set_cons_succ])
      refine wpAnyH_take (i := 19) (oi := { dst := some 58, op := Go.Op.move (Go.Operand.tmp 57), type := 4, pos := "laws.go:1014", after := #[{ on := 18, ground := Go.Ground.data }, { on := 14, ground := Go.Ground.chain }], guard := none }) (v := ?v2020) rfl (by kernel_rfl) (by kernel_rfl) (by kernel_rfl) (fun _ _ _ h => h) (Or.inl ⟨by rfl, ?hy2020⟩) (by assumption) ?hr2020
      case hy2020 => (intro w hSw; (try dsimp only at hSw); go_simp; (try with_reducible rfl))
      (try simp only [Act.put, List.setIfInBounds_toArray, List.set_cons_zero, List.set_cons_succ])
      refine wpAnyH_take (i := 20) (oi := { dst := some 59, op := Go.Op.move (Go.Operand.tmp 7), type := 3, pos := "laws.go:1014", after := #[{ on := 19, ground := Go.Ground.guard }], guard := some (19, false) }) (v := ?v2021) rfl (by kernel_rfl) (by kernel_rfl) (by kernel_rfl) (fun _ _ _ h => h) (Or.inl ⟨by rfl, ?hy2021⟩) (by assumption) ?hr2021
      case hy2021 => (intro w hSw; (try dsimp only at hSw); go_simp; (try with_reducible rfl))
      (try simp only [Act.put, List.setIfInBounds_toArray, List.set_cons_zero, List.set_cons_succ])
      refine wpAnyH_take (i := 21) (oi := { dst := some 60, op := Go.Op.binOp Go.BinOp.gtr 3 (Go.Operand.tmp 59) (Go.Operand.const (Go.Value.int Go.IntKind.i64 0)) 3, type := 4, pos := "laws.go:1014", after := #[{ on := 20, ground := Go.Ground.data }, { on := 19, ground := Go.Ground.guard }], guard := some (19, false) }) (v := ?v2022) rfl (by kernel_rfl) (by kernel_rfl) (by kernel_rfl) (fun _ _ _ h => h) (Or.inl ⟨by rfl, ?hy2022⟩) (by assumption) ?hr2022
      case hy2022 => (intro w hSw; (try dsimp only at hSw); go_simp; (try with_reducible rfl))
      (try simp only [Act.put, List.setIfInBounds_toArray, List.set_cons_zero, List.set_cons_succ])
      refine wpAnyH_take (i := 22) (oi := { dst := some 61, op := Go.Op.move (Go.Operand.tmp 60), type := 4, pos := "laws.go:1014", after := #[{ on := 21, ground := Go.Ground.data }, { on := 19, ground := Go.Ground.chain }, { on := 19, ground := Go.Ground.guard }], guard := some (19, false) }) (v := ?v2023) rfl (by kernel_rfl) (by kernel_rfl) (by kernel_rfl) (fun _ _ _ h => h) (Or.inl ⟨by rfl, ?hy2023⟩) (by assumption) ?hr2023
      case hy2023 => (intro w hSw; (try dsimp only at hSw); go_simp; (try with_reducible rfl))
      (try simp only [Act.put, List.setIfInBounds_toArray, List.set_cons_zero, List.set_cons_succ])
      refine wpAnyH_take (i := 23) (oi := { dst := some 62, op := Go.Op.move (Go.Operand.tmp 6), type := 3, pos := "laws.go:1014", after := #[{ on := 22, ground := Go.Ground.guard }], guard := some (22, true) }) (v := ?v2024) rfl (by kernel_rfl) (by kernel_rfl) (by kernel_rfl) (fun _ _ _ h => h) (Or.inl ⟨by rfl, ?hy2024⟩) (by assumption) ?hr2024
      case hy2024 => (intro w hSw; (try dsimp only at hSw); go_simp; (try with_reducible rfl))
      (try simp only [Act.put, List.setIfInBounds_toArray, List.set_cons_zero, List.set_cons_succ])
      refine wpAnyH_take (i := 24) (oi := { dst := some 63, op := Go.Op.move (Go.Operand.tmp 4), type := 3, pos := "laws.go:1014", after := #[{ on := 22, ground := Go.Ground.guard }], guard := some (22, true) }) (v := ?v2025) rfl (by kernel_rfl) (by kernel_rfl) (by kernel_rfl) (fun _ _ _ h => h) (Or.inl ⟨by rfl, ?hy2025⟩) (by assumption) ?hr2025
      case hy2025 => (intro w hSw; (try dsimp only at hSw); go_simp; (try with_reducible rfl))
      (try simp only [Act.put, List.setIfInBounds_toArray, List.set_cons_zero, List.set_cons_succ])
      refine wpAnyH_take (i := 25) (oi := { dst := some 64, op := Go.Op.binOp Go.BinOp.rem 3 (Go.Operand.tmp 62) (Go.Operand.tmp 63) 3, type := 3, pos := "laws.go:1014", after := #[{ on := 23, ground := Go.Ground.data }, { on := 24, ground := Go.Ground.data }, { on := 22, ground := Go.Ground.guard }], guard := some (22, true) }) (v := ?v2026) rfl (by kernel_rfl) (by kernel_rfl) (by kernel_rfl) (fun _ _ _ h => h) (Or.inl ⟨by rfl, ?hy2026⟩) (by assumption) ?hr2026
      case hy2026 => (intro w hSw; (try dsimp only at hSw); go_simp; (try with_reducible rfl))
      (try simp only [Act.put, List.setIfInBounds_toArray, List.set_cons_zero, List.set_cons_succ])
      refine wpAnyH_take (i := 26) (oi := { dst := some 65, op := Go.Op.binOp Go.BinOp.eql 3 (Go.Operand.tmp 64) (Go.Operand.const (Go.Value.int Go.IntKind.i64 0)) 3, type := 4, pos := "laws.go:1014", after := #[{ on := 25, ground := Go.Ground.data }, { on := 22, ground := Go.Ground.guard }], guard := some (22, true) }) (v := ?v2027) rfl (by kernel_rfl) (by kernel_rfl) (by kernel_rfl) (fun _ _ _ h => h) (Or.inl ⟨by rfl, ?hy2027⟩) (by assumption) ?hr2027
      case hy2027 => (intro w hSw; (try dsimp only at hSw); go_simp; (try with_reducible rfl))
      (try simp only [Act.put, List.setIfInBounds_toArray, List.set_cons_zero, List.set_cons_succ])
      refine wpAnyH_take (i := 27) (oi := { dst := some 66, op := Go.Op.move (Go.Operand.tmp 5), type := 3, pos := "laws.go:1014", after := #[{ on := 22, ground := Go.Ground.guard }], guard := some (22, true) }) (v := ?v2028) rfl (by kernel_rfl) (by kernel_rfl) (by kernel_rfl) (fun _ _ _ h => h) (Or.inl ⟨by rfl, ?hy2028⟩) (by assumption) ?hr2028
      case hy2028 => (intro w hSw; (try dsimp only at hSw); go_simp; (try with_reducible rfl))
      (try simp only [Act.put, List.setIfInBounds_toArray, List.set_cons_zero, List.set_cons_succ])
      refine wpAnyH_take (i := 28) (oi := { dst := some 67, op := Go.Op.move (Go.Operand.tmp 7), type := 3, pos := "laws.go:1014", after := #[{ on := 22, ground := Go.Ground.guard }], guard := some (22, true) }) (v := ?v2029) rfl (by kernel_rfl) (by kernel_rfl) (by kernel_rfl) (fun _ _ _ h => h) (Or.inl ⟨by rfl, ?hy2029⟩) (by assumption) ?hr2029
      case hy2029 => (intro w hSw; (try dsimp only at hSw); go_simp; (try with_reducible rfl))
      (try simp only [Act.put, List.setIfInBounds_toArray, List.set_cons_zero, List.set_cons_succ])
      refine wpAnyH_take (i := 29) (oi := { dst := some 68, op := Go.Op.binOp Go.BinOp.rem 3 (Go.Operand.tmp 66) (Go.Operand.tmp 67) 3, type := 3, pos := "laws.go:1014", after := #[{ on := 27, ground := Go.Ground.data }, { on := 28, ground := Go.Ground.data }, { on := 22, ground := Go.Ground.guard }], guard := some (22, true) }) (v := ?v2030) rfl (by kernel_rfl) (by kernel_rfl) (by kernel_rfl) (fun _ _ _ h => h) (Or.inl ⟨by rfl, ?hy2030⟩) (by assumption) ?hr2030
      case hy2030 => (intro w hSw; (try dsimp only at hSw); go_simp; (try with_reducible rfl))
      (try simp only [Act.put, List.setIfInBounds_toArray, List.set_cons_zero, List.set_cons_succ])
      refine wpAnyH_take (i := 30) (oi := { dst := some 69, op := Go.Op.binOp Go.BinOp.eql 3 (Go.Operand.tmp 68) (Go.Operand.const (Go.Value.int Go.IntKind.i64 0)) 3, type := 4, pos := "laws.go:1014", after := #[{ on := 29, ground := Go.Ground.data }, { on := 22, ground := Go.Ground.guard }], guard := some (22, true) }) (v := ?v2031) rfl (by kernel_rfl) (by kernel_rfl) (by kernel_rfl) (fun _ _ _ h => h) (Or.inl ⟨by rfl, ?hy2031⟩) (by assumption) ?hr2031
      case hy2031 => (intro w hSw; (try dsimp only at hSw); go_simp; (try with_reducible rfl))
      (try simp only [Act.put, List.setIfInBounds_toArray, List.set_cons_zero, List.set_cons_succ])
      refine wpAnyH_take (i := 31) (oi := { dst := some 70, op := Go.Op.binOp Go.BinOp.neq 4 (Go.Operand.tmp 65) (Go.Operand.tmp 69) 4, type := 4, pos := "laws.go:1014", after := #[{ on := 26, ground := Go.Ground.data }, { on := 30, ground := Go.Ground.data }, { on := 22, ground := Go.Ground.guard }], guard := some (22, true) }) (v := ?v2032) rfl (by kernel_rfl) (by kernel_rfl) (by kernel_rfl) (fun _ _ _ h => h) (Or.inl ⟨by rfl, ?hy2032⟩) (by assumption) ?hr2032
      case hy2032 => (intro w hSw; (try dsimp only at hSw); go_simp; (try with_reducible rfl))
      (try simp only [Act.put, List.setIfInBounds_toArray, List.set_cons_zero, List.set_cons_succ])
      refine wpAnyH_take (i := 32) (oi := { dst := some 71, op := Go.Op.pick (Go.Operand.tmp 61) (Go.Operand.tmp 70) (Go.Operand.const (Go.Value.bool false)), type := 4, pos := "laws.go:1014", after := #[{ on := 22, ground := Go.Ground.data }, { on := 31, ground := Go.Ground.data }, { on := 19, ground := Go.Ground.guard }], guard := some (19, false) }) (v := ?v2033) rfl (by kernel_rfl) (by kernel_rfl) (by kernel_rfl) (fun _ _ _ h => h) (Or.inl ⟨by rfl, ?hy2033⟩) (by assumption) ?hr2033
      case hy2033 => (intro w hSw; (try dsimp only at hSw); go_simp; (try with_reducible rfl))
      (try simp only [Act.put, List.setIfInBounds_toArray, List.set_cons_zero, List.set_cons_succ])
      refine wpAnyH_take (i := 33) (oi := { dst := some 72, op := Go.Op.pick (Go.Operand.tmp 58) (Go.Operand.const (Go.Value.bool true)) (Go.Operand.tmp 71), type := 4, pos := "laws.go:1014", after := #[{ on := 19, ground := Go.Ground.data }, { on := 32, ground := Go.Ground.data }], guard := none }) (v := ?v2034) rfl (by kernel_rfl) (by kernel_rfl) (by kernel_rfl) (fun _ _ _ h => h) (Or.inl ⟨by rfl, ?hy2034⟩) (by assumption) ?hr2034
      case hy2034 => (intro w hSw; (try dsimp only at hSw); go_simp; (try with_reducible rfl))
      (try simp only [Act.put, List.setIfInBounds_toArray, List.set_cons_zero, List.set_cons_succ])
      refine wpAnyH_take (i := 34) (oi := { dst := some 73, op := Go.Op.move (Go.Operand.tmp 72), type := 4, pos := "laws.go:1014", after := #[{ on := 33, ground := Go.Ground.data }, { on := 22, ground := Go.Ground.chain }], guard := none }) (v := ?v2035) rfl (by kernel_rfl) (by kernel_rfl) (by kernel_rfl) (fun _ _ _ h => h) (Or.inl ⟨by rfl, ?hy2035⟩) (by assumption) ?hr2035
      case hy2035 => (intro w hSw; (try dsimp only at hSw); go_simp; (try with_reducible rfl))
      (try simp only [Act.put, List.setIfInBounds_toArray, List.set_cons_zero, List.set_cons_succ])
      refine wpAnyH_take (i := 35) (oi := { dst := some 74, op := Go.Op.move (Go.Operand.tmp 6), type := 3, pos := "laws.go:1014", after := #[{ on := 34, ground := Go.Ground.guard }], guard := some (34, false) }) (v := ?v2036) rfl (by kernel_rfl) (by kernel_rfl) (by kernel_rfl) (fun _ _ _ h => h) (Or.inl ⟨by rfl, ?hy2036⟩) (by assumption) ?hr2036
      case hy2036 => (intro w hSw; (try dsimp only at hSw); go_simp; (try with_reducible rfl))
      (try simp only [Act.put, List.setIfInBounds_toArray, List.set_cons_zero, List.set_cons_succ])
      refine wpAnyH_take (i := 36) (oi := { dst := some 75, op := Go.Op.move (Go.Operand.tmp 3), type := 3, pos := "laws.go:1014", after := #[{ on := 34, ground := Go.Ground.guard }], guard := some (34, false) }) (v := ?v2037) rfl (by kernel_rfl) (by kernel_rfl) (by kernel_rfl) (fun _ _ _ h => h) (Or.inl ⟨by rfl, ?hy2037⟩) (by assumption) ?hr2037
      case hy2037 => (intro w hSw; (try dsimp only at hSw); go_simp; (try with_reducible rfl))
      (try simp only [Act.put, List.setIfInBounds_toArray, List.set_cons_zero, List.set_cons_succ])
      refine wpAnyH_take (i := 37) (oi := { dst := some 76, op := Go.Op.binOp Go.BinOp.sub 3 (Go.Operand.tmp 75) (Go.Operand.const (Go.Value.int Go.IntKind.i64 1)) 3, type := 3, pos := "laws.go:1014", after := #[{ on := 36, ground := Go.Ground.data }, { on := 34, ground := Go.Ground.guard }], guard := some (34, false) }) (v := ?v2038) rfl (by kernel_rfl) (by kernel_rfl) (by kernel_rfl) (fun _ _ _ h => h) (Or.inl ⟨by rfl, ?hy2038⟩) (by assumption) ?hr2038
      case hy2038 => (intro w hSw; (try dsimp only at hSw); go_simp; (try with_reducible rfl))
      (try simp only [Act.put, List.setIfInBounds_toArray, List.set_cons_zero, List.set_cons_succ])
      refine wpAnyH_take (i := 38) (oi := { dst := some 77, op := Go.Op.binOp Go.BinOp.mul 3 (Go.Operand.tmp 74) (Go.Operand.tmp 76) 3, type := 3, pos := "laws.go:1014", after := #[{ on := 35, ground := Go.Ground.data }, { on := 37, ground := Go.Ground.data }, { on := 34, ground := Go.Ground.guard }], guard := some (34, false) }) (v := ?v2039) rfl (by kernel_rfl) (by kernel_rfl) (by kernel_rfl) (fun _ _ _ h => h) (Or.inl ⟨by rfl, ?hy2039⟩) (by assumption) ?hr2039
      case hy2039 => (intro w hSw; (try dsimp only at hSw); go_simp; (try with_reducible rfl))
      (try simp only [Act.put, List.setIfInBounds_toArray, List.set_cons_zero, List.set_cons_succ])
      refine wpAnyH_take (i := 39) (oi := { dst := some 78, op := Go.Op.binOp Go.BinOp.add 3 (Go.Operand.tmp 77) (Go.Operand.const (Go.Value.int Go.IntKind.i64 1)) 3, type := 3, pos := "laws.go:1014", after := #[{ on := 38, ground := Go.Ground.data }, { on := 34, ground := Go.Ground.guard }], guard := some (34, false) }) (v := ?v2040) rfl (by kernel_rfl) (by kernel_rfl) (by kernel_rfl) (fun _ _ _ h => h) (Or.inl ⟨by rfl, ?hy2040⟩) (by assumption) ?hr2040
      case hy2040 => (intro w hSw; (try dsimp only at hSw); go_simp; (try with_reducible rfl))
      (try simp only [Act.put, List.setIfInBounds_toArray, List.set_cons_zero, List.set_cons_succ])
      refine wpAnyH_take (i := 40) (oi := { dst := some 79, op := Go.Op.move (Go.Operand.tmp 3), type := 3, pos := "laws.go:1014", after := #[{ on := 34, ground := Go.Ground.guard }], guard := some (34, false) }) (v := ?v2041) rfl (by kernel_rfl) (by kernel_rfl) (by kernel_rfl) (fun _ _ _ h => h) (Or.inl ⟨by rfl, ?hy2041⟩) (by assumption) ?hr2041
      case hy2041 => (intro w hSw; (try dsimp only at hSw); go_simp; (try with_reducible rfl))
      (try simp only [Act.put, List.setIfInBounds_toArray, List.set_cons_zero, List.set_cons_succ])
      refine wpAnyH_take (i := 41) (oi := { dst := some 80, op := Go.Op.move (Go.Operand.tmp 5), type := 3, pos := "laws.go:1014", after := #[{ on := 34, ground := Go.Ground.guard }], guard := some (34, false) }) (v := ?v2042) rfl (by kernel_rfl) (by kernel_rfl) (by kernel_rfl) (fun _ _ _ h => h) (Or.inl ⟨by rfl, ?hy2042⟩) (by assumption) ?hr2042
      case hy2042 => (intro w hSw; (try dsimp only at hSw); go_simp; (try with_reducible rfl))
      (try simp only [Act.put, List.setIfInBounds_toArray, List.set_cons_zero, List.set_cons_succ])
      refine wpAnyH_ready (rs := [42]) (by kernel_rfl) (by simp) ?_
      refine AllReadyH.cons (o := { dst := some 81, op := Go.Op.call { callee := Go.Callee.value (Go.Operand.func 25), args := #[Go.Operand.tmp 79, Go.Operand.tmp 80], argTypes := #[3, 3] }, type := 3, pos := "laws.go:1014", after := #[{ on := 40, ground := Go.Ground.data }, { on := 41, ground := Go.Ground.data }, { on := 34, ground := Go.Ground.chain }, { on := 34, ground := Go.Ground.guard }], guard := some (34, false) }) rfl (fun K hK => ?_) AllReadyH.nil
      go_simp
      (go_at_call 25; refine (HA2.out _ (by exact hHeld)).mono ?_; rintro e' w7 ⟨rfl, hb7⟩)
      (try go_wp2_with fail)
      refine hK.out _ _ ?hS2043 (fun hHeld => ?hR2043)
      case hS2043 => ((try dsimp only); (first | exact Below.drew HFin.out | assumption))
      clear hK K
      (try simp only [Act.put, List.setIfInBounds_toArray, List.set_cons_zero, List.set_cons_succ])
      refine wpAnyH_take (i := 43) (oi := { dst := some 82, op := Go.Op.binOp Go.BinOp.neq 3 (Go.Operand.tmp 78) (Go.Operand.tmp 81) 3, type := 4, pos := "laws.go:1014", after := #[{ on := 39, ground := Go.Ground.data }, { on := 42, ground := Go.Ground.data }, { on := 34, ground := Go.Ground.guard }], guard := some (34, false) }) (v := ?v2044) rfl (by kernel_rfl) (by kernel_rfl) (by kernel_rfl) (fun _ _ _ h => h) (Or.inl ⟨by rfl, ?hy2044⟩) (by assumption) ?hr2044
      case hy2044 => (intro w hSw; (try dsimp only at hSw); go_simp; (try with_reducible rfl))
      (try simp only [Act.put, List.setIfInBounds_toArray, List.set_cons_zero, List.set_cons_succ])
      refine wpAnyH_take (i := 44) (oi := { dst := some 83, op := Go.Op.pick (Go.Operand.tmp 73) (Go.Operand.const (Go.Value.bool true)) (Go.Operand.tmp 82), type := 4, pos := "laws.go:1014", after := #[{ on := 34, ground := Go.Ground.data }, { on := 43, ground := Go.Ground.data }], guard := none }) (v := ?v2045) rfl (by kernel_rfl) (by kernel_rfl) (by kernel_rfl) (fun _ _ _ h => h) (Or.inl ⟨by rfl, ?hy2045⟩) (by assumption) ?hr2045
      case hy2045 => (intro w hSw; (try dsimp only at hSw); go_simp; (try with_reducible rfl))
      (try simp only [Act.put, List.setIfInBounds_toArray, List.set_cons_zero, List.set_cons_succ])
      refine wpAnyH_done (by kernel_rfl) ?_ _
      go_wp2_with fail
      go_meet
      exact ⟨by first | rfl | simp, hb7⟩
    | false =>
      obtain rfl := HG.out.no hg
      have HGc := Lib.hid (show ((Int.gcd m b : Int) == 1) = false by rw [HG.out.hg]; exact hg)
      have hgc := HGc.out
      have hw1 := HW1.out
      have hw2 := HW2.out
      have hw3 := HW3.out
      have hw4 := HW4.out
      refine wp_region_held_drew (S := (fun wx => Below w5.heap.size w5 wx)) (by kernel_rfl) ?hS3000 (fun hHeld => ?hR3000)
      case hS3000 => ((try dsimp only); (first | exact Below.drew HFin.out | assumption))
      refine wpAnyH_take (i := 0) (oi := { dst := some 39, op := Go.Op.move (Go.Operand.tmp 6), type := 3, pos := "laws.go:1014", after := #[], guard := none }) (v := ?v3001) rfl (by kernel_rfl) (by kernel_rfl) (by kernel_rfl) (fun _ _ _ h => h) (Or.inl ⟨by rfl, ?hy3001⟩) (by assumption) ?hr3001
      case hy3001 => (intro w hSw; (try dsimp only at hSw); go_simp; (try with_reducible rfl))
      (try simp only [Act.put, List.setIfInBounds_toArray, List.set_cons_zero, List.set_cons_succ])
      refine wpAnyH_take (i := 1) (oi := { dst := some 40, op := Go.Op.binOp Go.BinOp.lss 3 (Go.Operand.tmp 39) (Go.Operand.const (Go.Value.int Go.IntKind.i64 0)) 3, type := 4, pos := "laws.go:1014", after := #[{ on := 0, ground := Go.Ground.data }], guard := none }) (v := ?v3002) rfl (by kernel_rfl) (by kernel_rfl) (by kernel_rfl) (fun _ _ _ h => h) (Or.inl ⟨by rfl, ?hy3002⟩) (by assumption) ?hr3002
      case hy3002 => (intro w hSw; (try dsimp only at hSw); go_simp; (try with_reducible rfl))
      (try simp only [Act.put, List.setIfInBounds_toArray, List.set_cons_zero, List.set_cons_succ])
      refine wpAnyH_take (i := 2) (oi := { dst := some 41, op := Go.Op.move (Go.Operand.tmp 40), type := 4, pos := "laws.go:1014", after := #[{ on := 1, ground := Go.Ground.data }], guard := none }) (v := ?v3003) rfl (by kernel_rfl) (by kernel_rfl) (by kernel_rfl) (fun _ _ _ h => h) (Or.inl ⟨by rfl, ?hy3003⟩) (by assumption) ?hr3003
      case hy3003 => (intro w hSw; (try dsimp only at hSw); go_simp; (try with_reducible rfl))
      (try simp only [Act.put, List.setIfInBounds_toArray, List.set_cons_zero, List.set_cons_succ])
      refine wpAnyH_take (i := 3) (oi := { dst := some 42, op := Go.Op.move (Go.Operand.tmp 7), type := 3, pos := "laws.go:1014", after := #[{ on := 2, ground := Go.Ground.guard }], guard := some (2, false) }) (v := ?v3004) rfl (by kernel_rfl) (by kernel_rfl) (by kernel_rfl) (fun _ _ _ h => h) (Or.inl ⟨by rfl, ?hy3004⟩) (by assumption) ?hr3004
      case hy3004 => (intro w hSw; (try dsimp only at hSw); go_simp; (try with_reducible rfl))
      (try simp only [Act.put, List.setIfInBounds_toArray, List.set_cons_zero, List.set_cons_succ])
      refine wpAnyH_take (i := 4) (oi := { dst := some 43, op := Go.Op.binOp Go.BinOp.geq 3 (Go.Operand.tmp 42) (Go.Operand.const (Go.Value.int Go.IntKind.i64 1)) 3, type := 4, pos := "laws.go:1014", after := #[{ on := 3, ground := Go.Ground.data }, { on := 2, ground := Go.Ground.guard }], guard := some (2, false) }) (v := ?v3005) rfl (by kernel_rfl) (by kernel_rfl) (by kernel_rfl) (fun _ _ _ h => h) (Or.inl ⟨by rfl, ?hy3005⟩) (by assumption) ?hr3005
      case hy3005 => (intro w hSw; (try dsimp only at hSw); go_simp; (try with_reducible rfl))
      (try simp only [Act.put, List.setIfInBounds_toArray, List.set_cons_zero, List.set_cons_succ])
      refine wpAnyH_take (i := 5) (oi := { dst := some 44, op := Go.Op.move (Go.Operand.tmp 4), type := 3, pos := "laws.go:1014", after := #[{ on := 2, ground := Go.Ground.guard }], guard := some (2, false) }) (v := ?v3006) rfl (by kernel_rfl) (by kernel_rfl) (by kernel_rfl) (fun _ _ _ h => h) (Or.inl ⟨by rfl, ?hy3006⟩) (by assumption) ?hr3006
      case hy3006 => (intro w hSw; (try dsimp only at hSw); go_simp; (try with_reducible rfl))
      (try simp only [Act.put, List.setIfInBounds_toArray, List.set_cons_zero, List.set_cons_succ])
      refine wpAnyH_take (i := 6) (oi := { dst := some 45, op := Go.Op.move (Go.Operand.tmp 3), type := 3, pos := "laws.go:1014", after := #[{ on := 2, ground := Go.Ground.guard }], guard := some (2, false) }) (v := ?v3007) rfl (by kernel_rfl) (by kernel_rfl) (by kernel_rfl) (fun _ _ _ h => h) (Or.inl ⟨by rfl, ?hy3007⟩) (by assumption) ?hr3007
      case hy3007 => (intro w hSw; (try dsimp only at hSw); go_simp; (try with_reducible rfl))
      (try simp only [Act.put, List.setIfInBounds_toArray, List.set_cons_zero, List.set_cons_succ])
      refine wpAnyH_ready (rs := [7]) (by kernel_rfl) (by simp) ?_
      refine AllReadyH.cons (o := { dst := some 46, op := Go.Op.call { callee := Go.Callee.value (Go.Operand.func 16), args := #[Go.Operand.tmp 44, Go.Operand.tmp 45], argTypes := #[3, 3] }, type := 3, pos := "laws.go:1014", after := #[{ on := 5, ground := Go.Ground.data }, { on := 6, ground := Go.Ground.data }, { on := 2, ground := Go.Ground.chain }, { on := 2, ground := Go.Ground.guard }], guard := some (2, false) }) rfl (fun K hK => ?_) AllReadyH.nil
      go_simp
      (go_at_call 16; refine (HA1.out _ (by exact hHeld)).mono ?_; rintro e' w6 ⟨rfl, hb6⟩)
      (try go_wp2_with fail)
      refine hK.out _ _ ?hS3008 (fun hHeld => ?hR3008)
      case hS3008 => ((try dsimp only); (first | exact Below.drew HFin.out | assumption))
      clear hK K
      (try simp only [Act.put, List.setIfInBounds_toArray, List.set_cons_zero, List.set_cons_succ])
      refine wpAnyH_take (i := 8) (oi := { dst := some 47, op := Go.Op.binOp Go.BinOp.eql 3 (Go.Operand.tmp 46) (Go.Operand.const (Go.Value.int Go.IntKind.i64 1)) 3, type := 4, pos := "laws.go:1014", after := #[{ on := 7, ground := Go.Ground.data }, { on := 2, ground := Go.Ground.guard }], guard := some (2, false) }) (v := ?v3009) rfl (by kernel_rfl) (by kernel_rfl) (by kernel_rfl) (fun _ _ _ h => h) (Or.inl ⟨by rfl, ?hy3009⟩) (by assumption) ?hr3009
      case hy3009 => (intro w hSw; (try dsimp only at hSw); go_simp; (try with_reducible rfl))
      (try simp only [Act.put, List.setIfInBounds_toArray, List.set_cons_zero, List.set_cons_succ])
      refine wpAnyH_take (i := 9) (oi := { dst := some 48, op := Go.Op.binOp Go.BinOp.neq 4 (Go.Operand.tmp 43) (Go.Operand.tmp 47) 4, type := 4, pos := "laws.go:1014", after := #[{ on := 4, ground := Go.Ground.data }, { on := 8, ground := Go.Ground.data }, { on := 2, ground := Go.Ground.guard }], guard := some (2, false) }) (v := ?v3010) rfl (by kernel_rfl) (by kernel_rfl) (by kernel_rfl) (fun _ _ _ h => h) (Or.inl ⟨by rfl, ?hy3010⟩) (by assumption) ?hr3010
      case hy3010 => (intro w hSw; (try dsimp only at hSw); go_simp; (try with_reducible rfl))
      (try simp only [Act.put, List.setIfInBounds_toArray, List.set_cons_zero, List.set_cons_succ])
      refine wpAnyH_take (i := 10) (oi := { dst := some 49, op := Go.Op.pick (Go.Operand.tmp 41) (Go.Operand.const (Go.Value.bool true)) (Go.Operand.tmp 48), type := 4, pos := "laws.go:1014", after := #[{ on := 2, ground := Go.Ground.data }, { on := 9, ground := Go.Ground.data }], guard := none }) (v := ?v3011) rfl (by kernel_rfl) (by kernel_rfl) (by kernel_rfl) (fun _ _ _ h => h) (Or.inl ⟨by rfl, ?hy3011⟩) (by assumption) ?hr3011
      case hy3011 => (intro w hSw; (try dsimp only at hSw); go_simp; (try with_reducible rfl))
      (try simp only [Act.put, List.setIfInBounds_toArray, List.set_cons_zero, List.set_cons_succ])
      refine wpAnyH_take (i := 11) (oi := { dst := some 50, op := Go.Op.move (Go.Operand.tmp 49), type := 4, pos := "laws.go:1014", after := #[{ on := 10, ground := Go.Ground.data }, { on := 7, ground := Go.Ground.chain }], guard := none }) (v := ?v3012) rfl (by kernel_rfl) (by kernel_rfl) (by kernel_rfl) (fun _ _ _ h => h) (Or.inl ⟨by rfl, ?hy3012⟩) (by assumption) ?hr3012
      case hy3012 => (intro w hSw; (try dsimp only at hSw); go_simp; (try with_reducible rfl))
      (try simp only [Act.put, List.setIfInBounds_toArray, List.set_cons_zero, List.set_cons_succ])
      refine wpAnyH_take (i := 12) (oi := { dst := some 51, op := Go.Op.move (Go.Operand.tmp 7), type := 3, pos := "laws.go:1014", after := #[{ on := 11, ground := Go.Ground.guard }], guard := some (11, false) }) (v := ?v3013) rfl (by kernel_rfl) (by kernel_rfl) (by kernel_rfl) (fun _ _ _ h => h) (Or.inl ⟨by rfl, ?hy3013⟩) (by assumption) ?hr3013
      case hy3013 => (intro w hSw; (try dsimp only at hSw); go_simp; (try with_reducible rfl))
      (try simp only [Act.put, List.setIfInBounds_toArray, List.set_cons_zero, List.set_cons_succ])
      refine wpAnyH_take (i := 13) (oi := { dst := some 52, op := Go.Op.binOp Go.BinOp.lss 3 (Go.Operand.tmp 51) (Go.Operand.const (Go.Value.int Go.IntKind.i64 1)) 3, type := 4, pos := "laws.go:1014", after := #[{ on := 12, ground := Go.Ground.data }, { on := 11, ground := Go.Ground.guard }], guard := some (11, false) }) (v := ?v3014) rfl (by kernel_rfl) (by kernel_rfl) (by kernel_rfl) (fun _ _ _ h => h) (Or.inl ⟨by rfl, ?hy3014⟩) (by assumption) ?hr3014
      case hy3014 => (intro w hSw; (try dsimp only at hSw); go_simp; (try with_reducible rfl))
      (try simp only [Act.put, List.setIfInBounds_toArray, List.set_cons_zero, List.set_cons_succ])
      refine wpAnyH_take (i := 14) (oi := { dst := some 53, op := Go.Op.move (Go.Operand.tmp 52), type := 4, pos := "laws.go:1014", after := #[{ on := 13, ground := Go.Ground.data }, { on := 11, ground := Go.Ground.chain }, { on := 11, ground := Go.Ground.guard }], guard := some (11, false) }) (v := ?v3015) rfl (by kernel_rfl) (by kernel_rfl) (by kernel_rfl) (fun _ _ _ h => h) (Or.inl ⟨by rfl, ?hy3015⟩) (by assumption) ?hr3015
      case hy3015 => (intro w hSw; (try dsimp only at hSw); go_simp; (try with_reducible rfl))
      (try simp only [Act.put, List.setIfInBounds_toArray, List.set_cons_zero, List.set_cons_succ])
      refine wpAnyH_take (i := 15) (oi := { dst := some 54, op := Go.Op.move (Go.Operand.tmp 7), type := 3, pos := "laws.go:1014", after := #[{ on := 14, ground := Go.Ground.guard }], guard := some (14, true) }) (v := ?v3016) rfl (by kernel_rfl) (by kernel_rfl) (by kernel_rfl) (fun _ _ _ h => h) (Or.inl ⟨by rfl, ?hy3016⟩) (by assumption) ?hr3016
      case hy3016 => (intro w hSw; (try dsimp only at hSw); go_simp; (try with_reducible rfl))
      (try simp only [Act.put, List.setIfInBounds_toArray, List.set_cons_zero, List.set_cons_succ])
      refine wpAnyH_take (i := 16) (oi := { dst := some 55, op := Go.Op.binOp Go.BinOp.neq 3 (Go.Operand.tmp 54) (Go.Operand.const (Go.Value.int Go.IntKind.i64 (-1))) 3, type := 4, pos := "laws.go:1014", after := #[{ on := 15, ground := Go.Ground.data }, { on := 14, ground := Go.Ground.guard }], guard := some (14, true) }) (v := ?v3017) rfl (by kernel_rfl) (by kernel_rfl) (by kernel_rfl) (fun _ _ _ h => h) (Or.inl ⟨by rfl, ?hy3017⟩) (by assumption) ?hr3017
      case hy3017 => (intro w hSw; (try dsimp only at hSw); go_simp; (try with_reducible rfl))
      (try simp only [Act.put, List.setIfInBounds_toArray, List.set_cons_zero, List.set_cons_succ])
      refine wpAnyH_take (i := 17) (oi := { dst := some 56, op := Go.Op.pick (Go.Operand.tmp 53) (Go.Operand.tmp 55) (Go.Operand.const (Go.Value.bool false)), type := 4, pos := "laws.go:1014", after := #[{ on := 14, ground := Go.Ground.data }, { on := 16, ground := Go.Ground.data }, { on := 11, ground := Go.Ground.guard }], guard := some (11, false) }) (v := ?v3018) rfl (by kernel_rfl) (by kernel_rfl) (by kernel_rfl) (fun _ _ _ h => h) (Or.inl ⟨by rfl, ?hy3018⟩) (by assumption) ?hr3018
      case hy3018 => (intro w hSw; (try dsimp only at hSw); go_simp; (try with_reducible rfl))
      (try simp only [Act.put, List.setIfInBounds_toArray, List.set_cons_zero, List.set_cons_succ])
      refine wpAnyH_take (i := 18) (oi := { dst := some 57, op := Go.Op.pick (Go.Operand.tmp 50) (Go.Operand.const (Go.Value.bool true)) (Go.Operand.tmp 56), type := 4, pos := "laws.go:1014", after := #[{ on := 11, ground := Go.Ground.data }, { on := 17, ground := Go.Ground.data }], guard := none }) (v := ?v3019) rfl (by kernel_rfl) (by kernel_rfl) (by kernel_rfl) (fun _ _ _ h => h) (Or.inl ⟨by rfl, ?hy3019⟩) (by assumption) ?hr3019
      case hy3019 => (intro w hSw; (try dsimp only at hSw); go_simp; (try with_reducible rfl))
      (try simp only [Act.put, List.setIfInBounds_toArray, List.set_cons_zero, List.set_cons_succ])
      refine wpAnyH_take (i := 19) (oi := { dst := some 58, op := Go.Op.move (Go.Operand.tmp 57), type := 4, pos := "laws.go:1014", after := #[{ on := 18, ground := Go.Ground.data }, { on := 14, ground := Go.Ground.chain }], guard := none }) (v := ?v3020) rfl (by kernel_rfl) (by kernel_rfl) (by kernel_rfl) (fun _ _ _ h => h) (Or.inl ⟨by rfl, ?hy3020⟩) (by assumption) ?hr3020
      case hy3020 => (intro w hSw; (try dsimp only at hSw); go_simp; (try with_reducible rfl))
      (try simp only [Act.put, List.setIfInBounds_toArray, List.set_cons_zero, List.set_cons_succ])
      refine wpAnyH_take (i := 20) (oi := { dst := some 59, op := Go.Op.move (Go.Operand.tmp 7), type := 3, pos := "laws.go:1014", after := #[{ on := 19, ground := Go.Ground.guard }], guard := some (19, false) }) (v := ?v3021) rfl (by kernel_rfl) (by kernel_rfl) (by kernel_rfl) (fun _ _ _ h => h) (Or.inl ⟨by rfl, ?hy3021⟩) (by assumption) ?hr3021
      case hy3021 => (intro w hSw; (try dsimp only at hSw); go_simp; (try with_reducible rfl))
      (try simp only [Act.put, List.setIfInBounds_toArray, List.set_cons_zero, List.set_cons_succ])
      refine wpAnyH_take (i := 21) (oi := { dst := some 60, op := Go.Op.binOp Go.BinOp.gtr 3 (Go.Operand.tmp 59) (Go.Operand.const (Go.Value.int Go.IntKind.i64 0)) 3, type := 4, pos := "laws.go:1014", after := #[{ on := 20, ground := Go.Ground.data }, { on := 19, ground := Go.Ground.guard }], guard := some (19, false) }) (v := ?v3022) rfl (by kernel_rfl) (by kernel_rfl) (by kernel_rfl) (fun _ _ _ h => h) (Or.inl ⟨by rfl, ?hy3022⟩) (by assumption) ?hr3022
      case hy3022 => (intro w hSw; (try dsimp only at hSw); go_simp; (try with_reducible rfl))
      (try simp only [Act.put, List.setIfInBounds_toArray, List.set_cons_zero, List.set_cons_succ])
      refine wpAnyH_take (i := 22) (oi := { dst := some 61, op := Go.Op.move (Go.Operand.tmp 60), type := 4, pos := "laws.go:1014", after := #[{ on := 21, ground := Go.Ground.data }, { on := 19, ground := Go.Ground.chain }, { on := 19, ground := Go.Ground.guard }], guard := some (19, false) }) (v := ?v3023) rfl (by kernel_rfl) (by kernel_rfl) (by kernel_rfl) (fun _ _ _ h => h) (Or.inl ⟨by rfl, ?hy3023⟩) (by assumption) ?hr3023
      case hy3023 => (intro w hSw; (try dsimp only at hSw); go_simp; (try with_reducible rfl))
      (try simp only [Act.put, List.setIfInBounds_toArray, List.set_cons_zero, List.set_cons_succ])
      refine wpAnyH_take (i := 23) (oi := { dst := some 62, op := Go.Op.move (Go.Operand.tmp 6), type := 3, pos := "laws.go:1014", after := #[{ on := 22, ground := Go.Ground.guard }], guard := some (22, true) }) (v := undef) rfl (by kernel_rfl) (by kernel_rfl) (by kernel_rfl) (fun _ _ _ h => h) (Or.inr ⟨by rfl, rfl⟩) (by assumption) ?_
      (try simp only [Act.put, List.setIfInBounds_toArray, List.set_cons_zero, List.set_cons_succ])
      refine wpAnyH_take (i := 24) (oi := { dst := some 63, op := Go.Op.move (Go.Operand.tmp 4), type := 3, pos := "laws.go:1014", after := #[{ on := 22, ground := Go.Ground.guard }], guard := some (22, true) }) (v := undef) rfl (by kernel_rfl) (by kernel_rfl) (by kernel_rfl) (fun _ _ _ h => h) (Or.inr ⟨by rfl, rfl⟩) (by assumption) ?_
      (try simp only [Act.put, List.setIfInBounds_toArray, List.set_cons_zero, List.set_cons_succ])
      refine wpAnyH_take (i := 25) (oi := { dst := some 64, op := Go.Op.binOp Go.BinOp.rem 3 (Go.Operand.tmp 62) (Go.Operand.tmp 63) 3, type := 3, pos := "laws.go:1014", after := #[{ on := 23, ground := Go.Ground.data }, { on := 24, ground := Go.Ground.data }, { on := 22, ground := Go.Ground.guard }], guard := some (22, true) }) (v := undef) rfl (by kernel_rfl) (by kernel_rfl) (by kernel_rfl) (fun _ _ _ h => h) (Or.inr ⟨by rfl, rfl⟩) (by assumption) ?_
      (try simp only [Act.put, List.setIfInBounds_toArray, List.set_cons_zero, List.set_cons_succ])
      refine wpAnyH_take (i := 26) (oi := { dst := some 65, op := Go.Op.binOp Go.BinOp.eql 3 (Go.Operand.tmp 64) (Go.Operand.const (Go.Value.int Go.IntKind.i64 0)) 3, type := 4, pos := "laws.go:1014", after := #[{ on := 25, ground := Go.Ground.data }, { on := 22, ground := Go.Ground.guard }], guard := some (22, true) }) (v := undef) rfl (by kernel_rfl) (by kernel_rfl) (by kernel_rfl) (fun _ _ _ h => h) (Or.inr ⟨by rfl, rfl⟩) (by assumption) ?_
      (try simp only [Act.put, List.setIfInBounds_toArray, List.set_cons_zero, List.set_cons_succ])
      refine wpAnyH_take (i := 27) (oi := { dst := some 66, op := Go.Op.move (Go.Operand.tmp 5), type := 3, pos := "laws.go:1014", after := #[{ on := 22, ground := Go.Ground.guard }], guard := some (22, true) }) (v := undef) rfl (by kernel_rfl) (by kernel_rfl) (by kernel_rfl) (fun _ _ _ h => h) (Or.inr ⟨by rfl, rfl⟩) (by assumption) ?_
      (try simp only [Act.put, List.setIfInBounds_toArray, List.set_cons_zero, List.set_cons_succ])
      refine wpAnyH_take (i := 28) (oi := { dst := some 67, op := Go.Op.move (Go.Operand.tmp 7), type := 3, pos := "laws.go:1014", after := #[{ on := 22, ground := Go.Ground.guard }], guard := some (22, true) }) (v := undef) rfl (by kernel_rfl) (by kernel_rfl) (by kernel_rfl) (fun _ _ _ h => h) (Or.inr ⟨by rfl, rfl⟩) (by assumption) ?_
      (try simp only [Act.put, List.setIfInBounds_toArray, List.set_cons_zero, List.set_cons_succ])
      refine wpAnyH_take (i := 29) (oi := { dst := some 68, op := Go.Op.binOp Go.BinOp.rem 3 (Go.Operand.tmp 66) (Go.Operand.tmp 67) 3, type := 3, pos := "laws.go:1014", after := #[{ on := 27, ground := Go.Ground.data }, { on := 28, ground := Go.Ground.data }, { on := 22, ground := Go.Ground.guard }], guard := some (22, true) }) (v := undef) rfl (by kernel_rfl) (by kernel_rfl) (by kernel_rfl) (fun _ _ _ h => h) (Or.inr ⟨by rfl, rfl⟩) (by assumption) ?_
      (try simp only [Act.put, List.setIfInBounds_toArray, List.set_cons_zero, List.set_cons_succ])
      refine wpAnyH_take (i := 30) (oi := { dst := some 69, op := Go.Op.binOp Go.BinOp.eql 3 (Go.Operand.tmp 68) (Go.Operand.const (Go.Value.int Go.IntKind.i64 0)) 3, type := 4, pos := "laws.go:1014", after := #[{ on := 29, ground := Go.Ground.data }, { on := 22, ground := Go.Ground.guard }], guard := some (22, true) }) (v := undef) rfl (by kernel_rfl) (by kernel_rfl) (by kernel_rfl) (fun _ _ _ h => h) (Or.inr ⟨by rfl, rfl⟩) (by assumption) ?_
      (try simp only [Act.put, List.setIfInBounds_toArray, List.set_cons_zero, List.set_cons_succ])
      refine wpAnyH_take (i := 31) (oi := { dst := some 70, op := Go.Op.binOp Go.BinOp.neq 4 (Go.Operand.tmp 65) (Go.Operand.tmp 69) 4, type := 4, pos := "laws.go:1014", after := #[{ on := 26, ground := Go.Ground.data }, { on := 30, ground := Go.Ground.data }, { on := 22, ground := Go.Ground.guard }], guard := some (22, true) }) (v := undef) rfl (by kernel_rfl) (by kernel_rfl) (by kernel_rfl) (fun _ _ _ h => h) (Or.inr ⟨by rfl, rfl⟩) (by assumption) ?_
      (try simp only [Act.put, List.setIfInBounds_toArray, List.set_cons_zero, List.set_cons_succ])
      refine wpAnyH_take (i := 32) (oi := { dst := some 71, op := Go.Op.pick (Go.Operand.tmp 61) (Go.Operand.tmp 70) (Go.Operand.const (Go.Value.bool false)), type := 4, pos := "laws.go:1014", after := #[{ on := 22, ground := Go.Ground.data }, { on := 31, ground := Go.Ground.data }, { on := 19, ground := Go.Ground.guard }], guard := some (19, false) }) (v := ?v3033) rfl (by kernel_rfl) (by kernel_rfl) (by kernel_rfl) (fun _ _ _ h => h) (Or.inl ⟨by rfl, ?hy3033⟩) (by assumption) ?hr3033
      case hy3033 => (intro w hSw; (try dsimp only at hSw); go_simp; (try with_reducible rfl))
      (try simp only [Act.put, List.setIfInBounds_toArray, List.set_cons_zero, List.set_cons_succ])
      refine wpAnyH_take (i := 33) (oi := { dst := some 72, op := Go.Op.pick (Go.Operand.tmp 58) (Go.Operand.const (Go.Value.bool true)) (Go.Operand.tmp 71), type := 4, pos := "laws.go:1014", after := #[{ on := 19, ground := Go.Ground.data }, { on := 32, ground := Go.Ground.data }], guard := none }) (v := ?v3034) rfl (by kernel_rfl) (by kernel_rfl) (by kernel_rfl) (fun _ _ _ h => h) (Or.inl ⟨by rfl, ?hy3034⟩) (by assumption) ?hr3034
      case hy3034 => (intro w hSw; (try dsimp only at hSw); go_simp; (try with_reducible rfl))
      (try simp only [Act.put, List.setIfInBounds_toArray, List.set_cons_zero, List.set_cons_succ])
      refine wpAnyH_take (i := 34) (oi := { dst := some 73, op := Go.Op.move (Go.Operand.tmp 72), type := 4, pos := "laws.go:1014", after := #[{ on := 33, ground := Go.Ground.data }, { on := 22, ground := Go.Ground.chain }], guard := none }) (v := ?v3035) rfl (by kernel_rfl) (by kernel_rfl) (by kernel_rfl) (fun _ _ _ h => h) (Or.inl ⟨by rfl, ?hy3035⟩) (by assumption) ?hr3035
      case hy3035 => (intro w hSw; (try dsimp only at hSw); go_simp; (try with_reducible rfl))
      (try simp only [Act.put, List.setIfInBounds_toArray, List.set_cons_zero, List.set_cons_succ])
      refine wpAnyH_take (i := 35) (oi := { dst := some 74, op := Go.Op.move (Go.Operand.tmp 6), type := 3, pos := "laws.go:1014", after := #[{ on := 34, ground := Go.Ground.guard }], guard := some (34, false) }) (v := ?v3036) rfl (by kernel_rfl) (by kernel_rfl) (by kernel_rfl) (fun _ _ _ h => h) (Or.inl ⟨by rfl, ?hy3036⟩) (by assumption) ?hr3036
      case hy3036 => (intro w hSw; (try dsimp only at hSw); go_simp; (try with_reducible rfl))
      (try simp only [Act.put, List.setIfInBounds_toArray, List.set_cons_zero, List.set_cons_succ])
      refine wpAnyH_take (i := 36) (oi := { dst := some 75, op := Go.Op.move (Go.Operand.tmp 3), type := 3, pos := "laws.go:1014", after := #[{ on := 34, ground := Go.Ground.guard }], guard := some (34, false) }) (v := ?v3037) rfl (by kernel_rfl) (by kernel_rfl) (by kernel_rfl) (fun _ _ _ h => h) (Or.inl ⟨by rfl, ?hy3037⟩) (by assumption) ?hr3037
      case hy3037 => (intro w hSw; (try dsimp only at hSw); go_simp; (try with_reducible rfl))
      (try simp only [Act.put, List.setIfInBounds_toArray, List.set_cons_zero, List.set_cons_succ])
      refine wpAnyH_take (i := 37) (oi := { dst := some 76, op := Go.Op.binOp Go.BinOp.sub 3 (Go.Operand.tmp 75) (Go.Operand.const (Go.Value.int Go.IntKind.i64 1)) 3, type := 3, pos := "laws.go:1014", after := #[{ on := 36, ground := Go.Ground.data }, { on := 34, ground := Go.Ground.guard }], guard := some (34, false) }) (v := ?v3038) rfl (by kernel_rfl) (by kernel_rfl) (by kernel_rfl) (fun _ _ _ h => h) (Or.inl ⟨by rfl, ?hy3038⟩) (by assumption) ?hr3038
      case hy3038 => (intro w hSw; (try dsimp only at hSw); go_simp; (try with_reducible rfl))
      (try simp only [Act.put, List.setIfInBounds_toArray, List.set_cons_zero, List.set_cons_succ])
      refine wpAnyH_take (i := 38) (oi := { dst := some 77, op := Go.Op.binOp Go.BinOp.mul 3 (Go.Operand.tmp 74) (Go.Operand.tmp 76) 3, type := 3, pos := "laws.go:1014", after := #[{ on := 35, ground := Go.Ground.data }, { on := 37, ground := Go.Ground.data }, { on := 34, ground := Go.Ground.guard }], guard := some (34, false) }) (v := ?v3039) rfl (by kernel_rfl) (by kernel_rfl) (by kernel_rfl) (fun _ _ _ h => h) (Or.inl ⟨by rfl, ?hy3039⟩) (by assumption) ?hr3039
      case hy3039 => (intro w hSw; (try dsimp only at hSw); go_simp; (try with_reducible rfl))
      (try simp only [Act.put, List.setIfInBounds_toArray, List.set_cons_zero, List.set_cons_succ])
      refine wpAnyH_take (i := 39) (oi := { dst := some 78, op := Go.Op.binOp Go.BinOp.add 3 (Go.Operand.tmp 77) (Go.Operand.const (Go.Value.int Go.IntKind.i64 1)) 3, type := 3, pos := "laws.go:1014", after := #[{ on := 38, ground := Go.Ground.data }, { on := 34, ground := Go.Ground.guard }], guard := some (34, false) }) (v := ?v3040) rfl (by kernel_rfl) (by kernel_rfl) (by kernel_rfl) (fun _ _ _ h => h) (Or.inl ⟨by rfl, ?hy3040⟩) (by assumption) ?hr3040
      case hy3040 => (intro w hSw; (try dsimp only at hSw); go_simp; (try with_reducible rfl))
      (try simp only [Act.put, List.setIfInBounds_toArray, List.set_cons_zero, List.set_cons_succ])
      refine wpAnyH_take (i := 40) (oi := { dst := some 79, op := Go.Op.move (Go.Operand.tmp 3), type := 3, pos := "laws.go:1014", after := #[{ on := 34, ground := Go.Ground.guard }], guard := some (34, false) }) (v := ?v3041) rfl (by kernel_rfl) (by kernel_rfl) (by kernel_rfl) (fun _ _ _ h => h) (Or.inl ⟨by rfl, ?hy3041⟩) (by assumption) ?hr3041
      case hy3041 => (intro w hSw; (try dsimp only at hSw); go_simp; (try with_reducible rfl))
      (try simp only [Act.put, List.setIfInBounds_toArray, List.set_cons_zero, List.set_cons_succ])
      refine wpAnyH_take (i := 41) (oi := { dst := some 80, op := Go.Op.move (Go.Operand.tmp 5), type := 3, pos := "laws.go:1014", after := #[{ on := 34, ground := Go.Ground.guard }], guard := some (34, false) }) (v := ?v3042) rfl (by kernel_rfl) (by kernel_rfl) (by kernel_rfl) (fun _ _ _ h => h) (Or.inl ⟨by rfl, ?hy3042⟩) (by assumption) ?hr3042
      case hy3042 => (intro w hSw; (try dsimp only at hSw); go_simp; (try with_reducible rfl))
      (try simp only [Act.put, List.setIfInBounds_toArray, List.set_cons_zero, List.set_cons_succ])
      refine wpAnyH_ready (rs := [42]) (by kernel_rfl) (by simp) ?_
      refine AllReadyH.cons (o := { dst := some 81, op := Go.Op.call { callee := Go.Callee.value (Go.Operand.func 25), args := #[Go.Operand.tmp 79, Go.Operand.tmp 80], argTypes := #[3, 3] }, type := 3, pos := "laws.go:1014", after := #[{ on := 40, ground := Go.Ground.data }, { on := 41, ground := Go.Ground.data }, { on := 34, ground := Go.Ground.chain }, { on := 34, ground := Go.Ground.guard }], guard := some (34, false) }) rfl (fun K hK => ?_) AllReadyH.nil
      go_simp
      (go_at_call 25; refine (HA2.out _ (by exact hHeld)).mono ?_; rintro e' w7 ⟨rfl, hb7⟩)
      (try go_wp2_with fail)
      refine hK.out _ _ ?hS3043 (fun hHeld => ?hR3043)
      case hS3043 => ((try dsimp only); (first | exact Below.drew HFin.out | assumption))
      clear hK K
      (try simp only [Act.put, List.setIfInBounds_toArray, List.set_cons_zero, List.set_cons_succ])
      refine wpAnyH_take (i := 43) (oi := { dst := some 82, op := Go.Op.binOp Go.BinOp.neq 3 (Go.Operand.tmp 78) (Go.Operand.tmp 81) 3, type := 4, pos := "laws.go:1014", after := #[{ on := 39, ground := Go.Ground.data }, { on := 42, ground := Go.Ground.data }, { on := 34, ground := Go.Ground.guard }], guard := some (34, false) }) (v := ?v3044) rfl (by kernel_rfl) (by kernel_rfl) (by kernel_rfl) (fun _ _ _ h => h) (Or.inl ⟨by rfl, ?hy3044⟩) (by assumption) ?hr3044
      case hy3044 => (intro w hSw; (try dsimp only at hSw); go_simp; (try with_reducible rfl))
      (try simp only [Act.put, List.setIfInBounds_toArray, List.set_cons_zero, List.set_cons_succ])
      refine wpAnyH_take (i := 44) (oi := { dst := some 83, op := Go.Op.pick (Go.Operand.tmp 73) (Go.Operand.const (Go.Value.bool true)) (Go.Operand.tmp 82), type := 4, pos := "laws.go:1014", after := #[{ on := 34, ground := Go.Ground.data }, { on := 43, ground := Go.Ground.data }], guard := none }) (v := ?v3045) rfl (by kernel_rfl) (by kernel_rfl) (by kernel_rfl) (fun _ _ _ h => h) (Or.inl ⟨by rfl, ?hy3045⟩) (by assumption) ?hr3045
      case hy3045 => (intro w hSw; (try dsimp only at hSw); go_simp; (try with_reducible rfl))
      (try simp only [Act.put, List.setIfInBounds_toArray, List.set_cons_zero, List.set_cons_succ])
      refine wpAnyH_done (by kernel_rfl) ?_ _
      go_wp2_with fail
      go_meet
      exact ⟨by first | rfl | simp, hb7⟩
  case rest =>
    obtain ⟨rfl, hb7⟩ := hcut
    have HB7 := Lib.hid (HB5.out.trans (hb7.mono HB5.out.size))
    clear hb7 HA1 HA2 HW1 HW2 HW3 HW4 HW5 HW6 hd1 hBB HG u0 u1 B0 B1 HF
    go_wp2_with fail
    refine (makeNum _ _ _ 6 _ (HR.out.below HB7.out (Nat.le_refl _)) (by omega) (by omega) (by omega)).mono ?_
    rintro e w8 ⟨⟨y3, y4, y5, rfl⟩, hb8⟩
    have HB8 := Lib.hid (HB7.out.trans (hb8.mono HB7.out.size))
    clear hb8
    have q1 : 1 ≤ 1 + y3 % 5 := by omega
    have q2 : 1 + y3 % 5 ≤ 5 := by omega
    go_wp2_with fail
    generalize 1 + y3 % 5 = q at *
    refine (makeNum _ _ _ 8 _ (HR.out.below HB8.out (Nat.le_refl _)) (by omega) (by omega) (by omega)).mono ?_
    rintro e w9 ⟨⟨z3, z4, z5, rfl⟩, hb9⟩
    have HB9 := Lib.hid (HB8.out.trans (hb9.mono HB8.out.size))
    clear hb9
    obtain ⟨size, hsize⟩ : ∃ size, b ^ q.toNat = size := ⟨_, rfl⟩
    have ⟨p1, p2⟩ := powQ (q := q) b1 b2 (by omega)
    rw [hsize] at p1 p2
    have HSZ := Lib.hid hsize
    clear hsize
    go_wp2_with fail
    refine (as_int HSZ.out (lpow9 b q _ b1 b2 (by omega) (by omega))).mono ?_
    rintro e w9' ⟨rfl, rfl⟩
    have n1 := Pl.mod_nn (a := z3) (show (0 : Int) < size by omega)
    have n2 := Pl.mod_lt (a := z3) (show (0 : Int) < size by omega)
    go_wp2_with fail
    generalize z3 % size = n at *
    obtain ⟨Q, rfl⟩ := Int.eq_ofNat_of_zero_le (show 0 ≤ q by omega)
    rw [Int.toNat_natCast] at HSZ
    obtain ⟨l, x0, RBf⟩ := rb (b := b) (n := n) (q := Q) b1 b2 (by omega) (by omega) n1 (by rw [HSZ.out]; exact n2) (by omega)
    have HRB := Lib.hid RBf
    have ⟨l0, l9⟩ := RBf.l0
    clear RBf
    go_loopw [10, 11] (fun vx vi wr => ∃ (i : Nat) (x : Int), i ≤ Q ∧ vi = .int .i64 i ∧ vx = .int .i64 x ∧ Hid (Pl.orb (rf b Q) n i = x) ∧ Below w9.heap.size w9 wr) (fun _ vi _ => Q - (intOf vi).toNat)
    case atStart => exact ⟨0, n, Nat.zero_le _, rfl, rfl, Lib.hid rfl, Below.refl _ _⟩
    case round =>
      obtain ⟨i, x, hi, rfl, rfl, hx, hbel⟩ := hrel
      have HB10 := Lib.hid hbel
      clear hbel
      by_cases hlt : i < Q
      · have HNX := Lib.hid (show rotV x b Q = Pl.orb (rf b Q) n (i + 1) by rw [← hx.out]; exact HRB.out.nx i)
        go_wp2_with fail
        refine (as_int HNX.out (iRotN _ _ _ _)).mono ?_
        rintro e w11 ⟨rfl, hb11⟩
        have HB11 := Lib.hid (HB10.out.trans (hb11.mono HB10.out.size))
        clear hb11
        generalize hx2 : Pl.orb (rf b Q) n (i + 1) = x2 at *
        have HX2 := Lib.hid hx2
        clear hx2
        go_wp2
        go_roundw
        case rel => exact ⟨i + 1, x2, by omega, by go_num, rfl, HX2, HB11.out⟩
        case measure => simp [intOf]; omega
      · have hil : ¬ i < Q := hlt
        obtain rfl : x = n := by rw [← hx.out, show i = Q by omega]; exact HRB.out.back
        have HB11 := Lib.hid (HB9.out.trans (HB10.out.mono HB9.out.size))
        clear HB10 hx
        go_wp2_with fail
        refine (iRots x b Q _).mono ?_
        rw [HRB.out.el]
        rintro e w12 ⟨v, rfl, hown, hb12⟩
        obtain ⟨ao, cap, rfl, hrd⟩ := hown.shape
        have HRD := Lib.hid hrd
        have HB12 := Lib.hid (HB11.out.trans (hb12.mono HB11.out.size))
        have hcap := hrd.1
        have hcap2 := hrd.2.1
        unfold maxLen at hcap2
        obtain ⟨g1, off, rfl, hg1, hc0⟩ := hrd.at l0
        have HC0 := Lib.hid (show w12.cell? ⟨g1, off, none⟩ = some (.int .i64 x0) by have := hc0; rw [HRB.out.hx] at this; exact this)
        have HGS := Lib.hid hg1
        clear hown hb12 hrd hc0 hg1
        have HA1 := Lib.hid (fun wx (hx : Below w12.heap.size w12 wx) => (as_bool HRB.out.mem (hasC l _ rfl _ _ x wx (HRD.out.below hx (Nat.le_refl _)))).mono (R' := fun e w' => e = .returned (.bool true) ∧ Below w12.heap.size w12 w') fun _ _ h => ⟨h.1, h.2 ▸ hx⟩)
        have HA2 := Lib.hid (ext_b w12 (fun wx => as_int HRB.out.ex (iLeastRot x b Q wx)))
        have HA3 := Lib.hid (ext_b w12 (fun wx => iRotN x b Q wx))
        have HS := Lib.hid (show ∀ wx, Below w12.heap.size w12 wx → Below w12.heap.size w12 wx ∧ wx.cell? ⟨g1, off, none⟩ = some (.int .i64 x0) from fun wx hx => ⟨hx, (hx.cell (p := ⟨g1, off, none⟩) HGS.out).trans HC0.out⟩)
        have HLL := Lib.hid (show (l == l) = true by simp)
        have HFn := Lib.hid (Below.refl w12.heap.size w12)
        have HW1 : Hid ((Q : Int).tmod (l.length : Int) = 0) := Lib.hid (by rw [Int.tmod_eq_emod_of_nonneg (by omega)]; exact HRB.out.dv)
        have hl2 : ((l.length : Int) == 0) = false := by rw [beq_eq_false_iff_ne]; omega
        have hl3 : ¬ ((l.length : Int) = 0) := by omega
        have hl4 : ¬ (l.length = 0) := by omega
        have hl5 : (0 : Int) < (l.length : Int) := by omega
        have hnn : (x != x) = false := by simp
        have hx00 : (x0 != x0) = false := by simp
        go_upto_region 18 with fail
        go_cut [150] from 108 to 151 (fun v wx => v = .bool false ∧ Below w12.heap.size w12 wx)
        case first =>
          have hw1 := HW1.out
          refine wp_region_held_drew (S := (fun wx => Below w12.heap.size w12 wx ∧ wx.cell? ⟨g1, off, none⟩ = some (.int .i64 x0))) (by kernel_rfl) ?hS4000 (fun hHeld => ?hR4000)
          case hS4000 => ((try dsimp only); (first | exact HS.out _ (Below.drew HFn.out) | exact HS.out _ (by assumption)))
          refine wpAnyH_take (i := 0) (oi := { dst := some 108, op := Go.Op.move (Go.Operand.tmp 10), type := 3, pos := "laws.go:1024", after := #[], guard := none }) (v := ?v4001) rfl (by kernel_rfl) (by kernel_rfl) (by kernel_rfl) (fun _ _ _ h => h) (Or.inl ⟨by rfl, ?hy4001⟩) (by assumption) ?hr4001
          case hy4001 => (intro w hSw; (try dsimp only at hSw); go_simp; (try with_reducible rfl))
          (try simp only [Act.put, List.setIfInBounds_toArray, List.set_cons_zero, List.set_cons_succ])
          refine wpAnyH_take (i := 1) (oi := { dst := some 109, op := Go.Op.move (Go.Operand.tmp 9), type := 3, pos := "laws.go:1024", after := #[], guard := none }) (v := ?v4002) rfl (by kernel_rfl) (by kernel_rfl) (by kernel_rfl) (fun _ _ _ h => h) (Or.inl ⟨by rfl, ?hy4002⟩) (by assumption) ?hr4002
          case hy4002 => (intro w hSw; (try dsimp only at hSw); go_simp; (try with_reducible rfl))
          (try simp only [Act.put, List.setIfInBounds_toArray, List.set_cons_zero, List.set_cons_succ])
          refine wpAnyH_take (i := 2) (oi := { dst := some 110, op := Go.Op.binOp Go.BinOp.neq 3 (Go.Operand.tmp 108) (Go.Operand.tmp 109) 3, type := 4, pos := "laws.go:1024", after := #[{ on := 0, ground := Go.Ground.data }, { on := 1, ground := Go.Ground.data }], guard := none }) (v := ?v4003) rfl (by kernel_rfl) (by kernel_rfl) (by kernel_rfl) (fun _ _ _ h => h) (Or.inl ⟨by rfl, ?hy4003⟩) (by assumption) ?hr4003
          case hy4003 => (intro w hSw; (try dsimp only at hSw); go_simp; (try with_reducible rfl))
          (try simp only [Act.put, List.setIfInBounds_toArray, List.set_cons_zero, List.set_cons_succ])
          refine wpAnyH_take (i := 3) (oi := { dst := some 111, op := Go.Op.move (Go.Operand.tmp 110), type := 4, pos := "laws.go:1024", after := #[{ on := 2, ground := Go.Ground.data }], guard := none }) (v := ?v4004) rfl (by kernel_rfl) (by kernel_rfl) (by kernel_rfl) (fun _ _ _ h => h) (Or.inl ⟨by rfl, ?hy4004⟩) (by assumption) ?hr4004
          case hy4004 => (intro w hSw; (try dsimp only at hSw); go_simp; (try with_reducible rfl))
          (try simp only [Act.put, List.setIfInBounds_toArray, List.set_cons_zero, List.set_cons_succ])
          refine wpAnyH_take (i := 4) (oi := { dst := some 112, op := Go.Op.move (Go.Operand.tmp 12), type := 27, pos := "laws.go:1024", after := #[{ on := 3, ground := Go.Ground.guard }], guard := some (3, false) }) (v := ?v4005) rfl (by kernel_rfl) (by kernel_rfl) (by kernel_rfl) (fun _ _ _ h => h) (Or.inl ⟨by rfl, ?hy4005⟩) (by assumption) ?hr4005
          case hy4005 => (intro w hSw; (try dsimp only at hSw); go_simp; (try with_reducible rfl))
          (try simp only [Act.put, List.setIfInBounds_toArray, List.set_cons_zero, List.set_cons_succ])
          refine wpAnyH_take (i := 5) (oi := { dst := some 113, op := Go.Op.call { callee := Go.Callee.builtin Go.Builtin.len, args := #[Go.Operand.tmp 112], argTypes := #[27] }, type := 3, pos := "laws.go:1024", after := #[{ on := 4, ground := Go.Ground.data }, { on := 3, ground := Go.Ground.guard }], guard := some (3, false) }) (v := ?v4006) rfl (by kernel_rfl) (by kernel_rfl) (by kernel_rfl) (fun _ _ _ h => h) (Or.inl ⟨by rfl, ?hy4006⟩) (by assumption) ?hr4006
          case hy4006 => (intro w hSw; (try dsimp only at hSw); go_simp; (try with_reducible rfl))
          (try simp only [Act.put, List.setIfInBounds_toArray, List.set_cons_zero, List.set_cons_succ])
          refine wpAnyH_take (i := 6) (oi := { dst := some 114, op := Go.Op.binOp Go.BinOp.eql 3 (Go.Operand.tmp 113) (Go.Operand.const (Go.Value.int Go.IntKind.i64 0)) 3, type := 4, pos := "laws.go:1024", after := #[{ on := 5, ground := Go.Ground.data }, { on := 3, ground := Go.Ground.guard }], guard := some (3, false) }) (v := ?v4007) rfl (by kernel_rfl) (by kernel_rfl) (by kernel_rfl) (fun _ _ _ h => h) (Or.inl ⟨by rfl, ?hy4007⟩) (by assumption) ?hr4007
          case hy4007 => (intro w hSw; (try dsimp only at hSw); go_simp; (try with_reducible rfl))
          (try simp only [Act.put, List.setIfInBounds_toArray, List.set_cons_zero, List.set_cons_succ])
          refine wpAnyH_take (i := 7) (oi := { dst := some 115, op := Go.Op.pick (Go.Operand.tmp 111) (Go.Operand.const (Go.Value.bool true)) (Go.Operand.tmp 114), type := 4, pos := "laws.go:1024", after := #[{ on := 3, ground := Go.Ground.data }, { on := 6, ground := Go.Ground.data }], guard := none }) (v := ?v4008) rfl (by kernel_rfl) (by kernel_rfl) (by kernel_rfl) (fun _ _ _ h => h) (Or.inl ⟨by rfl, ?hy4008⟩) (by assumption) ?hr4008
          case hy4008 => (intro w hSw; (try dsimp only at hSw); go_simp; (try with_reducible rfl))
          (try simp only [Act.put, List.setIfInBounds_toArray, List.set_cons_zero, List.set_cons_succ])
          refine wpAnyH_take (i := 8) (oi := { dst := some 116, op := Go.Op.move (Go.Operand.tmp 115), type := 4, pos := "laws.go:1024", after := #[{ on := 7, ground := Go.Ground.data }, { on := 3, ground := Go.Ground.chain }], guard := none }) (v := ?v4009) rfl (by kernel_rfl) (by kernel_rfl) (by kernel_rfl) (fun _ _ _ h => h) (Or.inl ⟨by rfl, ?hy4009⟩) (by assumption) ?hr4009
          case hy4009 => (intro w hSw; (try dsimp only at hSw); go_simp; (try with_reducible rfl))
          (try simp only [Act.put, List.setIfInBounds_toArray, List.set_cons_zero, List.set_cons_succ])
          refine wpAnyH_take (i := 9) (oi := { dst := some 117, op := Go.Op.move (Go.Operand.tmp 8), type := 3, pos := "laws.go:1024", after := #[{ on := 8, ground := Go.Ground.guard }], guard := some (8, false) }) (v := ?v4010) rfl (by kernel_rfl) (by kernel_rfl) (by kernel_rfl) (fun _ _ _ h => h) (Or.inl ⟨by rfl, ?hy4010⟩) (by assumption) ?hr4010
          case hy4010 => (intro w hSw; (try dsimp only at hSw); go_simp; (try with_reducible rfl))
          (try simp only [Act.put, List.setIfInBounds_toArray, List.set_cons_zero, List.set_cons_succ])
          refine wpAnyH_take (i := 10) (oi := { dst := some 118, op := Go.Op.move (Go.Operand.tmp 12), type := 27, pos := "laws.go:1024", after := #[{ on := 8, ground := Go.Ground.guard }], guard := some (8, false) }) (v := ?v4011) rfl (by kernel_rfl) (by kernel_rfl) (by kernel_rfl) (fun _ _ _ h => h) (Or.inl ⟨by rfl, ?hy4011⟩) (by assumption) ?hr4011
          case hy4011 => (intro w hSw; (try dsimp only at hSw); go_simp; (try with_reducible rfl))
          (try simp only [Act.put, List.setIfInBounds_toArray, List.set_cons_zero, List.set_cons_succ])
          refine wpAnyH_take (i := 11) (oi := { dst := some 119, op := Go.Op.call { callee := Go.Callee.builtin Go.Builtin.len, args := #[Go.Operand.tmp 118], argTypes := #[27] }, type := 3, pos := "laws.go:1024", after := #[{ on := 10, ground := Go.Ground.data }, { on := 8, ground := Go.Ground.guard }], guard := some (8, false) }) (v := ?v4012) rfl (by kernel_rfl) (by kernel_rfl) (by kernel_rfl) (fun _ _ _ h => h) (Or.inl ⟨by rfl, ?hy4012⟩) (by assumption) ?hr4012
          case hy4012 => (intro w hSw; (try dsimp only at hSw); go_simp; (try with_reducible rfl))
          (try simp only [Act.put, List.setIfInBounds_toArray, List.set_cons_zero, List.set_cons_succ])
          refine wpAnyH_take (i := 12) (oi := { dst := some 120, op := Go.Op.binOp Go.BinOp.rem 3 (Go.Operand.tmp 117) (Go.Operand.tmp 119) 3, type := 3, pos := "laws.go:1024", after := #[{ on := 9, ground := Go.Ground.data }, { on := 11, ground := Go.Ground.data }, { on := 8, ground := Go.Ground.guard }], guard := some (8, false) }) (v := ?v4013) rfl (by kernel_rfl) (by kernel_rfl) (by kernel_rfl) (fun _ _ _ h => h) (Or.inl ⟨by rfl, ?hy4013⟩) (by assumption) ?hr4013
          case hy4013 => (intro w hSw; (try dsimp only at hSw); go_simp; (try with_reducible rfl))
          (try simp only [Act.put, List.setIfInBounds_toArray, List.set_cons_zero, List.set_cons_succ])
          refine wpAnyH_take (i := 13) (oi := { dst := some 121, op := Go.Op.binOp Go.BinOp.neq 3 (Go.Operand.tmp 120) (Go.Operand.const (Go.Value.int Go.IntKind.i64 0)) 3, type := 4, pos := "laws.go:1024", after := #[{ on := 12, ground := Go.Ground.data }, { on := 8, ground := Go.Ground.guard }], guard := some (8, false) }) (v := ?v4014) rfl (by kernel_rfl) (by kernel_rfl) (by kernel_rfl) (fun _ _ _ h => h) (Or.inl ⟨by rfl, ?hy4014⟩) (by assumption) ?hr4014
          case hy4014 => (intro w hSw; (try dsimp only at hSw); go_simp; (try with_reducible rfl))
          (try simp only [Act.put, List.setIfInBounds_toArray, List.set_cons_zero, List.set_cons_succ])
          refine wpAnyH_take (i := 14) (oi := { dst := some 122, op := Go.Op.pick (Go.Operand.tmp 116) (Go.Operand.const (Go.Value.bool true)) (Go.Operand.tmp 121), type := 4, pos := "laws.go:1024", after := #[{ on := 8, ground := Go.Ground.data }, { on := 13, ground := Go.Ground.data }], guard := none }) (v := ?v4015) rfl (by kernel_rfl) (by kernel_rfl) (by kernel_rfl) (fun _ _ _ h => h) (Or.inl ⟨by rfl, ?hy4015⟩) (by assumption) ?hr4015
          case hy4015 => (intro w hSw; (try dsimp only at hSw); go_simp; (try with_reducible rfl))
          (try simp only [Act.put, List.setIfInBounds_toArray, List.set_cons_zero, List.set_cons_succ])
          refine wpAnyH_take (i := 15) (oi := { dst := some 123, op := Go.Op.move (Go.Operand.tmp 122), type := 4, pos := "laws.go:1024", after := #[{ on := 14, ground := Go.Ground.data }, { on := 8, ground := Go.Ground.chain }], guard := none }) (v := ?v4016) rfl (by kernel_rfl) (by kernel_rfl) (by kernel_rfl) (fun _ _ _ h => h) (Or.inl ⟨by rfl, ?hy4016⟩) (by assumption) ?hr4016
          case hy4016 => (intro w hSw; (try dsimp only at hSw); go_simp; (try with_reducible rfl))
          (try simp only [Act.put, List.setIfInBounds_toArray, List.set_cons_zero, List.set_cons_succ])
          refine wpAnyH_take (i := 16) (oi := { dst := some 124, op := Go.Op.move (Go.Operand.tmp 12), type := 27, pos := "laws.go:1024", after := #[{ on := 15, ground := Go.Ground.guard }], guard := some (15, false) }) (v := ?v4017) rfl (by kernel_rfl) (by kernel_rfl) (by kernel_rfl) (fun _ _ _ h => h) (Or.inl ⟨by rfl, ?hy4017⟩) (by assumption) ?hr4017
          case hy4017 => (intro w hSw; (try dsimp only at hSw); go_simp; (try with_reducible rfl))
          (try simp only [Act.put, List.setIfInBounds_toArray, List.set_cons_zero, List.set_cons_succ])
          refine wpAnyH_take (i := 17) (oi := { dst := some 125, op := Go.Op.move (Go.Operand.tmp 9), type := 3, pos := "laws.go:1024", after := #[{ on := 15, ground := Go.Ground.guard }], guard := some (15, false) }) (v := ?v4018) rfl (by kernel_rfl) (by kernel_rfl) (by kernel_rfl) (fun _ _ _ h => h) (Or.inl ⟨by rfl, ?hy4018⟩) (by assumption) ?hr4018
          case hy4018 => (intro w hSw; (try dsimp only at hSw); go_simp; (try with_reducible rfl))
          (try simp only [Act.put, List.setIfInBounds_toArray, List.set_cons_zero, List.set_cons_succ])
          refine wpAnyH_ready (rs := [18]) (by kernel_rfl) (by simp) ?_
          refine AllReadyH.cons (o := { dst := some 126, op := Go.Op.call { callee := Go.Callee.value (Go.Operand.func 28), args := #[Go.Operand.tmp 124, Go.Operand.tmp 125], argTypes := #[27, 3] }, type := 4, pos := "laws.go:1024", after := #[{ on := 16, ground := Go.Ground.data }, { on := 17, ground := Go.Ground.data }, { on := 15, ground := Go.Ground.chain }, { on := 15, ground := Go.Ground.guard }], guard := some (15, false) }) rfl (fun K hK => ?_) AllReadyH.nil
          go_simp
          (go_at_call 28; refine (HA1.out _ (by exact hHeld.1)).mono ?_; rintro e' w13 ⟨rfl, hb13⟩)
          (try go_wp2_with fail)
          refine hK.out _ _ ?hS4019 (fun hHeld => ?hR4019)
          case hS4019 => ((try dsimp only); (first | exact HS.out _ (Below.drew HFn.out) | exact HS.out _ (by assumption)))
          clear hK K
          (try simp only [Act.put, List.setIfInBounds_toArray, List.set_cons_zero, List.set_cons_succ])
          refine wpAnyH_take (i := 19) (oi := { dst := some 127, op := Go.Op.unOp Go.UnOp.not 4 (Go.Operand.tmp 126), type := 4, pos := "laws.go:1024", after := #[{ on := 18, ground := Go.Ground.data }, { on := 15, ground := Go.Ground.guard }], guard := some (15, false) }) (v := ?v4020) rfl (by kernel_rfl) (by kernel_rfl) (by kernel_rfl) (fun _ _ _ h => h) (Or.inl ⟨by rfl, ?hy4020⟩) (by assumption) ?hr4020
          case hy4020 => (intro w hSw; (try dsimp only at hSw); go_simp; (try with_reducible rfl))
          (try simp only [Act.put, List.setIfInBounds_toArray, List.set_cons_zero, List.set_cons_succ])
          refine wpAnyH_take (i := 20) (oi := { dst := some 128, op := Go.Op.pick (Go.Operand.tmp 123) (Go.Operand.const (Go.Value.bool true)) (Go.Operand.tmp 127), type := 4, pos := "laws.go:1024", after := #[{ on := 15, ground := Go.Ground.data }, { on := 19, ground := Go.Ground.data }], guard := none }) (v := ?v4021) rfl (by kernel_rfl) (by kernel_rfl) (by kernel_rfl) (fun _ _ _ h => h) (Or.inl ⟨by rfl, ?hy4021⟩) (by assumption) ?hr4021
          case hy4021 => (intro w hSw; (try dsimp only at hSw); go_simp; (try with_reducible rfl))
          (try simp only [Act.put, List.setIfInBounds_toArray, List.set_cons_zero, List.set_cons_succ])
          refine wpAnyH_take (i := 21) (oi := { dst := some 129, op := Go.Op.move (Go.Operand.tmp 128), type := 4, pos := "laws.go:1024", after := #[{ on := 20, ground := Go.Ground.data }, { on := 18, ground := Go.Ground.chain }], guard := none }) (v := ?v4022) rfl (by kernel_rfl) (by kernel_rfl) (by kernel_rfl) (fun _ _ _ h => h) (Or.inl ⟨by rfl, ?hy4022⟩) (by assumption) ?hr4022
          case hy4022 => (intro w hSw; (try dsimp only at hSw); go_simp; (try with_reducible rfl))
          (try simp only [Act.put, List.setIfInBounds_toArray, List.set_cons_zero, List.set_cons_succ])
          refine wpAnyH_take (i := 22) (oi := { dst := some 130, op := Go.Op.move (Go.Operand.tmp 9), type := 3, pos := "laws.go:1024", after := #[{ on := 21, ground := Go.Ground.guard }], guard := some (21, false) }) (v := ?v4023) rfl (by kernel_rfl) (by kernel_rfl) (by kernel_rfl) (fun _ _ _ h => h) (Or.inl ⟨by rfl, ?hy4023⟩) (by assumption) ?hr4023
          case hy4023 => (intro w hSw; (try dsimp only at hSw); go_simp; (try with_reducible rfl))
          (try simp only [Act.put, List.setIfInBounds_toArray, List.set_cons_zero, List.set_cons_succ])
          refine wpAnyH_take (i := 23) (oi := { dst := some 131, op := Go.Op.move (Go.Operand.tmp 3), type := 3, pos := "laws.go:1024", after := #[{ on := 21, ground := Go.Ground.guard }], guard := some (21, false) }) (v := ?v4024) rfl (by kernel_rfl) (by kernel_rfl) (by kernel_rfl) (fun _ _ _ h => h) (Or.inl ⟨by rfl, ?hy4024⟩) (by assumption) ?hr4024
          case hy4024 => (intro w hSw; (try dsimp only at hSw); go_simp; (try with_reducible rfl))
          (try simp only [Act.put, List.setIfInBounds_toArray, List.set_cons_zero, List.set_cons_succ])
          refine wpAnyH_take (i := 24) (oi := { dst := some 132, op := Go.Op.move (Go.Operand.tmp 8), type := 3, pos := "laws.go:1024", after := #[{ on := 21, ground := Go.Ground.guard }], guard := some (21, false) }) (v := ?v4025) rfl (by kernel_rfl) (by kernel_rfl) (by kernel_rfl) (fun _ _ _ h => h) (Or.inl ⟨by rfl, ?hy4025⟩) (by assumption) ?hr4025
          case hy4025 => (intro w hSw; (try dsimp only at hSw); go_simp; (try with_reducible rfl))
          (try simp only [Act.put, List.setIfInBounds_toArray, List.set_cons_zero, List.set_cons_succ])
          refine wpAnyH_take (i := 26) (oi := { dst := some 134, op := Go.Op.move (Go.Operand.tmp 12), type := 27, pos := "laws.go:1024", after := #[{ on := 21, ground := Go.Ground.guard }], guard := some (21, false) }) (v := ?v4026) rfl (by kernel_rfl) (by kernel_rfl) (by kernel_rfl) (fun _ _ _ h => h) (Or.inl ⟨by rfl, ?hy4026⟩) (by assumption) ?hr4026
          case hy4026 => (intro w hSw; (try dsimp only at hSw); go_simp; (try with_reducible rfl))
          (try simp only [Act.put, List.setIfInBounds_toArray, List.set_cons_zero, List.set_cons_succ])
          refine wpAnyH_take (i := 27) (oi := { dst := some 135, op := Go.Op.indexAddr 27 (Go.Operand.tmp 134) (Go.Operand.const (Go.Value.int Go.IntKind.i64 0)), type := 0, pos := "laws.go:1024", after := #[{ on := 26, ground := Go.Ground.data }, { on := 21, ground := Go.Ground.guard }], guard := some (21, false) }) (v := ?v4027) rfl (by kernel_rfl) (by kernel_rfl) (by kernel_rfl) (fun _ _ _ h => h) (Or.inl ⟨by rfl, ?hy4027⟩) (by assumption) ?hr4027
          case hy4027 => (intro w hSw; (try dsimp only at hSw); go_simp; (try with_reducible rfl))
          (try simp only [Act.put, List.setIfInBounds_toArray, List.set_cons_zero, List.set_cons_succ])
          refine wpAnyH_take (i := 28) (oi := { dst := some 136, op := Go.Op.load 3 (Go.Operand.tmp 135), type := 3, pos := "laws.go:1024", after := #[{ on := 27, ground := Go.Ground.data }, { on := 21, ground := Go.Ground.guard }], guard := some (21, false) }) (v := ?v4028) rfl (by kernel_rfl) (by kernel_rfl) (by kernel_rfl) (fun _ _ _ h => h) (Or.inl ⟨by rfl, ?hy4028⟩) (by assumption) ?hr4028
          case hy4028 => (intro w hSw; (try dsimp only at hSw); go_simp; (try with_reducible rfl))
          (try simp only [Act.put, List.setIfInBounds_toArray, List.set_cons_zero, List.set_cons_succ])
          refine wpAnyH_ready (rs := [25]) (by kernel_rfl) (by simp) ?_
          refine AllReadyH.cons (o := { dst := some 133, op := Go.Op.call { callee := Go.Callee.value (Go.Operand.func 29), args := #[Go.Operand.tmp 130, Go.Operand.tmp 131, Go.Operand.tmp 132], argTypes := #[3, 3, 3] }, type := 3, pos := "laws.go:1024", after := #[{ on := 22, ground := Go.Ground.data }, { on := 23, ground := Go.Ground.data }, { on := 24, ground := Go.Ground.data }, { on := 21, ground := Go.Ground.chain }, { on := 21, ground := Go.Ground.guard }], guard := some (21, false) }) rfl (fun K hK => ?_) AllReadyH.nil
          go_simp
          (go_at_call 29; refine (HA2.out _ (by exact hHeld.1)).mono ?_; rintro e' w14 ⟨rfl, hb14⟩)
          (try go_wp2_with fail)
          refine hK.out _ _ ?hS4029 (fun hHeld => ?hR4029)
          case hS4029 => ((try dsimp only); (first | exact HS.out _ (Below.drew HFn.out) | exact HS.out _ (by assumption)))
          clear hK K
          (try simp only [Act.put, List.setIfInBounds_toArray, List.set_cons_zero, List.set_cons_succ])
          refine wpAnyH_take (i := 29) (oi := { dst := some 137, op := Go.Op.binOp Go.BinOp.neq 3 (Go.Operand.tmp 133) (Go.Operand.tmp 136) 3, type := 4, pos := "laws.go:1024", after := #[{ on := 25, ground := Go.Ground.data }, { on := 28, ground := Go.Ground.data }, { on := 21, ground := Go.Ground.guard }], guard := some (21, false) }) (v := ?v4030) rfl (by kernel_rfl) (by kernel_rfl) (by kernel_rfl) (fun _ _ _ h => h) (Or.inl ⟨by rfl, ?hy4030⟩) (by assumption) ?hr4030
          case hy4030 => (intro w hSw; (try dsimp only at hSw); go_simp; (try with_reducible rfl))
          (try simp only [Act.put, List.setIfInBounds_toArray, List.set_cons_zero, List.set_cons_succ])
          refine wpAnyH_take (i := 30) (oi := { dst := some 138, op := Go.Op.pick (Go.Operand.tmp 129) (Go.Operand.const (Go.Value.bool true)) (Go.Operand.tmp 137), type := 4, pos := "laws.go:1024", after := #[{ on := 21, ground := Go.Ground.data }, { on := 29, ground := Go.Ground.data }], guard := none }) (v := ?v4031) rfl (by kernel_rfl) (by kernel_rfl) (by kernel_rfl) (fun _ _ _ h => h) (Or.inl ⟨by rfl, ?hy4031⟩) (by assumption) ?hr4031
          case hy4031 => (intro w hSw; (try dsimp only at hSw); go_simp; (try with_reducible rfl))
          (try simp only [Act.put, List.setIfInBounds_toArray, List.set_cons_zero, List.set_cons_succ])
          refine wpAnyH_take (i := 31) (oi := { dst := some 139, op := Go.Op.move (Go.Operand.tmp 138), type := 4, pos := "laws.go:1024", after := #[{ on := 30, ground := Go.Ground.data }, { on := 25, ground := Go.Ground.chain }], guard := none }) (v := ?v4032) rfl (by kernel_rfl) (by kernel_rfl) (by kernel_rfl) (fun _ _ _ h => h) (Or.inl ⟨by rfl, ?hy4032⟩) (by assumption) ?hr4032
          case hy4032 => (intro w hSw; (try dsimp only at hSw); go_simp; (try with_reducible rfl))
          (try simp only [Act.put, List.setIfInBounds_toArray, List.set_cons_zero, List.set_cons_succ])
          refine wpAnyH_take (i := 32) (oi := { dst := some 140, op := Go.Op.move (Go.Operand.tmp 12), type := 27, pos := "laws.go:1024", after := #[{ on := 31, ground := Go.Ground.guard }], guard := some (31, false) }) (v := ?v4033) rfl (by kernel_rfl) (by kernel_rfl) (by kernel_rfl) (fun _ _ _ h => h) (Or.inl ⟨by rfl, ?hy4033⟩) (by assumption) ?hr4033
          case hy4033 => (intro w hSw; (try dsimp only at hSw); go_simp; (try with_reducible rfl))
          (try simp only [Act.put, List.setIfInBounds_toArray, List.set_cons_zero, List.set_cons_succ])
          refine wpAnyH_take (i := 33) (oi := { dst := some 141, op := Go.Op.move (Go.Operand.tmp 9), type := 3, pos := "laws.go:1024", after := #[{ on := 31, ground := Go.Ground.guard }], guard := some (31, false) }) (v := ?v4034) rfl (by kernel_rfl) (by kernel_rfl) (by kernel_rfl) (fun _ _ _ h => h) (Or.inl ⟨by rfl, ?hy4034⟩) (by assumption) ?hr4034
          case hy4034 => (intro w hSw; (try dsimp only at hSw); go_simp; (try with_reducible rfl))
          (try simp only [Act.put, List.setIfInBounds_toArray, List.set_cons_zero, List.set_cons_succ])
          refine wpAnyH_take (i := 34) (oi := { dst := some 142, op := Go.Op.move (Go.Operand.tmp 3), type := 3, pos := "laws.go:1024", after := #[{ on := 31, ground := Go.Ground.guard }], guard := some (31, false) }) (v := ?v4035) rfl (by kernel_rfl) (by kernel_rfl) (by kernel_rfl) (fun _ _ _ h => h) (Or.inl ⟨by rfl, ?hy4035⟩) (by assumption) ?hr4035
          case hy4035 => (intro w hSw; (try dsimp only at hSw); go_simp; (try with_reducible rfl))
          (try simp only [Act.put, List.setIfInBounds_toArray, List.set_cons_zero, List.set_cons_succ])
          refine wpAnyH_take (i := 35) (oi := { dst := some 143, op := Go.Op.move (Go.Operand.tmp 8), type := 3, pos := "laws.go:1024", after := #[{ on := 31, ground := Go.Ground.guard }], guard := some (31, false) }) (v := ?v4036) rfl (by kernel_rfl) (by kernel_rfl) (by kernel_rfl) (fun _ _ _ h => h) (Or.inl ⟨by rfl, ?hy4036⟩) (by assumption) ?hr4036
          case hy4036 => (intro w hSw; (try dsimp only at hSw); go_simp; (try with_reducible rfl))
          (try simp only [Act.put, List.setIfInBounds_toArray, List.set_cons_zero, List.set_cons_succ])
          refine wpAnyH_take (i := 37) (oi := { dst := some 145, op := Go.Op.move (Go.Operand.tmp 3), type := 3, pos := "laws.go:1024", after := #[{ on := 31, ground := Go.Ground.guard }], guard := some (31, false) }) (v := ?v4037) rfl (by kernel_rfl) (by kernel_rfl) (by kernel_rfl) (fun _ _ _ h => h) (Or.inl ⟨by rfl, ?hy4037⟩) (by assumption) ?hr4037
          case hy4037 => (intro w hSw; (try dsimp only at hSw); go_simp; (try with_reducible rfl))
          (try simp only [Act.put, List.setIfInBounds_toArray, List.set_cons_zero, List.set_cons_succ])
          refine wpAnyH_take (i := 38) (oi := { dst := some 146, op := Go.Op.move (Go.Operand.tmp 8), type := 3, pos := "laws.go:1024", after := #[{ on := 31, ground := Go.Ground.guard }], guard := some (31, false) }) (v := ?v4038) rfl (by kernel_rfl) (by kernel_rfl) (by kernel_rfl) (fun _ _ _ h => h) (Or.inl ⟨by rfl, ?hy4038⟩) (by assumption) ?hr4038
          case hy4038 => (intro w hSw; (try dsimp only at hSw); go_simp; (try with_reducible rfl))
          (try simp only [Act.put, List.setIfInBounds_toArray, List.set_cons_zero, List.set_cons_succ])
          refine wpAnyH_ready (rs := [36]) (by kernel_rfl) (by simp) ?_
          refine AllReadyH.cons (o := { dst := some 144, op := Go.Op.call { callee := Go.Callee.value (Go.Operand.func 26), args := #[Go.Operand.tmp 141, Go.Operand.tmp 142, Go.Operand.tmp 143], argTypes := #[3, 3, 3] }, type := 3, pos := "laws.go:1024", after := #[{ on := 33, ground := Go.Ground.data }, { on := 34, ground := Go.Ground.data }, { on := 35, ground := Go.Ground.data }, { on := 31, ground := Go.Ground.chain }, { on := 31, ground := Go.Ground.guard }], guard := some (31, false) }) rfl (fun K hK => ?_) AllReadyH.nil
          go_simp
          (go_at_call 26; refine (HA3.out _ (by exact hHeld.1)).mono ?_; rintro e' w15 ⟨rfl, hb15⟩)
          (try go_wp2_with fail)
          refine hK.out _ _ ?hS4039 (fun hHeld => ?hR4039)
          case hS4039 => ((try dsimp only); (first | exact HS.out _ (Below.drew HFn.out) | exact HS.out _ (by assumption)))
          clear hK K
          (try simp only [Act.put, List.setIfInBounds_toArray, List.set_cons_zero, List.set_cons_succ])
          refine wpAnyH_ready (rs := [39]) (by kernel_rfl) (by simp) ?_
          refine AllReadyH.cons (o := { dst := some 147, op := Go.Op.call { callee := Go.Callee.value (Go.Operand.func 27), args := #[Go.Operand.tmp 144, Go.Operand.tmp 145, Go.Operand.tmp 146], argTypes := #[3, 3, 3] }, type := 27, pos := "laws.go:1024", after := #[{ on := 36, ground := Go.Ground.data }, { on := 37, ground := Go.Ground.data }, { on := 38, ground := Go.Ground.data }, { on := 36, ground := Go.Ground.chain }, { on := 31, ground := Go.Ground.guard }], guard := some (31, false) }) rfl (fun K hK => ?_) AllReadyH.nil
          go_simp
          (go_at_call 27; refine (iRots (rotV x b Q) b Q _).mono ?_; rw [HRB.out.el2]; rintro e' w16 ⟨v, rfl, hown, hb16'⟩; obtain ⟨ao2, cap2, rfl, hrd2⟩ := hown.shape; have hb16 := hHeld.1.trans (hb16'.mono hHeld.1.size))
          (try go_wp2_with fail)
          refine hK.out _ _ ?hS4040 (fun hHeld => ?hR4040)
          case hS4040 => ((try dsimp only); (first | exact HS.out _ (Below.drew HFn.out) | exact HS.out _ (by assumption)))
          clear hK K
          (try simp only [Act.put, List.setIfInBounds_toArray, List.set_cons_zero, List.set_cons_succ])
          refine wpAnyH_ready (rs := [40]) (by kernel_rfl) (by simp) ?_
          refine AllReadyH.cons (o := { dst := some 148, op := Go.Op.call { callee := Go.Callee.value (Go.Operand.func 30), args := #[Go.Operand.tmp 140, Go.Operand.tmp 147], argTypes := #[27, 27] }, type := 4, pos := "laws.go:1024", after := #[{ on := 32, ground := Go.Ground.data }, { on := 39, ground := Go.Ground.data }, { on := 39, ground := Go.Ground.chain }, { on := 31, ground := Go.Ground.guard }], guard := some (31, false) }) rfl (fun K hK => ?_) AllReadyH.nil
          go_simp
          (go_at_call 30; refine (as_bool HLL.out (same l l _ _ rfl rfl _ _ _ _ _ (HRD.out.below hHeld.1 (Nat.le_refl _)) hrd2)).mono ?_; rintro e' w17 ⟨rfl, rfl⟩)
          (try go_wp2_with fail)
          refine hK.out _ _ ?hS4041 (fun hHeld => ?hR4041)
          case hS4041 => ((try dsimp only); (first | exact HS.out _ (Below.drew HFn.out) | exact HS.out _ (by assumption)))
          clear hK K
          (try simp only [Act.put, List.setIfInBounds_toArray, List.set_cons_zero, List.set_cons_succ])
          refine wpAnyH_take (i := 41) (oi := { dst := some 149, op := Go.Op.unOp Go.UnOp.not 4 (Go.Operand.tmp 148), type := 4, pos := "laws.go:1024", after := #[{ on := 40, ground := Go.Ground.data }, { on := 31, ground := Go.Ground.guard }], guard := some (31, false) }) (v := ?v4042) rfl (by kernel_rfl) (by kernel_rfl) (by kernel_rfl) (fun _ _ _ h => h) (Or.inl ⟨by rfl, ?hy4042⟩) (by assumption) ?hr4042
          case hy4042 => (intro w hSw; (try dsimp only at hSw); go_simp; (try with_reducible rfl))
          (try simp only [Act.put, List.setIfInBounds_toArray, List.set_cons_zero, List.set_cons_succ])
          refine wpAnyH_take (i := 42) (oi := { dst := some 150, op := Go.Op.pick (Go.Operand.tmp 139) (Go.Operand.const (Go.Value.bool true)) (Go.Operand.tmp 149), type := 4, pos := "laws.go:1024", after := #[{ on := 31, ground := Go.Ground.data }, { on := 41, ground := Go.Ground.data }], guard := none }) (v := ?v4043) rfl (by kernel_rfl) (by kernel_rfl) (by kernel_rfl) (fun _ _ _ h => h) (Or.inl ⟨by rfl, ?hy4043⟩) (by assumption) ?hr4043
          case hy4043 => (intro w hSw; (try dsimp only at hSw); go_simp; (try with_reducible rfl))
          (try simp only [Act.put, List.setIfInBounds_toArray, List.set_cons_zero, List.set_cons_succ])
          refine wpAnyH_done (by kernel_rfl) ?_ _
          go_wp2_with fail
          go_meet
          exact ⟨by first | rfl | simp, hb16⟩
        case rest =>
          obtain ⟨rfl, hb13⟩ := hcut
          have HB13 := Lib.hid (HB12.out.trans (hb13.mono HB12.out.size))
          clear hb13 HA1 HA2 HA3 HS HW1 hl2 hl3 hl4 hl5 hnn hx00
          go_wp2_with fail
          refine (makeNum _ _ _ 10 _ (HR.out.below HB13.out (Nat.le_refl _)) (by omega) (by omega) (by omega)).mono ?_
          rintro e w14 ⟨⟨y6, y7, y8, rfl⟩, hb14⟩
          have HB14 := Lib.hid (HB13.out.trans (hb14.mono HB13.out.size))
          clear hb14
          have t1 : 2 ≤ 2 + y6 % 9 := by omega
          have t2 : 2 + y6 % 9 ≤ 10 := by omega
          go_wp2_with fail
          generalize 2 + y6 % 9 = t at *
          obtain ⟨N, P, c, ok, p, RCf⟩ := rc b1 b2 t1 t2
          have HC := Lib.hid RCf
          have ⟨c0, c9⟩ := RCf.cb
          have ⟨p3, p4⟩ := RCf.pb
          have pt := RCf.pt
          clear RCf
          refine (as_ib HC.out.ec HC.out.eo (Xp.iCyc t b N P _ HC.out.hf HC.out.hN)).mono ?_
          rintro e w15 ⟨rfl, hb15⟩
          have HB15 := Lib.hid (HB14.out.trans (hb15.mono HB14.out.size))
          have hoo : (ok != ok) = false := by simp
          clear hb15
          go_upto_region 22 with fail
          go_cut [190] from 161 to 191 (fun v wx => v = .bool false ∧ Below w.heap.size w wx)
          case first =>
            go_wp2_with fail
            refine (as_int HC.out.ep (Xp.iPer t b N P _ t1 t2 (HC.out.hf (inB_mk t1 t2)) HC.out.hN)).mono ?_
            rintro e w16 ⟨rfl, hb16⟩
            have HB16 := Lib.hid (HB15.out.trans (hb16.mono HB15.out.size))
            clear hb16
            cases ok with
            | true =>
              obtain ⟨Bt, hBt⟩ : ∃ Bt, b ^ (t - 1).toNat = Bt := ⟨_, rfl⟩
              have HBT := Lib.hid hBt
              have ⟨bt1, bt2⟩ := powQ (q := t - 1) b1 b2 (by omega)
              rw [hBt] at bt1 bt2
              have hct : c * t = Bt - 1 := by rw [HC.out.mul rfl, hBt]
              have hct2 : (c * t != Bt - 1) = false := by rw [bne_eq_false_iff_eq]; exact hct
              have hct3 : 0 ≤ c * t := by omega
              have hct4 : c * t ≤ 68719476736 := by omega
              clear hBt hct
              go_wp2_with fail
              refine (as_bool (HC.out.ic rfl) (iIsCyc c b (t - 1) _)).mono ?_
              rintro e w17 ⟨rfl, hb17⟩
              have HB17 := Lib.hid (HB16.out.trans (hb17.mono HB16.out.size))
              clear hb17
              go_wp2_with fail
              refine (as_int HBT.out (lpow9 b (t - 1) _ b1 b2 (by omega) (by omega))).mono ?_
              rintro e w18 ⟨rfl, rfl⟩
              go_wp2_with fail
              go_meet
              exact ⟨by first | rfl | simp, HB17.out⟩
            | false =>
              go_wp2_with fail
              go_meet
              exact ⟨by first | rfl | simp, HB16.out⟩
          case rest =>
            obtain ⟨rfl, hb16⟩ := hcut
            have HB16 := Lib.hid hb16
            clear hb16 pt hoo c0 c9 p3 p4
            go_wp2_with fail
            refine (makeNum _ _ _ 12 _ (HR.out.below HB16.out (Nat.le_refl _)) (by omega) (by omega) (by omega)).mono ?_
            rintro e w17 ⟨⟨f0, f1, f2, rfl⟩, hb17⟩
            have HB17 := Lib.hid (HB16.out.trans (hb17.mono HB16.out.size))
            clear hb17
            have f3 := Pl.mod_nn (a := f0) (show (0 : Int) < b - 1 by omega)
            have f4 := Pl.mod_lt (a := f0) (show (0 : Int) < b - 1 by omega)
            go_wp2_with fail
            generalize f0 % (b - 1) = f9 at *
            refine (makeNum _ _ _ 14 _ (HR.out.below HB17.out (Nat.le_refl _)) (by omega) (by omega) (by omega)).mono ?_
            rintro e w18 ⟨⟨d0, d1, d2, rfl⟩, hb18⟩
            have HB18 := Lib.hid (HB17.out.trans (hb18.mono HB17.out.size))
            clear hb18
            have d3 := Pl.mod_nn (a := d0) (show (0 : Int) < b - 1 by omega)
            have d4 := Pl.mod_lt (a := d0) (show (0 : Int) < b - 1 by omega)
            go_wp2_with fail
            generalize d0 % (b - 1) = d9 at *
            have f5 : 1 ≤ 1 + f9 := by omega
            have f6 : 1 + f9 ≤ b - 1 := by omega
            have d5 : 1 ≤ 1 + d9 := by omega
            have d6 : 1 + d9 ≤ b - 1 := by omega
            generalize 1 + f9 = f at *
            generalize 1 + d9 = d at *
            cases hfound : (parV f d b).2.2 with
            | true =>
              obtain ⟨y, kk, hv, kk1, kk2, yy0, yy1, hr, hyd, hcd⟩ := par_facts b1 b2 f5 f6 d5 d6 hfound
              have HV := Lib.hid hv
              have HRr := Lib.hid hr
              have HCd := Lib.hid hcd
              have hyd2 : (y % b == d) = true := by rw [beq_iff_eq]; exact hyd
              have fy0 : 0 ≤ f * y := Int.mul_nonneg (by omega) yy0
              have fy1 : f * y ≤ 16 * 68719476736 := Int.mul_le_mul (by omega) yy1 yy0 (by omega)
              clear hv hr hcd hfound hyd
              refine (iParas f d b _).mono ?_
              rw [HV.out]
              rintro e w19 ⟨rfl, hb19⟩
              have HB19 := Lib.hid (HB18.out.trans (hb19.mono HB18.out.size))
              clear hb19
              go_wp2_with fail
              refine (as_int HRr.out (iRotN y b kk _)).mono ?_
              rintro e w20 ⟨rfl, hb20⟩
              have HB20 := Lib.hid (HB19.out.trans (hb20.mono HB19.out.size))
              clear hb20
              go_wp2_with fail
              refine (as_int HCd.out (iCountDigits y b _)).mono ?_
              rintro e w21 ⟨rfl, hb21⟩
              have HB21 := Lib.hid (HB20.out.trans (hb21.mono HB20.out.size))
              clear hb21
              go_wp2_with fail
              refine (as_bool ic_142857 (iIsCyc 142857 10 6 _)).mono ?_
              rintro e w22 ⟨rfl, hb22⟩
              have HB22 := Lib.hid (HB21.out.trans (hb22.mono HB21.out.size))
              clear hb22
              go_wp2
              go_ret
              exact ⟨by first | rfl | simp, HB22.out⟩
            | false =>
              obtain ⟨r, hr⟩ : ∃ r, parV f d b = r := ⟨_, rfl⟩
              obtain ⟨ra1, ra2, ra3⟩ := r
              rw [hr] at hfound
              have hf3 : ra3 = false := hfound
              subst hf3
              have HV := Lib.hid hr
              clear hr hfound
              refine (iParas f d b _).mono ?_
              rw [HV.out]
              rintro e w19 ⟨rfl, hb19⟩
              have HB19 := Lib.hid (HB18.out.trans (hb19.mono HB18.out.size))
              clear hb19
              go_wp2_with fail
              refine (as_bool ic_142857 (iIsCyc 142857 10 6 _)).mono ?_
              rintro e w22 ⟨rfl, hb22⟩
              have HB22 := Lib.hid (HB19.out.trans (hb22.mono HB19.out.size))
              clear hb22
              go_wp2
              go_ret
              exact ⟨by first | rfl | simp, HB22.out⟩

set_option maxRecDepth 100000 in
theorem lifted (os : Os) (started : os.Started) (H : Type) (enc : TypeId × Value → H) :
    ReturnsInHanded {} Try.checked os 5 .any (Rows.fnRepunitsSpec.pre6 enc Try.prog Try.f5 Rows.fnRepunitsRow.domain false) (Rows.fnRepunitsSpec.post enc Try.prog Try.f5 false true false false) := by
  refine returnsInHanded_of_change (C := Try.checked) own started (by kernel_rfl) Try.func5
    (ChangeSpec.witness6 (enc := enc) (C := Try.checked) false ⟨#[], #[.slice none 0 0], []⟩ 8 (by kernel_rfl) (by kernel_rfl) (by kernel_rfl) (by kernel_rfl)) ?_
  intro W base args ds gs before hval0 hW hcnd _
  have hval : ∀ (j : Nat) t v, Try.f5.params[j]? = some t → args[j]? = some v → Value.okWide Try.prog W .any base t v := hval0
  have hW' := hW
  obtain ⟨p, q, hA0, hV, rfl, hfz, hnd⟩ := hW
  have hA : DataW.TrodAll enc Try.prog W 0 (fun _ => true) true Try.f5.params.toList args.toList ds p := hA0
  rw [Try.params5] at hA hval
  obtain ⟨v0, vs0, d0, ds0, p0, q0, hargs, rfl, rfl, h0, r0⟩ := trodAll_cons hA
  obtain ⟨rfl, rfl, rfl⟩ := trodAll_nil r0
  obtain rfl : args = #[v0] := by cases args; simp_all
  obtain ⟨rfl, rfl⟩ := trodVars_none hV
  obtain ⟨a0, len0, cap0, rfl⟩ := okWide_slice Try.underlying25 (hval 0 25 v0 rfl rfl)
  have k0 := h0
  have lt0 : ∀ x ∈ p0, x.block < W.heap.size := by obtain ⟨m, hm⟩ := k0; exact DataW.trod_lt m _ _ _ hm
  obtain ⟨z0, w0⟩ : ∃ zs, IsRow .u8 W a0 len0 cap0 zs := by
    obtain ⟨fuel, hf⟩ := h0
    rcases open_ints Try.underlying25 Try.underlying5 (by kernel_rfl) hf with ⟨hcs, _⟩ | ⟨x, l, c, zs, hcs, _, hl, hm, hz, _, hcell, hwz⟩
    · simp [Value.cells] at hcs
      obtain ⟨rfl, rfl, rfl⟩ := hcs
      exact ⟨[], .inl ⟨rfl, rfl, rfl, rfl⟩⟩
    · simp [Value.cells] at hcs
      obtain ⟨rfl, rfl, rfl⟩ := hcs
      exact ⟨zs, .inr ⟨_, rfl, hl, hm, by simpa using hz, hcell, hwz⟩⟩
  clear hA0 hval0
  refine (walk a0 len0 cap0 z0 W w0).mono fun e W' ⟨he, bel⟩ => ?_
  subst he
  exact ⟨_, rfl, _, _, _, [], _, [], hW', trodAll_mk1 (shut_bool Try.underlying4 _), (trodAll_cons_mk (Below.trod laidOut (by kernel_rfl) (of_decide_eq_true (by kernel_rfl)) k0 bel lt0) trodAll_mk0), rfl, bel.frame _, fun h => by cases h⟩

theorem over : Rows.fnRepunitsRow.holds Try.pinned (OpenSpec.ofChange Rows.fnRepunitsSpec) :=
  OpenClaim.holds_of_wide 5 Try.f5 rfl rfl rfl rfl rfl rfl rfl ⟨rfl, rfl, rfl, rfl, rfl⟩ rfl rfl rfl rfl rfl (by kernel_rfl) Try.func5 (by kernel_rfl)
    (of_decide_eq_true (by kernel_rfl)) (by unfold Func.isWrapper; first | (rw [if_pos (by decide +kernel)]; kernel_rfl) | (rw [if_neg (by decide +kernel)]; exact ⟨rfl, rfl⟩))
    (fun os started H enc _ => lifted os started H enc)

theorem proved : Rows.FnRepunitsSaid := over
#print axioms proved
end Go.Proofs.Ytnjifahnfmifgaa.fnRepunits
