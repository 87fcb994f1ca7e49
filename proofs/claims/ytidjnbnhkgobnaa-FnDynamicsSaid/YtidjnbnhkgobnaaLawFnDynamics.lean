/-
  The program's law FnDynamics returns true for every input, and its arguments read afterwards as before.
  Conditions: none.
-/
import Derived.Test.YtidjnbnhkgobnaaRows
import Derived.WalkKit
import Derived.ProofKit
import Derived.OpenShut
import Derived.ShutString
import Derived.ChangeOld
import Derived.Below
import Derived.Test.YtidjnbnhkgobnaaSlicesA
import Derived.Test.YtidjnbnhkgobnaaMake
import Derived.Test.YtidjnbnhkgobnaaHelps
import Derived.Test.YtidjnbnhkgobnaaCyDyn
import Derived.Test.YtidjnbnhkgobnaaDig1
import Derived.Test.YtidjnbnhkgobnaaExt
import Derived.Deep.DeepCutAuto
import Derived.Deep.RegionHeld3
namespace Go.Proofs.Ytidjnbnhkgobnaa.fnDynamics
open Go.ChangeShapes Go.WideShapes Go.ChangeAt Go.RowKit
set_option linter.unusedVariables false

theorem own : ownKnob Try.prog.godebug = none := by kernel_rfl
theorem laidOut : laidOutB Try.prog = true := by kernel_rfl
open Cy
theorem pcOk_mk {n b e : Int} (b1 : 2 ≤ b) (b2 : b ≤ 16) (n1 : 0 ≤ n) (n2 : n ≤ 1000000000000) (e1 : 1 ≤ e) (e2 : e ≤ 5) : PcOk n b e = true := by
  unfold PcOk; rw [inB_mk b1 b2, inB_mk n1 n2, inB_mk e1 e2]; rfl
theorem psV_pf {n b e : Int} (b1 : 2 ≤ b) (b2 : b ≤ 16) (n1 : 0 ≤ n) (n2 : n ≤ 1000000000000) (e1 : 1 ≤ e) (e2 : e ≤ 5) : psV n b e = Pl.pf b e.toNat n := by
  unfold psV; rw [inB_mk b1 b2, inB_mk n1 n2, inB_mk e1 e2]; rfl
/-- What the law asks of a cycle. -/
structure DF (n b e s : Int) (l : List Int) : Prop where
  hl : PcV n b e l
  hs : psV n b e = s
  hls : PcV s b e l
  s0 : 0 ≤ s ∧ s ≤ 30375000
  len0 : 0 < l.length ∧ l.length ≤ 1000000000000
  nx : ∀ k, k < l.length → psV (l.getD k 0) b e = l.getD ((k + 1) % l.length) 0
  hd : ∀ k, k < l.length → l.getD 0 0 ≤ l.getD k 0
  ne : ∀ k, 0 < k → k < l.length → l.getD k 0 ≠ l.getD 0 0
theorem df {n b e : Int} (b1 : 2 ≤ b) (b2 : b ≤ 16) (n1 : 0 ≤ n) (n2 : n ≤ 1000000000000) (e1 : 1 ≤ e) (e2 : e ≤ 5) : ∃ s l, DF n b e s l := by
  have hok := pcOk_mk b1 b2 n1 n2 e1 e2
  obtain ⟨l, hl, hlen⟩ := pcV_exists n b e
  obtain ⟨p, hp⟩ := hl.1 hok
  have he : e.toNat ≤ 5 := by omega
  have hbd := Pl.pf_bd b1 b2 he n1 n2
  obtain ⟨k, q, hc⟩ := hp.run
  have hL := hc.len
  have hk := hc.pos
  refine ⟨Pl.pf b e.toNat n, l, hl, psV_pf b1 b2 n1 n2 e1 e2, ⟨fun _ => ⟨_, hp.step⟩, fun h => by rw [pcOk_mk b1 b2 (by omega) (by omega) e1 e2] at h; exact absurd h (by simp)⟩, hbd, ⟨by omega, hlen⟩, ?_, ?_, ?_⟩
  · intro i hi
    rw [hL] at hi ⊢
    have hx := hc.get hi
    have hb := Pl.pf_orb b1 b2 he n1 n2 (q + i)
    rw [psV_pf b1 b2 (by omega) (by omega) e1 e2]
    exact hc.next hi
  · intro i hi
    rw [hL] at hi
    exact hc.head_le hi
  · intro i h0 hi
    rw [hL] at hi
    exact hc.inj' h0 hi
theorem one_cyc {n b : Int} (b1 : 2 ≤ b) (b2 : b ≤ 16) (n1 : 0 ≤ n) (n2 : n ≤ 1000000000000) : PcV n b 1 [drootV n b] := by
  have h : drootV n b = Pl.droot b n := by unfold drootV; rw [inB_mk b1 b2, inB_mk n1 n2]; rfl
  rw [h]
  exact ⟨fun _ => Pl.pf1_cyc b1 b2 n.toNat n n1 n2 (Nat.le_refl _), fun h => by rw [pcOk_mk b1 b2 n1 n2 (by omega) (by omega)] at h; exact absurd h (by simp)⟩
theorem hc_two (L : Int → List Int) (hL : ∀ m, PcV m 2 2 (L m)) : ∀ j : Nat, j ≤ 1000 → hcN L j = j := by
  intro j
  induction j with
  | zero => intro _; rfl
  | succ j ih =>
    intro hj
    obtain ⟨p, hp⟩ := (hL ((j + 1 : Nat) : Int)).1 (pcOk_mk (by omega) (by omega) (by omega) (by omega) (by omega) (by omega))
    obtain ⟨p', hp'⟩ := Pl.happy2 (n := ((j + 1 : Nat) : Int)) (by omega) (by omega)
    unfold hcN
    rw [ih (by omega), (hp.uniq hp').2]
    simp
theorem nar_small {r b : Int} (b1 : 2 ≤ b) (b2 : b ≤ 16) (r0 : 0 ≤ r) (r1 : r < b) : narV r b = decide (0 < r) := by
  have hb := inB_mk b1 b2
  have hr := inB_mk r0 (show r ≤ 1000000000000 by omega)
  by_cases h : r = 0
  · subst h
    unfold narV cdV
    rw [hb, hr, Pl.dg_zero]; rfl
  · unfold narV cdV
    rw [hb, hr, Pl.dg_one b1 (by omega) r1]
    have : Pl.ps 1 [r] = r := by rw [Pl.ps_one]; show r + 0 = r; omega
    have e : (decide (0 < r)) = true := by simp; omega
    rw [e]
    show (inB 1 1 5 && Pl.ps 1 [r] == r) = true
    rw [this]
    simp [inB]
theorem nar_153 : narV 153 10 = true := by
  have hd : Pl.dg 10 153 = [3, 5, 1] := by
    rw [Pl.dg_step (by omega) (by omega), Pl.dg_step (by omega) (by omega), Pl.dg_step (by omega) (by omega), show (153 : Int) / 10 / 10 / 10 = 0 by decide, Pl.dg_zero]; rfl
  unfold narV cdV
  rw [hd, inB_mk (n := 10) (by omega) (by omega), inB_mk (n := 153) (by omega) (by omega)]
  decide
/-- What the law asks of the happy numbers. -/
structure DH (b m : Int) (L : Int → List Int) (k : Int) (q : Bool) (r : Int) : Prop where
  hL : ∀ m, PcV m b 2 (L m)
  hk : chV L b m = k
  hk1 : chV L b (m + 1) = k + btI q
  hq : (L (m + 1) == [1]) = q
  k0 : 0 ≤ k ∧ k ≤ 60
  two : b = 2 → (k == m) = true
  rn : narV (m % b) b = decide (0 < m % b)
theorem dh {b m : Int} (b1 : 2 ≤ b) (b2 : b ≤ 16) (m1 : 0 ≤ m) (m2 : m < 60) : ∃ L k q r, DH b m L k q r := by
  obtain ⟨L, hL⟩ := Classical.skolem.1 (fun m : Int => Cy.pcV_exists m b 2)
  have hL' : ∀ m, Cy.PcV m b 2 (L m) := fun m => (hL m).1
  have hb := inB_mk b1 b2
  have hbd := hcN_bd L m.toNat
  refine ⟨L, hcN L m.toNat, _, 0, hL', ?_, ?_, rfl, by omega, ?_, nar_small b1 b2 (Int.emod_nonneg _ (by omega)) (Int.emod_lt_of_pos _ (by omega))⟩
  · unfold chV; rw [hb, inB_mk m1 (by omega)]; rfl
  · unfold chV; rw [hb, inB_mk (n := m + 1) (by omega) (by omega)]
    have e : hcN L (m.toNat + 1) = hcN L m.toNat + if L ((m.toNat + 1 : Nat) : Int) == [1] then 1 else 0 := rfl
    rw [show ((m.toNat + 1 : Nat) : Int) = m + 1 by omega] at e
    rw [show (m + 1).toNat = m.toNat + 1 by omega]
    exact e
  · rintro rfl
    rw [beq_iff_eq, hc_two L hL' _ (by omega)]
    omega

set_option maxRecDepth 100000 in
set_option maxHeartbeats 2000000 in
theorem walk (a0 : Option Addr) (len0 cap0 : Nat) (z0 : List Int) (w : World) (w0 : IsRow .u8 w a0 len0 cap0 z0) :
    Calls Try.prog 6 #[.slice a0 len0 cap0] w fun e w' => e = .returned (.bool true) ∧ Below w.heap.size w w' := by
  by_cases hbig : 1048576 < len0
  · go_enter Try.func6, Try.ntmps6
    go_wp2
    go_ret
    exact ⟨rfl, Below.refl _ _⟩
  have HR := Lib.hid w0.brd
  clear w0
  go_enter Try.func6, Try.ntmps6
  go_wp2_with fail
  refine (makeBase _ _ _ 0 _ HR.out (by omega) (by omega) (by omega)).mono ?_
  rintro e w1 ⟨⟨b, b1, b2, rfl⟩, hb1⟩
  have HB1 := Lib.hid hb1
  clear hb1
  go_wp2_with fail
  refine (makeNumber _ _ _ 2 _ (HR.out.below HB1.out (Nat.le_refl _)) (by omega) (by omega) (by omega)).mono ?_
  rintro e w2 ⟨⟨n, n1, n2, rfl⟩, hb2⟩
  have HB2 := Lib.hid (HB1.out.trans (hb2.mono HB1.out.size))
  clear hb2
  go_wp2_with fail
  refine (makeNum _ _ _ 12 _ (HR.out.below HB2.out (Nat.le_refl _)) (by omega) (by omega) (by omega)).mono ?_
  rintro e w3 ⟨⟨y, y0, y1, rfl⟩, hb3⟩
  have HB3 := Lib.hid (HB2.out.trans (hb3.mono HB2.out.size))
  clear hb3
  have e1 : 1 ≤ 1 + y % 3 := by omega
  have e2 : 1 + y % 3 ≤ 3 := by omega
  go_wp2_with fail
  generalize 1 + y % 3 = e at *
  obtain ⟨s, l, F⟩ := df b1 b2 n1 (show n ≤ 1000000000000 by omega) e1 (show e ≤ 5 by omega)
  have HF := Lib.hid F
  have ⟨s0, s1⟩ := F.s0
  have ⟨l0, l1⟩ := F.len0
  have l2 : ((l.length : Int) == 0) = false := by rw [beq_eq_false_iff_ne]; omega
  clear F
  refine (iPC _ _ _ _ HF.out.hl _).mono ?_
  rintro e' w4 ⟨v, rfl, hown, hb4⟩
  obtain ⟨ao, cap, rfl, hrd⟩ := hown.shape
  have HRD := Lib.hid hrd
  have HB4 := Lib.hid (HB3.out.trans (hb4.mono HB3.out.size))
  have hcap := hrd.1
  have hcap2 := hrd.2.1
  unfold maxLen at hcap2
  clear hown hb4 hrd
  go_wp2_with fail
  refine (as_int HF.out.hs (iPowerSum _ _ _ _)).mono ?_
  rintro e' w5 ⟨rfl, hb5⟩
  have HRD5 := Lib.hid (HRD.out.below hb5 (Nat.le_refl _))
  have HB5 := Lib.hid (HB4.out.trans (hb5.mono HB4.out.size))
  clear hb5 HRD
  go_wp2_with fail
  refine (iPC _ _ _ _ HF.out.hls _).mono ?_
  rintro e' w6 ⟨v, rfl, hown, hb6⟩
  obtain ⟨ao2, cap2, rfl, hrd2⟩ := hown.shape
  have HRD2 := Lib.hid hrd2
  have HRD6 := Lib.hid (HRD5.out.below hb6 (Nat.le_refl _))
  have HB6 := Lib.hid (HB5.out.trans (hb6.mono HB5.out.size))
  have HSame := Lib.hid (show (l == l) = true by simp)
  clear hown hb6 hrd2 HRD5
  go_wp2_with fail
  refine (as_bool HSame.out (same l l _ _ rfl rfl _ _ _ _ _ HRD6.out HRD2.out)).mono ?_
  rintro e' w7 ⟨rfl, rfl⟩
  clear HRD2
  go_wp2_with fail
  go_loopw [50] (fun vi wr => ∃ k : Nat, k ≤ l.length ∧ vi = .int .i64 k ∧ Below w6.heap.size w6 wr) (fun vi _ => l.length - (intOf vi).toNat)
  case atStart => exact ⟨0, Nat.zero_le _, rfl, Below.refl _ _⟩
  case round =>
    obtain ⟨k, hk, rfl, hbel⟩ := hrel
    have HB7 := Lib.hid hbel
    have HRD7 := Lib.hid (HRD6.out.below hbel (Nat.le_refl _))
    clear hbel
    by_cases hlt : k < l.length
    · have hmod : (k + 1) % l.length < l.length := Nat.mod_lt _ l0
      obtain ⟨g, off, rfl, hg, hc0⟩ := HRD6.out.at l0
      obtain ⟨g', off', eg, _, hc1⟩ := HRD7.out.at hlt
      simp only [Option.some.injEq, Addr.mk.injEq, and_true] at eg
      obtain ⟨rfl, rfl⟩ := eg
      obtain ⟨g', off', eg, _, hc2⟩ := HRD6.out.at hmod
      simp only [Option.some.injEq, Addr.mk.injEq, and_true] at eg
      obtain ⟨rfl, rfl⟩ := eg
      have HNX := Lib.hid (HF.out.nx k hlt)
      have hle := HF.out.hd k hlt
      have hne : 0 < k → l.getD k 0 ≠ l.getD 0 0 := fun h => HF.out.ne k h hlt
      generalize l.getD k 0 = x at *
      generalize l.getD 0 0 = x0 at *
      generalize l.getD ((k + 1) % l.length) 0 = x2 at *
      have HS := Lib.hid (show ∀ wx, Below w6.heap.size w6 wx → Below w6.heap.size w6 wx ∧ wx.cell? ⟨g, off, none⟩ = some (.int .i64 x0) ∧ wx.cell? ⟨g, off + (k + 1) % l.length, none⟩ = some (.int .i64 x2) from
        fun wx hx => ⟨hx, (hx.cell (p := ⟨g, off, none⟩) hg).trans hc0, (hx.cell (p := ⟨g, off + (k + 1) % l.length, none⟩) hg).trans hc2⟩)
      have HPS := Lib.hid (show ∀ wx, Below w6.heap.size w6 wx → Calls Try.prog 22 #[.int .i64 x, .int .i64 b, .int .i64 e] wx fun r w' => r = .returned (.int .i64 x2) ∧ Below w6.heap.size w6 w' from
        fun wx hx => (as_int HNX.out (iPowerSum _ _ _ _)).mono (by
          rintro r w' ⟨rfl, hb⟩
          exact ⟨rfl, hx.trans (hb.mono hx.size)⟩))
      have hw1 : IntKind.i64.wrap ((k : Int) + 1) = (k : Int) + 1 := IntWalk.i64_in _ (by omega)
      have hw2 : ((k : Int) + 1).tmod (l.length : Int) = (((k + 1) % l.length : Nat) : Int) := by
        rw [Int.tmod_eq_emod_of_nonneg (by omega)]; simp
      have hw3 : (0 : Int) ≤ (((k + 1) % l.length : Nat) : Int) := by omega
      have hw4 : (((k + 1) % l.length : Nat) : Int) < (l.length : Int) := by omega
      have hw5 : ¬ ((l.length : Int) = 0) := by omega
      have hw6 : ¬ (l.length = 0) := by omega
      have hk1 : (k : Int) + 1 ≤ (l.length : Int) := by omega
      clear HNX hc0 hc2
      generalize (k + 1) % l.length = k1 at *
      go_upto_region 13 with fail
      go_cut [85] from 55 to 86 (fun v wx => v = .bool false ∧ Below w6.heap.size w6 wx)
      case first =>
        have hd1 : decide (x < x0) = false := by simp; omega
        by_cases hk0 : 0 < k
        · have hne' : (x == x0) = false := by rw [beq_eq_false_iff_ne]; exact hne hk0
          have hk2 : decide ((0 : Int) < (k : Int)) = true := by simp; omega
          clear hne
          go_region_held3 (fun wx => Below w6.heap.size w6 wx ∧ wx.cell? ⟨g, off, none⟩ = some (.int .i64 x0) ∧ wx.cell? ⟨g, off + k1, none⟩ = some (.int .i64 x2))
            (first | exact HS.out _ (Below.drew HB7.out) | exact HS.out _ (by assumption))
            (first | (go_at_call 22; go_split_ands; refine (HPS.out _ (by assumption)).mono ?_; rintro e' w8 ⟨rfl, hb8⟩))
          go_wp2_with fail
          go_meet
          exact ⟨rfl, hb8⟩
        · have hk2 : decide ((0 : Int) < (k : Int)) = false := by simp; omega
          clear hne
          refine wp_region_held_drew (S := (fun wx => Below w6.heap.size w6 wx ∧ wx.cell? ⟨g, off, none⟩ = some (.int .i64 x0) ∧ wx.cell? ⟨g, off + k1, none⟩ = some (.int .i64 x2))) (by kernel_rfl) ?hS1000 (fun hHeld => ?hR1000)
          case hS1000 => ((try dsimp only); (first | exact HS.out _ (Below.drew HB7.out) | exact HS.out _ (by assumption)))
          refine wpAnyH_take (i := 0) (oi := { dst := some 55, op := Go.Op.move (Go.Operand.tmp 9), type := 3, pos := "laws.go:965", after := #[], guard := none }) (v := ?v1001) rfl (by kernel_rfl) (by kernel_rfl) (by kernel_rfl) (fun _ _ _ h => h) (Or.inl ⟨by rfl, ?hy1001⟩) (by assumption) ?hr1001
          case hy1001 => (intro w hSw; (try dsimp only at hSw); go_simp; (try with_reducible rfl))
          (try simp only [Act.put, List.setIfInBounds_toArray, List.set_cons_zero, List.set_cons_succ])
          refine wpAnyH_take (i := 1) (oi := { dst := some 56, op := Go.Op.move (Go.Operand.tmp 3), type := 3, pos := "laws.go:965", after := #[], guard := none }) (v := ?v1002) rfl (by kernel_rfl) (by kernel_rfl) (by kernel_rfl) (fun _ _ _ h => h) (Or.inl ⟨by rfl, ?hy1002⟩) (by assumption) ?hr1002
          case hy1002 => (intro w hSw; (try dsimp only at hSw); go_simp; (try with_reducible rfl))
          (try simp only [Act.put, List.setIfInBounds_toArray, List.set_cons_zero, List.set_cons_succ])
          refine wpAnyH_take (i := 2) (oi := { dst := some 57, op := Go.Op.move (Go.Operand.tmp 5), type := 3, pos := "laws.go:965", after := #[], guard := none }) (v := ?v1003) rfl (by kernel_rfl) (by kernel_rfl) (by kernel_rfl) (fun _ _ _ h => h) (Or.inl ⟨by rfl, ?hy1003⟩) (by assumption) ?hr1003
          case hy1003 => (intro w hSw; (try dsimp only at hSw); go_simp; (try with_reducible rfl))
          (try simp only [Act.put, List.setIfInBounds_toArray, List.set_cons_zero, List.set_cons_succ])
          refine wpAnyH_take (i := 4) (oi := { dst := some 59, op := Go.Op.move (Go.Operand.tmp 6), type := 22, pos := "laws.go:965", after := #[], guard := none }) (v := ?v1004) rfl (by kernel_rfl) (by kernel_rfl) (by kernel_rfl) (fun _ _ _ h => h) (Or.inl ⟨by rfl, ?hy1004⟩) (by assumption) ?hr1004
          case hy1004 => (intro w hSw; (try dsimp only at hSw); go_simp; (try with_reducible rfl))
          (try simp only [Act.put, List.setIfInBounds_toArray, List.set_cons_zero, List.set_cons_succ])
          refine wpAnyH_take (i := 5) (oi := { dst := some 60, op := Go.Op.move (Go.Operand.tmp 8), type := 3, pos := "laws.go:965", after := #[], guard := none }) (v := ?v1005) rfl (by kernel_rfl) (by kernel_rfl) (by kernel_rfl) (fun _ _ _ h => h) (Or.inl ⟨by rfl, ?hy1005⟩) (by assumption) ?hr1005
          case hy1005 => (intro w hSw; (try dsimp only at hSw); go_simp; (try with_reducible rfl))
          (try simp only [Act.put, List.setIfInBounds_toArray, List.set_cons_zero, List.set_cons_succ])
          refine wpAnyH_take (i := 6) (oi := { dst := some 61, op := Go.Op.binOp Go.BinOp.add 3 (Go.Operand.tmp 60) (Go.Operand.const (Go.Value.int Go.IntKind.i64 1)) 3, type := 3, pos := "laws.go:965", after := #[{ on := 5, ground := Go.Ground.data }], guard := none }) (v := ?v1006) rfl (by kernel_rfl) (by kernel_rfl) (by kernel_rfl) (fun _ _ _ h => h) (Or.inl ⟨by rfl, ?hy1006⟩) (by assumption) ?hr1006
          case hy1006 => (intro w hSw; (try dsimp only at hSw); go_simp; (try with_reducible rfl))
          (try simp only [Act.put, List.setIfInBounds_toArray, List.set_cons_zero, List.set_cons_succ])
          refine wpAnyH_take (i := 7) (oi := { dst := some 62, op := Go.Op.move (Go.Operand.tmp 6), type := 22, pos := "laws.go:965", after := #[], guard := none }) (v := ?v1007) rfl (by kernel_rfl) (by kernel_rfl) (by kernel_rfl) (fun _ _ _ h => h) (Or.inl ⟨by rfl, ?hy1007⟩) (by assumption) ?hr1007
          case hy1007 => (intro w hSw; (try dsimp only at hSw); go_simp; (try with_reducible rfl))
          (try simp only [Act.put, List.setIfInBounds_toArray, List.set_cons_zero, List.set_cons_succ])
          refine wpAnyH_take (i := 8) (oi := { dst := some 63, op := Go.Op.call { callee := Go.Callee.builtin Go.Builtin.len, args := #[Go.Operand.tmp 62], argTypes := #[22] }, type := 3, pos := "laws.go:965", after := #[{ on := 7, ground := Go.Ground.data }], guard := none }) (v := ?v1008) rfl (by kernel_rfl) (by kernel_rfl) (by kernel_rfl) (fun _ _ _ h => h) (Or.inl ⟨by rfl, ?hy1008⟩) (by assumption) ?hr1008
          case hy1008 => (intro w hSw; (try dsimp only at hSw); go_simp; (try with_reducible rfl))
          (try simp only [Act.put, List.setIfInBounds_toArray, List.set_cons_zero, List.set_cons_succ])
          refine wpAnyH_take (i := 9) (oi := { dst := some 64, op := Go.Op.binOp Go.BinOp.rem 3 (Go.Operand.tmp 61) (Go.Operand.tmp 63) 3, type := 3, pos := "laws.go:965", after := #[{ on := 6, ground := Go.Ground.data }, { on := 8, ground := Go.Ground.data }], guard := none }) (v := ?v1009) rfl (by kernel_rfl) (by kernel_rfl) (by kernel_rfl) (fun _ _ _ h => h) (Or.inl ⟨by rfl, ?hy1009⟩) (by assumption) ?hr1009
          case hy1009 => (intro w hSw; (try dsimp only at hSw); go_simp; (try with_reducible rfl))
          (try simp only [Act.put, List.setIfInBounds_toArray, List.set_cons_zero, List.set_cons_succ])
          refine wpAnyH_take (i := 10) (oi := { dst := some 65, op := Go.Op.indexAddr 22 (Go.Operand.tmp 59) (Go.Operand.tmp 64), type := 0, pos := "laws.go:965", after := #[{ on := 4, ground := Go.Ground.data }, { on := 9, ground := Go.Ground.data }], guard := none }) (v := ?v1010) rfl (by kernel_rfl) (by kernel_rfl) (by kernel_rfl) (fun _ _ _ h => h) (Or.inl ⟨by rfl, ?hy1010⟩) (by assumption) ?hr1010
          case hy1010 => (intro w hSw; (try dsimp only at hSw); go_simp; (try with_reducible rfl))
          (try simp only [Act.put, List.setIfInBounds_toArray, List.set_cons_zero, List.set_cons_succ])
          refine wpAnyH_take (i := 11) (oi := { dst := some 66, op := Go.Op.load 3 (Go.Operand.tmp 65), type := 3, pos := "laws.go:965", after := #[{ on := 10, ground := Go.Ground.data }], guard := none }) (v := ?v1011) rfl (by kernel_rfl) (by kernel_rfl) (by kernel_rfl) (fun _ _ _ h => h) (Or.inl ⟨by rfl, ?hy1011⟩) (by assumption) ?hr1011
          case hy1011 => (intro w hSw; (try dsimp only at hSw); go_simp; (try with_reducible rfl))
          (try simp only [Act.put, List.setIfInBounds_toArray, List.set_cons_zero, List.set_cons_succ])
          refine wpAnyH_ready (rs := [3]) (by kernel_rfl) (by simp) ?_
          refine AllReadyH.cons (o := { dst := some 58, op := Go.Op.call { callee := Go.Callee.value (Go.Operand.func 22), args := #[Go.Operand.tmp 55, Go.Operand.tmp 56, Go.Operand.tmp 57], argTypes := #[3, 3, 3] }, type := 3, pos := "laws.go:965", after := #[{ on := 0, ground := Go.Ground.data }, { on := 1, ground := Go.Ground.data }, { on := 2, ground := Go.Ground.data }], guard := none }) rfl (fun K hK => ?_) AllReadyH.nil
          go_simp
          (go_at_call 22; refine (HPS.out _ (by exact hHeld.1)).mono ?_; rintro e' w8 ⟨rfl, hb8⟩)
          (try go_wp2_with fail)
          refine hK.out _ _ ?hS1012 (fun hHeld => ?hR1012)
          case hS1012 => ((try dsimp only); (first | exact HS.out _ (Below.drew HB7.out) | exact HS.out _ (by assumption)))
          clear hK K
          (try simp only [Act.put, List.setIfInBounds_toArray, List.set_cons_zero, List.set_cons_succ])
          refine wpAnyH_take (i := 12) (oi := { dst := some 67, op := Go.Op.binOp Go.BinOp.neq 3 (Go.Operand.tmp 58) (Go.Operand.tmp 66) 3, type := 4, pos := "laws.go:965", after := #[{ on := 3, ground := Go.Ground.data }, { on := 11, ground := Go.Ground.data }], guard := none }) (v := ?v1013) rfl (by kernel_rfl) (by kernel_rfl) (by kernel_rfl) (fun _ _ _ h => h) (Or.inl ⟨by rfl, ?hy1013⟩) (by assumption) ?hr1013
          case hy1013 => (intro w hSw; (try dsimp only at hSw); go_simp; (try with_reducible rfl))
          (try simp only [Act.put, List.setIfInBounds_toArray, List.set_cons_zero, List.set_cons_succ])
          refine wpAnyH_take (i := 13) (oi := { dst := some 68, op := Go.Op.move (Go.Operand.tmp 67), type := 4, pos := "laws.go:965", after := #[{ on := 12, ground := Go.Ground.data }, { on := 3, ground := Go.Ground.chain }], guard := none }) (v := ?v1014) rfl (by kernel_rfl) (by kernel_rfl) (by kernel_rfl) (fun _ _ _ h => h) (Or.inl ⟨by rfl, ?hy1014⟩) (by assumption) ?hr1014
          case hy1014 => (intro w hSw; (try dsimp only at hSw); go_simp; (try with_reducible rfl))
          (try simp only [Act.put, List.setIfInBounds_toArray, List.set_cons_zero, List.set_cons_succ])
          refine wpAnyH_take (i := 14) (oi := { dst := some 69, op := Go.Op.move (Go.Operand.tmp 9), type := 3, pos := "laws.go:965", after := #[{ on := 13, ground := Go.Ground.guard }], guard := some (13, false) }) (v := ?v1015) rfl (by kernel_rfl) (by kernel_rfl) (by kernel_rfl) (fun _ _ _ h => h) (Or.inl ⟨by rfl, ?hy1015⟩) (by assumption) ?hr1015
          case hy1015 => (intro w hSw; (try dsimp only at hSw); go_simp; (try with_reducible rfl))
          (try simp only [Act.put, List.setIfInBounds_toArray, List.set_cons_zero, List.set_cons_succ])
          refine wpAnyH_take (i := 15) (oi := { dst := some 70, op := Go.Op.move (Go.Operand.tmp 6), type := 22, pos := "laws.go:965", after := #[{ on := 13, ground := Go.Ground.guard }], guard := some (13, false) }) (v := ?v1016) rfl (by kernel_rfl) (by kernel_rfl) (by kernel_rfl) (fun _ _ _ h => h) (Or.inl ⟨by rfl, ?hy1016⟩) (by assumption) ?hr1016
          case hy1016 => (intro w hSw; (try dsimp only at hSw); go_simp; (try with_reducible rfl))
          (try simp only [Act.put, List.setIfInBounds_toArray, List.set_cons_zero, List.set_cons_succ])
          refine wpAnyH_take (i := 16) (oi := { dst := some 71, op := Go.Op.indexAddr 22 (Go.Operand.tmp 70) (Go.Operand.const (Go.Value.int Go.IntKind.i64 0)), type := 0, pos := "laws.go:965", after := #[{ on := 15, ground := Go.Ground.data }, { on := 13, ground := Go.Ground.guard }], guard := some (13, false) }) (v := ?v1017) rfl (by kernel_rfl) (by kernel_rfl) (by kernel_rfl) (fun _ _ _ h => h) (Or.inl ⟨by rfl, ?hy1017⟩) (by assumption) ?hr1017
          case hy1017 => (intro w hSw; (try dsimp only at hSw); go_simp; (try with_reducible rfl))
          (try simp only [Act.put, List.setIfInBounds_toArray, List.set_cons_zero, List.set_cons_succ])
          refine wpAnyH_take (i := 17) (oi := { dst := some 72, op := Go.Op.load 3 (Go.Operand.tmp 71), type := 3, pos := "laws.go:965", after := #[{ on := 16, ground := Go.Ground.data }, { on := 13, ground := Go.Ground.guard }], guard := some (13, false) }) (v := ?v1018) rfl (by kernel_rfl) (by kernel_rfl) (by kernel_rfl) (fun _ _ _ h => h) (Or.inl ⟨by rfl, ?hy1018⟩) (by assumption) ?hr1018
          case hy1018 => (intro w hSw; (try dsimp only at hSw); go_simp; (try with_reducible rfl))
          (try simp only [Act.put, List.setIfInBounds_toArray, List.set_cons_zero, List.set_cons_succ])
          refine wpAnyH_take (i := 18) (oi := { dst := some 73, op := Go.Op.binOp Go.BinOp.lss 3 (Go.Operand.tmp 69) (Go.Operand.tmp 72) 3, type := 4, pos := "laws.go:965", after := #[{ on := 14, ground := Go.Ground.data }, { on := 17, ground := Go.Ground.data }, { on := 13, ground := Go.Ground.guard }], guard := some (13, false) }) (v := ?v1019) rfl (by kernel_rfl) (by kernel_rfl) (by kernel_rfl) (fun _ _ _ h => h) (Or.inl ⟨by rfl, ?hy1019⟩) (by assumption) ?hr1019
          case hy1019 => (intro w hSw; (try dsimp only at hSw); go_simp; (try with_reducible rfl))
          (try simp only [Act.put, List.setIfInBounds_toArray, List.set_cons_zero, List.set_cons_succ])
          refine wpAnyH_take (i := 19) (oi := { dst := some 74, op := Go.Op.pick (Go.Operand.tmp 68) (Go.Operand.const (Go.Value.bool true)) (Go.Operand.tmp 73), type := 4, pos := "laws.go:965", after := #[{ on := 13, ground := Go.Ground.data }, { on := 18, ground := Go.Ground.data }], guard := none }) (v := ?v1020) rfl (by kernel_rfl) (by kernel_rfl) (by kernel_rfl) (fun _ _ _ h => h) (Or.inl ⟨by rfl, ?hy1020⟩) (by assumption) ?hr1020
          case hy1020 => (intro w hSw; (try dsimp only at hSw); go_simp; (try with_reducible rfl))
          (try simp only [Act.put, List.setIfInBounds_toArray, List.set_cons_zero, List.set_cons_succ])
          refine wpAnyH_take (i := 20) (oi := { dst := some 75, op := Go.Op.move (Go.Operand.tmp 74), type := 4, pos := "laws.go:965", after := #[{ on := 19, ground := Go.Ground.data }, { on := 13, ground := Go.Ground.chain }], guard := none }) (v := ?v1021) rfl (by kernel_rfl) (by kernel_rfl) (by kernel_rfl) (fun _ _ _ h => h) (Or.inl ⟨by rfl, ?hy1021⟩) (by assumption) ?hr1021
          case hy1021 => (intro w hSw; (try dsimp only at hSw); go_simp; (try with_reducible rfl))
          (try simp only [Act.put, List.setIfInBounds_toArray, List.set_cons_zero, List.set_cons_succ])
          refine wpAnyH_take (i := 21) (oi := { dst := some 76, op := Go.Op.move (Go.Operand.tmp 8), type := 3, pos := "laws.go:965", after := #[{ on := 20, ground := Go.Ground.guard }], guard := some (20, false) }) (v := ?v1022) rfl (by kernel_rfl) (by kernel_rfl) (by kernel_rfl) (fun _ _ _ h => h) (Or.inl ⟨by rfl, ?hy1022⟩) (by assumption) ?hr1022
          case hy1022 => (intro w hSw; (try dsimp only at hSw); go_simp; (try with_reducible rfl))
          (try simp only [Act.put, List.setIfInBounds_toArray, List.set_cons_zero, List.set_cons_succ])
          refine wpAnyH_take (i := 22) (oi := { dst := some 77, op := Go.Op.binOp Go.BinOp.gtr 3 (Go.Operand.tmp 76) (Go.Operand.const (Go.Value.int Go.IntKind.i64 0)) 3, type := 4, pos := "laws.go:965", after := #[{ on := 21, ground := Go.Ground.data }, { on := 20, ground := Go.Ground.guard }], guard := some (20, false) }) (v := ?v1023) rfl (by kernel_rfl) (by kernel_rfl) (by kernel_rfl) (fun _ _ _ h => h) (Or.inl ⟨by rfl, ?hy1023⟩) (by assumption) ?hr1023
          case hy1023 => (intro w hSw; (try dsimp only at hSw); go_simp; (try with_reducible rfl))
          (try simp only [Act.put, List.setIfInBounds_toArray, List.set_cons_zero, List.set_cons_succ])
          refine wpAnyH_take (i := 23) (oi := { dst := some 78, op := Go.Op.move (Go.Operand.tmp 77), type := 4, pos := "laws.go:965", after := #[{ on := 22, ground := Go.Ground.data }, { on := 20, ground := Go.Ground.chain }, { on := 20, ground := Go.Ground.guard }], guard := some (20, false) }) (v := ?v1024) rfl (by kernel_rfl) (by kernel_rfl) (by kernel_rfl) (fun _ _ _ h => h) (Or.inl ⟨by rfl, ?hy1024⟩) (by assumption) ?hr1024
          case hy1024 => (intro w hSw; (try dsimp only at hSw); go_simp; (try with_reducible rfl))
          (try simp only [Act.put, List.setIfInBounds_toArray, List.set_cons_zero, List.set_cons_succ])
          refine wpAnyH_take (i := 24) (oi := { dst := some 79, op := Go.Op.move (Go.Operand.tmp 9), type := 3, pos := "laws.go:965", after := #[{ on := 23, ground := Go.Ground.guard }], guard := some (23, true) }) (v := undef) rfl (by kernel_rfl) (by kernel_rfl) (by kernel_rfl) (fun _ _ _ h => h) (Or.inr ⟨by rfl, rfl⟩) (by assumption) ?_
          (try simp only [Act.put, List.setIfInBounds_toArray, List.set_cons_zero, List.set_cons_succ])
          refine wpAnyH_take (i := 25) (oi := { dst := some 80, op := Go.Op.move (Go.Operand.tmp 6), type := 22, pos := "laws.go:965", after := #[{ on := 23, ground := Go.Ground.guard }], guard := some (23, true) }) (v := undef) rfl (by kernel_rfl) (by kernel_rfl) (by kernel_rfl) (fun _ _ _ h => h) (Or.inr ⟨by rfl, rfl⟩) (by assumption) ?_
          (try simp only [Act.put, List.setIfInBounds_toArray, List.set_cons_zero, List.set_cons_succ])
          refine wpAnyH_take (i := 26) (oi := { dst := some 81, op := Go.Op.indexAddr 22 (Go.Operand.tmp 80) (Go.Operand.const (Go.Value.int Go.IntKind.i64 0)), type := 0, pos := "laws.go:965", after := #[{ on := 25, ground := Go.Ground.data }, { on := 23, ground := Go.Ground.guard }], guard := some (23, true) }) (v := undef) rfl (by kernel_rfl) (by kernel_rfl) (by kernel_rfl) (fun _ _ _ h => h) (Or.inr ⟨by rfl, rfl⟩) (by assumption) ?_
          (try simp only [Act.put, List.setIfInBounds_toArray, List.set_cons_zero, List.set_cons_succ])
          refine wpAnyH_take (i := 27) (oi := { dst := some 82, op := Go.Op.load 3 (Go.Operand.tmp 81), type := 3, pos := "laws.go:965", after := #[{ on := 26, ground := Go.Ground.data }, { on := 23, ground := Go.Ground.guard }], guard := some (23, true) }) (v := undef) rfl (by kernel_rfl) (by kernel_rfl) (by kernel_rfl) (fun _ _ _ h => h) (Or.inr ⟨by rfl, rfl⟩) (by assumption) ?_
          (try simp only [Act.put, List.setIfInBounds_toArray, List.set_cons_zero, List.set_cons_succ])
          refine wpAnyH_take (i := 28) (oi := { dst := some 83, op := Go.Op.binOp Go.BinOp.eql 3 (Go.Operand.tmp 79) (Go.Operand.tmp 82) 3, type := 4, pos := "laws.go:965", after := #[{ on := 24, ground := Go.Ground.data }, { on := 27, ground := Go.Ground.data }, { on := 23, ground := Go.Ground.guard }], guard := some (23, true) }) (v := undef) rfl (by kernel_rfl) (by kernel_rfl) (by kernel_rfl) (fun _ _ _ h => h) (Or.inr ⟨by rfl, rfl⟩) (by assumption) ?_
          (try simp only [Act.put, List.setIfInBounds_toArray, List.set_cons_zero, List.set_cons_succ])
          refine wpAnyH_take (i := 29) (oi := { dst := some 84, op := Go.Op.pick (Go.Operand.tmp 78) (Go.Operand.tmp 83) (Go.Operand.const (Go.Value.bool false)), type := 4, pos := "laws.go:965", after := #[{ on := 23, ground := Go.Ground.data }, { on := 28, ground := Go.Ground.data }, { on := 20, ground := Go.Ground.guard }], guard := some (20, false) }) (v := ?v1030) rfl (by kernel_rfl) (by kernel_rfl) (by kernel_rfl) (fun _ _ _ h => h) (Or.inl ⟨by rfl, ?hy1030⟩) (by assumption) ?hr1030
          case hy1030 => (intro w hSw; (try dsimp only at hSw); go_simp; (try with_reducible rfl))
          (try simp only [Act.put, List.setIfInBounds_toArray, List.set_cons_zero, List.set_cons_succ])
          refine wpAnyH_take (i := 30) (oi := { dst := some 85, op := Go.Op.pick (Go.Operand.tmp 75) (Go.Operand.const (Go.Value.bool true)) (Go.Operand.tmp 84), type := 4, pos := "laws.go:965", after := #[{ on := 20, ground := Go.Ground.data }, { on := 29, ground := Go.Ground.data }], guard := none }) (v := ?v1031) rfl (by kernel_rfl) (by kernel_rfl) (by kernel_rfl) (fun _ _ _ h => h) (Or.inl ⟨by rfl, ?hy1031⟩) (by assumption) ?hr1031
          case hy1031 => (intro w hSw; (try dsimp only at hSw); go_simp; (try with_reducible rfl))
          (try simp only [Act.put, List.setIfInBounds_toArray, List.set_cons_zero, List.set_cons_succ])
          refine wpAnyH_done (by kernel_rfl) ?_ _
          go_wp2_with fail
          go_meet
          exact ⟨rfl, hb8⟩
      case rest =>
        obtain ⟨rfl, hb8⟩ := hcut
        clear HRD7 HS HPS hw1 hw2 hw3 hw4 hw5 hw6 hne hle
        go_wp2
        go_roundw
        case rel => exact ⟨k + 1, by omega, by go_num, hb8⟩
        case measure => simp [intOf]; omega
    · have HB8 := Lib.hid (HB6.out.trans (HB7.out.mono HB6.out.size))
      obtain ⟨d, hd⟩ : ∃ d, drootV n b = d := ⟨_, rfl⟩
      have HD := Lib.hid hd
      have HONE := Lib.hid (hd ▸ one_cyc b1 b2 n1 (show n ≤ 1000000000000 by omega))
      have hkl : ¬ k < l.length := hlt
      clear hd HRD6 HRD7 HB7 hlt hcap hcap2
      go_wp2_with fail
      refine (iPC _ _ _ _ HONE.out _).mono ?_
      rintro e' w9 ⟨v, rfl, hown, hb9⟩
      obtain ⟨ao3, cap3, rfl, hrd3⟩ := hown.shape
      obtain ⟨g3, off3, rfl, hg3, hc3⟩ := hrd3.at (show 0 < [d].length by simp)
      have HG := Lib.hid hg3
      have HC3 := Lib.hid (show w9.cell? ⟨g3, off3, none⟩ = some (.int .i64 d) from hc3)
      have HB9 := Lib.hid (HB8.out.trans (hb9.mono HB8.out.size))
      have hcap := hrd3.1
      have hcap2 := hrd3.2.1
      simp only [List.length_cons, List.length_nil, Nat.zero_add] at hcap ⊢
      unfold maxLen at hcap2
      clear hown hb9 hrd3 hg3 hc3
      go_wp2_with fail
      refine (makeNum _ _ _ 14 _ (HR.out.below HB9.out (Nat.le_refl _)) (by omega) (by omega) (by omega)).mono ?_
      rintro e' w10 ⟨⟨z, z0, z1, rfl⟩, hb10⟩
      have HB10 := Lib.hid (HB9.out.trans (hb10.mono HB9.out.size))
      have HB10' := Lib.hid hb10
      clear hb10
      have m1 := Pl.mod_nn (a := z) (show (0 : Int) < 60 by omega)
      have m2 := Pl.mod_lt (a := z) (show (0 : Int) < 60 by omega)
      go_wp2_with fail
      generalize z % 60 = m at *
      obtain ⟨L, kk, q, r, G⟩ := dh b1 b2 m1 m2
      have HH := Lib.hid G
      have ⟨k0, k1⟩ := G.k0
      clear G
      refine (as_int HH.out.hk (iCH _ _ _ HH.out.hL _)).mono ?_
      rintro e' w11 ⟨rfl, hb11⟩
      have HB11 := Lib.hid (HB10.out.trans (hb11.mono HB10.out.size))
      have HS := Lib.hid (show ∀ wx, Below w11.heap.size w11 wx → Below w11.heap.size w11 wx ∧ wx.cell? ⟨g3, off3, none⟩ = some (.int .i64 d) from
        fun wx hx => ⟨hx, (hx.cell (p := ⟨g3, off3, none⟩) (Nat.lt_of_lt_of_le HG.out (Nat.le_trans HB10'.out.size hb11.size))).trans ((hb11.cell (p := ⟨g3, off3, none⟩) (Nat.lt_of_lt_of_le HG.out HB10'.out.size)).trans ((HB10'.out.cell (p := ⟨g3, off3, none⟩) HG.out).trans HC3.out))⟩)
      have HA1 := Lib.hid (ext_b w11 (fun wx => as_int HD.out (iDigitRoot n b wx)))
      have HA2 := Lib.hid (ext_b w11 (fun wx => as_int HH.out.hk1 (iCH b (m + 1) L HH.out.hL wx)))
      have HA3 := Lib.hid (ext_b w11 (fun wx => as_bool HH.out.hq (iHappy (m + 1) b (L (m + 1)) (HH.out.hL _) wx)))
      have HA4 := Lib.hid (ext_q w11 (fun wx => btoi q wx))
      have HA5 := Lib.hid (ext_b w11 (fun wx => as_bool nar_153 (iIsNar 153 10 wx)))
      have HA6 := Lib.hid (ext_b w11 (fun wx => as_bool HH.out.rn (iIsNar (m % b) b wx)))
      have HFin := Lib.hid (Below.refl w11.heap.size w11)
      clear hb11
      have hq0 : 0 ≤ btI q ∧ btI q ≤ 1 := by unfold btI; split <;> omega
      have ⟨hq1, hq2⟩ := hq0
      have hw1 : IntKind.i64.wrap (m + 1) = m + 1 := IntWalk.i64_in _ (by omega)
      have hw2 : IntKind.i64.wrap (kk + btI q) = kk + btI q := IntWalk.i64_in _ (by omega)
      have hw3 : m.tmod b = m % b := Int.tmod_eq_emod_of_nonneg m1
      have hw4 : ¬ (b = 0) := by omega
      have hd2 : decide (0 ≤ kk) = true := by simp; omega
      clear hq0
      go_upto_region 19 with fail
      by_cases hb2 : b = 2
      · have hb3 : (b != 2) = false := by rw [hb2]; rfl
        have hkm := HH.out.two hb2
        clear hb2
        refine wp_region_held_drew (S := (fun wx => Below w11.heap.size w11 wx ∧ wx.cell? ⟨g3, off3, none⟩ = some (.int .i64 d))) (by kernel_rfl) ?hS2000 (fun hHeld => ?hR2000)
        case hS2000 => ((try dsimp only); (first | exact HS.out _ (Below.drew HFin.out) | exact HS.out _ (by assumption)))
        refine wpAnyH_take (i := 0) (oi := { dst := some 96, op := Go.Op.move (Go.Operand.tmp 10), type := 22, pos := "laws.go:972", after := #[], guard := none }) (v := ?v2001) rfl (by kernel_rfl) (by kernel_rfl) (by kernel_rfl) (fun _ _ _ h => h) (Or.inl ⟨by rfl, ?hy2001⟩) (by assumption) ?hr2001
        case hy2001 => (intro w hSw; (try dsimp only at hSw); go_simp; (try with_reducible rfl))
        (try simp only [Act.put, List.setIfInBounds_toArray, List.set_cons_zero, List.set_cons_succ])
        refine wpAnyH_take (i := 1) (oi := { dst := some 97, op := Go.Op.call { callee := Go.Callee.builtin Go.Builtin.len, args := #[Go.Operand.tmp 96], argTypes := #[22] }, type := 3, pos := "laws.go:972", after := #[{ on := 0, ground := Go.Ground.data }], guard := none }) (v := ?v2002) rfl (by kernel_rfl) (by kernel_rfl) (by kernel_rfl) (fun _ _ _ h => h) (Or.inl ⟨by rfl, ?hy2002⟩) (by assumption) ?hr2002
        case hy2002 => (intro w hSw; (try dsimp only at hSw); go_simp; (try with_reducible rfl))
        (try simp only [Act.put, List.setIfInBounds_toArray, List.set_cons_zero, List.set_cons_succ])
        refine wpAnyH_take (i := 2) (oi := { dst := some 98, op := Go.Op.binOp Go.BinOp.eql 3 (Go.Operand.tmp 97) (Go.Operand.const (Go.Value.int Go.IntKind.i64 1)) 3, type := 4, pos := "laws.go:972", after := #[{ on := 1, ground := Go.Ground.data }], guard := none }) (v := ?v2003) rfl (by kernel_rfl) (by kernel_rfl) (by kernel_rfl) (fun _ _ _ h => h) (Or.inl ⟨by rfl, ?hy2003⟩) (by assumption) ?hr2003
        case hy2003 => (intro w hSw; (try dsimp only at hSw); go_simp; (try with_reducible rfl))
        (try simp only [Act.put, List.setIfInBounds_toArray, List.set_cons_zero, List.set_cons_succ])
        refine wpAnyH_take (i := 3) (oi := { dst := some 99, op := Go.Op.move (Go.Operand.tmp 98), type := 4, pos := "laws.go:972", after := #[{ on := 2, ground := Go.Ground.data }], guard := none }) (v := ?v2004) rfl (by kernel_rfl) (by kernel_rfl) (by kernel_rfl) (fun _ _ _ h => h) (Or.inl ⟨by rfl, ?hy2004⟩) (by assumption) ?hr2004
        case hy2004 => (intro w hSw; (try dsimp only at hSw); go_simp; (try with_reducible rfl))
        (try simp only [Act.put, List.setIfInBounds_toArray, List.set_cons_zero, List.set_cons_succ])
        refine wpAnyH_take (i := 4) (oi := { dst := some 100, op := Go.Op.move (Go.Operand.tmp 10), type := 22, pos := "laws.go:972", after := #[{ on := 3, ground := Go.Ground.guard }], guard := some (3, true) }) (v := ?v2005) rfl (by kernel_rfl) (by kernel_rfl) (by kernel_rfl) (fun _ _ _ h => h) (Or.inl ⟨by rfl, ?hy2005⟩) (by assumption) ?hr2005
        case hy2005 => (intro w hSw; (try dsimp only at hSw); go_simp; (try with_reducible rfl))
        (try simp only [Act.put, List.setIfInBounds_toArray, List.set_cons_zero, List.set_cons_succ])
        refine wpAnyH_take (i := 5) (oi := { dst := some 101, op := Go.Op.indexAddr 22 (Go.Operand.tmp 100) (Go.Operand.const (Go.Value.int Go.IntKind.i64 0)), type := 0, pos := "laws.go:972", after := #[{ on := 4, ground := Go.Ground.data }, { on := 3, ground := Go.Ground.guard }], guard := some (3, true) }) (v := ?v2006) rfl (by kernel_rfl) (by kernel_rfl) (by kernel_rfl) (fun _ _ _ h => h) (Or.inl ⟨by rfl, ?hy2006⟩) (by assumption) ?hr2006
        case hy2006 => (intro w hSw; (try dsimp only at hSw); go_simp; (try with_reducible rfl))
        (try simp only [Act.put, List.setIfInBounds_toArray, List.set_cons_zero, List.set_cons_succ])
        refine wpAnyH_take (i := 6) (oi := { dst := some 102, op := Go.Op.load 3 (Go.Operand.tmp 101), type := 3, pos := "laws.go:972", after := #[{ on := 5, ground := Go.Ground.data }, { on := 3, ground := Go.Ground.guard }], guard := some (3, true) }) (v := ?v2007) rfl (by kernel_rfl) (by kernel_rfl) (by kernel_rfl) (fun _ _ _ h => h) (Or.inl ⟨by rfl, ?hy2007⟩) (by assumption) ?hr2007
        case hy2007 => (intro w hSw; (try dsimp only at hSw); go_simp; (try with_reducible rfl))
        (try simp only [Act.put, List.setIfInBounds_toArray, List.set_cons_zero, List.set_cons_succ])
        refine wpAnyH_take (i := 7) (oi := { dst := some 103, op := Go.Op.move (Go.Operand.tmp 4), type := 3, pos := "laws.go:972", after := #[{ on := 3, ground := Go.Ground.guard }], guard := some (3, true) }) (v := ?v2008) rfl (by kernel_rfl) (by kernel_rfl) (by kernel_rfl) (fun _ _ _ h => h) (Or.inl ⟨by rfl, ?hy2008⟩) (by assumption) ?hr2008
        case hy2008 => (intro w hSw; (try dsimp only at hSw); go_simp; (try with_reducible rfl))
        (try simp only [Act.put, List.setIfInBounds_toArray, List.set_cons_zero, List.set_cons_succ])
        refine wpAnyH_take (i := 8) (oi := { dst := some 104, op := Go.Op.move (Go.Operand.tmp 3), type := 3, pos := "laws.go:972", after := #[{ on := 3, ground := Go.Ground.guard }], guard := some (3, true) }) (v := ?v2009) rfl (by kernel_rfl) (by kernel_rfl) (by kernel_rfl) (fun _ _ _ h => h) (Or.inl ⟨by rfl, ?hy2009⟩) (by assumption) ?hr2009
        case hy2009 => (intro w hSw; (try dsimp only at hSw); go_simp; (try with_reducible rfl))
        (try simp only [Act.put, List.setIfInBounds_toArray, List.set_cons_zero, List.set_cons_succ])
        refine wpAnyH_ready (rs := [9]) (by kernel_rfl) (by simp) ?_
        refine AllReadyH.cons (o := { dst := some 105, op := Go.Op.call { callee := Go.Callee.value (Go.Operand.func 24), args := #[Go.Operand.tmp 103, Go.Operand.tmp 104], argTypes := #[3, 3] }, type := 3, pos := "laws.go:972", after := #[{ on := 7, ground := Go.Ground.data }, { on := 8, ground := Go.Ground.data }, { on := 3, ground := Go.Ground.chain }, { on := 3, ground := Go.Ground.guard }], guard := some (3, true) }) rfl (fun K hK => ?_) AllReadyH.nil
        go_simp
        (go_at_call 24; refine (HA1.out _ (by exact hHeld.1)).mono ?_; rintro e' w12 ⟨rfl, hb12⟩)
        (try go_wp2_with fail)
        refine hK.out _ _ ?hS2010 (fun hHeld => ?hR2010)
        case hS2010 => ((try dsimp only); (first | exact HS.out _ (Below.drew HFin.out) | exact HS.out _ (by assumption)))
        clear hK K
        (try simp only [Act.put, List.setIfInBounds_toArray, List.set_cons_zero, List.set_cons_succ])
        refine wpAnyH_take (i := 10) (oi := { dst := some 106, op := Go.Op.binOp Go.BinOp.eql 3 (Go.Operand.tmp 102) (Go.Operand.tmp 105) 3, type := 4, pos := "laws.go:972", after := #[{ on := 6, ground := Go.Ground.data }, { on := 9, ground := Go.Ground.data }, { on := 3, ground := Go.Ground.guard }], guard := some (3, true) }) (v := ?v2011) rfl (by kernel_rfl) (by kernel_rfl) (by kernel_rfl) (fun _ _ _ h => h) (Or.inl ⟨by rfl, ?hy2011⟩) (by assumption) ?hr2011
        case hy2011 => (intro w hSw; (try dsimp only at hSw); go_simp; (try with_reducible rfl))
        (try simp only [Act.put, List.setIfInBounds_toArray, List.set_cons_zero, List.set_cons_succ])
        refine wpAnyH_take (i := 11) (oi := { dst := some 107, op := Go.Op.pick (Go.Operand.tmp 99) (Go.Operand.tmp 106) (Go.Operand.const (Go.Value.bool false)), type := 4, pos := "laws.go:972", after := #[{ on := 3, ground := Go.Ground.data }, { on := 10, ground := Go.Ground.data }], guard := none }) (v := ?v2012) rfl (by kernel_rfl) (by kernel_rfl) (by kernel_rfl) (fun _ _ _ h => h) (Or.inl ⟨by rfl, ?hy2012⟩) (by assumption) ?hr2012
        case hy2012 => (intro w hSw; (try dsimp only at hSw); go_simp; (try with_reducible rfl))
        (try simp only [Act.put, List.setIfInBounds_toArray, List.set_cons_zero, List.set_cons_succ])
        refine wpAnyH_take (i := 12) (oi := { dst := some 108, op := Go.Op.move (Go.Operand.tmp 107), type := 4, pos := "laws.go:972", after := #[{ on := 11, ground := Go.Ground.data }, { on := 9, ground := Go.Ground.chain }], guard := none }) (v := ?v2013) rfl (by kernel_rfl) (by kernel_rfl) (by kernel_rfl) (fun _ _ _ h => h) (Or.inl ⟨by rfl, ?hy2013⟩) (by assumption) ?hr2013
        case hy2013 => (intro w hSw; (try dsimp only at hSw); go_simp; (try with_reducible rfl))
        (try simp only [Act.put, List.setIfInBounds_toArray, List.set_cons_zero, List.set_cons_succ])
        refine wpAnyH_take (i := 13) (oi := { dst := some 109, op := Go.Op.move (Go.Operand.tmp 3), type := 3, pos := "laws.go:972", after := #[{ on := 12, ground := Go.Ground.guard }], guard := some (12, true) }) (v := ?v2014) rfl (by kernel_rfl) (by kernel_rfl) (by kernel_rfl) (fun _ _ _ h => h) (Or.inl ⟨by rfl, ?hy2014⟩) (by assumption) ?hr2014
        case hy2014 => (intro w hSw; (try dsimp only at hSw); go_simp; (try with_reducible rfl))
        (try simp only [Act.put, List.setIfInBounds_toArray, List.set_cons_zero, List.set_cons_succ])
        refine wpAnyH_take (i := 14) (oi := { dst := some 110, op := Go.Op.move (Go.Operand.tmp 11), type := 3, pos := "laws.go:972", after := #[{ on := 12, ground := Go.Ground.guard }], guard := some (12, true) }) (v := ?v2015) rfl (by kernel_rfl) (by kernel_rfl) (by kernel_rfl) (fun _ _ _ h => h) (Or.inl ⟨by rfl, ?hy2015⟩) (by assumption) ?hr2015
        case hy2015 => (intro w hSw; (try dsimp only at hSw); go_simp; (try with_reducible rfl))
        (try simp only [Act.put, List.setIfInBounds_toArray, List.set_cons_zero, List.set_cons_succ])
        refine wpAnyH_take (i := 15) (oi := { dst := some 111, op := Go.Op.binOp Go.BinOp.add 3 (Go.Operand.tmp 110) (Go.Operand.const (Go.Value.int Go.IntKind.i64 1)) 3, type := 3, pos := "laws.go:972", after := #[{ on := 14, ground := Go.Ground.data }, { on := 12, ground := Go.Ground.guard }], guard := some (12, true) }) (v := ?v2016) rfl (by kernel_rfl) (by kernel_rfl) (by kernel_rfl) (fun _ _ _ h => h) (Or.inl ⟨by rfl, ?hy2016⟩) (by assumption) ?hr2016
        case hy2016 => (intro w hSw; (try dsimp only at hSw); go_simp; (try with_reducible rfl))
        (try simp only [Act.put, List.setIfInBounds_toArray, List.set_cons_zero, List.set_cons_succ])
        refine wpAnyH_take (i := 17) (oi := { dst := some 113, op := Go.Op.move (Go.Operand.tmp 12), type := 3, pos := "laws.go:972", after := #[{ on := 12, ground := Go.Ground.guard }], guard := some (12, true) }) (v := ?v2017) rfl (by kernel_rfl) (by kernel_rfl) (by kernel_rfl) (fun _ _ _ h => h) (Or.inl ⟨by rfl, ?hy2017⟩) (by assumption) ?hr2017
        case hy2017 => (intro w hSw; (try dsimp only at hSw); go_simp; (try with_reducible rfl))
        (try simp only [Act.put, List.setIfInBounds_toArray, List.set_cons_zero, List.set_cons_succ])
        refine wpAnyH_take (i := 18) (oi := { dst := some 114, op := Go.Op.move (Go.Operand.tmp 11), type := 3, pos := "laws.go:972", after := #[{ on := 12, ground := Go.Ground.guard }], guard := some (12, true) }) (v := ?v2018) rfl (by kernel_rfl) (by kernel_rfl) (by kernel_rfl) (fun _ _ _ h => h) (Or.inl ⟨by rfl, ?hy2018⟩) (by assumption) ?hr2018
        case hy2018 => (intro w hSw; (try dsimp only at hSw); go_simp; (try with_reducible rfl))
        (try simp only [Act.put, List.setIfInBounds_toArray, List.set_cons_zero, List.set_cons_succ])
        refine wpAnyH_take (i := 19) (oi := { dst := some 115, op := Go.Op.binOp Go.BinOp.add 3 (Go.Operand.tmp 114) (Go.Operand.const (Go.Value.int Go.IntKind.i64 1)) 3, type := 3, pos := "laws.go:972", after := #[{ on := 18, ground := Go.Ground.data }, { on := 12, ground := Go.Ground.guard }], guard := some (12, true) }) (v := ?v2019) rfl (by kernel_rfl) (by kernel_rfl) (by kernel_rfl) (fun _ _ _ h => h) (Or.inl ⟨by rfl, ?hy2019⟩) (by assumption) ?hr2019
        case hy2019 => (intro w hSw; (try dsimp only at hSw); go_simp; (try with_reducible rfl))
        (try simp only [Act.put, List.setIfInBounds_toArray, List.set_cons_zero, List.set_cons_succ])
        refine wpAnyH_take (i := 20) (oi := { dst := some 116, op := Go.Op.move (Go.Operand.tmp 3), type := 3, pos := "laws.go:972", after := #[{ on := 12, ground := Go.Ground.guard }], guard := some (12, true) }) (v := ?v2020) rfl (by kernel_rfl) (by kernel_rfl) (by kernel_rfl) (fun _ _ _ h => h) (Or.inl ⟨by rfl, ?hy2020⟩) (by assumption) ?hr2020
        case hy2020 => (intro w hSw; (try dsimp only at hSw); go_simp; (try with_reducible rfl))
        (try simp only [Act.put, List.setIfInBounds_toArray, List.set_cons_zero, List.set_cons_succ])
        refine wpAnyH_ready (rs := [16]) (by kernel_rfl) (by simp) ?_
        refine AllReadyH.cons (o := { dst := some 112, op := Go.Op.call { callee := Go.Callee.value (Go.Operand.func 18), args := #[Go.Operand.tmp 109, Go.Operand.tmp 111], argTypes := #[3, 3] }, type := 3, pos := "laws.go:972", after := #[{ on := 13, ground := Go.Ground.data }, { on := 15, ground := Go.Ground.data }, { on := 12, ground := Go.Ground.chain }, { on := 12, ground := Go.Ground.guard }], guard := some (12, true) }) rfl (fun K hK => ?_) AllReadyH.nil
        go_simp
        (go_at_call 18; refine (HA2.out _ (by exact hHeld.1)).mono ?_; rintro e' w13 ⟨rfl, hb13⟩)
        (try go_wp2_with fail)
        refine hK.out _ _ ?hS2021 (fun hHeld => ?hR2021)
        case hS2021 => ((try dsimp only); (first | exact HS.out _ (Below.drew HFin.out) | exact HS.out _ (by assumption)))
        clear hK K
        (try simp only [Act.put, List.setIfInBounds_toArray, List.set_cons_zero, List.set_cons_succ])
        refine wpAnyH_ready (rs := [21]) (by kernel_rfl) (by simp) ?_
        refine AllReadyH.cons (o := { dst := some 117, op := Go.Op.call { callee := Go.Callee.value (Go.Operand.func 16), args := #[Go.Operand.tmp 115, Go.Operand.tmp 116], argTypes := #[3, 3] }, type := 4, pos := "laws.go:972", after := #[{ on := 19, ground := Go.Ground.data }, { on := 20, ground := Go.Ground.data }, { on := 16, ground := Go.Ground.chain }, { on := 12, ground := Go.Ground.guard }], guard := some (12, true) }) rfl (fun K hK => ?_) AllReadyH.nil
        go_simp
        (go_at_call 16; refine (HA3.out _ (by exact hHeld.1)).mono ?_; rintro e' w14 ⟨rfl, hb14⟩)
        (try go_wp2_with fail)
        refine hK.out _ _ ?hS2022 (fun hHeld => ?hR2022)
        case hS2022 => ((try dsimp only); (first | exact HS.out _ (Below.drew HFin.out) | exact HS.out _ (by assumption)))
        clear hK K
        (try simp only [Act.put, List.setIfInBounds_toArray, List.set_cons_zero, List.set_cons_succ])
        refine wpAnyH_ready (rs := [22]) (by kernel_rfl) (by simp) ?_
        refine AllReadyH.cons (o := { dst := some 118, op := Go.Op.call { callee := Go.Callee.value (Go.Operand.func 25), args := #[Go.Operand.tmp 117], argTypes := #[4] }, type := 3, pos := "laws.go:972", after := #[{ on := 21, ground := Go.Ground.data }, { on := 21, ground := Go.Ground.chain }, { on := 12, ground := Go.Ground.guard }], guard := some (12, true) }) rfl (fun K hK => ?_) AllReadyH.nil
        go_simp
        (go_at_call 25; refine (HA4.out _ (by exact hHeld.1)).mono ?_; rintro e' w15 ⟨rfl, hb15⟩)
        (try go_wp2_with fail)
        refine hK.out _ _ ?hS2023 (fun hHeld => ?hR2023)
        case hS2023 => ((try dsimp only); (first | exact HS.out _ (Below.drew HFin.out) | exact HS.out _ (by assumption)))
        clear hK K
        (try simp only [Act.put, List.setIfInBounds_toArray, List.set_cons_zero, List.set_cons_succ])
        refine wpAnyH_take (i := 23) (oi := { dst := some 119, op := Go.Op.binOp Go.BinOp.add 3 (Go.Operand.tmp 113) (Go.Operand.tmp 118) 3, type := 3, pos := "laws.go:972", after := #[{ on := 17, ground := Go.Ground.data }, { on := 22, ground := Go.Ground.data }, { on := 12, ground := Go.Ground.guard }], guard := some (12, true) }) (v := ?v2024) rfl (by kernel_rfl) (by kernel_rfl) (by kernel_rfl) (fun _ _ _ h => h) (Or.inl ⟨by rfl, ?hy2024⟩) (by assumption) ?hr2024
        case hy2024 => (intro w hSw; (try dsimp only at hSw); go_simp; (try with_reducible rfl))
        (try simp only [Act.put, List.setIfInBounds_toArray, List.set_cons_zero, List.set_cons_succ])
        refine wpAnyH_take (i := 24) (oi := { dst := some 120, op := Go.Op.binOp Go.BinOp.eql 3 (Go.Operand.tmp 112) (Go.Operand.tmp 119) 3, type := 4, pos := "laws.go:972", after := #[{ on := 16, ground := Go.Ground.data }, { on := 23, ground := Go.Ground.data }, { on := 12, ground := Go.Ground.guard }], guard := some (12, true) }) (v := ?v2025) rfl (by kernel_rfl) (by kernel_rfl) (by kernel_rfl) (fun _ _ _ h => h) (Or.inl ⟨by rfl, ?hy2025⟩) (by assumption) ?hr2025
        case hy2025 => (intro w hSw; (try dsimp only at hSw); go_simp; (try with_reducible rfl))
        (try simp only [Act.put, List.setIfInBounds_toArray, List.set_cons_zero, List.set_cons_succ])
        refine wpAnyH_take (i := 25) (oi := { dst := some 121, op := Go.Op.pick (Go.Operand.tmp 108) (Go.Operand.tmp 120) (Go.Operand.const (Go.Value.bool false)), type := 4, pos := "laws.go:972", after := #[{ on := 12, ground := Go.Ground.data }, { on := 24, ground := Go.Ground.data }], guard := none }) (v := ?v2026) rfl (by kernel_rfl) (by kernel_rfl) (by kernel_rfl) (fun _ _ _ h => h) (Or.inl ⟨by rfl, ?hy2026⟩) (by assumption) ?hr2026
        case hy2026 => (intro w hSw; (try dsimp only at hSw); go_simp; (try with_reducible rfl))
        (try simp only [Act.put, List.setIfInBounds_toArray, List.set_cons_zero, List.set_cons_succ])
        refine wpAnyH_take (i := 26) (oi := { dst := some 122, op := Go.Op.move (Go.Operand.tmp 121), type := 4, pos := "laws.go:972", after := #[{ on := 25, ground := Go.Ground.data }, { on := 22, ground := Go.Ground.chain }], guard := none }) (v := ?v2027) rfl (by kernel_rfl) (by kernel_rfl) (by kernel_rfl) (fun _ _ _ h => h) (Or.inl ⟨by rfl, ?hy2027⟩) (by assumption) ?hr2027
        case hy2027 => (intro w hSw; (try dsimp only at hSw); go_simp; (try with_reducible rfl))
        (try simp only [Act.put, List.setIfInBounds_toArray, List.set_cons_zero, List.set_cons_succ])
        refine wpAnyH_take (i := 27) (oi := { dst := some 123, op := Go.Op.move (Go.Operand.tmp 12), type := 3, pos := "laws.go:972", after := #[{ on := 26, ground := Go.Ground.guard }], guard := some (26, true) }) (v := ?v2028) rfl (by kernel_rfl) (by kernel_rfl) (by kernel_rfl) (fun _ _ _ h => h) (Or.inl ⟨by rfl, ?hy2028⟩) (by assumption) ?hr2028
        case hy2028 => (intro w hSw; (try dsimp only at hSw); go_simp; (try with_reducible rfl))
        (try simp only [Act.put, List.setIfInBounds_toArray, List.set_cons_zero, List.set_cons_succ])
        refine wpAnyH_take (i := 28) (oi := { dst := some 124, op := Go.Op.binOp Go.BinOp.geq 3 (Go.Operand.tmp 123) (Go.Operand.const (Go.Value.int Go.IntKind.i64 0)) 3, type := 4, pos := "laws.go:972", after := #[{ on := 27, ground := Go.Ground.data }, { on := 26, ground := Go.Ground.guard }], guard := some (26, true) }) (v := ?v2029) rfl (by kernel_rfl) (by kernel_rfl) (by kernel_rfl) (fun _ _ _ h => h) (Or.inl ⟨by rfl, ?hy2029⟩) (by assumption) ?hr2029
        case hy2029 => (intro w hSw; (try dsimp only at hSw); go_simp; (try with_reducible rfl))
        (try simp only [Act.put, List.setIfInBounds_toArray, List.set_cons_zero, List.set_cons_succ])
        refine wpAnyH_take (i := 29) (oi := { dst := some 125, op := Go.Op.pick (Go.Operand.tmp 122) (Go.Operand.tmp 124) (Go.Operand.const (Go.Value.bool false)), type := 4, pos := "laws.go:972", after := #[{ on := 26, ground := Go.Ground.data }, { on := 28, ground := Go.Ground.data }], guard := none }) (v := ?v2030) rfl (by kernel_rfl) (by kernel_rfl) (by kernel_rfl) (fun _ _ _ h => h) (Or.inl ⟨by rfl, ?hy2030⟩) (by assumption) ?hr2030
        case hy2030 => (intro w hSw; (try dsimp only at hSw); go_simp; (try with_reducible rfl))
        (try simp only [Act.put, List.setIfInBounds_toArray, List.set_cons_zero, List.set_cons_succ])
        refine wpAnyH_take (i := 30) (oi := { dst := some 126, op := Go.Op.move (Go.Operand.tmp 125), type := 4, pos := "laws.go:972", after := #[{ on := 29, ground := Go.Ground.data }, { on := 26, ground := Go.Ground.chain }], guard := none }) (v := ?v2031) rfl (by kernel_rfl) (by kernel_rfl) (by kernel_rfl) (fun _ _ _ h => h) (Or.inl ⟨by rfl, ?hy2031⟩) (by assumption) ?hr2031
        case hy2031 => (intro w hSw; (try dsimp only at hSw); go_simp; (try with_reducible rfl))
        (try simp only [Act.put, List.setIfInBounds_toArray, List.set_cons_zero, List.set_cons_succ])
        refine wpAnyH_take (i := 31) (oi := { dst := some 127, op := Go.Op.move (Go.Operand.tmp 3), type := 3, pos := "laws.go:972", after := #[{ on := 30, ground := Go.Ground.guard }], guard := some (30, true) }) (v := ?v2032) rfl (by kernel_rfl) (by kernel_rfl) (by kernel_rfl) (fun _ _ _ h => h) (Or.inl ⟨by rfl, ?hy2032⟩) (by assumption) ?hr2032
        case hy2032 => (intro w hSw; (try dsimp only at hSw); go_simp; (try with_reducible rfl))
        (try simp only [Act.put, List.setIfInBounds_toArray, List.set_cons_zero, List.set_cons_succ])
        refine wpAnyH_take (i := 32) (oi := { dst := some 128, op := Go.Op.binOp Go.BinOp.neq 3 (Go.Operand.tmp 127) (Go.Operand.const (Go.Value.int Go.IntKind.i64 2)) 3, type := 4, pos := "laws.go:972", after := #[{ on := 31, ground := Go.Ground.data }, { on := 30, ground := Go.Ground.guard }], guard := some (30, true) }) (v := ?v2033) rfl (by kernel_rfl) (by kernel_rfl) (by kernel_rfl) (fun _ _ _ h => h) (Or.inl ⟨by rfl, ?hy2033⟩) (by assumption) ?hr2033
        case hy2033 => (intro w hSw; (try dsimp only at hSw); go_simp; (try with_reducible rfl))
        (try simp only [Act.put, List.setIfInBounds_toArray, List.set_cons_zero, List.set_cons_succ])
        refine wpAnyH_take (i := 33) (oi := { dst := some 129, op := Go.Op.move (Go.Operand.tmp 128), type := 4, pos := "laws.go:972", after := #[{ on := 32, ground := Go.Ground.data }, { on := 30, ground := Go.Ground.chain }, { on := 30, ground := Go.Ground.guard }], guard := some (30, true) }) (v := ?v2034) rfl (by kernel_rfl) (by kernel_rfl) (by kernel_rfl) (fun _ _ _ h => h) (Or.inl ⟨by rfl, ?hy2034⟩) (by assumption) ?hr2034
        case hy2034 => (intro w hSw; (try dsimp only at hSw); go_simp; (try with_reducible rfl))
        (try simp only [Act.put, List.setIfInBounds_toArray, List.set_cons_zero, List.set_cons_succ])
        refine wpAnyH_take (i := 34) (oi := { dst := some 130, op := Go.Op.move (Go.Operand.tmp 12), type := 3, pos := "laws.go:972", after := #[{ on := 33, ground := Go.Ground.guard }], guard := some (33, false) }) (v := ?v2035) rfl (by kernel_rfl) (by kernel_rfl) (by kernel_rfl) (fun _ _ _ h => h) (Or.inl ⟨by rfl, ?hy2035⟩) (by assumption) ?hr2035
        case hy2035 => (intro w hSw; (try dsimp only at hSw); go_simp; (try with_reducible rfl))
        (try simp only [Act.put, List.setIfInBounds_toArray, List.set_cons_zero, List.set_cons_succ])
        refine wpAnyH_take (i := 35) (oi := { dst := some 131, op := Go.Op.move (Go.Operand.tmp 11), type := 3, pos := "laws.go:972", after := #[{ on := 33, ground := Go.Ground.guard }], guard := some (33, false) }) (v := ?v2036) rfl (by kernel_rfl) (by kernel_rfl) (by kernel_rfl) (fun _ _ _ h => h) (Or.inl ⟨by rfl, ?hy2036⟩) (by assumption) ?hr2036
        case hy2036 => (intro w hSw; (try dsimp only at hSw); go_simp; (try with_reducible rfl))
        (try simp only [Act.put, List.setIfInBounds_toArray, List.set_cons_zero, List.set_cons_succ])
        refine wpAnyH_take (i := 36) (oi := { dst := some 132, op := Go.Op.binOp Go.BinOp.eql 3 (Go.Operand.tmp 130) (Go.Operand.tmp 131) 3, type := 4, pos := "laws.go:972", after := #[{ on := 34, ground := Go.Ground.data }, { on := 35, ground := Go.Ground.data }, { on := 33, ground := Go.Ground.guard }], guard := some (33, false) }) (v := ?v2037) rfl (by kernel_rfl) (by kernel_rfl) (by kernel_rfl) (fun _ _ _ h => h) (Or.inl ⟨by rfl, ?hy2037⟩) (by assumption) ?hr2037
        case hy2037 => (intro w hSw; (try dsimp only at hSw); go_simp; (try with_reducible rfl))
        (try simp only [Act.put, List.setIfInBounds_toArray, List.set_cons_zero, List.set_cons_succ])
        refine wpAnyH_take (i := 37) (oi := { dst := some 133, op := Go.Op.pick (Go.Operand.tmp 129) (Go.Operand.const (Go.Value.bool true)) (Go.Operand.tmp 132), type := 4, pos := "laws.go:972", after := #[{ on := 33, ground := Go.Ground.data }, { on := 36, ground := Go.Ground.data }, { on := 30, ground := Go.Ground.guard }], guard := some (30, true) }) (v := ?v2038) rfl (by kernel_rfl) (by kernel_rfl) (by kernel_rfl) (fun _ _ _ h => h) (Or.inl ⟨by rfl, ?hy2038⟩) (by assumption) ?hr2038
        case hy2038 => (intro w hSw; (try dsimp only at hSw); go_simp; (try with_reducible rfl))
        (try simp only [Act.put, List.setIfInBounds_toArray, List.set_cons_zero, List.set_cons_succ])
        refine wpAnyH_take (i := 38) (oi := { dst := some 134, op := Go.Op.pick (Go.Operand.tmp 126) (Go.Operand.tmp 133) (Go.Operand.const (Go.Value.bool false)), type := 4, pos := "laws.go:972", after := #[{ on := 30, ground := Go.Ground.data }, { on := 37, ground := Go.Ground.data }], guard := none }) (v := ?v2039) rfl (by kernel_rfl) (by kernel_rfl) (by kernel_rfl) (fun _ _ _ h => h) (Or.inl ⟨by rfl, ?hy2039⟩) (by assumption) ?hr2039
        case hy2039 => (intro w hSw; (try dsimp only at hSw); go_simp; (try with_reducible rfl))
        (try simp only [Act.put, List.setIfInBounds_toArray, List.set_cons_zero, List.set_cons_succ])
        refine wpAnyH_take (i := 39) (oi := { dst := some 135, op := Go.Op.move (Go.Operand.tmp 134), type := 4, pos := "laws.go:972", after := #[{ on := 38, ground := Go.Ground.data }, { on := 33, ground := Go.Ground.chain }], guard := none }) (v := ?v2040) rfl (by kernel_rfl) (by kernel_rfl) (by kernel_rfl) (fun _ _ _ h => h) (Or.inl ⟨by rfl, ?hy2040⟩) (by assumption) ?hr2040
        case hy2040 => (intro w hSw; (try dsimp only at hSw); go_simp; (try with_reducible rfl))
        (try simp only [Act.put, List.setIfInBounds_toArray, List.set_cons_zero, List.set_cons_succ])
        refine wpAnyH_ready (rs := [40]) (by kernel_rfl) (by simp) ?_
        refine AllReadyH.cons (o := { dst := some 136, op := Go.Op.call { callee := Go.Callee.value (Go.Operand.func 26), args := #[Go.Operand.const (Go.Value.int Go.IntKind.i64 153), Go.Operand.const (Go.Value.int Go.IntKind.i64 10)], argTypes := #[3, 3] }, type := 4, pos := "laws.go:972", after := #[{ on := 39, ground := Go.Ground.chain }, { on := 39, ground := Go.Ground.guard }], guard := some (39, true) }) rfl (fun K hK => ?_) AllReadyH.nil
        go_simp
        (go_at_call 26; refine (HA5.out _ (by exact hHeld.1)).mono ?_; rintro e' w16 ⟨rfl, hb16⟩)
        (try go_wp2_with fail)
        refine hK.out _ _ ?hS2041 (fun hHeld => ?hR2041)
        case hS2041 => ((try dsimp only); (first | exact HS.out _ (Below.drew HFin.out) | exact HS.out _ (by assumption)))
        clear hK K
        (try simp only [Act.put, List.setIfInBounds_toArray, List.set_cons_zero, List.set_cons_succ])
        refine wpAnyH_take (i := 41) (oi := { dst := some 137, op := Go.Op.pick (Go.Operand.tmp 135) (Go.Operand.tmp 136) (Go.Operand.const (Go.Value.bool false)), type := 4, pos := "laws.go:972", after := #[{ on := 39, ground := Go.Ground.data }, { on := 40, ground := Go.Ground.data }], guard := none }) (v := ?v2042) rfl (by kernel_rfl) (by kernel_rfl) (by kernel_rfl) (fun _ _ _ h => h) (Or.inl ⟨by rfl, ?hy2042⟩) (by assumption) ?hr2042
        case hy2042 => (intro w hSw; (try dsimp only at hSw); go_simp; (try with_reducible rfl))
        (try simp only [Act.put, List.setIfInBounds_toArray, List.set_cons_zero, List.set_cons_succ])
        refine wpAnyH_take (i := 42) (oi := { dst := some 138, op := Go.Op.move (Go.Operand.tmp 137), type := 4, pos := "laws.go:972", after := #[{ on := 41, ground := Go.Ground.data }, { on := 40, ground := Go.Ground.chain }], guard := none }) (v := ?v2043) rfl (by kernel_rfl) (by kernel_rfl) (by kernel_rfl) (fun _ _ _ h => h) (Or.inl ⟨by rfl, ?hy2043⟩) (by assumption) ?hr2043
        case hy2043 => (intro w hSw; (try dsimp only at hSw); go_simp; (try with_reducible rfl))
        (try simp only [Act.put, List.setIfInBounds_toArray, List.set_cons_zero, List.set_cons_succ])
        refine wpAnyH_take (i := 43) (oi := { dst := some 139, op := Go.Op.move (Go.Operand.tmp 11), type := 3, pos := "laws.go:972", after := #[{ on := 42, ground := Go.Ground.guard }], guard := some (42, true) }) (v := ?v2044) rfl (by kernel_rfl) (by kernel_rfl) (by kernel_rfl) (fun _ _ _ h => h) (Or.inl ⟨by rfl, ?hy2044⟩) (by assumption) ?hr2044
        case hy2044 => (intro w hSw; (try dsimp only at hSw); go_simp; (try with_reducible rfl))
        (try simp only [Act.put, List.setIfInBounds_toArray, List.set_cons_zero, List.set_cons_succ])
        refine wpAnyH_take (i := 44) (oi := { dst := some 140, op := Go.Op.move (Go.Operand.tmp 3), type := 3, pos := "laws.go:972", after := #[{ on := 42, ground := Go.Ground.guard }], guard := some (42, true) }) (v := ?v2045) rfl (by kernel_rfl) (by kernel_rfl) (by kernel_rfl) (fun _ _ _ h => h) (Or.inl ⟨by rfl, ?hy2045⟩) (by assumption) ?hr2045
        case hy2045 => (intro w hSw; (try dsimp only at hSw); go_simp; (try with_reducible rfl))
        (try simp only [Act.put, List.setIfInBounds_toArray, List.set_cons_zero, List.set_cons_succ])
        refine wpAnyH_take (i := 45) (oi := { dst := some 141, op := Go.Op.binOp Go.BinOp.rem 3 (Go.Operand.tmp 139) (Go.Operand.tmp 140) 3, type := 3, pos := "laws.go:972", after := #[{ on := 43, ground := Go.Ground.data }, { on := 44, ground := Go.Ground.data }, { on := 42, ground := Go.Ground.guard }], guard := some (42, true) }) (v := ?v2046) rfl (by kernel_rfl) (by kernel_rfl) (by kernel_rfl) (fun _ _ _ h => h) (Or.inl ⟨by rfl, ?hy2046⟩) (by assumption) ?hr2046
        case hy2046 => (intro w hSw; (try dsimp only at hSw); go_simp; (try with_reducible rfl))
        (try simp only [Act.put, List.setIfInBounds_toArray, List.set_cons_zero, List.set_cons_succ])
        refine wpAnyH_take (i := 46) (oi := { dst := some 142, op := Go.Op.move (Go.Operand.tmp 3), type := 3, pos := "laws.go:972", after := #[{ on := 42, ground := Go.Ground.guard }], guard := some (42, true) }) (v := ?v2047) rfl (by kernel_rfl) (by kernel_rfl) (by kernel_rfl) (fun _ _ _ h => h) (Or.inl ⟨by rfl, ?hy2047⟩) (by assumption) ?hr2047
        case hy2047 => (intro w hSw; (try dsimp only at hSw); go_simp; (try with_reducible rfl))
        (try simp only [Act.put, List.setIfInBounds_toArray, List.set_cons_zero, List.set_cons_succ])
        refine wpAnyH_take (i := 48) (oi := { dst := some 144, op := Go.Op.move (Go.Operand.tmp 11), type := 3, pos := "laws.go:972", after := #[{ on := 42, ground := Go.Ground.guard }], guard := some (42, true) }) (v := ?v2048) rfl (by kernel_rfl) (by kernel_rfl) (by kernel_rfl) (fun _ _ _ h => h) (Or.inl ⟨by rfl, ?hy2048⟩) (by assumption) ?hr2048
        case hy2048 => (intro w hSw; (try dsimp only at hSw); go_simp; (try with_reducible rfl))
        (try simp only [Act.put, List.setIfInBounds_toArray, List.set_cons_zero, List.set_cons_succ])
        refine wpAnyH_take (i := 49) (oi := { dst := some 145, op := Go.Op.move (Go.Operand.tmp 3), type := 3, pos := "laws.go:972", after := #[{ on := 42, ground := Go.Ground.guard }], guard := some (42, true) }) (v := ?v2049) rfl (by kernel_rfl) (by kernel_rfl) (by kernel_rfl) (fun _ _ _ h => h) (Or.inl ⟨by rfl, ?hy2049⟩) (by assumption) ?hr2049
        case hy2049 => (intro w hSw; (try dsimp only at hSw); go_simp; (try with_reducible rfl))
        (try simp only [Act.put, List.setIfInBounds_toArray, List.set_cons_zero, List.set_cons_succ])
        refine wpAnyH_take (i := 50) (oi := { dst := some 146, op := Go.Op.binOp Go.BinOp.rem 3 (Go.Operand.tmp 144) (Go.Operand.tmp 145) 3, type := 3, pos := "laws.go:972", after := #[{ on := 48, ground := Go.Ground.data }, { on := 49, ground := Go.Ground.data }, { on := 42, ground := Go.Ground.guard }], guard := some (42, true) }) (v := ?v2050) rfl (by kernel_rfl) (by kernel_rfl) (by kernel_rfl) (fun _ _ _ h => h) (Or.inl ⟨by rfl, ?hy2050⟩) (by assumption) ?hr2050
        case hy2050 => (intro w hSw; (try dsimp only at hSw); go_simp; (try with_reducible rfl))
        (try simp only [Act.put, List.setIfInBounds_toArray, List.set_cons_zero, List.set_cons_succ])
        refine wpAnyH_take (i := 51) (oi := { dst := some 147, op := Go.Op.binOp Go.BinOp.gtr 3 (Go.Operand.tmp 146) (Go.Operand.const (Go.Value.int Go.IntKind.i64 0)) 3, type := 4, pos := "laws.go:972", after := #[{ on := 50, ground := Go.Ground.data }, { on := 42, ground := Go.Ground.guard }], guard := some (42, true) }) (v := ?v2051) rfl (by kernel_rfl) (by kernel_rfl) (by kernel_rfl) (fun _ _ _ h => h) (Or.inl ⟨by rfl, ?hy2051⟩) (by assumption) ?hr2051
        case hy2051 => (intro w hSw; (try dsimp only at hSw); go_simp; (try with_reducible rfl))
        (try simp only [Act.put, List.setIfInBounds_toArray, List.set_cons_zero, List.set_cons_succ])
        refine wpAnyH_ready (rs := [47]) (by kernel_rfl) (by simp) ?_
        refine AllReadyH.cons (o := { dst := some 143, op := Go.Op.call { callee := Go.Callee.value (Go.Operand.func 26), args := #[Go.Operand.tmp 141, Go.Operand.tmp 142], argTypes := #[3, 3] }, type := 4, pos := "laws.go:972", after := #[{ on := 45, ground := Go.Ground.data }, { on := 46, ground := Go.Ground.data }, { on := 42, ground := Go.Ground.chain }, { on := 42, ground := Go.Ground.guard }], guard := some (42, true) }) rfl (fun K hK => ?_) AllReadyH.nil
        go_simp
        (go_at_call 26; refine (HA6.out _ (by exact hHeld.1)).mono ?_; rintro e' w17 ⟨rfl, hb17⟩)
        (try go_wp2_with fail)
        refine hK.out _ _ ?hS2052 (fun hHeld => ?hR2052)
        case hS2052 => ((try dsimp only); (first | exact HS.out _ (Below.drew HFin.out) | exact HS.out _ (by assumption)))
        clear hK K
        (try simp only [Act.put, List.setIfInBounds_toArray, List.set_cons_zero, List.set_cons_succ])
        refine wpAnyH_take (i := 52) (oi := { dst := some 148, op := Go.Op.binOp Go.BinOp.eql 4 (Go.Operand.tmp 143) (Go.Operand.tmp 147) 4, type := 4, pos := "laws.go:972", after := #[{ on := 47, ground := Go.Ground.data }, { on := 51, ground := Go.Ground.data }, { on := 42, ground := Go.Ground.guard }], guard := some (42, true) }) (v := ?v2053) rfl (by kernel_rfl) (by kernel_rfl) (by kernel_rfl) (fun _ _ _ h => h) (Or.inl ⟨by rfl, ?hy2053⟩) (by assumption) ?hr2053
        case hy2053 => (intro w hSw; (try dsimp only at hSw); go_simp; (try with_reducible rfl))
        (try simp only [Act.put, List.setIfInBounds_toArray, List.set_cons_zero, List.set_cons_succ])
        refine wpAnyH_take (i := 53) (oi := { dst := some 149, op := Go.Op.pick (Go.Operand.tmp 138) (Go.Operand.tmp 148) (Go.Operand.const (Go.Value.bool false)), type := 4, pos := "laws.go:972", after := #[{ on := 42, ground := Go.Ground.data }, { on := 52, ground := Go.Ground.data }], guard := none }) (v := ?v2054) rfl (by kernel_rfl) (by kernel_rfl) (by kernel_rfl) (fun _ _ _ h => h) (Or.inl ⟨by rfl, ?hy2054⟩) (by assumption) ?hr2054
        case hy2054 => (intro w hSw; (try dsimp only at hSw); go_simp; (try with_reducible rfl))
        (try simp only [Act.put, List.setIfInBounds_toArray, List.set_cons_zero, List.set_cons_succ])
        refine wpAnyH_take (i := 54) (oi := { dst := some 2, op := Go.Op.assign (Go.Operand.tmp 149), type := 4, pos := "laws.go:972", after := #[{ on := 53, ground := Go.Ground.data }, { on := 47, ground := Go.Ground.chain }, { on := 0, ground := Go.Ground.phase }, { on := 1, ground := Go.Ground.phase }, { on := 2, ground := Go.Ground.phase }, { on := 3, ground := Go.Ground.phase }, { on := 4, ground := Go.Ground.phase }, { on := 5, ground := Go.Ground.phase }, { on := 6, ground := Go.Ground.phase }, { on := 7, ground := Go.Ground.phase }, { on := 8, ground := Go.Ground.phase }, { on := 9, ground := Go.Ground.phase }, { on := 10, ground := Go.Ground.phase }, { on := 11, ground := Go.Ground.phase }, { on := 12, ground := Go.Ground.phase }, { on := 13, ground := Go.Ground.phase }, { on := 14, ground := Go.Ground.phase }, { on := 15, ground := Go.Ground.phase }, { on := 16, ground := Go.Ground.phase }, { on := 17, ground := Go.Ground.phase }, { on := 18, ground := Go.Ground.phase }, { on := 19, ground := Go.Ground.phase }, { on := 20, ground := Go.Ground.phase }, { on := 21, ground := Go.Ground.phase }, { on := 22, ground := Go.Ground.phase }, { on := 23, ground := Go.Ground.phase }, { on := 24, ground := Go.Ground.phase }, { on := 25, ground := Go.Ground.phase }, { on := 26, ground := Go.Ground.phase }, { on := 27, ground := Go.Ground.phase }, { on := 28, ground := Go.Ground.phase }, { on := 29, ground := Go.Ground.phase }, { on := 30, ground := Go.Ground.phase }, { on := 31, ground := Go.Ground.phase }, { on := 32, ground := Go.Ground.phase }, { on := 33, ground := Go.Ground.phase }, { on := 34, ground := Go.Ground.phase }, { on := 35, ground := Go.Ground.phase }, { on := 36, ground := Go.Ground.phase }, { on := 37, ground := Go.Ground.phase }, { on := 38, ground := Go.Ground.phase }, { on := 39, ground := Go.Ground.phase }, { on := 40, ground := Go.Ground.phase }, { on := 41, ground := Go.Ground.phase }, { on := 42, ground := Go.Ground.phase }, { on := 43, ground := Go.Ground.phase }, { on := 44, ground := Go.Ground.phase }, { on := 45, ground := Go.Ground.phase }, { on := 46, ground := Go.Ground.phase }, { on := 47, ground := Go.Ground.phase }, { on := 48, ground := Go.Ground.phase }, { on := 49, ground := Go.Ground.phase }, { on := 50, ground := Go.Ground.phase }, { on := 51, ground := Go.Ground.phase }, { on := 52, ground := Go.Ground.phase }, { on := 53, ground := Go.Ground.phase }], guard := none }) (v := ?v2055) rfl (by kernel_rfl) (by kernel_rfl) (by kernel_rfl) (fun _ _ _ h => h) (Or.inl ⟨by rfl, ?hy2055⟩) (by assumption) ?hr2055
        case hy2055 => (intro w hSw; (try dsimp only at hSw); go_simp; (try with_reducible rfl))
        (try simp only [Act.put, List.setIfInBounds_toArray, List.set_cons_zero, List.set_cons_succ])
        refine wpAnyH_done (by kernel_rfl) ?_ _
        go_wp2
        go_ret
        exact ⟨by first | rfl | simp, HB11.out.trans (hb17.mono HB11.out.size)⟩
      · have hb3 : (b != 2) = true := by simp; exact hb2
        clear hb2
        refine wp_region_held_drew (S := (fun wx => Below w11.heap.size w11 wx ∧ wx.cell? ⟨g3, off3, none⟩ = some (.int .i64 d))) (by kernel_rfl) ?hS3000 (fun hHeld => ?hR3000)
        case hS3000 => ((try dsimp only); (first | exact HS.out _ (Below.drew HFin.out) | exact HS.out _ (by assumption)))
        refine wpAnyH_take (i := 0) (oi := { dst := some 96, op := Go.Op.move (Go.Operand.tmp 10), type := 22, pos := "laws.go:972", after := #[], guard := none }) (v := ?v3001) rfl (by kernel_rfl) (by kernel_rfl) (by kernel_rfl) (fun _ _ _ h => h) (Or.inl ⟨by rfl, ?hy3001⟩) (by assumption) ?hr3001
        case hy3001 => (intro w hSw; (try dsimp only at hSw); go_simp; (try with_reducible rfl))
        (try simp only [Act.put, List.setIfInBounds_toArray, List.set_cons_zero, List.set_cons_succ])
        refine wpAnyH_take (i := 1) (oi := { dst := some 97, op := Go.Op.call { callee := Go.Callee.builtin Go.Builtin.len, args := #[Go.Operand.tmp 96], argTypes := #[22] }, type := 3, pos := "laws.go:972", after := #[{ on := 0, ground := Go.Ground.data }], guard := none }) (v := ?v3002) rfl (by kernel_rfl) (by kernel_rfl) (by kernel_rfl) (fun _ _ _ h => h) (Or.inl ⟨by rfl, ?hy3002⟩) (by assumption) ?hr3002
        case hy3002 => (intro w hSw; (try dsimp only at hSw); go_simp; (try with_reducible rfl))
        (try simp only [Act.put, List.setIfInBounds_toArray, List.set_cons_zero, List.set_cons_succ])
        refine wpAnyH_take (i := 2) (oi := { dst := some 98, op := Go.Op.binOp Go.BinOp.eql 3 (Go.Operand.tmp 97) (Go.Operand.const (Go.Value.int Go.IntKind.i64 1)) 3, type := 4, pos := "laws.go:972", after := #[{ on := 1, ground := Go.Ground.data }], guard := none }) (v := ?v3003) rfl (by kernel_rfl) (by kernel_rfl) (by kernel_rfl) (fun _ _ _ h => h) (Or.inl ⟨by rfl, ?hy3003⟩) (by assumption) ?hr3003
        case hy3003 => (intro w hSw; (try dsimp only at hSw); go_simp; (try with_reducible rfl))
        (try simp only [Act.put, List.setIfInBounds_toArray, List.set_cons_zero, List.set_cons_succ])
        refine wpAnyH_take (i := 3) (oi := { dst := some 99, op := Go.Op.move (Go.Operand.tmp 98), type := 4, pos := "laws.go:972", after := #[{ on := 2, ground := Go.Ground.data }], guard := none }) (v := ?v3004) rfl (by kernel_rfl) (by kernel_rfl) (by kernel_rfl) (fun _ _ _ h => h) (Or.inl ⟨by rfl, ?hy3004⟩) (by assumption) ?hr3004
        case hy3004 => (intro w hSw; (try dsimp only at hSw); go_simp; (try with_reducible rfl))
        (try simp only [Act.put, List.setIfInBounds_toArray, List.set_cons_zero, List.set_cons_succ])
        refine wpAnyH_take (i := 4) (oi := { dst := some 100, op := Go.Op.move (Go.Operand.tmp 10), type := 22, pos := "laws.go:972", after := #[{ on := 3, ground := Go.Ground.guard }], guard := some (3, true) }) (v := ?v3005) rfl (by kernel_rfl) (by kernel_rfl) (by kernel_rfl) (fun _ _ _ h => h) (Or.inl ⟨by rfl, ?hy3005⟩) (by assumption) ?hr3005
        case hy3005 => (intro w hSw; (try dsimp only at hSw); go_simp; (try with_reducible rfl))
        (try simp only [Act.put, List.setIfInBounds_toArray, List.set_cons_zero, List.set_cons_succ])
        refine wpAnyH_take (i := 5) (oi := { dst := some 101, op := Go.Op.indexAddr 22 (Go.Operand.tmp 100) (Go.Operand.const (Go.Value.int Go.IntKind.i64 0)), type := 0, pos := "laws.go:972", after := #[{ on := 4, ground := Go.Ground.data }, { on := 3, ground := Go.Ground.guard }], guard := some (3, true) }) (v := ?v3006) rfl (by kernel_rfl) (by kernel_rfl) (by kernel_rfl) (fun _ _ _ h => h) (Or.inl ⟨by rfl, ?hy3006⟩) (by assumption) ?hr3006
        case hy3006 => (intro w hSw; (try dsimp only at hSw); go_simp; (try with_reducible rfl))
        (try simp only [Act.put, List.setIfInBounds_toArray, List.set_cons_zero, List.set_cons_succ])
        refine wpAnyH_take (i := 6) (oi := { dst := some 102, op := Go.Op.load 3 (Go.Operand.tmp 101), type := 3, pos := "laws.go:972", after := #[{ on := 5, ground := Go.Ground.data }, { on := 3, ground := Go.Ground.guard }], guard := some (3, true) }) (v := ?v3007) rfl (by kernel_rfl) (by kernel_rfl) (by kernel_rfl) (fun _ _ _ h => h) (Or.inl ⟨by rfl, ?hy3007⟩) (by assumption) ?hr3007
        case hy3007 => (intro w hSw; (try dsimp only at hSw); go_simp; (try with_reducible rfl))
        (try simp only [Act.put, List.setIfInBounds_toArray, List.set_cons_zero, List.set_cons_succ])
        refine wpAnyH_take (i := 7) (oi := { dst := some 103, op := Go.Op.move (Go.Operand.tmp 4), type := 3, pos := "laws.go:972", after := #[{ on := 3, ground := Go.Ground.guard }], guard := some (3, true) }) (v := ?v3008) rfl (by kernel_rfl) (by kernel_rfl) (by kernel_rfl) (fun _ _ _ h => h) (Or.inl ⟨by rfl, ?hy3008⟩) (by assumption) ?hr3008
        case hy3008 => (intro w hSw; (try dsimp only at hSw); go_simp; (try with_reducible rfl))
        (try simp only [Act.put, List.setIfInBounds_toArray, List.set_cons_zero, List.set_cons_succ])
        refine wpAnyH_take (i := 8) (oi := { dst := some 104, op := Go.Op.move (Go.Operand.tmp 3), type := 3, pos := "laws.go:972", after := #[{ on := 3, ground := Go.Ground.guard }], guard := some (3, true) }) (v := ?v3009) rfl (by kernel_rfl) (by kernel_rfl) (by kernel_rfl) (fun _ _ _ h => h) (Or.inl ⟨by rfl, ?hy3009⟩) (by assumption) ?hr3009
        case hy3009 => (intro w hSw; (try dsimp only at hSw); go_simp; (try with_reducible rfl))
        (try simp only [Act.put, List.setIfInBounds_toArray, List.set_cons_zero, List.set_cons_succ])
        refine wpAnyH_ready (rs := [9]) (by kernel_rfl) (by simp) ?_
        refine AllReadyH.cons (o := { dst := some 105, op := Go.Op.call { callee := Go.Callee.value (Go.Operand.func 24), args := #[Go.Operand.tmp 103, Go.Operand.tmp 104], argTypes := #[3, 3] }, type := 3, pos := "laws.go:972", after := #[{ on := 7, ground := Go.Ground.data }, { on := 8, ground := Go.Ground.data }, { on := 3, ground := Go.Ground.chain }, { on := 3, ground := Go.Ground.guard }], guard := some (3, true) }) rfl (fun K hK => ?_) AllReadyH.nil
        go_simp
        (go_at_call 24; refine (HA1.out _ (by exact hHeld.1)).mono ?_; rintro e' w12 ⟨rfl, hb12⟩)
        (try go_wp2_with fail)
        refine hK.out _ _ ?hS3010 (fun hHeld => ?hR3010)
        case hS3010 => ((try dsimp only); (first | exact HS.out _ (Below.drew HFin.out) | exact HS.out _ (by assumption)))
        clear hK K
        (try simp only [Act.put, List.setIfInBounds_toArray, List.set_cons_zero, List.set_cons_succ])
        refine wpAnyH_take (i := 10) (oi := { dst := some 106, op := Go.Op.binOp Go.BinOp.eql 3 (Go.Operand.tmp 102) (Go.Operand.tmp 105) 3, type := 4, pos := "laws.go:972", after := #[{ on := 6, ground := Go.Ground.data }, { on := 9, ground := Go.Ground.data }, { on := 3, ground := Go.Ground.guard }], guard := some (3, true) }) (v := ?v3011) rfl (by kernel_rfl) (by kernel_rfl) (by kernel_rfl) (fun _ _ _ h => h) (Or.inl ⟨by rfl, ?hy3011⟩) (by assumption) ?hr3011
        case hy3011 => (intro w hSw; (try dsimp only at hSw); go_simp; (try with_reducible rfl))
        (try simp only [Act.put, List.setIfInBounds_toArray, List.set_cons_zero, List.set_cons_succ])
        refine wpAnyH_take (i := 11) (oi := { dst := some 107, op := Go.Op.pick (Go.Operand.tmp 99) (Go.Operand.tmp 106) (Go.Operand.const (Go.Value.bool false)), type := 4, pos := "laws.go:972", after := #[{ on := 3, ground := Go.Ground.data }, { on := 10, ground := Go.Ground.data }], guard := none }) (v := ?v3012) rfl (by kernel_rfl) (by kernel_rfl) (by kernel_rfl) (fun _ _ _ h => h) (Or.inl ⟨by rfl, ?hy3012⟩) (by assumption) ?hr3012
        case hy3012 => (intro w hSw; (try dsimp only at hSw); go_simp; (try with_reducible rfl))
        (try simp only [Act.put, List.setIfInBounds_toArray, List.set_cons_zero, List.set_cons_succ])
        refine wpAnyH_take (i := 12) (oi := { dst := some 108, op := Go.Op.move (Go.Operand.tmp 107), type := 4, pos := "laws.go:972", after := #[{ on := 11, ground := Go.Ground.data }, { on := 9, ground := Go.Ground.chain }], guard := none }) (v := ?v3013) rfl (by kernel_rfl) (by kernel_rfl) (by kernel_rfl) (fun _ _ _ h => h) (Or.inl ⟨by rfl, ?hy3013⟩) (by assumption) ?hr3013
        case hy3013 => (intro w hSw; (try dsimp only at hSw); go_simp; (try with_reducible rfl))
        (try simp only [Act.put, List.setIfInBounds_toArray, List.set_cons_zero, List.set_cons_succ])
        refine wpAnyH_take (i := 13) (oi := { dst := some 109, op := Go.Op.move (Go.Operand.tmp 3), type := 3, pos := "laws.go:972", after := #[{ on := 12, ground := Go.Ground.guard }], guard := some (12, true) }) (v := ?v3014) rfl (by kernel_rfl) (by kernel_rfl) (by kernel_rfl) (fun _ _ _ h => h) (Or.inl ⟨by rfl, ?hy3014⟩) (by assumption) ?hr3014
        case hy3014 => (intro w hSw; (try dsimp only at hSw); go_simp; (try with_reducible rfl))
        (try simp only [Act.put, List.setIfInBounds_toArray, List.set_cons_zero, List.set_cons_succ])
        refine wpAnyH_take (i := 14) (oi := { dst := some 110, op := Go.Op.move (Go.Operand.tmp 11), type := 3, pos := "laws.go:972", after := #[{ on := 12, ground := Go.Ground.guard }], guard := some (12, true) }) (v := ?v3015) rfl (by kernel_rfl) (by kernel_rfl) (by kernel_rfl) (fun _ _ _ h => h) (Or.inl ⟨by rfl, ?hy3015⟩) (by assumption) ?hr3015
        case hy3015 => (intro w hSw; (try dsimp only at hSw); go_simp; (try with_reducible rfl))
        (try simp only [Act.put, List.setIfInBounds_toArray, List.set_cons_zero, List.set_cons_succ])
        refine wpAnyH_take (i := 15) (oi := { dst := some 111, op := Go.Op.binOp Go.BinOp.add 3 (Go.Operand.tmp 110) (Go.Operand.const (Go.Value.int Go.IntKind.i64 1)) 3, type := 3, pos := "laws.go:972", after := #[{ on := 14, ground := Go.Ground.data }, { on := 12, ground := Go.Ground.guard }], guard := some (12, true) }) (v := ?v3016) rfl (by kernel_rfl) (by kernel_rfl) (by kernel_rfl) (fun _ _ _ h => h) (Or.inl ⟨by rfl, ?hy3016⟩) (by assumption) ?hr3016
        case hy3016 => (intro w hSw; (try dsimp only at hSw); go_simp; (try with_reducible rfl))
        (try simp only [Act.put, List.setIfInBounds_toArray, List.set_cons_zero, List.set_cons_succ])
        refine wpAnyH_take (i := 17) (oi := { dst := some 113, op := Go.Op.move (Go.Operand.tmp 12), type := 3, pos := "laws.go:972", after := #[{ on := 12, ground := Go.Ground.guard }], guard := some (12, true) }) (v := ?v3017) rfl (by kernel_rfl) (by kernel_rfl) (by kernel_rfl) (fun _ _ _ h => h) (Or.inl ⟨by rfl, ?hy3017⟩) (by assumption) ?hr3017
        case hy3017 => (intro w hSw; (try dsimp only at hSw); go_simp; (try with_reducible rfl))
        (try simp only [Act.put, List.setIfInBounds_toArray, List.set_cons_zero, List.set_cons_succ])
        refine wpAnyH_take (i := 18) (oi := { dst := some 114, op := Go.Op.move (Go.Operand.tmp 11), type := 3, pos := "laws.go:972", after := #[{ on := 12, ground := Go.Ground.guard }], guard := some (12, true) }) (v := ?v3018) rfl (by kernel_rfl) (by kernel_rfl) (by kernel_rfl) (fun _ _ _ h => h) (Or.inl ⟨by rfl, ?hy3018⟩) (by assumption) ?hr3018
        case hy3018 => (intro w hSw; (try dsimp only at hSw); go_simp; (try with_reducible rfl))
        (try simp only [Act.put, List.setIfInBounds_toArray, List.set_cons_zero, List.set_cons_succ])
        refine wpAnyH_take (i := 19) (oi := { dst := some 115, op := Go.Op.binOp Go.BinOp.add 3 (Go.Operand.tmp 114) (Go.Operand.const (Go.Value.int Go.IntKind.i64 1)) 3, type := 3, pos := "laws.go:972", after := #[{ on := 18, ground := Go.Ground.data }, { on := 12, ground := Go.Ground.guard }], guard := some (12, true) }) (v := ?v3019) rfl (by kernel_rfl) (by kernel_rfl) (by kernel_rfl) (fun _ _ _ h => h) (Or.inl ⟨by rfl, ?hy3019⟩) (by assumption) ?hr3019
        case hy3019 => (intro w hSw; (try dsimp only at hSw); go_simp; (try with_reducible rfl))
        (try simp only [Act.put, List.setIfInBounds_toArray, List.set_cons_zero, List.set_cons_succ])
        refine wpAnyH_take (i := 20) (oi := { dst := some 116, op := Go.Op.move (Go.Operand.tmp 3), type := 3, pos := "laws.go:972", after := #[{ on := 12, ground := Go.Ground.guard }], guard := some (12, true) }) (v := ?v3020) rfl (by kernel_rfl) (by kernel_rfl) (by kernel_rfl) (fun _ _ _ h => h) (Or.inl ⟨by rfl, ?hy3020⟩) (by assumption) ?hr3020
        case hy3020 => (intro w hSw; (try dsimp only at hSw); go_simp; (try with_reducible rfl))
        (try simp only [Act.put, List.setIfInBounds_toArray, List.set_cons_zero, List.set_cons_succ])
        refine wpAnyH_ready (rs := [16]) (by kernel_rfl) (by simp) ?_
        refine AllReadyH.cons (o := { dst := some 112, op := Go.Op.call { callee := Go.Callee.value (Go.Operand.func 18), args := #[Go.Operand.tmp 109, Go.Operand.tmp 111], argTypes := #[3, 3] }, type := 3, pos := "laws.go:972", after := #[{ on := 13, ground := Go.Ground.data }, { on := 15, ground := Go.Ground.data }, { on := 12, ground := Go.Ground.chain }, { on := 12, ground := Go.Ground.guard }], guard := some (12, true) }) rfl (fun K hK => ?_) AllReadyH.nil
        go_simp
        (go_at_call 18; refine (HA2.out _ (by exact hHeld.1)).mono ?_; rintro e' w13 ⟨rfl, hb13⟩)
        (try go_wp2_with fail)
        refine hK.out _ _ ?hS3021 (fun hHeld => ?hR3021)
        case hS3021 => ((try dsimp only); (first | exact HS.out _ (Below.drew HFin.out) | exact HS.out _ (by assumption)))
        clear hK K
        (try simp only [Act.put, List.setIfInBounds_toArray, List.set_cons_zero, List.set_cons_succ])
        refine wpAnyH_ready (rs := [21]) (by kernel_rfl) (by simp) ?_
        refine AllReadyH.cons (o := { dst := some 117, op := Go.Op.call { callee := Go.Callee.value (Go.Operand.func 16), args := #[Go.Operand.tmp 115, Go.Operand.tmp 116], argTypes := #[3, 3] }, type := 4, pos := "laws.go:972", after := #[{ on := 19, ground := Go.Ground.data }, { on := 20, ground := Go.Ground.data }, { on := 16, ground := Go.Ground.chain }, { on := 12, ground := Go.Ground.guard }], guard := some (12, true) }) rfl (fun K hK => ?_) AllReadyH.nil
        go_simp
        (go_at_call 16; refine (HA3.out _ (by exact hHeld.1)).mono ?_; rintro e' w14 ⟨rfl, hb14⟩)
        (try go_wp2_with fail)
        refine hK.out _ _ ?hS3022 (fun hHeld => ?hR3022)
        case hS3022 => ((try dsimp only); (first | exact HS.out _ (Below.drew HFin.out) | exact HS.out _ (by assumption)))
        clear hK K
        (try simp only [Act.put, List.setIfInBounds_toArray, List.set_cons_zero, List.set_cons_succ])
        refine wpAnyH_ready (rs := [22]) (by kernel_rfl) (by simp) ?_
        refine AllReadyH.cons (o := { dst := some 118, op := Go.Op.call { callee := Go.Callee.value (Go.Operand.func 25), args := #[Go.Operand.tmp 117], argTypes := #[4] }, type := 3, pos := "laws.go:972", after := #[{ on := 21, ground := Go.Ground.data }, { on := 21, ground := Go.Ground.chain }, { on := 12, ground := Go.Ground.guard }], guard := some (12, true) }) rfl (fun K hK => ?_) AllReadyH.nil
        go_simp
        (go_at_call 25; refine (HA4.out _ (by exact hHeld.1)).mono ?_; rintro e' w15 ⟨rfl, hb15⟩)
        (try go_wp2_with fail)
        refine hK.out _ _ ?hS3023 (fun hHeld => ?hR3023)
        case hS3023 => ((try dsimp only); (first | exact HS.out _ (Below.drew HFin.out) | exact HS.out _ (by assumption)))
        clear hK K
        (try simp only [Act.put, List.setIfInBounds_toArray, List.set_cons_zero, List.set_cons_succ])
        refine wpAnyH_take (i := 23) (oi := { dst := some 119, op := Go.Op.binOp Go.BinOp.add 3 (Go.Operand.tmp 113) (Go.Operand.tmp 118) 3, type := 3, pos := "laws.go:972", after := #[{ on := 17, ground := Go.Ground.data }, { on := 22, ground := Go.Ground.data }, { on := 12, ground := Go.Ground.guard }], guard := some (12, true) }) (v := ?v3024) rfl (by kernel_rfl) (by kernel_rfl) (by kernel_rfl) (fun _ _ _ h => h) (Or.inl ⟨by rfl, ?hy3024⟩) (by assumption) ?hr3024
        case hy3024 => (intro w hSw; (try dsimp only at hSw); go_simp; (try with_reducible rfl))
        (try simp only [Act.put, List.setIfInBounds_toArray, List.set_cons_zero, List.set_cons_succ])
        refine wpAnyH_take (i := 24) (oi := { dst := some 120, op := Go.Op.binOp Go.BinOp.eql 3 (Go.Operand.tmp 112) (Go.Operand.tmp 119) 3, type := 4, pos := "laws.go:972", after := #[{ on := 16, ground := Go.Ground.data }, { on := 23, ground := Go.Ground.data }, { on := 12, ground := Go.Ground.guard }], guard := some (12, true) }) (v := ?v3025) rfl (by kernel_rfl) (by kernel_rfl) (by kernel_rfl) (fun _ _ _ h => h) (Or.inl ⟨by rfl, ?hy3025⟩) (by assumption) ?hr3025
        case hy3025 => (intro w hSw; (try dsimp only at hSw); go_simp; (try with_reducible rfl))
        (try simp only [Act.put, List.setIfInBounds_toArray, List.set_cons_zero, List.set_cons_succ])
        refine wpAnyH_take (i := 25) (oi := { dst := some 121, op := Go.Op.pick (Go.Operand.tmp 108) (Go.Operand.tmp 120) (Go.Operand.const (Go.Value.bool false)), type := 4, pos := "laws.go:972", after := #[{ on := 12, ground := Go.Ground.data }, { on := 24, ground := Go.Ground.data }], guard := none }) (v := ?v3026) rfl (by kernel_rfl) (by kernel_rfl) (by kernel_rfl) (fun _ _ _ h => h) (Or.inl ⟨by rfl, ?hy3026⟩) (by assumption) ?hr3026
        case hy3026 => (intro w hSw; (try dsimp only at hSw); go_simp; (try with_reducible rfl))
        (try simp only [Act.put, List.setIfInBounds_toArray, List.set_cons_zero, List.set_cons_succ])
        refine wpAnyH_take (i := 26) (oi := { dst := some 122, op := Go.Op.move (Go.Operand.tmp 121), type := 4, pos := "laws.go:972", after := #[{ on := 25, ground := Go.Ground.data }, { on := 22, ground := Go.Ground.chain }], guard := none }) (v := ?v3027) rfl (by kernel_rfl) (by kernel_rfl) (by kernel_rfl) (fun _ _ _ h => h) (Or.inl ⟨by rfl, ?hy3027⟩) (by assumption) ?hr3027
        case hy3027 => (intro w hSw; (try dsimp only at hSw); go_simp; (try with_reducible rfl))
        (try simp only [Act.put, List.setIfInBounds_toArray, List.set_cons_zero, List.set_cons_succ])
        refine wpAnyH_take (i := 27) (oi := { dst := some 123, op := Go.Op.move (Go.Operand.tmp 12), type := 3, pos := "laws.go:972", after := #[{ on := 26, ground := Go.Ground.guard }], guard := some (26, true) }) (v := ?v3028) rfl (by kernel_rfl) (by kernel_rfl) (by kernel_rfl) (fun _ _ _ h => h) (Or.inl ⟨by rfl, ?hy3028⟩) (by assumption) ?hr3028
        case hy3028 => (intro w hSw; (try dsimp only at hSw); go_simp; (try with_reducible rfl))
        (try simp only [Act.put, List.setIfInBounds_toArray, List.set_cons_zero, List.set_cons_succ])
        refine wpAnyH_take (i := 28) (oi := { dst := some 124, op := Go.Op.binOp Go.BinOp.geq 3 (Go.Operand.tmp 123) (Go.Operand.const (Go.Value.int Go.IntKind.i64 0)) 3, type := 4, pos := "laws.go:972", after := #[{ on := 27, ground := Go.Ground.data }, { on := 26, ground := Go.Ground.guard }], guard := some (26, true) }) (v := ?v3029) rfl (by kernel_rfl) (by kernel_rfl) (by kernel_rfl) (fun _ _ _ h => h) (Or.inl ⟨by rfl, ?hy3029⟩) (by assumption) ?hr3029
        case hy3029 => (intro w hSw; (try dsimp only at hSw); go_simp; (try with_reducible rfl))
        (try simp only [Act.put, List.setIfInBounds_toArray, List.set_cons_zero, List.set_cons_succ])
        refine wpAnyH_take (i := 29) (oi := { dst := some 125, op := Go.Op.pick (Go.Operand.tmp 122) (Go.Operand.tmp 124) (Go.Operand.const (Go.Value.bool false)), type := 4, pos := "laws.go:972", after := #[{ on := 26, ground := Go.Ground.data }, { on := 28, ground := Go.Ground.data }], guard := none }) (v := ?v3030) rfl (by kernel_rfl) (by kernel_rfl) (by kernel_rfl) (fun _ _ _ h => h) (Or.inl ⟨by rfl, ?hy3030⟩) (by assumption) ?hr3030
        case hy3030 => (intro w hSw; (try dsimp only at hSw); go_simp; (try with_reducible rfl))
        (try simp only [Act.put, List.setIfInBounds_toArray, List.set_cons_zero, List.set_cons_succ])
        refine wpAnyH_take (i := 30) (oi := { dst := some 126, op := Go.Op.move (Go.Operand.tmp 125), type := 4, pos := "laws.go:972", after := #[{ on := 29, ground := Go.Ground.data }, { on := 26, ground := Go.Ground.chain }], guard := none }) (v := ?v3031) rfl (by kernel_rfl) (by kernel_rfl) (by kernel_rfl) (fun _ _ _ h => h) (Or.inl ⟨by rfl, ?hy3031⟩) (by assumption) ?hr3031
        case hy3031 => (intro w hSw; (try dsimp only at hSw); go_simp; (try with_reducible rfl))
        (try simp only [Act.put, List.setIfInBounds_toArray, List.set_cons_zero, List.set_cons_succ])
        refine wpAnyH_take (i := 31) (oi := { dst := some 127, op := Go.Op.move (Go.Operand.tmp 3), type := 3, pos := "laws.go:972", after := #[{ on := 30, ground := Go.Ground.guard }], guard := some (30, true) }) (v := ?v3032) rfl (by kernel_rfl) (by kernel_rfl) (by kernel_rfl) (fun _ _ _ h => h) (Or.inl ⟨by rfl, ?hy3032⟩) (by assumption) ?hr3032
        case hy3032 => (intro w hSw; (try dsimp only at hSw); go_simp; (try with_reducible rfl))
        (try simp only [Act.put, List.setIfInBounds_toArray, List.set_cons_zero, List.set_cons_succ])
        refine wpAnyH_take (i := 32) (oi := { dst := some 128, op := Go.Op.binOp Go.BinOp.neq 3 (Go.Operand.tmp 127) (Go.Operand.const (Go.Value.int Go.IntKind.i64 2)) 3, type := 4, pos := "laws.go:972", after := #[{ on := 31, ground := Go.Ground.data }, { on := 30, ground := Go.Ground.guard }], guard := some (30, true) }) (v := ?v3033) rfl (by kernel_rfl) (by kernel_rfl) (by kernel_rfl) (fun _ _ _ h => h) (Or.inl ⟨by rfl, ?hy3033⟩) (by assumption) ?hr3033
        case hy3033 => (intro w hSw; (try dsimp only at hSw); go_simp; (try with_reducible rfl))
        (try simp only [Act.put, List.setIfInBounds_toArray, List.set_cons_zero, List.set_cons_succ])
        refine wpAnyH_take (i := 33) (oi := { dst := some 129, op := Go.Op.move (Go.Operand.tmp 128), type := 4, pos := "laws.go:972", after := #[{ on := 32, ground := Go.Ground.data }, { on := 30, ground := Go.Ground.chain }, { on := 30, ground := Go.Ground.guard }], guard := some (30, true) }) (v := ?v3034) rfl (by kernel_rfl) (by kernel_rfl) (by kernel_rfl) (fun _ _ _ h => h) (Or.inl ⟨by rfl, ?hy3034⟩) (by assumption) ?hr3034
        case hy3034 => (intro w hSw; (try dsimp only at hSw); go_simp; (try with_reducible rfl))
        (try simp only [Act.put, List.setIfInBounds_toArray, List.set_cons_zero, List.set_cons_succ])
        refine wpAnyH_take (i := 34) (oi := { dst := some 130, op := Go.Op.move (Go.Operand.tmp 12), type := 3, pos := "laws.go:972", after := #[{ on := 33, ground := Go.Ground.guard }], guard := some (33, false) }) (v := undef) rfl (by kernel_rfl) (by kernel_rfl) (by kernel_rfl) (fun _ _ _ h => h) (Or.inr ⟨by rfl, rfl⟩) (by assumption) ?_
        (try simp only [Act.put, List.setIfInBounds_toArray, List.set_cons_zero, List.set_cons_succ])
        refine wpAnyH_take (i := 35) (oi := { dst := some 131, op := Go.Op.move (Go.Operand.tmp 11), type := 3, pos := "laws.go:972", after := #[{ on := 33, ground := Go.Ground.guard }], guard := some (33, false) }) (v := undef) rfl (by kernel_rfl) (by kernel_rfl) (by kernel_rfl) (fun _ _ _ h => h) (Or.inr ⟨by rfl, rfl⟩) (by assumption) ?_
        (try simp only [Act.put, List.setIfInBounds_toArray, List.set_cons_zero, List.set_cons_succ])
        refine wpAnyH_take (i := 36) (oi := { dst := some 132, op := Go.Op.binOp Go.BinOp.eql 3 (Go.Operand.tmp 130) (Go.Operand.tmp 131) 3, type := 4, pos := "laws.go:972", after := #[{ on := 34, ground := Go.Ground.data }, { on := 35, ground := Go.Ground.data }, { on := 33, ground := Go.Ground.guard }], guard := some (33, false) }) (v := undef) rfl (by kernel_rfl) (by kernel_rfl) (by kernel_rfl) (fun _ _ _ h => h) (Or.inr ⟨by rfl, rfl⟩) (by assumption) ?_
        (try simp only [Act.put, List.setIfInBounds_toArray, List.set_cons_zero, List.set_cons_succ])
        refine wpAnyH_take (i := 37) (oi := { dst := some 133, op := Go.Op.pick (Go.Operand.tmp 129) (Go.Operand.const (Go.Value.bool true)) (Go.Operand.tmp 132), type := 4, pos := "laws.go:972", after := #[{ on := 33, ground := Go.Ground.data }, { on := 36, ground := Go.Ground.data }, { on := 30, ground := Go.Ground.guard }], guard := some (30, true) }) (v := ?v3038) rfl (by kernel_rfl) (by kernel_rfl) (by kernel_rfl) (fun _ _ _ h => h) (Or.inl ⟨by rfl, ?hy3038⟩) (by assumption) ?hr3038
        case hy3038 => (intro w hSw; (try dsimp only at hSw); go_simp; (try with_reducible rfl))
        (try simp only [Act.put, List.setIfInBounds_toArray, List.set_cons_zero, List.set_cons_succ])
        refine wpAnyH_take (i := 38) (oi := { dst := some 134, op := Go.Op.pick (Go.Operand.tmp 126) (Go.Operand.tmp 133) (Go.Operand.const (Go.Value.bool false)), type := 4, pos := "laws.go:972", after := #[{ on := 30, ground := Go.Ground.data }, { on := 37, ground := Go.Ground.data }], guard := none }) (v := ?v3039) rfl (by kernel_rfl) (by kernel_rfl) (by kernel_rfl) (fun _ _ _ h => h) (Or.inl ⟨by rfl, ?hy3039⟩) (by assumption) ?hr3039
        case hy3039 => (intro w hSw; (try dsimp only at hSw); go_simp; (try with_reducible rfl))
        (try simp only [Act.put, List.setIfInBounds_toArray, List.set_cons_zero, List.set_cons_succ])
        refine wpAnyH_take (i := 39) (oi := { dst := some 135, op := Go.Op.move (Go.Operand.tmp 134), type := 4, pos := "laws.go:972", after := #[{ on := 38, ground := Go.Ground.data }, { on := 33, ground := Go.Ground.chain }], guard := none }) (v := ?v3040) rfl (by kernel_rfl) (by kernel_rfl) (by kernel_rfl) (fun _ _ _ h => h) (Or.inl ⟨by rfl, ?hy3040⟩) (by assumption) ?hr3040
        case hy3040 => (intro w hSw; (try dsimp only at hSw); go_simp; (try with_reducible rfl))
        (try simp only [Act.put, List.setIfInBounds_toArray, List.set_cons_zero, List.set_cons_succ])
        refine wpAnyH_ready (rs := [40]) (by kernel_rfl) (by simp) ?_
        refine AllReadyH.cons (o := { dst := some 136, op := Go.Op.call { callee := Go.Callee.value (Go.Operand.func 26), args := #[Go.Operand.const (Go.Value.int Go.IntKind.i64 153), Go.Operand.const (Go.Value.int Go.IntKind.i64 10)], argTypes := #[3, 3] }, type := 4, pos := "laws.go:972", after := #[{ on := 39, ground := Go.Ground.chain }, { on := 39, ground := Go.Ground.guard }], guard := some (39, true) }) rfl (fun K hK => ?_) AllReadyH.nil
        go_simp
        (go_at_call 26; refine (HA5.out _ (by exact hHeld.1)).mono ?_; rintro e' w16 ⟨rfl, hb16⟩)
        (try go_wp2_with fail)
        refine hK.out _ _ ?hS3041 (fun hHeld => ?hR3041)
        case hS3041 => ((try dsimp only); (first | exact HS.out _ (Below.drew HFin.out) | exact HS.out _ (by assumption)))
        clear hK K
        (try simp only [Act.put, List.setIfInBounds_toArray, List.set_cons_zero, List.set_cons_succ])
        refine wpAnyH_take (i := 41) (oi := { dst := some 137, op := Go.Op.pick (Go.Operand.tmp 135) (Go.Operand.tmp 136) (Go.Operand.const (Go.Value.bool false)), type := 4, pos := "laws.go:972", after := #[{ on := 39, ground := Go.Ground.data }, { on := 40, ground := Go.Ground.data }], guard := none }) (v := ?v3042) rfl (by kernel_rfl) (by kernel_rfl) (by kernel_rfl) (fun _ _ _ h => h) (Or.inl ⟨by rfl, ?hy3042⟩) (by assumption) ?hr3042
        case hy3042 => (intro w hSw; (try dsimp only at hSw); go_simp; (try with_reducible rfl))
        (try simp only [Act.put, List.setIfInBounds_toArray, List.set_cons_zero, List.set_cons_succ])
        refine wpAnyH_take (i := 42) (oi := { dst := some 138, op := Go.Op.move (Go.Operand.tmp 137), type := 4, pos := "laws.go:972", after := #[{ on := 41, ground := Go.Ground.data }, { on := 40, ground := Go.Ground.chain }], guard := none }) (v := ?v3043) rfl (by kernel_rfl) (by kernel_rfl) (by kernel_rfl) (fun _ _ _ h => h) (Or.inl ⟨by rfl, ?hy3043⟩) (by assumption) ?hr3043
        case hy3043 => (intro w hSw; (try dsimp only at hSw); go_simp; (try with_reducible rfl))
        (try simp only [Act.put, List.setIfInBounds_toArray, List.set_cons_zero, List.set_cons_succ])
        refine wpAnyH_take (i := 43) (oi := { dst := some 139, op := Go.Op.move (Go.Operand.tmp 11), type := 3, pos := "laws.go:972", after := #[{ on := 42, ground := Go.Ground.guard }], guard := some (42, true) }) (v := ?v3044) rfl (by kernel_rfl) (by kernel_rfl) (by kernel_rfl) (fun _ _ _ h => h) (Or.inl ⟨by rfl, ?hy3044⟩) (by assumption) ?hr3044
        case hy3044 => (intro w hSw; (try dsimp only at hSw); go_simp; (try with_reducible rfl))
        (try simp only [Act.put, List.setIfInBounds_toArray, List.set_cons_zero, List.set_cons_succ])
        refine wpAnyH_take (i := 44) (oi := { dst := some 140, op := Go.Op.move (Go.Operand.tmp 3), type := 3, pos := "laws.go:972", after := #[{ on := 42, ground := Go.Ground.guard }], guard := some (42, true) }) (v := ?v3045) rfl (by kernel_rfl) (by kernel_rfl) (by kernel_rfl) (fun _ _ _ h => h) (Or.inl ⟨by rfl, ?hy3045⟩) (by assumption) ?hr3045
        case hy3045 => (intro w hSw; (try dsimp only at hSw); go_simp; (try with_reducible rfl))
        (try simp only [Act.put, List.setIfInBounds_toArray, List.set_cons_zero, List.set_cons_succ])
        refine wpAnyH_take (i := 45) (oi := { dst := some 141, op := Go.Op.binOp Go.BinOp.rem 3 (Go.Operand.tmp 139) (Go.Operand.tmp 140) 3, type := 3, pos := "laws.go:972", after := #[{ on := 43, ground := Go.Ground.data }, { on := 44, ground := Go.Ground.data }, { on := 42, ground := Go.Ground.guard }], guard := some (42, true) }) (v := ?v3046) rfl (by kernel_rfl) (by kernel_rfl) (by kernel_rfl) (fun _ _ _ h => h) (Or.inl ⟨by rfl, ?hy3046⟩) (by assumption) ?hr3046
        case hy3046 => (intro w hSw; (try dsimp only at hSw); go_simp; (try with_reducible rfl))
        (try simp only [Act.put, List.setIfInBounds_toArray, List.set_cons_zero, List.set_cons_succ])
        refine wpAnyH_take (i := 46) (oi := { dst := some 142, op := Go.Op.move (Go.Operand.tmp 3), type := 3, pos := "laws.go:972", after := #[{ on := 42, ground := Go.Ground.guard }], guard := some (42, true) }) (v := ?v3047) rfl (by kernel_rfl) (by kernel_rfl) (by kernel_rfl) (fun _ _ _ h => h) (Or.inl ⟨by rfl, ?hy3047⟩) (by assumption) ?hr3047
        case hy3047 => (intro w hSw; (try dsimp only at hSw); go_simp; (try with_reducible rfl))
        (try simp only [Act.put, List.setIfInBounds_toArray, List.set_cons_zero, List.set_cons_succ])
        refine wpAnyH_take (i := 48) (oi := { dst := some 144, op := Go.Op.move (Go.Operand.tmp 11), type := 3, pos := "laws.go:972", after := #[{ on := 42, ground := Go.Ground.guard }], guard := some (42, true) }) (v := ?v3048) rfl (by kernel_rfl) (by kernel_rfl) (by kernel_rfl) (fun _ _ _ h => h) (Or.inl ⟨by rfl, ?hy3048⟩) (by assumption) ?hr3048
        case hy3048 => (intro w hSw; (try dsimp only at hSw); go_simp; (try with_reducible rfl))
        (try simp only [Act.put, List.setIfInBounds_toArray, List.set_cons_zero, List.set_cons_succ])
        refine wpAnyH_take (i := 49) (oi := { dst := some 145, op := Go.Op.move (Go.Operand.tmp 3), type := 3, pos := "laws.go:972", after := #[{ on := 42, ground := Go.Ground.guard }], guard := some (42, true) }) (v := ?v3049) rfl (by kernel_rfl) (by kernel_rfl) (by kernel_rfl) (fun _ _ _ h => h) (Or.inl ⟨by rfl, ?hy3049⟩) (by assumption) ?hr3049
        case hy3049 => (intro w hSw; (try dsimp only at hSw); go_simp; (try with_reducible rfl))
        (try simp only [Act.put, List.setIfInBounds_toArray, List.set_cons_zero, List.set_cons_succ])
        refine wpAnyH_take (i := 50) (oi := { dst := some 146, op := Go.Op.binOp Go.BinOp.rem 3 (Go.Operand.tmp 144) (Go.Operand.tmp 145) 3, type := 3, pos := "laws.go:972", after := #[{ on := 48, ground := Go.Ground.data }, { on := 49, ground := Go.Ground.data }, { on := 42, ground := Go.Ground.guard }], guard := some (42, true) }) (v := ?v3050) rfl (by kernel_rfl) (by kernel_rfl) (by kernel_rfl) (fun _ _ _ h => h) (Or.inl ⟨by rfl, ?hy3050⟩) (by assumption) ?hr3050
        case hy3050 => (intro w hSw; (try dsimp only at hSw); go_simp; (try with_reducible rfl))
        (try simp only [Act.put, List.setIfInBounds_toArray, List.set_cons_zero, List.set_cons_succ])
        refine wpAnyH_take (i := 51) (oi := { dst := some 147, op := Go.Op.binOp Go.BinOp.gtr 3 (Go.Operand.tmp 146) (Go.Operand.const (Go.Value.int Go.IntKind.i64 0)) 3, type := 4, pos := "laws.go:972", after := #[{ on := 50, ground := Go.Ground.data }, { on := 42, ground := Go.Ground.guard }], guard := some (42, true) }) (v := ?v3051) rfl (by kernel_rfl) (by kernel_rfl) (by kernel_rfl) (fun _ _ _ h => h) (Or.inl ⟨by rfl, ?hy3051⟩) (by assumption) ?hr3051
        case hy3051 => (intro w hSw; (try dsimp only at hSw); go_simp; (try with_reducible rfl))
        (try simp only [Act.put, List.setIfInBounds_toArray, List.set_cons_zero, List.set_cons_succ])
        refine wpAnyH_ready (rs := [47]) (by kernel_rfl) (by simp) ?_
        refine AllReadyH.cons (o := { dst := some 143, op := Go.Op.call { callee := Go.Callee.value (Go.Operand.func 26), args := #[Go.Operand.tmp 141, Go.Operand.tmp 142], argTypes := #[3, 3] }, type := 4, pos := "laws.go:972", after := #[{ on := 45, ground := Go.Ground.data }, { on := 46, ground := Go.Ground.data }, { on := 42, ground := Go.Ground.chain }, { on := 42, ground := Go.Ground.guard }], guard := some (42, true) }) rfl (fun K hK => ?_) AllReadyH.nil
        go_simp
        (go_at_call 26; refine (HA6.out _ (by exact hHeld.1)).mono ?_; rintro e' w17 ⟨rfl, hb17⟩)
        (try go_wp2_with fail)
        refine hK.out _ _ ?hS3052 (fun hHeld => ?hR3052)
        case hS3052 => ((try dsimp only); (first | exact HS.out _ (Below.drew HFin.out) | exact HS.out _ (by assumption)))
        clear hK K
        (try simp only [Act.put, List.setIfInBounds_toArray, List.set_cons_zero, List.set_cons_succ])
        refine wpAnyH_take (i := 52) (oi := { dst := some 148, op := Go.Op.binOp Go.BinOp.eql 4 (Go.Operand.tmp 143) (Go.Operand.tmp 147) 4, type := 4, pos := "laws.go:972", after := #[{ on := 47, ground := Go.Ground.data }, { on := 51, ground := Go.Ground.data }, { on := 42, ground := Go.Ground.guard }], guard := some (42, true) }) (v := ?v3053) rfl (by kernel_rfl) (by kernel_rfl) (by kernel_rfl) (fun _ _ _ h => h) (Or.inl ⟨by rfl, ?hy3053⟩) (by assumption) ?hr3053
        case hy3053 => (intro w hSw; (try dsimp only at hSw); go_simp; (try with_reducible rfl))
        (try simp only [Act.put, List.setIfInBounds_toArray, List.set_cons_zero, List.set_cons_succ])
        refine wpAnyH_take (i := 53) (oi := { dst := some 149, op := Go.Op.pick (Go.Operand.tmp 138) (Go.Operand.tmp 148) (Go.Operand.const (Go.Value.bool false)), type := 4, pos := "laws.go:972", after := #[{ on := 42, ground := Go.Ground.data }, { on := 52, ground := Go.Ground.data }], guard := none }) (v := ?v3054) rfl (by kernel_rfl) (by kernel_rfl) (by kernel_rfl) (fun _ _ _ h => h) (Or.inl ⟨by rfl, ?hy3054⟩) (by assumption) ?hr3054
        case hy3054 => (intro w hSw; (try dsimp only at hSw); go_simp; (try with_reducible rfl))
        (try simp only [Act.put, List.setIfInBounds_toArray, List.set_cons_zero, List.set_cons_succ])
        refine wpAnyH_take (i := 54) (oi := { dst := some 2, op := Go.Op.assign (Go.Operand.tmp 149), type := 4, pos := "laws.go:972", after := #[{ on := 53, ground := Go.Ground.data }, { on := 47, ground := Go.Ground.chain }, { on := 0, ground := Go.Ground.phase }, { on := 1, ground := Go.Ground.phase }, { on := 2, ground := Go.Ground.phase }, { on := 3, ground := Go.Ground.phase }, { on := 4, ground := Go.Ground.phase }, { on := 5, ground := Go.Ground.phase }, { on := 6, ground := Go.Ground.phase }, { on := 7, ground := Go.Ground.phase }, { on := 8, ground := Go.Ground.phase }, { on := 9, ground := Go.Ground.phase }, { on := 10, ground := Go.Ground.phase }, { on := 11, ground := Go.Ground.phase }, { on := 12, ground := Go.Ground.phase }, { on := 13, ground := Go.Ground.phase }, { on := 14, ground := Go.Ground.phase }, { on := 15, ground := Go.Ground.phase }, { on := 16, ground := Go.Ground.phase }, { on := 17, ground := Go.Ground.phase }, { on := 18, ground := Go.Ground.phase }, { on := 19, ground := Go.Ground.phase }, { on := 20, ground := Go.Ground.phase }, { on := 21, ground := Go.Ground.phase }, { on := 22, ground := Go.Ground.phase }, { on := 23, ground := Go.Ground.phase }, { on := 24, ground := Go.Ground.phase }, { on := 25, ground := Go.Ground.phase }, { on := 26, ground := Go.Ground.phase }, { on := 27, ground := Go.Ground.phase }, { on := 28, ground := Go.Ground.phase }, { on := 29, ground := Go.Ground.phase }, { on := 30, ground := Go.Ground.phase }, { on := 31, ground := Go.Ground.phase }, { on := 32, ground := Go.Ground.phase }, { on := 33, ground := Go.Ground.phase }, { on := 34, ground := Go.Ground.phase }, { on := 35, ground := Go.Ground.phase }, { on := 36, ground := Go.Ground.phase }, { on := 37, ground := Go.Ground.phase }, { on := 38, ground := Go.Ground.phase }, { on := 39, ground := Go.Ground.phase }, { on := 40, ground := Go.Ground.phase }, { on := 41, ground := Go.Ground.phase }, { on := 42, ground := Go.Ground.phase }, { on := 43, ground := Go.Ground.phase }, { on := 44, ground := Go.Ground.phase }, { on := 45, ground := Go.Ground.phase }, { on := 46, ground := Go.Ground.phase }, { on := 47, ground := Go.Ground.phase }, { on := 48, ground := Go.Ground.phase }, { on := 49, ground := Go.Ground.phase }, { on := 50, ground := Go.Ground.phase }, { on := 51, ground := Go.Ground.phase }, { on := 52, ground := Go.Ground.phase }, { on := 53, ground := Go.Ground.phase }], guard := none }) (v := ?v3055) rfl (by kernel_rfl) (by kernel_rfl) (by kernel_rfl) (fun _ _ _ h => h) (Or.inl ⟨by rfl, ?hy3055⟩) (by assumption) ?hr3055
        case hy3055 => (intro w hSw; (try dsimp only at hSw); go_simp; (try with_reducible rfl))
        (try simp only [Act.put, List.setIfInBounds_toArray, List.set_cons_zero, List.set_cons_succ])
        refine wpAnyH_done (by kernel_rfl) ?_ _
        go_wp2
        go_ret
        exact ⟨by first | rfl | simp, HB11.out.trans (hb17.mono HB11.out.size)⟩

set_option maxRecDepth 100000 in
theorem lifted (os : Os) (started : os.Started) (H : Type) (enc : TypeId × Value → H) :
    ReturnsInHanded {} Try.checked os 6 .any (Rows.fnDynamicsSpec.pre6 enc Try.prog Try.f6 Rows.fnDynamicsRow.domain false) (Rows.fnDynamicsSpec.post enc Try.prog Try.f6 false true false false) := by
  refine returnsInHanded_of_change (C := Try.checked) own started (by kernel_rfl) Try.func6
    (ChangeSpec.witness6 (enc := enc) (C := Try.checked) false ⟨#[], #[.slice none 0 0], []⟩ 8 (by kernel_rfl) (by kernel_rfl) (by kernel_rfl) (by kernel_rfl)) ?_
  intro W base args ds gs before hval0 hW hcnd _
  have hval : ∀ (j : Nat) t v, Try.f6.params[j]? = some t → args[j]? = some v → Value.okWide Try.prog W .any base t v := hval0
  have hW' := hW
  obtain ⟨p, q, hA0, hV, rfl, hfz, hnd⟩ := hW
  have hA : DataW.TrodAll enc Try.prog W 0 (fun _ => true) true Try.f6.params.toList args.toList ds p := hA0
  rw [Try.params6] at hA hval
  obtain ⟨v0, vs0, d0, ds0, p0, q0, hargs, rfl, rfl, h0, r0⟩ := trodAll_cons hA
  obtain ⟨rfl, rfl, rfl⟩ := trodAll_nil r0
  obtain rfl : args = #[v0] := by cases args; simp_all
  obtain ⟨rfl, rfl⟩ := trodVars_none hV
  obtain ⟨a0, len0, cap0, rfl⟩ := okWide_slice Try.underlying29 (hval 0 29 v0 rfl rfl)
  have k0 := h0
  have lt0 : ∀ x ∈ p0, x.block < W.heap.size := by obtain ⟨m, hm⟩ := k0; exact DataW.trod_lt m _ _ _ hm
  obtain ⟨z0, w0⟩ : ∃ zs, IsRow .u8 W a0 len0 cap0 zs := by
    obtain ⟨fuel, hf⟩ := h0
    rcases open_ints Try.underlying29 Try.underlying5 (by kernel_rfl) hf with ⟨hcs, _⟩ | ⟨x, l, c, zs, hcs, _, hl, hm, hz, _, hcell, hwz⟩
    · simp [Value.cells] at hcs
      obtain ⟨rfl, rfl, rfl⟩ := hcs
      exact ⟨[], .inl ⟨rfl, rfl, rfl, rfl⟩⟩
    · simp [Value.cells] at hcs
      obtain ⟨rfl, rfl, rfl⟩ := hcs
      exact ⟨zs, .inr ⟨_, rfl, hl, hm, by simpa using hz, hcell, hwz⟩⟩
  clear hA0 hval0
  refine (walk a0 len0 cap0 z0 W w0).mono fun e W' ⟨he, bel⟩ => ?_
  subst he
  exact ⟨_, rfl, _, _, _, [], _, [], hW', trodAll_mk1 (shut_bool Try.underlying4 _), (trodAll_cons_mk (Below.trod laidOut (by kernel_rfl) (of_decide_eq_true (by kernel_rfl)) k0 bel lt0) trodAll_mk0), rfl, bel.frame _, fun h => by cases h⟩

theorem over : Rows.fnDynamicsRow.holds Try.pinned (OpenSpec.ofChange Rows.fnDynamicsSpec) :=
  OpenClaim.holds_of_wide 6 Try.f6 rfl rfl rfl rfl rfl rfl rfl ⟨rfl, rfl, rfl, rfl, rfl⟩ rfl rfl rfl rfl rfl (by kernel_rfl) Try.func6 (by kernel_rfl)
    (of_decide_eq_true (by kernel_rfl)) (by unfold Func.isWrapper; first | (rw [if_pos (by decide +kernel)]; kernel_rfl) | (rw [if_neg (by decide +kernel)]; exact ⟨rfl, rfl⟩))
    (fun os started H enc _ => lifted os started H enc)

theorem proved : Rows.FnDynamicsSaid := over
#print axioms proved
end Go.Proofs.Ytidjnbnhkgobnaa.fnDynamics
