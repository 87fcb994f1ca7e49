/-
  Contracts of the functions on sequences that the law FnSequences calls.
  Conditions: the ranges that each names.
-/
import Derived.Test.YtkddmngbfncocaaDoorWords
import Derived.Test.YtkddmngbfncocaaDoorSeqPl
import Derived.Deep.DeepCutAuto
import Derived.Deep.RegionHeld3
namespace Go.Proofs.YtkddmngbfncocaaDoor
open Go.RowKit
namespace Sq
theorem iSeqAt (kind n : Nat) (k1 : 1 ≤ kind) (k2 : kind ≤ 5) (hn : n ≤ 1000000000000) (w : World) (hT : TabAt 1 Lib.deBruijn64tab w) :
    Calls Tryd.prog 11 #[.int .i64 kind, .int .i64 n] w fun e w' => e = .returned (.int .i64 (seqI kind n)) ∧ w = w' := by
  have HT := Lib.hid hT
  have hkd := inB_mk (show (1 : Int) ≤ (kind : Int) by omega) (show (kind : Int) ≤ 5 by omega)
  have hnn := inB_mk (show (0 : Int) ≤ (n : Int) by omega) (show (n : Int) ≤ 1000000000000 by omega)
  clear hT
  go_enter Tryd.func11, Tryd.ntmps11
  go_wp2_with fail
  refine (isSeq _ _).mono ?_
  rw [hkd]
  rintro e w1 ⟨rfl, rfl⟩
  go_wp2_with fail
  refine (isNumber_any _ _).mono ?_
  rw [hnn]
  rintro e w1 ⟨rfl, rfl⟩
  go_wp2_with fail
  refine (iAt kind n k1 k2 (by omega) _ HT.out).mono ?_
  rintro e w1 ⟨rfl, rfl⟩
  go_wp2
  go_ret
  exact ⟨rfl, rfl⟩
theorem iWord (kind i r : Nat) (k1 : 1 ≤ kind) (k2 : kind ≤ 5) (hi : i ≤ 4) (hr : r < 2 ^ i) (w : World) (hT : TabAt 1 Lib.deBruijn64tab w) :
    Calls Tryd.prog 15 #[.int .i64 kind, .int .i64 i, .int .i64 r, .int .i64 12] w fun e w' => e = .returned (.string (wb kind r (2 ^ i) 12)) ∧ Below w.heap.size w w' := by
  have HT := Lib.hid hT
  clear hT
  have h : i = 0 ∨ i = 1 ∨ i = 2 ∨ i = 3 ∨ i = 4 := by omega
  clear hi
  rcases h with rfl | rfl | rfl | rfl | rfl
  · have HP := Lib.hid (iPart kind r 1 12 k1 k2 (by omega) (fun j hj => by omega) w HT.out)
    have hin := inB_mk (show (0 : Int) ≤ (r : Int) by omega) (show (r : Int) ≤ 0 by omega)
    clear hr
    go_enter Tryd.func15, Tryd.ntmps15
    go_wp2_with (first | (go_at_call 22; refine (within_any _ _ _ _).mono ?_; rintro e w' ⟨rfl, rfl⟩))
    refine HP.out.mono ?_
    rintro e w1 ⟨rfl, hb1⟩
    go_wp2
    go_ret
    exact ⟨rfl, hb1⟩
  · have HP := Lib.hid (iPart kind r 2 12 k1 k2 (by omega) (fun j hj => by omega) w HT.out)
    have hin := inB_mk (show (0 : Int) ≤ (r : Int) by omega) (show (r : Int) ≤ 1 by omega)
    clear hr
    go_enter Tryd.func15, Tryd.ntmps15
    go_wp2_with (first | (go_at_call 22; refine (within_any _ _ _ _).mono ?_; rintro e w' ⟨rfl, rfl⟩))
    refine HP.out.mono ?_
    rintro e w1 ⟨rfl, hb1⟩
    go_wp2
    go_ret
    exact ⟨rfl, hb1⟩
  · have HP := Lib.hid (iPart kind r 4 12 k1 k2 (by omega) (fun j hj => by omega) w HT.out)
    have hin := inB_mk (show (0 : Int) ≤ (r : Int) by omega) (show (r : Int) ≤ 3 by omega)
    clear hr
    go_enter Tryd.func15, Tryd.ntmps15
    go_wp2_with (first | (go_at_call 22; refine (within_any _ _ _ _).mono ?_; rintro e w' ⟨rfl, rfl⟩))
    refine HP.out.mono ?_
    rintro e w1 ⟨rfl, hb1⟩
    go_wp2
    go_ret
    exact ⟨rfl, hb1⟩
  · have HP := Lib.hid (iPart kind r 8 12 k1 k2 (by omega) (fun j hj => by omega) w HT.out)
    have hin := inB_mk (show (0 : Int) ≤ (r : Int) by omega) (show (r : Int) ≤ 7 by omega)
    clear hr
    go_enter Tryd.func15, Tryd.ntmps15
    go_wp2_with (first | (go_at_call 22; refine (within_any _ _ _ _).mono ?_; rintro e w' ⟨rfl, rfl⟩))
    refine HP.out.mono ?_
    rintro e w1 ⟨rfl, hb1⟩
    go_wp2
    go_ret
    exact ⟨rfl, hb1⟩
  · have HP := Lib.hid (iPart kind r 16 12 k1 k2 (by omega) (fun j hj => by omega) w HT.out)
    have hin := inB_mk (show (0 : Int) ≤ (r : Int) by omega) (show (r : Int) ≤ 15 by omega)
    clear hr
    go_enter Tryd.func15, Tryd.ntmps15
    go_wp2_with (first | (go_at_call 22; refine (within_any _ _ _ _).mono ?_; rintro e w' ⟨rfl, rfl⟩))
    refine HP.out.mono ?_
    rintro e w1 ⟨rfl, hb1⟩
    go_wp2
    go_ret
    exact ⟨rfl, hb1⟩
/-- The even places less the odd ones. -/
def sgn (kind : Nat) : Nat → Int
  | 0 => 0
  | n + 1 => sgn kind n + (1 - 2 * ((seqI kind n : Int) % 2))
theorem sgn_le (kind : Nat) : ∀ n : Nat, -(n : Int) ≤ sgn kind n ∧ sgn kind n ≤ n := by
  intro n
  induction n with
  | zero => exact ⟨Int.le_refl _, Int.le_refl _⟩
  | succ n ih =>
    show -((n + 1 : Nat) : Int) ≤ sgn kind n + (1 - 2 * ((seqI kind n : Int) % 2)) ∧ sgn kind n + (1 - 2 * ((seqI kind n : Int) % 2)) ≤ ((n + 1 : Nat) : Int)
    omega
theorem iSum (kind k : Nat) (k1 : 1 ≤ kind) (k2 : kind ≤ 5) (hk : k ≤ 1000) (w : World) (hT : TabAt 1 Lib.deBruijn64tab w) :
    Calls Tryd.prog 16 #[.int .i64 kind, .int .i64 k] w fun e w' => e = .returned (.int .i64 (sgn kind k)) ∧ w = w' := by
  have HT := Lib.hid hT
  have hkk := inB_mk (show (0 : Int) ≤ (k : Int) by omega) (show (k : Int) ≤ 1000 by omega)
  have hkd := inB_mk (show (1 : Int) ≤ (kind : Int) by omega) (show (kind : Int) ≤ 5 by omega)
  clear hT
  go_enter Tryd.func16, Tryd.ntmps16
  go_wp2_with fail
  refine (isSeq _ _).mono ?_
  rw [hkd]
  rintro e w1 ⟨rfl, rfl⟩
  go_wp2_with (first | (go_at_call 22; refine (within_any _ _ _ _).mono ?_; rintro e w' ⟨rfl, rfl⟩))
  go_loop [5, 16] (fun vs vi => ∃ n : Nat, n ≤ k ∧ vi = .int .i64 n ∧ vs = .int .i64 (sgn kind n)) (fun _ vi => k - (intOf vi).toNat)
  case atStart => exact ⟨0, Nat.zero_le _, rfl, rfl⟩
  case round =>
    obtain ⟨n, hn, rfl, rfl⟩ := hrel
    have hs := sgn_le kind n
    by_cases hlt : n < k
    · have HE := Lib.hid (show sgn kind n + (1 - 2 * ((seqI kind n : Int) % 2)) = sgn kind (n + 1) from rfl)
      have hq := seq_le kind n
      generalize sgn kind n = s at *
      go_wp2_with fail
      refine (iAt kind n k1 k2 (by omega) _ HT.out).mono ?_
      rintro e w1 ⟨rfl, rfl⟩
      generalize seqI kind n = q at *
      go_wp2
      go_round
      case rel => exact ⟨n + 1, by omega, by go_num, by rw [← HE.out]⟩
      case measure => simp [intOf]; omega
    · obtain rfl : n = k := by omega
      go_wp2
      go_ret
      exact ⟨rfl, rfl⟩
def w20 : ByteArray := ⟨#[48, 49, 49, 48, 49, 48, 48, 49, 49, 48, 48, 49, 48, 49, 49, 48, 49, 48, 48, 49]⟩
theorem w20_t : wl 1 0 1 20 = [48, 49, 49, 48, 49, 48, 48, 49, 49, 48, 48, 49, 48, 49, 49, 48, 49, 48, 48, 49] := by kernel_rfl
theorem w20_e : seqW 1 20 = w20 := by
  show wb 1 0 1 20 = w20
  unfold wb
  rw [w20_t]; rfl
theorem iFirst (w : World) (hT : TabAt 1 Lib.deBruijn64tab w) :
    Calls Tryd.prog 17 #[.int .i64 1, .int .i64 20] w fun e w' => e = .returned (.int .i64 2) ∧ Below w.heap.size w w' := by
  have HW := Lib.hid (iSeqW 1 20 w hT)
  have hsz : w20.size = 20 := rfl
  go_enter Tryd.func17, Tryd.ntmps17
  go_wp2_with fail
  refine HW.out.mono ?_
  rw [w20_e]
  rintro e w1 ⟨rfl, hb1⟩
  have HB1 := Lib.hid hb1
  have hg0 : ∀ h : 0 < w20.size, ((w20[0]'h).toNat : Int) = 48 := fun h => rfl
  have hg1 : ∀ h : 1 < w20.size, ((w20[1]'h).toNat : Int) = 49 := fun h => rfl
  have hg2 : ∀ h : 2 < w20.size, ((w20[2]'h).toNat : Int) = 49 := fun h => rfl
  clear hb1 hT
  generalize w20 = s at *
  go_wp2_with fail
  go_loopw [6] (fun vn wr => (vn = .int .i64 1 ∨ vn = .int .i64 2) ∧ Below w.heap.size w wr) (fun vn _ => 2 - (intOf vn).toNat)
  case atStart => exact ⟨Or.inl rfl, HB1.out⟩
  case round =>
    obtain ⟨hv, hbel⟩ := hrel
    have HB2 := Lib.hid hbel
    clear hbel
    have hw0 : IntKind.i64.wrap 0 = 0 := by decide
    have hw1 : IntKind.i64.wrap 1 = 1 := by decide
    rcases hv with rfl | rfl
    · go_upto_region 5 with fail
      refine wp_region_held_drew (S := (fun wx => Below w.heap.size w wx)) (by kernel_rfl) ?hS9000 (fun hHeld => ?hR9000)
      case hS9000 => ((try dsimp only); (first | exact Below.drew HB2.out | assumption))
      refine wpAnyH_take (i := 0) (oi := { dst := some 16, op := Go.Op.move (Go.Operand.tmp 5), type := 9, pos := "l19_sequences.go:82", after := #[], guard := none }) (v := ?v9001) rfl (by kernel_rfl) (by kernel_rfl) (by kernel_rfl) (fun _ _ _ h => h) (Or.inl ⟨by rfl, ?hy9001⟩) (by assumption) ?hr9001
      case hy9001 => (intro w hSw; (try dsimp only at hSw); go_simp; (try with_reducible rfl))
      (try simp only [Act.put, List.setIfInBounds_toArray, List.set_cons_zero, List.set_cons_succ])
      refine wpAnyH_take (i := 1) (oi := { dst := some 17, op := Go.Op.move (Go.Operand.tmp 6), type := 3, pos := "l19_sequences.go:82", after := #[], guard := none }) (v := ?v9002) rfl (by kernel_rfl) (by kernel_rfl) (by kernel_rfl) (fun _ _ _ h => h) (Or.inl ⟨by rfl, ?hy9002⟩) (by assumption) ?hr9002
      case hy9002 => (intro w hSw; (try dsimp only at hSw); go_simp; (try with_reducible rfl))
      (try simp only [Act.put, List.setIfInBounds_toArray, List.set_cons_zero, List.set_cons_succ])
      refine wpAnyH_take (i := 2) (oi := { dst := some 18, op := Go.Op.index 9 (Go.Operand.tmp 16) (Go.Operand.tmp 17), type := 5, pos := "l19_sequences.go:82", after := #[{ on := 0, ground := Go.Ground.data }, { on := 1, ground := Go.Ground.data }], guard := none }) (v := ?v9003) rfl (by kernel_rfl) (by kernel_rfl) (by kernel_rfl) (fun _ _ _ h => h) (Or.inl ⟨by rfl, ?hy9003⟩) (by assumption) ?hr9003
      case hy9003 => (intro w hSw; (try dsimp only at hSw); go_simp; (try with_reducible rfl))
      (try simp only [Act.put, List.setIfInBounds_toArray, List.set_cons_zero, List.set_cons_succ])
      refine wpAnyH_take (i := 3) (oi := { dst := some 19, op := Go.Op.move (Go.Operand.tmp 5), type := 9, pos := "l19_sequences.go:82", after := #[], guard := none }) (v := ?v9004) rfl (by kernel_rfl) (by kernel_rfl) (by kernel_rfl) (fun _ _ _ h => h) (Or.inl ⟨by rfl, ?hy9004⟩) (by assumption) ?hr9004
      case hy9004 => (intro w hSw; (try dsimp only at hSw); go_simp; (try with_reducible rfl))
      (try simp only [Act.put, List.setIfInBounds_toArray, List.set_cons_zero, List.set_cons_succ])
      refine wpAnyH_take (i := 4) (oi := { dst := some 20, op := Go.Op.move (Go.Operand.tmp 6), type := 3, pos := "l19_sequences.go:82", after := #[], guard := none }) (v := ?v9005) rfl (by kernel_rfl) (by kernel_rfl) (by kernel_rfl) (fun _ _ _ h => h) (Or.inl ⟨by rfl, ?hy9005⟩) (by assumption) ?hr9005
      case hy9005 => (intro w hSw; (try dsimp only at hSw); go_simp; (try with_reducible rfl))
      (try simp only [Act.put, List.setIfInBounds_toArray, List.set_cons_zero, List.set_cons_succ])
      refine wpAnyH_take (i := 5) (oi := { dst := some 21, op := Go.Op.binOp Go.BinOp.sub 3 (Go.Operand.tmp 20) (Go.Operand.const (Go.Value.int Go.IntKind.i64 1)) 3, type := 3, pos := "l19_sequences.go:82", after := #[{ on := 4, ground := Go.Ground.data }], guard := none }) (v := ?v9006) rfl (by kernel_rfl) (by kernel_rfl) (by kernel_rfl) (fun _ _ _ h => h) (Or.inl ⟨by rfl, ?hy9006⟩) (by assumption) ?hr9006
      case hy9006 => (intro w hSw; (try dsimp only at hSw); go_simp; (try with_reducible rfl))
      (try simp only [Act.put, List.setIfInBounds_toArray, List.set_cons_zero, List.set_cons_succ])
      refine wpAnyH_take (i := 6) (oi := { dst := some 22, op := Go.Op.index 9 (Go.Operand.tmp 19) (Go.Operand.tmp 21), type := 5, pos := "l19_sequences.go:82", after := #[{ on := 3, ground := Go.Ground.data }, { on := 5, ground := Go.Ground.data }], guard := none }) (v := ?v9007) rfl (by kernel_rfl) (by kernel_rfl) (by kernel_rfl) (fun _ _ _ h => h) (Or.inl ⟨by rfl, ?hy9007⟩) (by assumption) ?hr9007
      case hy9007 => (intro w hSw; (try dsimp only at hSw); go_simp; (try with_reducible rfl))
      (try simp only [Act.put, List.setIfInBounds_toArray, List.set_cons_zero, List.set_cons_succ])
      refine wpAnyH_take (i := 7) (oi := { dst := some 23, op := Go.Op.binOp Go.BinOp.eql 5 (Go.Operand.tmp 18) (Go.Operand.tmp 22) 5, type := 4, pos := "l19_sequences.go:82", after := #[{ on := 2, ground := Go.Ground.data }, { on := 6, ground := Go.Ground.data }], guard := none }) (v := ?v9008) rfl (by kernel_rfl) (by kernel_rfl) (by kernel_rfl) (fun _ _ _ h => h) (Or.inl ⟨by rfl, ?hy9008⟩) (by assumption) ?hr9008
      case hy9008 => (intro w hSw; (try dsimp only at hSw); go_simp; (try with_reducible rfl))
      (try simp only [Act.put, List.setIfInBounds_toArray, List.set_cons_zero, List.set_cons_succ])
      refine wpAnyH_done (by kernel_rfl) ?_ _
      go_wp2
      go_roundw
      case rel => exact ⟨Or.inr rfl, Below.drew HB2.out⟩
      case measure => simp [intOf]
    · go_upto_region 5 with fail
      refine wp_region_held_drew (S := (fun wx => Below w.heap.size w wx)) (by kernel_rfl) ?hS10000 (fun hHeld => ?hR10000)
      case hS10000 => ((try dsimp only); (first | exact Below.drew HB2.out | assumption))
      refine wpAnyH_take (i := 0) (oi := { dst := some 16, op := Go.Op.move (Go.Operand.tmp 5), type := 9, pos := "l19_sequences.go:82", after := #[], guard := none }) (v := ?v10001) rfl (by kernel_rfl) (by kernel_rfl) (by kernel_rfl) (fun _ _ _ h => h) (Or.inl ⟨by rfl, ?hy10001⟩) (by assumption) ?hr10001
      case hy10001 => (intro w hSw; (try dsimp only at hSw); go_simp; (try with_reducible rfl))
      (try simp only [Act.put, List.setIfInBounds_toArray, List.set_cons_zero, List.set_cons_succ])
      refine wpAnyH_take (i := 1) (oi := { dst := some 17, op := Go.Op.move (Go.Operand.tmp 6), type := 3, pos := "l19_sequences.go:82", after := #[], guard := none }) (v := ?v10002) rfl (by kernel_rfl) (by kernel_rfl) (by kernel_rfl) (fun _ _ _ h => h) (Or.inl ⟨by rfl, ?hy10002⟩) (by assumption) ?hr10002
      case hy10002 => (intro w hSw; (try dsimp only at hSw); go_simp; (try with_reducible rfl))
      (try simp only [Act.put, List.setIfInBounds_toArray, List.set_cons_zero, List.set_cons_succ])
      refine wpAnyH_take (i := 2) (oi := { dst := some 18, op := Go.Op.index 9 (Go.Operand.tmp 16) (Go.Operand.tmp 17), type := 5, pos := "l19_sequences.go:82", after := #[{ on := 0, ground := Go.Ground.data }, { on := 1, ground := Go.Ground.data }], guard := none }) (v := ?v10003) rfl (by kernel_rfl) (by kernel_rfl) (by kernel_rfl) (fun _ _ _ h => h) (Or.inl ⟨by rfl, ?hy10003⟩) (by assumption) ?hr10003
      case hy10003 => (intro w hSw; (try dsimp only at hSw); go_simp; (try with_reducible rfl))
      (try simp only [Act.put, List.setIfInBounds_toArray, List.set_cons_zero, List.set_cons_succ])
      refine wpAnyH_take (i := 3) (oi := { dst := some 19, op := Go.Op.move (Go.Operand.tmp 5), type := 9, pos := "l19_sequences.go:82", after := #[], guard := none }) (v := ?v10004) rfl (by kernel_rfl) (by kernel_rfl) (by kernel_rfl) (fun _ _ _ h => h) (Or.inl ⟨by rfl, ?hy10004⟩) (by assumption) ?hr10004
      case hy10004 => (intro w hSw; (try dsimp only at hSw); go_simp; (try with_reducible rfl))
      (try simp only [Act.put, List.setIfInBounds_toArray, List.set_cons_zero, List.set_cons_succ])
      refine wpAnyH_take (i := 4) (oi := { dst := some 20, op := Go.Op.move (Go.Operand.tmp 6), type := 3, pos := "l19_sequences.go:82", after := #[], guard := none }) (v := ?v10005) rfl (by kernel_rfl) (by kernel_rfl) (by kernel_rfl) (fun _ _ _ h => h) (Or.inl ⟨by rfl, ?hy10005⟩) (by assumption) ?hr10005
      case hy10005 => (intro w hSw; (try dsimp only at hSw); go_simp; (try with_reducible rfl))
      (try simp only [Act.put, List.setIfInBounds_toArray, List.set_cons_zero, List.set_cons_succ])
      refine wpAnyH_take (i := 5) (oi := { dst := some 21, op := Go.Op.binOp Go.BinOp.sub 3 (Go.Operand.tmp 20) (Go.Operand.const (Go.Value.int Go.IntKind.i64 1)) 3, type := 3, pos := "l19_sequences.go:82", after := #[{ on := 4, ground := Go.Ground.data }], guard := none }) (v := ?v10006) rfl (by kernel_rfl) (by kernel_rfl) (by kernel_rfl) (fun _ _ _ h => h) (Or.inl ⟨by rfl, ?hy10006⟩) (by assumption) ?hr10006
      case hy10006 => (intro w hSw; (try dsimp only at hSw); go_simp; (try with_reducible rfl))
      (try simp only [Act.put, List.setIfInBounds_toArray, List.set_cons_zero, List.set_cons_succ])
      refine wpAnyH_take (i := 6) (oi := { dst := some 22, op := Go.Op.index 9 (Go.Operand.tmp 19) (Go.Operand.tmp 21), type := 5, pos := "l19_sequences.go:82", after := #[{ on := 3, ground := Go.Ground.data }, { on := 5, ground := Go.Ground.data }], guard := none }) (v := ?v10007) rfl (by kernel_rfl) (by kernel_rfl) (by kernel_rfl) (fun _ _ _ h => h) (Or.inl ⟨by rfl, ?hy10007⟩) (by assumption) ?hr10007
      case hy10007 => (intro w hSw; (try dsimp only at hSw); go_simp; (try with_reducible rfl))
      (try simp only [Act.put, List.setIfInBounds_toArray, List.set_cons_zero, List.set_cons_succ])
      refine wpAnyH_take (i := 7) (oi := { dst := some 23, op := Go.Op.binOp Go.BinOp.eql 5 (Go.Operand.tmp 18) (Go.Operand.tmp 22) 5, type := 4, pos := "l19_sequences.go:82", after := #[{ on := 2, ground := Go.Ground.data }, { on := 6, ground := Go.Ground.data }], guard := none }) (v := ?v10008) rfl (by kernel_rfl) (by kernel_rfl) (by kernel_rfl) (fun _ _ _ h => h) (Or.inl ⟨by rfl, ?hy10008⟩) (by assumption) ?hr10008
      case hy10008 => (intro w hSw; (try dsimp only at hSw); go_simp; (try with_reducible rfl))
      (try simp only [Act.put, List.setIfInBounds_toArray, List.set_cons_zero, List.set_cons_succ])
      refine wpAnyH_done (by kernel_rfl) ?_ _
      go_wp2
      go_ret
      exact ⟨rfl, Below.drew HB2.out⟩
end Sq
end Go.Proofs.YtkddmngbfncocaaDoor
