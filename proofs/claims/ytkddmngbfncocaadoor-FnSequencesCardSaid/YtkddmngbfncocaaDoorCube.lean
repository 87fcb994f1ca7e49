/-
  Contracts of the search for cubes.
  Conditions: none.
-/
import Derived.Test.YtkddmngbfncocaaDoorWords
import Derived.Deep.DeepCutAuto
import Derived.Deep.RegionHeld3
namespace Go.Proofs.YtkddmngbfncocaaDoor
open Go.RowKit
namespace Sq
def Cu (s : ByteArray) (f z : Nat) : Prop := ((s.extract f (f + 2 * z)).toList == (s.extract (f + z) (f + 3 * z)).toList) = true
def HasC (s : ByteArray) : Prop := ∃ f z, 1 ≤ z ∧ f + 3 * z ≤ s.size ∧ Cu s f z
def CubeP (s : ByteArray) (e : Ending) : Prop := ∃ r : Bool, e = .returned (.bool r) ∧ (r = true ↔ HasC s)
theorem seqW_size (kind k : Int) : (seqW kind k).size ≤ 256 := by
  unfold seqW
  split
  · rename_i h
    simp only [Bool.and_eq_true] at h
    have := inB_t h.2
    rw [wb_size]; omega
  · show (0 : Nat) ≤ 256; omega
set_option maxHeartbeats 1000000 in
theorem iCube (kind k : Int) (w : World) (hT : TabAt 1 Lib.deBruijn64tab w) :
    Calls Tryd.prog 9 #[.int .i64 kind, .int .i64 k] w fun e w' => CubeP (seqW kind k) e ∧ Below w.heap.size w w' := by
  have hsz := seqW_size kind k
  have HT := Lib.hid hT
  clear hT
  go_enter Tryd.func9, Tryd.ntmps9
  go_wp2_with fail
  refine (iSeqW kind k _ HT.out).mono ?_
  rintro e w1 ⟨rfl, hb1⟩
  have HB1 := Lib.hid hb1
  clear hb1
  generalize hsw : seqW kind k = s at *
  have HSW := Lib.hid hsw
  clear hsw
  obtain ⟨n, hn⟩ : ∃ n, s.size = n := ⟨_, rfl⟩
  have HN := Lib.hid hn
  rw [hn] at hsz
  go_wp2_with fail
  go_loopw [13] (fun vf wr => ∃ f : Nat, f ≤ n ∧ vf = .int .i64 f ∧ Hid (∀ f', f' < f → ∀ z, 1 ≤ z → f' + 3 * z ≤ n → ¬ Cu s f' z) ∧ Below w.heap.size w wr) (fun vf _ => n - (intOf vf).toNat)
  case atStart => exact ⟨0, Nat.zero_le _, rfl, Lib.hid (fun f' h => by omega), HB1.out⟩
  case round =>
    obtain ⟨f, hf, rfl, hg, hbel⟩ := hrel
    have HB := Lib.hid hbel
    clear hbel
    by_cases hlt : f < n
    · go_wp2_with fail
      go_loopw [7] (fun vz wr2 => ∃ z : Nat, 1 ≤ z ∧ f + 3 * z ≤ n + 3 ∧ vz = .int .i64 z ∧ Hid (∀ z', 1 ≤ z' → z' < z → ¬ Cu s f z') ∧ Below w.heap.size w wr2) (fun vz _ => n - (intOf vz).toNat)
      case atStart => exact ⟨1, by omega, by omega, rfl, Lib.hid (fun z' h1 h2 => by omega), HB.out⟩
      case round =>
        obtain ⟨z, hz1, hz2, rfl, hgz, hbel⟩ := hrel
        have HB2 := Lib.hid hbel
        clear hbel
        by_cases hin : f + 3 * z ≤ n
        · have h3 : (f : Int) + 3 * (z : Int) ≤ (n : Int) := by omega
          have h4 : (f : Int) + 2 * (z : Int) ≤ (n : Int) := by omega
          have h5 : (f : Int) + (z : Int) ≤ (n : Int) := by omega
          have hw1 : IntKind.i64.wrap (2 * (z : Int)) = 2 * (z : Int) := IntWalk.i64_in _ (by omega)
          have hw2 : IntKind.i64.wrap ((f : Int) + 2 * (z : Int)) = (f : Int) + 2 * (z : Int) := IntWalk.i64_in _ (by omega)
          have hw3 : IntKind.i64.wrap (3 * (z : Int)) = 3 * (z : Int) := IntWalk.i64_in _ (by omega)
          have hw4 : IntKind.i64.wrap ((f : Int) + 3 * (z : Int)) = (f : Int) + 3 * (z : Int) := IntWalk.i64_in _ (by omega)
          have hw5 : IntKind.i64.wrap ((f : Int) + (z : Int)) = (f : Int) + (z : Int) := IntWalk.i64_in _ (by omega)
          have ht1 : ((f : Int) + 2 * (z : Int)).toNat = f + 2 * z := by omega
          have ht2 : ((f : Int) + 3 * (z : Int)).toNat = f + 3 * z := by omega
          have ht3 : ((f : Int) + (z : Int)).toNat = f + z := by omega
          have hs1 : ∀ wx, (Instr.slice 9 (.string s) (some (.int .i64 (f : Int))) (some (.int .i64 ((f : Int) + 2 * (z : Int)))) none).run Tryd.prog wx = .ok (.string (s.extract f (f + 2 * z))) wx := fun wx => by
            rw [run_slice_string (P := Tryd.prog) wx 9 s .i64 .i64 (f : Int) ((f : Int) + 2 * (z : Int)) Tryd.underlying9 (by omega) (by omega) (by omega), ht1]; rfl
          have hs2 : ∀ wx, (Instr.slice 9 (.string s) (some (.int .i64 ((f : Int) + (z : Int)))) (some (.int .i64 ((f : Int) + 3 * (z : Int)))) none).run Tryd.prog wx = .ok (.string (s.extract (f + z) (f + 3 * z))) wx := fun wx => by
            rw [run_slice_string (P := Tryd.prog) wx 9 s .i64 .i64 ((f : Int) + (z : Int)) ((f : Int) + 3 * (z : Int)) Tryd.underlying9 (by omega) (by omega) (by omega), ht2, ht3]
          clear h3 h4 h5
          cases hc : ((s.extract f (f + 2 * z)).toList == (s.extract (f + z) (f + 3 * z)).toList) with
          | true =>
            have HC := Lib.hid (show HasC s from ⟨f, z, hz1, by rw [HN.out]; exact hin, hc⟩)
            go_upto_region 8 with fail
            refine wp_region_held_drew (S := (fun wx => Below w.heap.size w wx)) (by kernel_rfl) ?hS1000 (fun hHeld => ?hR1000)
            case hS1000 => ((try dsimp only); (first | exact Below.drew HB2.out | assumption))
            refine wpAnyH_take (i := 0) (oi := { dst := some 25, op := Go.Op.move (Go.Operand.tmp 5), type := 9, pos := "l19_sequences.go:71", after := #[], guard := none }) (v := ?v1001) rfl (by kernel_rfl) (by kernel_rfl) (by kernel_rfl) (fun _ _ _ h => h) (Or.inl ⟨by rfl, ?hy1001⟩) (by assumption) ?hr1001
            case hy1001 => (intro w hSw; (try dsimp only at hSw); go_simp; (try with_reducible rfl))
            (try simp only [Act.put, List.setIfInBounds_toArray, List.set_cons_zero, List.set_cons_succ])
            refine wpAnyH_take (i := 1) (oi := { dst := some 26, op := Go.Op.move (Go.Operand.tmp 6), type := 3, pos := "l19_sequences.go:71", after := #[], guard := none }) (v := ?v1002) rfl (by kernel_rfl) (by kernel_rfl) (by kernel_rfl) (fun _ _ _ h => h) (Or.inl ⟨by rfl, ?hy1002⟩) (by assumption) ?hr1002
            case hy1002 => (intro w hSw; (try dsimp only at hSw); go_simp; (try with_reducible rfl))
            (try simp only [Act.put, List.setIfInBounds_toArray, List.set_cons_zero, List.set_cons_succ])
            refine wpAnyH_take (i := 2) (oi := { dst := some 27, op := Go.Op.move (Go.Operand.tmp 6), type := 3, pos := "l19_sequences.go:71", after := #[], guard := none }) (v := ?v1003) rfl (by kernel_rfl) (by kernel_rfl) (by kernel_rfl) (fun _ _ _ h => h) (Or.inl ⟨by rfl, ?hy1003⟩) (by assumption) ?hr1003
            case hy1003 => (intro w hSw; (try dsimp only at hSw); go_simp; (try with_reducible rfl))
            (try simp only [Act.put, List.setIfInBounds_toArray, List.set_cons_zero, List.set_cons_succ])
            refine wpAnyH_take (i := 3) (oi := { dst := some 28, op := Go.Op.move (Go.Operand.tmp 7), type := 3, pos := "l19_sequences.go:71", after := #[], guard := none }) (v := ?v1004) rfl (by kernel_rfl) (by kernel_rfl) (by kernel_rfl) (fun _ _ _ h => h) (Or.inl ⟨by rfl, ?hy1004⟩) (by assumption) ?hr1004
            case hy1004 => (intro w hSw; (try dsimp only at hSw); go_simp; (try with_reducible rfl))
            (try simp only [Act.put, List.setIfInBounds_toArray, List.set_cons_zero, List.set_cons_succ])
            refine wpAnyH_take (i := 4) (oi := { dst := some 29, op := Go.Op.binOp Go.BinOp.mul 3 (Go.Operand.const (Go.Value.int Go.IntKind.i64 2)) (Go.Operand.tmp 28) 3, type := 3, pos := "l19_sequences.go:71", after := #[{ on := 3, ground := Go.Ground.data }], guard := none }) (v := ?v1005) rfl (by kernel_rfl) (by kernel_rfl) (by kernel_rfl) (fun _ _ _ h => h) (Or.inl ⟨by rfl, ?hy1005⟩) (by assumption) ?hr1005
            case hy1005 => (intro w hSw; (try dsimp only at hSw); go_simp; (try with_reducible rfl))
            (try simp only [Act.put, List.setIfInBounds_toArray, List.set_cons_zero, List.set_cons_succ])
            refine wpAnyH_take (i := 5) (oi := { dst := some 30, op := Go.Op.binOp Go.BinOp.add 3 (Go.Operand.tmp 27) (Go.Operand.tmp 29) 3, type := 3, pos := "l19_sequences.go:71", after := #[{ on := 2, ground := Go.Ground.data }, { on := 4, ground := Go.Ground.data }], guard := none }) (v := ?v1006) rfl (by kernel_rfl) (by kernel_rfl) (by kernel_rfl) (fun _ _ _ h => h) (Or.inl ⟨by rfl, ?hy1006⟩) (by assumption) ?hr1006
            case hy1006 => (intro w hSw; (try dsimp only at hSw); go_simp; (try with_reducible rfl))
            (try simp only [Act.put, List.setIfInBounds_toArray, List.set_cons_zero, List.set_cons_succ])
            refine wpAnyH_take (i := 6) (oi := { dst := some 31, op := Go.Op.slice 9 (Go.Operand.tmp 25) (some (Go.Operand.tmp 26)) (some (Go.Operand.tmp 30)) none, type := 9, pos := "l19_sequences.go:71", after := #[{ on := 0, ground := Go.Ground.data }, { on := 1, ground := Go.Ground.data }, { on := 5, ground := Go.Ground.data }], guard := none }) (v := ?v1007) rfl (by kernel_rfl) (by kernel_rfl) (by kernel_rfl) (fun _ _ _ h => h) (Or.inl ⟨by rfl, ?hy1007⟩) (by assumption) ?hr1007
            case hy1007 => (intro w hSw; (try dsimp only at hSw); go_simp; (try with_reducible rfl))
            (try simp only [Act.put, List.setIfInBounds_toArray, List.set_cons_zero, List.set_cons_succ])
            refine wpAnyH_take (i := 7) (oi := { dst := some 32, op := Go.Op.move (Go.Operand.tmp 5), type := 9, pos := "l19_sequences.go:71", after := #[], guard := none }) (v := ?v1008) rfl (by kernel_rfl) (by kernel_rfl) (by kernel_rfl) (fun _ _ _ h => h) (Or.inl ⟨by rfl, ?hy1008⟩) (by assumption) ?hr1008
            case hy1008 => (intro w hSw; (try dsimp only at hSw); go_simp; (try with_reducible rfl))
            (try simp only [Act.put, List.setIfInBounds_toArray, List.set_cons_zero, List.set_cons_succ])
            refine wpAnyH_take (i := 8) (oi := { dst := some 33, op := Go.Op.move (Go.Operand.tmp 6), type := 3, pos := "l19_sequences.go:71", after := #[], guard := none }) (v := ?v1009) rfl (by kernel_rfl) (by kernel_rfl) (by kernel_rfl) (fun _ _ _ h => h) (Or.inl ⟨by rfl, ?hy1009⟩) (by assumption) ?hr1009
            case hy1009 => (intro w hSw; (try dsimp only at hSw); go_simp; (try with_reducible rfl))
            (try simp only [Act.put, List.setIfInBounds_toArray, List.set_cons_zero, List.set_cons_succ])
            refine wpAnyH_take (i := 9) (oi := { dst := some 34, op := Go.Op.move (Go.Operand.tmp 7), type := 3, pos := "l19_sequences.go:71", after := #[], guard := none }) (v := ?v1010) rfl (by kernel_rfl) (by kernel_rfl) (by kernel_rfl) (fun _ _ _ h => h) (Or.inl ⟨by rfl, ?hy1010⟩) (by assumption) ?hr1010
            case hy1010 => (intro w hSw; (try dsimp only at hSw); go_simp; (try with_reducible rfl))
            (try simp only [Act.put, List.setIfInBounds_toArray, List.set_cons_zero, List.set_cons_succ])
            refine wpAnyH_take (i := 10) (oi := { dst := some 35, op := Go.Op.binOp Go.BinOp.add 3 (Go.Operand.tmp 33) (Go.Operand.tmp 34) 3, type := 3, pos := "l19_sequences.go:71", after := #[{ on := 8, ground := Go.Ground.data }, { on := 9, ground := Go.Ground.data }], guard := none }) (v := ?v1011) rfl (by kernel_rfl) (by kernel_rfl) (by kernel_rfl) (fun _ _ _ h => h) (Or.inl ⟨by rfl, ?hy1011⟩) (by assumption) ?hr1011
            case hy1011 => (intro w hSw; (try dsimp only at hSw); go_simp; (try with_reducible rfl))
            (try simp only [Act.put, List.setIfInBounds_toArray, List.set_cons_zero, List.set_cons_succ])
            refine wpAnyH_take (i := 11) (oi := { dst := some 36, op := Go.Op.move (Go.Operand.tmp 6), type := 3, pos := "l19_sequences.go:71", after := #[], guard := none }) (v := ?v1012) rfl (by kernel_rfl) (by kernel_rfl) (by kernel_rfl) (fun _ _ _ h => h) (Or.inl ⟨by rfl, ?hy1012⟩) (by assumption) ?hr1012
            case hy1012 => (intro w hSw; (try dsimp only at hSw); go_simp; (try with_reducible rfl))
            (try simp only [Act.put, List.setIfInBounds_toArray, List.set_cons_zero, List.set_cons_succ])
            refine wpAnyH_take (i := 12) (oi := { dst := some 37, op := Go.Op.move (Go.Operand.tmp 7), type := 3, pos := "l19_sequences.go:71", after := #[], guard := none }) (v := ?v1013) rfl (by kernel_rfl) (by kernel_rfl) (by kernel_rfl) (fun _ _ _ h => h) (Or.inl ⟨by rfl, ?hy1013⟩) (by assumption) ?hr1013
            case hy1013 => (intro w hSw; (try dsimp only at hSw); go_simp; (try with_reducible rfl))
            (try simp only [Act.put, List.setIfInBounds_toArray, List.set_cons_zero, List.set_cons_succ])
            refine wpAnyH_take (i := 13) (oi := { dst := some 38, op := Go.Op.binOp Go.BinOp.mul 3 (Go.Operand.const (Go.Value.int Go.IntKind.i64 3)) (Go.Operand.tmp 37) 3, type := 3, pos := "l19_sequences.go:71", after := #[{ on := 12, ground := Go.Ground.data }], guard := none }) (v := ?v1014) rfl (by kernel_rfl) (by kernel_rfl) (by kernel_rfl) (fun _ _ _ h => h) (Or.inl ⟨by rfl, ?hy1014⟩) (by assumption) ?hr1014
            case hy1014 => (intro w hSw; (try dsimp only at hSw); go_simp; (try with_reducible rfl))
            (try simp only [Act.put, List.setIfInBounds_toArray, List.set_cons_zero, List.set_cons_succ])
            refine wpAnyH_take (i := 14) (oi := { dst := some 39, op := Go.Op.binOp Go.BinOp.add 3 (Go.Operand.tmp 36) (Go.Operand.tmp 38) 3, type := 3, pos := "l19_sequences.go:71", after := #[{ on := 11, ground := Go.Ground.data }, { on := 13, ground := Go.Ground.data }], guard := none }) (v := ?v1015) rfl (by kernel_rfl) (by kernel_rfl) (by kernel_rfl) (fun _ _ _ h => h) (Or.inl ⟨by rfl, ?hy1015⟩) (by assumption) ?hr1015
            case hy1015 => (intro w hSw; (try dsimp only at hSw); go_simp; (try with_reducible rfl))
            (try simp only [Act.put, List.setIfInBounds_toArray, List.set_cons_zero, List.set_cons_succ])
            refine wpAnyH_take (i := 15) (oi := { dst := some 40, op := Go.Op.slice 9 (Go.Operand.tmp 32) (some (Go.Operand.tmp 35)) (some (Go.Operand.tmp 39)) none, type := 9, pos := "l19_sequences.go:71", after := #[{ on := 7, ground := Go.Ground.data }, { on := 10, ground := Go.Ground.data }, { on := 14, ground := Go.Ground.data }], guard := none }) (v := ?v1016) rfl (by kernel_rfl) (by kernel_rfl) (by kernel_rfl) (fun _ _ _ h => h) (Or.inl ⟨by rfl, ?hy1016⟩) (by assumption) ?hr1016
            case hy1016 => (intro w hSw; (try dsimp only at hSw); go_simp; (try with_reducible rfl))
            (try simp only [Act.put, List.setIfInBounds_toArray, List.set_cons_zero, List.set_cons_succ])
            refine wpAnyH_take (i := 16) (oi := { dst := some 41, op := Go.Op.binOp Go.BinOp.eql 9 (Go.Operand.tmp 31) (Go.Operand.tmp 40) 9, type := 4, pos := "l19_sequences.go:71", after := #[{ on := 6, ground := Go.Ground.data }, { on := 15, ground := Go.Ground.data }], guard := none }) (v := ?v1017) rfl (by kernel_rfl) (by kernel_rfl) (by kernel_rfl) (fun _ _ _ h => h) (Or.inl ⟨by rfl, ?hy1017⟩) (by assumption) ?hr1017
            case hy1017 => (intro w hSw; (try dsimp only at hSw); go_simp; (try with_reducible rfl))
            (try simp only [Act.put, List.setIfInBounds_toArray, List.set_cons_zero, List.set_cons_succ])
            refine wpAnyH_done (by kernel_rfl) ?_ _
            go_wp2
            go_ret
            exact ⟨⟨true, rfl, by rw [HSW.out]; exact ⟨fun _ => HC.out, fun _ => rfl⟩⟩, Below.drew HB2.out⟩
          | false =>
            have HC := Lib.hid (show ∀ z', 1 ≤ z' → z' < z + 1 → ¬ Cu s f z' from fun z' h1 h2 h3 => by
              by_cases e : z' = z
              · subst e; unfold Cu at h3; rw [hc] at h3; exact absurd h3 (by simp)
              · exact hgz.out z' h1 (by omega) h3)
            go_upto_region 8 with fail
            refine wp_region_held_drew (S := (fun wx => Below w.heap.size w wx)) (by kernel_rfl) ?hS2000 (fun hHeld => ?hR2000)
            case hS2000 => ((try dsimp only); (first | exact Below.drew HB2.out | assumption))
            refine wpAnyH_take (i := 0) (oi := { dst := some 25, op := Go.Op.move (Go.Operand.tmp 5), type := 9, pos := "l19_sequences.go:71", after := #[], guard := none }) (v := ?v2001) rfl (by kernel_rfl) (by kernel_rfl) (by kernel_rfl) (fun _ _ _ h => h) (Or.inl ⟨by rfl, ?hy2001⟩) (by assumption) ?hr2001
            case hy2001 => (intro w hSw; (try dsimp only at hSw); go_simp; (try with_reducible rfl))
            (try simp only [Act.put, List.setIfInBounds_toArray, List.set_cons_zero, List.set_cons_succ])
            refine wpAnyH_take (i := 1) (oi := { dst := some 26, op := Go.Op.move (Go.Operand.tmp 6), type := 3, pos := "l19_sequences.go:71", after := #[], guard := none }) (v := ?v2002) rfl (by kernel_rfl) (by kernel_rfl) (by kernel_rfl) (fun _ _ _ h => h) (Or.inl ⟨by rfl, ?hy2002⟩) (by assumption) ?hr2002
            case hy2002 => (intro w hSw; (try dsimp only at hSw); go_simp; (try with_reducible rfl))
            (try simp only [Act.put, List.setIfInBounds_toArray, List.set_cons_zero, List.set_cons_succ])
            refine wpAnyH_take (i := 2) (oi := { dst := some 27, op := Go.Op.move (Go.Operand.tmp 6), type := 3, pos := "l19_sequences.go:71", after := #[], guard := none }) (v := ?v2003) rfl (by kernel_rfl) (by kernel_rfl) (by kernel_rfl) (fun _ _ _ h => h) (Or.inl ⟨by rfl, ?hy2003⟩) (by assumption) ?hr2003
            case hy2003 => (intro w hSw; (try dsimp only at hSw); go_simp; (try with_reducible rfl))
            (try simp only [Act.put, List.setIfInBounds_toArray, List.set_cons_zero, List.set_cons_succ])
            refine wpAnyH_take (i := 3) (oi := { dst := some 28, op := Go.Op.move (Go.Operand.tmp 7), type := 3, pos := "l19_sequences.go:71", after := #[], guard := none }) (v := ?v2004) rfl (by kernel_rfl) (by kernel_rfl) (by kernel_rfl) (fun _ _ _ h => h) (Or.inl ⟨by rfl, ?hy2004⟩) (by assumption) ?hr2004
            case hy2004 => (intro w hSw; (try dsimp only at hSw); go_simp; (try with_reducible rfl))
            (try simp only [Act.put, List.setIfInBounds_toArray, List.set_cons_zero, List.set_cons_succ])
            refine wpAnyH_take (i := 4) (oi := { dst := some 29, op := Go.Op.binOp Go.BinOp.mul 3 (Go.Operand.const (Go.Value.int Go.IntKind.i64 2)) (Go.Operand.tmp 28) 3, type := 3, pos := "l19_sequences.go:71", after := #[{ on := 3, ground := Go.Ground.data }], guard := none }) (v := ?v2005) rfl (by kernel_rfl) (by kernel_rfl) (by kernel_rfl) (fun _ _ _ h => h) (Or.inl ⟨by rfl, ?hy2005⟩) (by assumption) ?hr2005
            case hy2005 => (intro w hSw; (try dsimp only at hSw); go_simp; (try with_reducible rfl))
            (try simp only [Act.put, List.setIfInBounds_toArray, List.set_cons_zero, List.set_cons_succ])
            refine wpAnyH_take (i := 5) (oi := { dst := some 30, op := Go.Op.binOp Go.BinOp.add 3 (Go.Operand.tmp 27) (Go.Operand.tmp 29) 3, type := 3, pos := "l19_sequences.go:71", after := #[{ on := 2, ground := Go.Ground.data }, { on := 4, ground := Go.Ground.data }], guard := none }) (v := ?v2006) rfl (by kernel_rfl) (by kernel_rfl) (by kernel_rfl) (fun _ _ _ h => h) (Or.inl ⟨by rfl, ?hy2006⟩) (by assumption) ?hr2006
            case hy2006 => (intro w hSw; (try dsimp only at hSw); go_simp; (try with_reducible rfl))
            (try simp only [Act.put, List.setIfInBounds_toArray, List.set_cons_zero, List.set_cons_succ])
            refine wpAnyH_take (i := 6) (oi := { dst := some 31, op := Go.Op.slice 9 (Go.Operand.tmp 25) (some (Go.Operand.tmp 26)) (some (Go.Operand.tmp 30)) none, type := 9, pos := "l19_sequences.go:71", after := #[{ on := 0, ground := Go.Ground.data }, { on := 1, ground := Go.Ground.data }, { on := 5, ground := Go.Ground.data }], guard := none }) (v := ?v2007) rfl (by kernel_rfl) (by kernel_rfl) (by kernel_rfl) (fun _ _ _ h => h) (Or.inl ⟨by rfl, ?hy2007⟩) (by assumption) ?hr2007
            case hy2007 => (intro w hSw; (try dsimp only at hSw); go_simp; (try with_reducible rfl))
            (try simp only [Act.put, List.setIfInBounds_toArray, List.set_cons_zero, List.set_cons_succ])
            refine wpAnyH_take (i := 7) (oi := { dst := some 32, op := Go.Op.move (Go.Operand.tmp 5), type := 9, pos := "l19_sequences.go:71", after := #[], guard := none }) (v := ?v2008) rfl (by kernel_rfl) (by kernel_rfl) (by kernel_rfl) (fun _ _ _ h => h) (Or.inl ⟨by rfl, ?hy2008⟩) (by assumption) ?hr2008
            case hy2008 => (intro w hSw; (try dsimp only at hSw); go_simp; (try with_reducible rfl))
            (try simp only [Act.put, List.setIfInBounds_toArray, List.set_cons_zero, List.set_cons_succ])
            refine wpAnyH_take (i := 8) (oi := { dst := some 33, op := Go.Op.move (Go.Operand.tmp 6), type := 3, pos := "l19_sequences.go:71", after := #[], guard := none }) (v := ?v2009) rfl (by kernel_rfl) (by kernel_rfl) (by kernel_rfl) (fun _ _ _ h => h) (Or.inl ⟨by rfl, ?hy2009⟩) (by assumption) ?hr2009
            case hy2009 => (intro w hSw; (try dsimp only at hSw); go_simp; (try with_reducible rfl))
            (try simp only [Act.put, List.setIfInBounds_toArray, List.set_cons_zero, List.set_cons_succ])
            refine wpAnyH_take (i := 9) (oi := { dst := some 34, op := Go.Op.move (Go.Operand.tmp 7), type := 3, pos := "l19_sequences.go:71", after := #[], guard := none }) (v := ?v2010) rfl (by kernel_rfl) (by kernel_rfl) (by kernel_rfl) (fun _ _ _ h => h) (Or.inl ⟨by rfl, ?hy2010⟩) (by assumption) ?hr2010
            case hy2010 => (intro w hSw; (try dsimp only at hSw); go_simp; (try with_reducible rfl))
            (try simp only [Act.put, List.setIfInBounds_toArray, List.set_cons_zero, List.set_cons_succ])
            refine wpAnyH_take (i := 10) (oi := { dst := some 35, op := Go.Op.binOp Go.BinOp.add 3 (Go.Operand.tmp 33) (Go.Operand.tmp 34) 3, type := 3, pos := "l19_sequences.go:71", after := #[{ on := 8, ground := Go.Ground.data }, { on := 9, ground := Go.Ground.data }], guard := none }) (v := ?v2011) rfl (by kernel_rfl) (by kernel_rfl) (by kernel_rfl) (fun _ _ _ h => h) (Or.inl ⟨by rfl, ?hy2011⟩) (by assumption) ?hr2011
            case hy2011 => (intro w hSw; (try dsimp only at hSw); go_simp; (try with_reducible rfl))
            (try simp only [Act.put, List.setIfInBounds_toArray, List.set_cons_zero, List.set_cons_succ])
            refine wpAnyH_take (i := 11) (oi := { dst := some 36, op := Go.Op.move (Go.Operand.tmp 6), type := 3, pos := "l19_sequences.go:71", after := #[], guard := none }) (v := ?v2012) rfl (by kernel_rfl) (by kernel_rfl) (by kernel_rfl) (fun _ _ _ h => h) (Or.inl ⟨by rfl, ?hy2012⟩) (by assumption) ?hr2012
            case hy2012 => (intro w hSw; (try dsimp only at hSw); go_simp; (try with_reducible rfl))
            (try simp only [Act.put, List.setIfInBounds_toArray, List.set_cons_zero, List.set_cons_succ])
            refine wpAnyH_take (i := 12) (oi := { dst := some 37, op := Go.Op.move (Go.Operand.tmp 7), type := 3, pos := "l19_sequences.go:71", after := #[], guard := none }) (v := ?v2013) rfl (by kernel_rfl) (by kernel_rfl) (by kernel_rfl) (fun _ _ _ h => h) (Or.inl ⟨by rfl, ?hy2013⟩) (by assumption) ?hr2013
            case hy2013 => (intro w hSw; (try dsimp only at hSw); go_simp; (try with_reducible rfl))
            (try simp only [Act.put, List.setIfInBounds_toArray, List.set_cons_zero, List.set_cons_succ])
            refine wpAnyH_take (i := 13) (oi := { dst := some 38, op := Go.Op.binOp Go.BinOp.mul 3 (Go.Operand.const (Go.Value.int Go.IntKind.i64 3)) (Go.Operand.tmp 37) 3, type := 3, pos := "l19_sequences.go:71", after := #[{ on := 12, ground := Go.Ground.data }], guard := none }) (v := ?v2014) rfl (by kernel_rfl) (by kernel_rfl) (by kernel_rfl) (fun _ _ _ h => h) (Or.inl ⟨by rfl, ?hy2014⟩) (by assumption) ?hr2014
            case hy2014 => (intro w hSw; (try dsimp only at hSw); go_simp; (try with_reducible rfl))
            (try simp only [Act.put, List.setIfInBounds_toArray, List.set_cons_zero, List.set_cons_succ])
            refine wpAnyH_take (i := 14) (oi := { dst := some 39, op := Go.Op.binOp Go.BinOp.add 3 (Go.Operand.tmp 36) (Go.Operand.tmp 38) 3, type := 3, pos := "l19_sequences.go:71", after := #[{ on := 11, ground := Go.Ground.data }, { on := 13, ground := Go.Ground.data }], guard := none }) (v := ?v2015) rfl (by kernel_rfl) (by kernel_rfl) (by kernel_rfl) (fun _ _ _ h => h) (Or.inl ⟨by rfl, ?hy2015⟩) (by assumption) ?hr2015
            case hy2015 => (intro w hSw; (try dsimp only at hSw); go_simp; (try with_reducible rfl))
            (try simp only [Act.put, List.setIfInBounds_toArray, List.set_cons_zero, List.set_cons_succ])
            refine wpAnyH_take (i := 15) (oi := { dst := some 40, op := Go.Op.slice 9 (Go.Operand.tmp 32) (some (Go.Operand.tmp 35)) (some (Go.Operand.tmp 39)) none, type := 9, pos := "l19_sequences.go:71", after := #[{ on := 7, ground := Go.Ground.data }, { on := 10, ground := Go.Ground.data }, { on := 14, ground := Go.Ground.data }], guard := none }) (v := ?v2016) rfl (by kernel_rfl) (by kernel_rfl) (by kernel_rfl) (fun _ _ _ h => h) (Or.inl ⟨by rfl, ?hy2016⟩) (by assumption) ?hr2016
            case hy2016 => (intro w hSw; (try dsimp only at hSw); go_simp; (try with_reducible rfl))
            (try simp only [Act.put, List.setIfInBounds_toArray, List.set_cons_zero, List.set_cons_succ])
            refine wpAnyH_take (i := 16) (oi := { dst := some 41, op := Go.Op.binOp Go.BinOp.eql 9 (Go.Operand.tmp 31) (Go.Operand.tmp 40) 9, type := 4, pos := "l19_sequences.go:71", after := #[{ on := 6, ground := Go.Ground.data }, { on := 15, ground := Go.Ground.data }], guard := none }) (v := ?v2017) rfl (by kernel_rfl) (by kernel_rfl) (by kernel_rfl) (fun _ _ _ h => h) (Or.inl ⟨by rfl, ?hy2017⟩) (by assumption) ?hr2017
            case hy2017 => (intro w hSw; (try dsimp only at hSw); go_simp; (try with_reducible rfl))
            (try simp only [Act.put, List.setIfInBounds_toArray, List.set_cons_zero, List.set_cons_succ])
            refine wpAnyH_done (by kernel_rfl) ?_ _
            clear hw1 hw2 hw3 hw4 hw5 ht1 ht2 ht3 hs1 hs2 hc
            go_wp2
            go_roundw
            case rel => exact ⟨z + 1, by omega, by omega, by go_num, HC.out, Below.drew HB2.out⟩
            case measure => simp [intOf]; omega
        · have h3 : ¬ (f : Int) + 3 * (z : Int) ≤ (n : Int) := by omega
          have HG := Lib.hid (show ∀ f', f' < f + 1 → ∀ z, 1 ≤ z → f' + 3 * z ≤ n → ¬ Cu s f' z from fun f' h1 z' h2 h4 => by
            by_cases e : f' = f
            · subst e; exact hgz.out z' h2 (by omega)
            · exact hg.out f' (by omega) z' h2 h4)
          go_wp2
          go_roundw
          case rel => exact ⟨f + 1, by omega, by go_num, HG.out, HB2.out⟩
          case measure => simp [intOf]; omega
    · have HNo := Lib.hid (show ¬ HasC s from fun ⟨f', z, h1, h2, h3⟩ => hg.out f' (by rw [HN.out] at h2; omega) z h1 (by rw [← HN.out]; exact h2) h3)
      go_wp2
      go_ret
      exact ⟨⟨false, rfl, by rw [HSW.out]; exact ⟨fun h => by simp at h, fun h => absurd h HNo.out⟩⟩, HB.out⟩
def bt (s : ByteArray) (i : Nat) : UInt8 := s.data.toList.getD i 0
theorem bt_get (s : ByteArray) (i : Nat) (h : i < s.size) : s[i]'h = bt s i := by
  have h' : i < s.data.toList.length := by simpa using h
  unfold bt
  rw [List.getD_eq_getElem?_getD, List.getElem?_eq_getElem h']
  simp
  rfl
theorem cu_iff {s : ByteArray} {f z : Nat} (h : f + 3 * z ≤ s.size) : Cu s f z ↔ ∀ j, j < 2 * z → bt s (f + j) = bt s (f + z + j) := by
  have hl : s.data.toList.length = s.size := by simp
  unfold Cu bt
  rw [beq_iff_eq, Lib.extract_toList, Lib.extract_toList]
  rw [show f + 2 * z - f = 2 * z by omega, show f + 3 * z - (f + z) = 2 * z by omega]
  generalize s.data.toList = l at *
  constructor
  · intro e j hj
    have e1 := congrArg (fun x => x[j]?) e
    simp only [List.getElem?_take, hj, if_true, List.getElem?_drop] at e1
    rw [List.getD_eq_getElem?_getD, List.getD_eq_getElem?_getD, e1]
  · intro e
    apply List.ext_getElem?
    intro j
    by_cases hj : j < 2 * z
    · simp only [List.getElem?_take, hj, if_true, List.getElem?_drop]
      have e1 := e j hj
      rw [List.getD_eq_getElem?_getD, List.getD_eq_getElem?_getD, List.getElem?_eq_getElem (show f + j < l.length by omega), List.getElem?_eq_getElem (show f + z + j < l.length by omega)] at e1
      rw [List.getElem?_eq_getElem (show f + j < l.length by omega), List.getElem?_eq_getElem (show f + z + j < l.length by omega)]
      exact congrArg some e1
    · rw [List.getElem?_eq_none (by rw [List.length_take]; omega), List.getElem?_eq_none (by rw [List.length_take]; omega)]
/-- r places up to i are each as p places ahead of them, and no more. -/
def Rn (s : ByteArray) (p i r : Nat) : Prop := (∀ j, i - r ≤ j → j < i → bt s j = bt s (j - p)) ∧ (r < i - p → bt s (i - r - 1) ≠ bt s (i - r - 1 - p))
def NoC (s : ByteArray) (p i : Nat) : Prop := ∀ f, f + 3 * p ≤ i → ¬ Cu s f p
theorem Rn.eq {s : ByteArray} {p i r : Nat} (h : Rn s p i r) (_hr : r + p ≤ i) (e : bt s i = bt s (i - p)) : Rn s p (i + 1) (r + 1) := by
  refine ⟨fun j h1 h2 => ?_, fun h1 => ?_⟩
  · by_cases hj : j = i
    · subst hj; exact e
    · exact h.1 j (by omega) (by omega)
  · rw [show i + 1 - (r + 1) - 1 = i - r - 1 by omega]; exact h.2 (by omega)
theorem Rn.ne {s : ByteArray} {p i : Nat} (e : bt s i ≠ bt s (i - p)) : Rn s p (i + 1) 0 :=
  ⟨fun j h1 h2 => by omega, fun _ => e⟩
theorem Rn.yes {s : ByteArray} {p i : Nat} (h : Rn s p i (2 * p)) (hp : 1 ≤ p) (hr : 2 * p + p ≤ i) (hi : i ≤ s.size) : HasC s := by
  refine ⟨i - 3 * p, p, hp, by omega, (cu_iff (by omega)).2 fun j hj => ?_⟩
  have := h.1 (i - 3 * p + p + j) (by omega) (by omega)
  rw [this, show i - 3 * p + p + j - p = i - 3 * p + j by omega]
theorem Rn.no {s : ByteArray} {p i r : Nat} (h : Rn s p (i + 1) r) (hr : r < 2 * p) (hi : i + 1 ≤ s.size) (hn : NoC s p i) : NoC s p (i + 1) := by
  intro f hf hc
  by_cases e : f + 3 * p ≤ i
  · exact hn f e hc
  · have hc' := (cu_iff (by omega)).1 hc (i + 1 - r - 1 - (f + p)) (by omega)
    have hm := h.2 (by omega)
    rw [show f + p + (i + 1 - r - 1 - (f + p)) = i + 1 - r - 1 by omega, show f + (i + 1 - r - 1 - (f + p)) = i + 1 - r - 1 - p by omega] at hc'
    exact hm hc'.symm
set_option maxHeartbeats 1000000 in
theorem sCube (kind k : Int) (w : World) :
    Calls Tryd.prog 8 #[.int .i64 kind, .int .i64 k] w fun e w' => CubeP (seqW kind k) e ∧ Below w.heap.size w w' := by
  have hsz := seqW_size kind k
  go_enter Tryd.func8, Tryd.ntmps8
  go_wp2_with fail
  refine (sSeqW kind k _).mono ?_
  rintro e w1 ⟨rfl, hb1⟩
  have HB1 := Lib.hid hb1
  clear hb1
  generalize hsw : seqW kind k = s at *
  have HSW := Lib.hid hsw
  clear hsw
  obtain ⟨n, hn⟩ : ∃ n, s.size = n := ⟨_, rfl⟩
  have HN := Lib.hid hn
  rw [hn] at hsz
  go_wp2_with fail
  go_loopw [6] (fun vp wr => ∃ p : Nat, 1 ≤ p ∧ p ≤ n + 1 ∧ vp = .int .i64 p ∧ Hid (∀ p', 1 ≤ p' → p' < p → NoC s p' n) ∧ Below w.heap.size w wr) (fun vp _ => n + 1 - (intOf vp).toNat)
  case atStart => exact ⟨1, by omega, by omega, rfl, Lib.hid (fun p' h1 h2 => by omega), HB1.out⟩
  case round =>
    obtain ⟨p, hp1, hp2, rfl, hg, hbel⟩ := hrel
    have HB := Lib.hid hbel
    clear hbel
    by_cases hlt : 3 * p ≤ n
    · go_wp2_with fail
      go_loopw [7, 8] (fun vr vi wr2 => ∃ r i : Nat, p ≤ i ∧ i ≤ n ∧ r < 2 * p ∧ r + p ≤ i ∧ vr = .int .i64 r ∧ vi = .int .i64 i ∧ Hid (Rn s p i r) ∧ Hid (NoC s p i) ∧ Below w.heap.size w wr2) (fun _ vi _ => n - (intOf vi).toNat)
      case atStart => exact ⟨0, p, Nat.le_refl _, by omega, by omega, by omega, rfl, rfl, Lib.hid ⟨fun j h1 h2 => by omega, fun h => by omega⟩, Lib.hid (fun f hf => by omega), HB.out⟩
      case round =>
        obtain ⟨r, i, hi1, hi2, hr1, hr2, rfl, rfl, hrn, hno, hbel⟩ := hrel
        have HB2 := Lib.hid hbel
        clear hbel
        by_cases hin : i < n
        · have h3 : i < s.size := by omega
          have h4 : i - p < s.size := by omega
          have hip : (i : Int) - (p : Int) = ((i - p : Nat) : Int) := by omega
          have hw1 : IntKind.i64.wrap ((i : Int) - (p : Int)) = ((i - p : Nat) : Int) := (IntWalk.i64_in _ (by omega)).trans hip
          have h5 : (i : Int) < (n : Int) := by omega
          have h6 : ((i - p : Nat) : Int) < (n : Int) := by omega
          have h7 : i < n := hin
          have h8 : i - p < n := by omega
          have hw2 : IntKind.i64.wrap ((i - p : Nat) : Int) = ((i - p : Nat) : Int) := IntWalk.i64_in _ (by omega)
          by_cases he : bt s i = bt s (i - p)
          · have hq : (((s[i]'h3).toNat : Int) == ((s[i - p]'h4).toNat : Int)) = true := by rw [bt_get, bt_get, he]; simp
            have HRN := Lib.hid (hrn.out.eq hr2 he)
            clear he
            by_cases h2p : r + 1 = 2 * p
            · have HC := Lib.hid (show HasC s from Rn.yes (by rw [← h2p]; exact HRN.out) hp1 (by omega) (by omega))
              have h2q : (((r : Int) + 1) == 2 * (p : Int)) = true := by rw [beq_iff_eq]; omega
              clear h2p
              go_upto_region 9 with fail
              refine wp_region_held_drew (S := (fun wx => Below w.heap.size w wx)) (by kernel_rfl) ?hS3000 (fun hHeld => ?hR3000)
              case hS3000 => ((try dsimp only); (first | exact Below.drew HB2.out | assumption))
              refine wpAnyH_take (i := 0) (oi := { dst := some 26, op := Go.Op.move (Go.Operand.tmp 5), type := 9, pos := "l19_sequences.go:133", after := #[], guard := none }) (v := ?v3001) rfl (by kernel_rfl) (by kernel_rfl) (by kernel_rfl) (fun _ _ _ h => h) (Or.inl ⟨by rfl, ?hy3001⟩) (by assumption) ?hr3001
              case hy3001 => (intro w hSw; (try dsimp only at hSw); go_simp; (try with_reducible rfl))
              (try simp only [Act.put, List.setIfInBounds_toArray, List.set_cons_zero, List.set_cons_succ])
              refine wpAnyH_take (i := 1) (oi := { dst := some 27, op := Go.Op.move (Go.Operand.tmp 8), type := 3, pos := "l19_sequences.go:133", after := #[], guard := none }) (v := ?v3002) rfl (by kernel_rfl) (by kernel_rfl) (by kernel_rfl) (fun _ _ _ h => h) (Or.inl ⟨by rfl, ?hy3002⟩) (by assumption) ?hr3002
              case hy3002 => (intro w hSw; (try dsimp only at hSw); go_simp; (try with_reducible rfl))
              (try simp only [Act.put, List.setIfInBounds_toArray, List.set_cons_zero, List.set_cons_succ])
              refine wpAnyH_take (i := 2) (oi := { dst := some 28, op := Go.Op.index 9 (Go.Operand.tmp 26) (Go.Operand.tmp 27), type := 5, pos := "l19_sequences.go:133", after := #[{ on := 0, ground := Go.Ground.data }, { on := 1, ground := Go.Ground.data }], guard := none }) (v := ?v3003) rfl (by kernel_rfl) (by kernel_rfl) (by kernel_rfl) (fun _ _ _ h => h) (Or.inl ⟨by rfl, ?hy3003⟩) (by assumption) ?hr3003
              case hy3003 => (intro w hSw; (try dsimp only at hSw); go_simp; (try with_reducible rfl))
              (try simp only [Act.put, List.setIfInBounds_toArray, List.set_cons_zero, List.set_cons_succ])
              refine wpAnyH_take (i := 3) (oi := { dst := some 29, op := Go.Op.move (Go.Operand.tmp 5), type := 9, pos := "l19_sequences.go:133", after := #[], guard := none }) (v := ?v3004) rfl (by kernel_rfl) (by kernel_rfl) (by kernel_rfl) (fun _ _ _ h => h) (Or.inl ⟨by rfl, ?hy3004⟩) (by assumption) ?hr3004
              case hy3004 => (intro w hSw; (try dsimp only at hSw); go_simp; (try with_reducible rfl))
              (try simp only [Act.put, List.setIfInBounds_toArray, List.set_cons_zero, List.set_cons_succ])
              refine wpAnyH_take (i := 4) (oi := { dst := some 30, op := Go.Op.move (Go.Operand.tmp 8), type := 3, pos := "l19_sequences.go:133", after := #[], guard := none }) (v := ?v3005) rfl (by kernel_rfl) (by kernel_rfl) (by kernel_rfl) (fun _ _ _ h => h) (Or.inl ⟨by rfl, ?hy3005⟩) (by assumption) ?hr3005
              case hy3005 => (intro w hSw; (try dsimp only at hSw); go_simp; (try with_reducible rfl))
              (try simp only [Act.put, List.setIfInBounds_toArray, List.set_cons_zero, List.set_cons_succ])
              refine wpAnyH_take (i := 5) (oi := { dst := some 31, op := Go.Op.move (Go.Operand.tmp 6), type := 3, pos := "l19_sequences.go:133", after := #[], guard := none }) (v := ?v3006) rfl (by kernel_rfl) (by kernel_rfl) (by kernel_rfl) (fun _ _ _ h => h) (Or.inl ⟨by rfl, ?hy3006⟩) (by assumption) ?hr3006
              case hy3006 => (intro w hSw; (try dsimp only at hSw); go_simp; (try with_reducible rfl))
              (try simp only [Act.put, List.setIfInBounds_toArray, List.set_cons_zero, List.set_cons_succ])
              refine wpAnyH_take (i := 6) (oi := { dst := some 32, op := Go.Op.binOp Go.BinOp.sub 3 (Go.Operand.tmp 30) (Go.Operand.tmp 31) 3, type := 3, pos := "l19_sequences.go:133", after := #[{ on := 4, ground := Go.Ground.data }, { on := 5, ground := Go.Ground.data }], guard := none }) (v := ?v3007) rfl (by kernel_rfl) (by kernel_rfl) (by kernel_rfl) (fun _ _ _ h => h) (Or.inl ⟨by rfl, ?hy3007⟩) (by assumption) ?hr3007
              case hy3007 => (intro w hSw; (try dsimp only at hSw); go_simp; (try with_reducible rfl))
              (try simp only [Act.put, List.setIfInBounds_toArray, List.set_cons_zero, List.set_cons_succ])
              refine wpAnyH_take (i := 7) (oi := { dst := some 33, op := Go.Op.index 9 (Go.Operand.tmp 29) (Go.Operand.tmp 32), type := 5, pos := "l19_sequences.go:133", after := #[{ on := 3, ground := Go.Ground.data }, { on := 6, ground := Go.Ground.data }], guard := none }) (v := ?v3008) rfl (by kernel_rfl) (by kernel_rfl) (by kernel_rfl) (fun _ _ _ h => h) (Or.inl ⟨by rfl, ?hy3008⟩) (by assumption) ?hr3008
              case hy3008 => (intro w hSw; (try dsimp only at hSw); go_simp; (try with_reducible rfl))
              (try simp only [Act.put, List.setIfInBounds_toArray, List.set_cons_zero, List.set_cons_succ])
              refine wpAnyH_take (i := 8) (oi := { dst := some 34, op := Go.Op.binOp Go.BinOp.eql 5 (Go.Operand.tmp 28) (Go.Operand.tmp 33) 5, type := 4, pos := "l19_sequences.go:133", after := #[{ on := 2, ground := Go.Ground.data }, { on := 7, ground := Go.Ground.data }], guard := none }) (v := ?v3009) rfl (by kernel_rfl) (by kernel_rfl) (by kernel_rfl) (fun _ _ _ h => h) (Or.inl ⟨by rfl, ?hy3009⟩) (by assumption) ?hr3009
              case hy3009 => (intro w hSw; (try dsimp only at hSw); go_simp; (try with_reducible rfl))
              (try simp only [Act.put, List.setIfInBounds_toArray, List.set_cons_zero, List.set_cons_succ])
              refine wpAnyH_done (by kernel_rfl) ?_ _
              clear hw1 hw2 hip
              go_wp2
              go_ret
              exact ⟨⟨true, rfl, by rw [HSW.out]; exact ⟨fun _ => HC.out, fun _ => rfl⟩⟩, Below.drew HB2.out⟩
            · have HNO := Lib.hid (HRN.out.no (by omega) (by omega) hno.out)
              have h2q : (((r : Int) + 1) == 2 * (p : Int)) = false := by rw [beq_eq_false_iff_ne]; omega
              go_upto_region 9 with fail
              refine wp_region_held_drew (S := (fun wx => Below w.heap.size w wx)) (by kernel_rfl) ?hS4000 (fun hHeld => ?hR4000)
              case hS4000 => ((try dsimp only); (first | exact Below.drew HB2.out | assumption))
              refine wpAnyH_take (i := 0) (oi := { dst := some 26, op := Go.Op.move (Go.Operand.tmp 5), type := 9, pos := "l19_sequences.go:133", after := #[], guard := none }) (v := ?v4001) rfl (by kernel_rfl) (by kernel_rfl) (by kernel_rfl) (fun _ _ _ h => h) (Or.inl ⟨by rfl, ?hy4001⟩) (by assumption) ?hr4001
              case hy4001 => (intro w hSw; (try dsimp only at hSw); go_simp; (try with_reducible rfl))
              (try simp only [Act.put, List.setIfInBounds_toArray, List.set_cons_zero, List.set_cons_succ])
              refine wpAnyH_take (i := 1) (oi := { dst := some 27, op := Go.Op.move (Go.Operand.tmp 8), type := 3, pos := "l19_sequences.go:133", after := #[], guard := none }) (v := ?v4002) rfl (by kernel_rfl) (by kernel_rfl) (by kernel_rfl) (fun _ _ _ h => h) (Or.inl ⟨by rfl, ?hy4002⟩) (by assumption) ?hr4002
              case hy4002 => (intro w hSw; (try dsimp only at hSw); go_simp; (try with_reducible rfl))
              (try simp only [Act.put, List.setIfInBounds_toArray, List.set_cons_zero, List.set_cons_succ])
              refine wpAnyH_take (i := 2) (oi := { dst := some 28, op := Go.Op.index 9 (Go.Operand.tmp 26) (Go.Operand.tmp 27), type := 5, pos := "l19_sequences.go:133", after := #[{ on := 0, ground := Go.Ground.data }, { on := 1, ground := Go.Ground.data }], guard := none }) (v := ?v4003) rfl (by kernel_rfl) (by kernel_rfl) (by kernel_rfl) (fun _ _ _ h => h) (Or.inl ⟨by rfl, ?hy4003⟩) (by assumption) ?hr4003
              case hy4003 => (intro w hSw; (try dsimp only at hSw); go_simp; (try with_reducible rfl))
              (try simp only [Act.put, List.setIfInBounds_toArray, List.set_cons_zero, List.set_cons_succ])
              refine wpAnyH_take (i := 3) (oi := { dst := some 29, op := Go.Op.move (Go.Operand.tmp 5), type := 9, pos := "l19_sequences.go:133", after := #[], guard := none }) (v := ?v4004) rfl (by kernel_rfl) (by kernel_rfl) (by kernel_rfl) (fun _ _ _ h => h) (Or.inl ⟨by rfl, ?hy4004⟩) (by assumption) ?hr4004
              case hy4004 => (intro w hSw; (try dsimp only at hSw); go_simp; (try with_reducible rfl))
              (try simp only [Act.put, List.setIfInBounds_toArray, List.set_cons_zero, List.set_cons_succ])
              refine wpAnyH_take (i := 4) (oi := { dst := some 30, op := Go.Op.move (Go.Operand.tmp 8), type := 3, pos := "l19_sequences.go:133", after := #[], guard := none }) (v := ?v4005) rfl (by kernel_rfl) (by kernel_rfl) (by kernel_rfl) (fun _ _ _ h => h) (Or.inl ⟨by rfl, ?hy4005⟩) (by assumption) ?hr4005
              case hy4005 => (intro w hSw; (try dsimp only at hSw); go_simp; (try with_reducible rfl))
              (try simp only [Act.put, List.setIfInBounds_toArray, List.set_cons_zero, List.set_cons_succ])
              refine wpAnyH_take (i := 5) (oi := { dst := some 31, op := Go.Op.move (Go.Operand.tmp 6), type := 3, pos := "l19_sequences.go:133", after := #[], guard := none }) (v := ?v4006) rfl (by kernel_rfl) (by kernel_rfl) (by kernel_rfl) (fun _ _ _ h => h) (Or.inl ⟨by rfl, ?hy4006⟩) (by assumption) ?hr4006
              case hy4006 => (intro w hSw; (try dsimp only at hSw); go_simp; (try with_reducible rfl))
              (try simp only [Act.put, List.setIfInBounds_toArray, List.set_cons_zero, List.set_cons_succ])
              refine wpAnyH_take (i := 6) (oi := { dst := some 32, op := Go.Op.binOp Go.BinOp.sub 3 (Go.Operand.tmp 30) (Go.Operand.tmp 31) 3, type := 3, pos := "l19_sequences.go:133", after := #[{ on := 4, ground := Go.Ground.data }, { on := 5, ground := Go.Ground.data }], guard := none }) (v := ?v4007) rfl (by kernel_rfl) (by kernel_rfl) (by kernel_rfl) (fun _ _ _ h => h) (Or.inl ⟨by rfl, ?hy4007⟩) (by assumption) ?hr4007
              case hy4007 => (intro w hSw; (try dsimp only at hSw); go_simp; (try with_reducible rfl))
              (try simp only [Act.put, List.setIfInBounds_toArray, List.set_cons_zero, List.set_cons_succ])
              refine wpAnyH_take (i := 7) (oi := { dst := some 33, op := Go.Op.index 9 (Go.Operand.tmp 29) (Go.Operand.tmp 32), type := 5, pos := "l19_sequences.go:133", after := #[{ on := 3, ground := Go.Ground.data }, { on := 6, ground := Go.Ground.data }], guard := none }) (v := ?v4008) rfl (by kernel_rfl) (by kernel_rfl) (by kernel_rfl) (fun _ _ _ h => h) (Or.inl ⟨by rfl, ?hy4008⟩) (by assumption) ?hr4008
              case hy4008 => (intro w hSw; (try dsimp only at hSw); go_simp; (try with_reducible rfl))
              (try simp only [Act.put, List.setIfInBounds_toArray, List.set_cons_zero, List.set_cons_succ])
              refine wpAnyH_take (i := 8) (oi := { dst := some 34, op := Go.Op.binOp Go.BinOp.eql 5 (Go.Operand.tmp 28) (Go.Operand.tmp 33) 5, type := 4, pos := "l19_sequences.go:133", after := #[{ on := 2, ground := Go.Ground.data }, { on := 7, ground := Go.Ground.data }], guard := none }) (v := ?v4009) rfl (by kernel_rfl) (by kernel_rfl) (by kernel_rfl) (fun _ _ _ h => h) (Or.inl ⟨by rfl, ?hy4009⟩) (by assumption) ?hr4009
              case hy4009 => (intro w hSw; (try dsimp only at hSw); go_simp; (try with_reducible rfl))
              (try simp only [Act.put, List.setIfInBounds_toArray, List.set_cons_zero, List.set_cons_succ])
              refine wpAnyH_done (by kernel_rfl) ?_ _
              clear hw1 hw2 hip
              go_wp2
              go_roundw
              case rel => exact ⟨r + 1, i + 1, by omega, by omega, by omega, by omega, by go_num, by go_num, HRN.out, HNO.out, Below.drew HB2.out⟩
              case measure => simp [intOf]; omega
          · have hq : (((s[i]'h3).toNat : Int) == ((s[i - p]'h4).toNat : Int)) = false := by
              rw [beq_eq_false_iff_ne, bt_get, bt_get]
              intro e
              exact he (UInt8.toNat_inj.1 (by omega))
            have HRN := Lib.hid (Rn.ne he)
            have HNO := Lib.hid (HRN.out.no (by omega) (by omega) hno.out)
            have h2q : ((0 : Int) == 2 * (p : Int)) = false := by rw [beq_eq_false_iff_ne]; omega
            clear he
            go_upto_region 9 with fail
            refine wp_region_held_drew (S := (fun wx => Below w.heap.size w wx)) (by kernel_rfl) ?hS5000 (fun hHeld => ?hR5000)
            case hS5000 => ((try dsimp only); (first | exact Below.drew HB2.out | assumption))
            refine wpAnyH_take (i := 0) (oi := { dst := some 26, op := Go.Op.move (Go.Operand.tmp 5), type := 9, pos := "l19_sequences.go:133", after := #[], guard := none }) (v := ?v5001) rfl (by kernel_rfl) (by kernel_rfl) (by kernel_rfl) (fun _ _ _ h => h) (Or.inl ⟨by rfl, ?hy5001⟩) (by assumption) ?hr5001
            case hy5001 => (intro w hSw; (try dsimp only at hSw); go_simp; (try with_reducible rfl))
            (try simp only [Act.put, List.setIfInBounds_toArray, List.set_cons_zero, List.set_cons_succ])
            refine wpAnyH_take (i := 1) (oi := { dst := some 27, op := Go.Op.move (Go.Operand.tmp 8), type := 3, pos := "l19_sequences.go:133", after := #[], guard := none }) (v := ?v5002) rfl (by kernel_rfl) (by kernel_rfl) (by kernel_rfl) (fun _ _ _ h => h) (Or.inl ⟨by rfl, ?hy5002⟩) (by assumption) ?hr5002
            case hy5002 => (intro w hSw; (try dsimp only at hSw); go_simp; (try with_reducible rfl))
            (try simp only [Act.put, List.setIfInBounds_toArray, List.set_cons_zero, List.set_cons_succ])
            refine wpAnyH_take (i := 2) (oi := { dst := some 28, op := Go.Op.index 9 (Go.Operand.tmp 26) (Go.Operand.tmp 27), type := 5, pos := "l19_sequences.go:133", after := #[{ on := 0, ground := Go.Ground.data }, { on := 1, ground := Go.Ground.data }], guard := none }) (v := ?v5003) rfl (by kernel_rfl) (by kernel_rfl) (by kernel_rfl) (fun _ _ _ h => h) (Or.inl ⟨by rfl, ?hy5003⟩) (by assumption) ?hr5003
            case hy5003 => (intro w hSw; (try dsimp only at hSw); go_simp; (try with_reducible rfl))
            (try simp only [Act.put, List.setIfInBounds_toArray, List.set_cons_zero, List.set_cons_succ])
            refine wpAnyH_take (i := 3) (oi := { dst := some 29, op := Go.Op.move (Go.Operand.tmp 5), type := 9, pos := "l19_sequences.go:133", after := #[], guard := none }) (v := ?v5004) rfl (by kernel_rfl) (by kernel_rfl) (by kernel_rfl) (fun _ _ _ h => h) (Or.inl ⟨by rfl, ?hy5004⟩) (by assumption) ?hr5004
            case hy5004 => (intro w hSw; (try dsimp only at hSw); go_simp; (try with_reducible rfl))
            (try simp only [Act.put, List.setIfInBounds_toArray, List.set_cons_zero, List.set_cons_succ])
            refine wpAnyH_take (i := 4) (oi := { dst := some 30, op := Go.Op.move (Go.Operand.tmp 8), type := 3, pos := "l19_sequences.go:133", after := #[], guard := none }) (v := ?v5005) rfl (by kernel_rfl) (by kernel_rfl) (by kernel_rfl) (fun _ _ _ h => h) (Or.inl ⟨by rfl, ?hy5005⟩) (by assumption) ?hr5005
            case hy5005 => (intro w hSw; (try dsimp only at hSw); go_simp; (try with_reducible rfl))
            (try simp only [Act.put, List.setIfInBounds_toArray, List.set_cons_zero, List.set_cons_succ])
            refine wpAnyH_take (i := 5) (oi := { dst := some 31, op := Go.Op.move (Go.Operand.tmp 6), type := 3, pos := "l19_sequences.go:133", after := #[], guard := none }) (v := ?v5006) rfl (by kernel_rfl) (by kernel_rfl) (by kernel_rfl) (fun _ _ _ h => h) (Or.inl ⟨by rfl, ?hy5006⟩) (by assumption) ?hr5006
            case hy5006 => (intro w hSw; (try dsimp only at hSw); go_simp; (try with_reducible rfl))
            (try simp only [Act.put, List.setIfInBounds_toArray, List.set_cons_zero, List.set_cons_succ])
            refine wpAnyH_take (i := 6) (oi := { dst := some 32, op := Go.Op.binOp Go.BinOp.sub 3 (Go.Operand.tmp 30) (Go.Operand.tmp 31) 3, type := 3, pos := "l19_sequences.go:133", after := #[{ on := 4, ground := Go.Ground.data }, { on := 5, ground := Go.Ground.data }], guard := none }) (v := ?v5007) rfl (by kernel_rfl) (by kernel_rfl) (by kernel_rfl) (fun _ _ _ h => h) (Or.inl ⟨by rfl, ?hy5007⟩) (by assumption) ?hr5007
            case hy5007 => (intro w hSw; (try dsimp only at hSw); go_simp; (try with_reducible rfl))
            (try simp only [Act.put, List.setIfInBounds_toArray, List.set_cons_zero, List.set_cons_succ])
            refine wpAnyH_take (i := 7) (oi := { dst := some 33, op := Go.Op.index 9 (Go.Operand.tmp 29) (Go.Operand.tmp 32), type := 5, pos := "l19_sequences.go:133", after := #[{ on := 3, ground := Go.Ground.data }, { on := 6, ground := Go.Ground.data }], guard := none }) (v := ?v5008) rfl (by kernel_rfl) (by kernel_rfl) (by kernel_rfl) (fun _ _ _ h => h) (Or.inl ⟨by rfl, ?hy5008⟩) (by assumption) ?hr5008
            case hy5008 => (intro w hSw; (try dsimp only at hSw); go_simp; (try with_reducible rfl))
            (try simp only [Act.put, List.setIfInBounds_toArray, List.set_cons_zero, List.set_cons_succ])
            refine wpAnyH_take (i := 8) (oi := { dst := some 34, op := Go.Op.binOp Go.BinOp.eql 5 (Go.Operand.tmp 28) (Go.Operand.tmp 33) 5, type := 4, pos := "l19_sequences.go:133", after := #[{ on := 2, ground := Go.Ground.data }, { on := 7, ground := Go.Ground.data }], guard := none }) (v := ?v5009) rfl (by kernel_rfl) (by kernel_rfl) (by kernel_rfl) (fun _ _ _ h => h) (Or.inl ⟨by rfl, ?hy5009⟩) (by assumption) ?hr5009
            case hy5009 => (intro w hSw; (try dsimp only at hSw); go_simp; (try with_reducible rfl))
            (try simp only [Act.put, List.setIfInBounds_toArray, List.set_cons_zero, List.set_cons_succ])
            refine wpAnyH_done (by kernel_rfl) ?_ _
            clear hw1 hw2 hip
            go_wp2
            go_roundw
            case rel => exact ⟨0, i + 1, by omega, by omega, by omega, by omega, rfl, by go_num, HRN.out, HNO.out, Below.drew HB2.out⟩
            case measure => simp [intOf]; omega
        · obtain rfl : i = n := by omega
          have HG := Lib.hid (show ∀ p', 1 ≤ p' → p' < p + 1 → NoC s p' i from fun p' h1 h2 => by
            by_cases e : p' = p
            · subst e; exact hno.out
            · exact hg.out p' h1 (by omega))
          go_wp2
          go_roundw
          case rel => exact ⟨p + 1, by omega, by omega, by go_num, HG.out, HB2.out⟩
          case measure => simp [intOf]; omega
    · have HNo := Lib.hid (show ¬ HasC s from fun ⟨f, z, h1, h2, h3⟩ => by
        rw [HN.out] at h2
        exact hg.out z h1 (by omega) f h2 h3)
      go_wp2
      go_ret
      exact ⟨⟨false, rfl, by rw [HSW.out]; exact ⟨fun h => by simp at h, fun h => absurd h HNo.out⟩⟩, HB.out⟩
end Sq
end Go.Proofs.YtkddmngbfncocaaDoor
