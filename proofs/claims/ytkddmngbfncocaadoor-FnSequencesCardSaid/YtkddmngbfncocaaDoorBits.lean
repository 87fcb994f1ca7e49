/-
  Contracts of math/bits.TrailingZeros and OnesCount.
  Conditions: the ranges that each names; the table where the library's initialiser lays it.
-/
import Derived.Test.YtkddmngbfncocaaDoorBase
import Derived.Laws.Bits64b
import Derived.Lib.TrailingZeros
namespace Go.Proofs.YtkddmngbfncocaaDoor
open Go.RowKit
/-- The table in its variable. -/
def TabAt (g : Nat) (tab : List Nat) (w : World) : Prop := ∀ j, j < tab.length → w.cell? ⟨g, j, none⟩ = some (.int .u8 (tab.getD j 0))
theorem tz64_core (x k idx : Nat) (w : World) (hx0 : ((x : Int) == 0) = false)
    (key : IntKind.u64.wrap (bits BinOp.and IntKind.u64 (x : Int) (IntKind.u64.wrap (-(x : Int))) * 285870213051353865) / 288230376151711744 = (idx : Int))
    (hi : idx < 64) (hk : k < 64) (hcell : w.cell? ⟨1, idx, none⟩ = some (.int .u8 k)) :
    Calls Tryd.prog 44 #[.int .u64 x] w fun e w' => e = .returned (.int .i64 k) ∧ w = w' := by
  go_enter Tryd.func44, Tryd.ntmps44
  go_wp2_with (simp only [key])
  go_ret
  exact ⟨rfl, rfl⟩
def sw1 (x : Nat) : Nat := (x / 2 &&& 6148914691236517205) + (x &&& 6148914691236517205)
def sw2 (x : Nat) : Nat := (x / 4 &&& 3689348814741910323) + (x &&& 3689348814741910323)
def sw3 (x : Nat) : Nat := (x / 16 + x) &&& 1085102592571150095
theorem and_le' (a m : Nat) : a &&& m ≤ m := Nat.and_le_right
theorem key1 (x : Nat) (hx : x < 18446744073709551616) : IntKind.u64.wrap (bits BinOp.and IntKind.u64 ((x : Int) / 2) 6148914691236517205 + bits BinOp.and IntKind.u64 (x : Int) 6148914691236517205) = (sw1 x : Int) := by
  have e : (x : Int) / 2 = ((x / 2 : Nat) : Int) := by omega
  have h1 := bits_and_u64_nat (x / 2) 6148914691236517205 (by omega) (by omega)
  have h2 := bits_and_u64_nat x 6148914691236517205 hx (by omega)
  have a1 := and_le' (x / 2) 6148914691236517205
  have a2 := and_le' x 6148914691236517205
  rw [e]
  show IntKind.u64.wrap (bits BinOp.and IntKind.u64 ((x / 2 : Nat) : Int) ((6148914691236517205 : Nat) : Int) + bits BinOp.and IntKind.u64 (x : Int) ((6148914691236517205 : Nat) : Int)) = _
  rw [h1, h2, IntKind.wrap_u64]
  unfold sw1
  omega
theorem key2 (x : Nat) (hx : x < 18446744073709551616) : IntKind.u64.wrap (bits BinOp.and IntKind.u64 ((x : Int) / 4) 3689348814741910323 + bits BinOp.and IntKind.u64 (x : Int) 3689348814741910323) = (sw2 x : Int) := by
  have e : (x : Int) / 4 = ((x / 4 : Nat) : Int) := by omega
  have h1 := bits_and_u64_nat (x / 4) 3689348814741910323 (by omega) (by omega)
  have h2 := bits_and_u64_nat x 3689348814741910323 hx (by omega)
  have a1 := and_le' (x / 4) 3689348814741910323
  have a2 := and_le' x 3689348814741910323
  rw [e]
  show IntKind.u64.wrap (bits BinOp.and IntKind.u64 ((x / 4 : Nat) : Int) ((3689348814741910323 : Nat) : Int) + bits BinOp.and IntKind.u64 (x : Int) ((3689348814741910323 : Nat) : Int)) = _
  rw [h1, h2, IntKind.wrap_u64]
  unfold sw2
  omega
theorem sw1_lt (x : Nat) : sw1 x < 18446744073709551616 := by
  have a1 := and_le' (x / 2) 6148914691236517205
  have a2 := and_le' x 6148914691236517205
  unfold sw1; omega
theorem sw2_le (x : Nat) : sw2 x ≤ 7378697629483820646 := by
  have a1 := and_le' (x / 4) 3689348814741910323
  have a2 := and_le' x 3689348814741910323
  unfold sw2; omega
theorem key3 (x : Nat) (hx : x ≤ 7378697629483820646) : bits BinOp.and IntKind.u64 (IntKind.u64.wrap ((x : Int) / 16 + (x : Int))) 1085102592571150095 = (sw3 x : Int) := by
  have e : IntKind.u64.wrap ((x : Int) / 16 + (x : Int)) = ((x / 16 + x : Nat) : Int) := by rw [IntKind.wrap_u64]; omega
  rw [e]
  exact bits_and_u64_nat (x / 16 + x) 1085102592571150095 (by omega) (by omega)
def sw4 (x : Nat) : Nat := x + x / 256
def sw5 (x : Nat) : Nat := x + x / 65536
def sw6 (x : Nat) : Nat := x + x / 4294967296
theorem sw3_le (x : Nat) : sw3 x ≤ 1085102592571150095 := and_le' _ _
theorem key4 (x : Nat) (hx : x ≤ 1085102592571150095) : IntKind.u64.wrap ((x : Int) + (x : Int) / 256) = (sw4 x : Int) ∧ sw4 x ≤ 1089341274573382400 := by
  rw [IntKind.wrap_u64]; unfold sw4; omega
theorem key5 (x : Nat) (hx : x ≤ 1089341274573382400) : IntKind.u64.wrap ((x : Int) + (x : Int) / 65536) = (sw5 x : Int) ∧ sw5 x ≤ 1089357896638467740 := by
  rw [IntKind.wrap_u64]; unfold sw5; omega
theorem key6 (x : Nat) (hx : x ≤ 1089357896638467740) : IntKind.u64.wrap ((x : Int) + (x : Int) / 4294967296) = (sw6 x : Int) ∧ sw6 x ≤ 1089357896900000000 := by
  rw [IntKind.wrap_u64]; unfold sw6; omega
theorem key7 (x : Nat) (hx : x ≤ 1089357896900000000) : wrap64 (x : Int) = (x : Int) ∧ bits BinOp.and IntKind.i64 (x : Int) 127 = ((x % 128 : Nat) : Int) := by
  refine ⟨by unfold wrap64; omega, ?_⟩
  have h1 : (BitVec.ofInt 64 (x : Int)).toNat = x := by
    rw [BitVec.ofInt_natCast, BitVec.toNat_ofNat]; exact Nat.mod_eq_of_lt (by omega)
  have h2 : (BitVec.ofInt 64 (127 : Int)).toNat = 127 := by decide
  have h3 : x &&& 127 = x % 128 := Nat.and_two_pow_sub_one_eq_mod x 7
  show IntKind.i64.wrap ((BitVec.ofInt 64 (x : Int) &&& BitVec.ofInt 64 (127 : Int)).toNat : Int) = _
  rw [BitVec.toNat_and, h1, h2, h3, IntKind.wrap_i64]
  omega
/-- What the program's count comes to. -/
def swN (x : Nat) : Nat := sw6 (sw5 (sw4 (sw3 (sw2 (sw1 x))))) % 128
theorem ones64 (x : Nat) (hx : x < 18446744073709551616) (w : World) : Calls Tryd.prog 42 #[.int .u64 x] w fun e w' => e = .returned (.int .i64 (swN x)) ∧ w = w' := by
  have k1 := key1 x hx
  have k2 := key2 (sw1 x) (sw1_lt x)
  have k3 := key3 (sw2 (sw1 x)) (sw2_le _)
  have k4 := key4 _ (sw3_le (sw2 (sw1 x)))
  have k5 := key5 _ k4.2
  have k6 := key6 _ k5.2
  have k7 := key7 _ k6.2
  have HV := Lib.hid (show ((sw6 (sw5 (sw4 (sw3 (sw2 (sw1 x))))) % 128 : Nat) : Int) = (swN x : Int) from rfl)
  have k4 := k4.1
  have k5 := k5.1
  have k6 := k6.1
  have k8 := k7.2
  have k7 := k7.1
  go_enter Tryd.func42, Tryd.ntmps42
  generalize sw6 (sw5 (sw4 (sw3 (sw2 (sw1 x))))) = a6 at *
  generalize sw5 (sw4 (sw3 (sw2 (sw1 x)))) = a5 at *
  generalize sw4 (sw3 (sw2 (sw1 x))) = a4 at *
  generalize sw3 (sw2 (sw1 x)) = a3 at *
  generalize sw2 (sw1 x) = a2 at *
  generalize sw1 x = a1 at *
  generalize hq : a6 % 128 = q at *
  go_wp2
  go_ret
  exact ⟨ret_int HV.out, rfl⟩
theorem ones (x : Nat) (hx : x < 18446744073709551616) (w : World) : Calls Tryd.prog 35 #[.int .u64 x] w fun e w' => e = .returned (.int .i64 (swN x)) ∧ w = w' := by
  have hw : IntKind.u64.wrap (x : Int) = (x : Int) := by rw [IntKind.wrap_u64]; omega
  go_enter Tryd.func35, Tryd.ntmps35
  go_wp2_with fail
  refine (ones64 x hx _).mono ?_
  rintro e w1 ⟨rfl, rfl⟩
  go_wp2
  go_ret
  exact ⟨rfl, rfl⟩
theorem tz64_zero (w : World) : Calls Tryd.prog 44 #[.int .u64 0] w fun e w' => e = .returned (.int .i64 64) ∧ w = w' := by
  go_enter Tryd.func44, Tryd.ntmps44
  go_wp2
  go_ret
  exact ⟨rfl, rfl⟩
theorem tz64_key (x a : Nat) (hx : x < 18446744073709551616) (hx0 : x ≠ 0) (hlow : x &&& (18446744073709551616 - x) = a) :
    IntKind.u64.wrap (bits BinOp.and IntKind.u64 (x : Int) (IntKind.u64.wrap (-(x : Int))) * 285870213051353865) / 288230376151711744 = ((a * 285870213051353865 % 18446744073709551616 / 288230376151711744 : Nat) : Int) := by
  have e1 : IntKind.u64.wrap (-(x : Int)) = ((18446744073709551616 - x : Nat) : Int) := by rw [IntKind.wrap_u64]; omega
  rw [e1, bits_and_u64_nat x _ hx (by omega), hlow, IntKind.wrap_u64]
  omega
theorem tz64 (x : Nat) (hx : x < 18446744073709551616) (w : World) (hT : TabAt 1 Lib.deBruijn64tab w) :
    Calls Tryd.prog 44 #[.int .u64 x] w fun e w' => e = .returned (.int .i64 (Lib.ctz 64 x)) ∧ w = w' := by
  by_cases hx0 : x = 0
  · subst hx0
    exact tz64_zero w
  · obtain ⟨hlow, hk⟩ := Lib.lowest_bit 64 x hx0 hx
    obtain ⟨hi, htab⟩ := Lib.deBruijn64_at _ hk
    have hcell := hT _ hi
    rw [htab] at hcell
    exact tz64_core x _ _ w (by simp; omega) (tz64_key x _ hx hx0 hlow) hi hk hcell
theorem tz (x : Nat) (hx : x < 18446744073709551616) (w : World) (hT : TabAt 1 Lib.deBruijn64tab w) :
    Calls Tryd.prog 36 #[.int .u64 x] w fun e w' => e = .returned (.int .i64 (Lib.ctz 64 x)) ∧ w = w' := by
  have hw : IntKind.u64.wrap (x : Int) = (x : Int) := by rw [IntKind.wrap_u64]; omega
  go_enter Tryd.func36, Tryd.ntmps36
  go_wp2_with fail
  refine (tz64 x hx _ hT).mono ?_
  rintro e w1 ⟨rfl, rfl⟩
  go_wp2
  go_ret
  exact ⟨rfl, rfl⟩
theorem and_i64 (a b : Nat) (ha : a < 4611686018427387904) (hb : b < 9223372036854775808) : bits BinOp.and IntKind.i64 (a : Int) (b : Int) = ((a &&& b : Nat) : Int) ∧ a &&& b ≤ a := by
  have h0 : a &&& b ≤ a := Nat.and_le_left
  refine ⟨?_, h0⟩
  have h1 : (BitVec.ofInt 64 (a : Int)).toNat = a := by
    rw [BitVec.ofInt_natCast, BitVec.toNat_ofNat]; exact Nat.mod_eq_of_lt (by omega)
  have h2 : (BitVec.ofInt 64 (b : Int)).toNat = b := by
    rw [BitVec.ofInt_natCast, BitVec.toNat_ofNat]; exact Nat.mod_eq_of_lt (by omega)
  show IntKind.i64.wrap ((BitVec.ofInt 64 (a : Int) &&& BitVec.ofInt 64 (b : Int)).toNat : Int) = _
  rw [BitVec.toNat_and, h1, h2, IntKind.wrap_i64]
  omega
end Go.Proofs.YtkddmngbfncocaaDoor
