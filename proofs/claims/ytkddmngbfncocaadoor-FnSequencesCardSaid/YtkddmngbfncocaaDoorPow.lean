/-
  Contracts of the functions that compute powers.
  Conditions: no power passes 10 to the power of 18.
-/
import Derived.Test.YtkddmngbfncocaaDoorBase
namespace Go.Proofs.YtkddmngbfncocaaDoor
open Go.RowKit
theorem ipower (a : Int) (n : Nat) (w : World) (h0 : 0 ≤ a) (hn : n ≤ 1000) (hk : ∀ k, k ≤ n → a ^ k ≤ 1000000000000000000) :
    Calls Tryd.prog 31 #[.int .i64 a, .int .i64 n] w fun e w' => e = .returned (.int .i64 (a ^ n)) ∧ w = w' := by
  have HK := Lib.hid hk
  clear hk
  go_enter Tryd.func31, Tryd.ntmps31
  go_wp2
  go_loop [5, 7] (fun o i => ∃ k : Nat, k ≤ n ∧ i = .int .i64 k ∧ o = .int .i64 (a ^ k)) (fun _ i => n - (intOf i).toNat)
  case atStart => exact ⟨0, Nat.zero_le _, rfl, by simp⟩
  case round =>
    obtain ⟨k, hkn, rfl, rfl⟩ := hrel
    have p0 : 0 ≤ a ^ k := Int.pow_nonneg h0
    have p1 := HK.out k hkn
    by_cases hlt : k < n
    · have p2 : 0 ≤ a ^ k * a := Int.mul_nonneg p0 h0
      have p3 : a ^ k * a ≤ 1000000000000000000 := by rw [← Int.pow_succ]; exact HK.out (k + 1) (by omega)
      go_wp2
      go_round
      case rel => exact ⟨k + 1, by omega, by go_num, by rw [Int.pow_succ]⟩
      case measure => simp [intOf]; omega
    · obtain rfl : k = n := by omega
      go_wp2
      go_ret
      exact ⟨rfl, rfl⟩
theorem ipowerZ (a n : Int) (w : World) (h0 : 0 ≤ a) (n0 : 0 ≤ n) (hn : n ≤ 1000) (hk : ∀ k : Nat, k ≤ n.toNat → a ^ k ≤ 1000000000000000000) :
    Calls Tryd.prog 31 #[.int .i64 a, .int .i64 n] w fun e w' => e = .returned (.int .i64 (a ^ n.toNat)) ∧ w = w' := by
  obtain ⟨m, rfl⟩ := Int.eq_ofNat_of_zero_le n0
  rw [Int.toNat_natCast] at hk ⊢
  exact ipower a m w h0 (by omega) hk
end Go.Proofs.YtkddmngbfncocaaDoor
