/-
  Contracts of the least repunit that a number divides, of the inverse of a base, of counted carries, of counted palindromes.
  Conditions: none.
-/
import Derived.Test.YtnjifahnfmifgaaArith
namespace Go.Proofs.Ytnjifahnfmifgaa
open Go.RowKit
/-- What the function hands back: the least number, or -1. -/
def LRiLeast (m b : Int) (e : Ending) : Prop := if inB b 2 16 = true ∧ inB m 1 1000 = true ∧ Int.gcd m b = 1 then ∃ k : Nat, (k : Int) ≤ m ∧ Pl.IsLeast m b k ∧ e = .returned (.int .i64 k) else e = .returned (.int .i64 (-1))
set_option maxHeartbeats 400000 in
theorem iLeast (m b : Int) (w : World) : Calls Try.prog 24 #[.int .i64 m, .int .i64 b] w fun e w' => LRiLeast m b e ∧ Below w.heap.size w w' := by
  rcases inB_cases b 2 16 with h | h <;> rcases inB_cases m 1 1000 with h' | h'
  case inl.inl =>
    have ⟨b1, b2⟩ := inB_t h
    have ⟨m1, m2⟩ := inB_t h'
    have g1 : 1 ≤ Int.gcd m b := Int.gcd_pos_of_ne_zero_left b (by omega)
    by_cases hc : Int.gcd m b = 1
    · obtain ⟨K, k1, k2, k3⟩ := Pl.xr_zero (show 0 < m by omega) hc
      have HV := Lib.hid (fun (e : Ending) (hk : ∃ k : Nat, (k : Int) ≤ m ∧ Pl.IsLeast m b k ∧ e = .returned (.int .i64 k)) => show LRiLeast m b e from by unfold LRiLeast; rw [if_pos ⟨h, h', hc⟩]; exact hk)
      have K3 := Lib.hid k3
      clear k3
      have f1 := Pl.mod_nn (a := 1) (show 0 < m by omega)
      have f2 := Pl.mod_lt (a := 1) (show 0 < m by omega)
      have X1 := Lib.hid (show Pl.xr m b 1 = 1 % m by simp [Pl.xr])
      have HC := Lib.hid hc
      have tb : ((Int.gcd m b : Int) != 1) = false := by rw [hc]; rfl
      have tc : decide (1 < (Int.gcd m b : Int)) = false := by rw [hc]; rfl
      clear hc g1
      go_enter Try.func24, Try.ntmps24
      go_wp2_with (first | (first | (go_at_call 49; refine (iBaseOk_any _ _).mono ?_; rintro e w' ⟨rfl, rfl⟩) | (go_at_call 40; refine (within_any _ _ _ _).mono ?_; rintro e w' ⟨rfl, rfl⟩)) | (go_at_call 54; refine (igcd _ _ _ (by omega) (by omega) (by omega) (by omega)).mono ?_; rintro e wa ⟨rfl, hbel⟩))
      go_loopw [5, 6] (fun vk vx wr => ∃ j : Nat, 1 ≤ j ∧ j ≤ K ∧ vk = .int .i64 j ∧ vx = .int .i64 (Pl.xr m b j) ∧ Hid (∀ i, 1 ≤ i → i < j → Pl.xr m b i ≠ 0) ∧ Below w.heap.size w wr) (fun vk _ _ => K - (intOf vk).toNat)
      case atStart => exact ⟨1, by omega, k1, rfl, (by rw [X1.out]), (fun i h1 h2 => absurd h2 (by omega)), (by assumption)⟩
      case round =>
        obtain ⟨j, j1, j2, rfl, rfl, hz, hbl⟩ := hrel
        have ⟨x0, x1⟩ := Pl.xr_nn (b := b) (show 0 < m by omega) j
        by_cases hx : Pl.xr m b j = 0
        · have HL := Lib.hid (show Pl.IsLeast m b j from ⟨j1, hx, hz.out⟩)
          have e1 : (Pl.xr m b j != 0) = false := by rw [hx]; rfl
          clear hx
          go_wp2
          go_ret
          exact ⟨HV.out _ ⟨j, by omega, HL.out, rfl⟩, hbl⟩
        · have e1 : (Pl.xr m b j != 0) = true := by rw [bne_iff_ne]; exact hx
          have HX := Lib.hid hx
          clear hx
          have hjK : j < K := by
            rcases Nat.lt_or_ge j K with h1 | h1
            · exact h1
            · exact absurd (by rw [show j = K by omega]; exact K3.out) HX.out
          have y0 : 0 ≤ Pl.xr m b j * b := Int.mul_nonneg x0 (by omega)
          have y1 : Pl.xr m b j * b ≤ 1000 * 16 := Int.mul_le_mul (by omega) b2 (by omega) (by omega)
          go_wp2
          go_roundw
          case rel => exact ⟨j + 1, by omega, by omega, by go_num, rfl, (fun i h1 h2 => if e : i = j then (by rw [e]; exact HX.out) else hz.out i h1 (by omega)), hbl⟩
          case measure => simp [intOf]; omega
    · have HV := Lib.hid (show LRiLeast m b (.returned (.int .i64 (-1))) from by unfold LRiLeast; rw [if_neg (fun x => hc x.2.2)])
      have tb : ((Int.gcd m b : Int) != 1) = true := by rw [bne_iff_ne]; omega
      have tc : decide (1 < (Int.gcd m b : Int)) = true := by rw [decide_eq_true_eq]; omega
      clear hc g1
      go_enter Try.func24, Try.ntmps24
      go_wp2_with (first | (first | (go_at_call 49; refine (iBaseOk_any _ _).mono ?_; rintro e w' ⟨rfl, rfl⟩) | (go_at_call 40; refine (within_any _ _ _ _).mono ?_; rintro e w' ⟨rfl, rfl⟩)) | (go_at_call 54; refine (igcd _ _ _ (by omega) (by omega) (by omega) (by omega)).mono ?_; rintro e wa ⟨rfl, hbel⟩))
      go_ret
      exact ⟨HV.out, by assumption⟩
  all_goals
    have HV := Lib.hid (show LRiLeast m b (.returned (.int .i64 (-1))) from by unfold LRiLeast; rw [if_neg (fun x => by simp [h, h'] at x)])
    go_enter Try.func24, Try.ntmps24
    go_wp2_with (first | (go_at_call 49; refine (iBaseOk_any _ _).mono ?_; rintro e w' ⟨rfl, rfl⟩) | (go_at_call 40; refine (within_any _ _ _ _).mono ?_; rintro e w' ⟨rfl, rfl⟩))
    go_ret
    exact ⟨HV.out, Below.refl _ _⟩
end Go.Proofs.Ytnjifahnfmifgaa
