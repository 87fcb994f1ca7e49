/-
  Contracts of the functions that make, read and compare slices of integers.
  Conditions: the sizes that each contract names.
-/
import Derived.Test.YtnjifahnfmifgaaSlicesA
namespace Go.Proofs.Ytnjifahnfmifgaa
open Go.RowKit

theorem Rd.at {w : World} {ao : Option Addr} {cap : Nat} {l : List Int} (h : Rd w ao cap l) {j : Nat} (hj : j < l.length) :
    ∃ b off, ao = some ⟨b, off, none⟩ ∧ b < w.heap.size ∧ w.cell? ⟨b, off + j, none⟩ = some (.int .i64 (l.getD j 0)) := by
  rcases h.2.2.2 with h4 | ⟨b, off, e, hl, hc⟩
  · subst h4; simp at hj
  · exact ⟨b, off, e, hl, hc j hj⟩
theorem own_made (w : World) : Own (w.alloc (.cells #[] 3)) w.heap.size (.slice (some ⟨w.heap.size, 0, none⟩) 0 0) [] :=
  World.ownsRow_made w #[] 0 (Nat.le_refl _) (by unfold maxLen; omega) rfl

theorem digitsOf (n b : Int) (w : World) (hb1 : 2 ≤ b) (hb2 : b ≤ 16) (h0 : 0 ≤ n) (h1 : n ≤ 1000000000000) :
    Calls Try.prog 52 #[.int .i64 n, .int .i64 b] w fun e w' => ∃ v, e = .returned v ∧ Own w' w.heap.size v (Pl.dg b n) ∧ Below w.heap.size w w' := by
  have hlen := Pl.dg_len40 hb1 h0 h1
  have HLEN := Lib.hid hlen
  clear hlen
  go_enter Try.func52, Try.ntmps52
  go_wp2
  go_loopw [0, 5] (fun vn vo wr => ∃ (m : Int) (xs : List Int), 0 ≤ m ∧ m ≤ 1000000000000 ∧ vn = .int .i64 m ∧ Own wr w.heap.size vo xs ∧ Hid (xs ++ Pl.dg b m = Pl.dg b n) ∧ Below w.heap.size w wr) (fun vn _ _ => (intOf vn).toNat)
  case atStart => exact ⟨n, [], h0, h1, rfl, own_nil _ _, rfl, Below.refl _ _⟩
  case round =>
    obtain ⟨m, xs, m0, m1, rfl, hown, hg, hbel⟩ := hrel
    by_cases hm : 0 < m
    · have d1 := Pl.mod_nn (a := m) (show 0 < b by omega)
      have d2 := Pl.mod_lt (a := m) (show 0 < b by omega)
      have d3 := Pl.div_nn m0 (show 0 ≤ b by omega)
      have d4 := Pl.div_lt hm hb1
      have hx : xs.length < 1000000000000 := by have h1 := congrArg List.length hg.out; have := HLEN.out; rw [List.length_append] at h1; omega
      have hsz := hbel.size
      go_wp2_with (at_builtin; refine wp_push wr _ _ xs (m % b) hown rfl _ _ rfl rfl rfl hx hsz ?_; intro v1 w1 hown1 hb1')
      go_roundw
      case rel => exact ⟨m / b, xs ++ [m % b], d3, by omega, rfl, hown1, (by have := hg.out; rw [Pl.dg_step hb1 hm] at this; show xs ++ [m % b] ++ Pl.dg b (m / b) = Pl.dg b n; rw [List.append_assoc]; exact this), hbel.trans hb1'⟩
      case measure => simp [intOf]; omega
    · obtain rfl : m = 0 := by omega
      go_wp2
      go_ret
      exact ⟨_, rfl, (by have := hg.out; rw [Pl.dg_zero, List.append_nil] at this; rw [← this]; exact hown), hbel⟩
theorem sumOf (l : List Int) (ln : Nat) (hln : ln = l.length) (ao : Option Addr) (cap : Nat) (c : Int) (w : World) (hr : Rd w ao cap l) (hl : l.length ≤ 1000) (hm : ∀ d ∈ l, 0 ≤ d ∧ d ≤ c) (c1 : c ≤ 1000000000000) :
    Calls Try.prog 56 #[.slice ao ln cap] w fun e w' => e = .returned (.int .i64 (Pl.sm l)) ∧ w = w' := by
  subst hln
  have HM := Lib.hid hm
  have HR := Lib.hid hr
  clear hm hr
  go_enter Try.func56, Try.ntmps56
  go_wp2
  go_loop [3, 8] (fun vt vi => ∃ (k : Nat) (t : Int), k ≤ l.length ∧ vi = .int .i64 k ∧ vt = .int .i64 t ∧ 0 ≤ t ∧ t ≤ (k : Int) * 1000000000000 ∧ Hid (t + Pl.sm (l.drop k) = Pl.sm l)) (fun _ vi => l.length - (intOf vi).toNat)
  case atStart => exact ⟨0, 0, Nat.zero_le _, rfl, rfl, by omega, by omega, (by show (0 : Int) + _ = _; simp)⟩
  case round =>
    obtain ⟨k, t, hk, rfl, rfl, t0, t1, hg⟩ := hrel
    by_cases hlt : k < l.length
    · obtain ⟨b, off, rfl, _, hc⟩ := HR.out.at hlt
      have ⟨d0, d1⟩ := HM.out _ (Pl.getD_mem hlt)
      have HS := Lib.hid (Pl.sm_drop_step hlt)
      generalize l.getD k 0 = d at *
      go_wp2
      go_round
      case rel => exact ⟨k + 1, t + d, by omega, by go_num, rfl, by omega, by omega, (by have h1 := HS.out; have h2 := hg.out; show t + d + Pl.sm (l.drop (k + 1)) = Pl.sm l; omega)⟩
      case measure => simp [intOf]; omega
    · have HE := Lib.hid (Pl.drop_all (l := l) (k := k) (by omega))
      go_wp2
      go_ret
      exact ⟨ret_int (by have h2 := hg.out; rw [HE.out] at h2; simp [Pl.sm] at h2; exact h2), rfl⟩
theorem valueOf (l : List Int) (ln : Nat) (hln : ln = l.length) (ao : Option Addr) (cap : Nat) (b : Int) (w : World) (hr : Rd w ao cap l) (b1 : 1 ≤ b) (b2 : b ≤ 16) (hm : ∀ d ∈ l, 0 ≤ d) (hv : Pl.val b l ≤ 10000000000000000) :
    Calls Try.prog 55 #[.slice ao ln cap, .int .i64 b] w fun e w' => e = .returned (.int .i64 (Pl.val b l)) ∧ w = w' := by
  subst hln
  have hcap := hr.1
  have hcap2 := hr.2.1
  unfold maxLen at hcap2
  have HM := Lib.hid hm
  have HR := Lib.hid hr
  clear hm hr
  go_enter Try.func55, Try.ntmps55
  go_wp2
  go_loop [5, 6] (fun vt vi => ∃ (k : Nat), k ≤ l.length ∧ vi = .int .i64 ((k : Int) - 1) ∧ vt = .int .i64 (Pl.val b (l.drop k))) (fun _ vi => (intOf vi + 1).toNat)
  case atStart => exact ⟨l.length, Nat.le_refl _, rfl, by rw [List.drop_length]; rfl⟩
  case round =>
    obtain ⟨k, hk, rfl, rfl⟩ := hrel
    have ⟨v0, v1⟩ := Pl.val_drop_le b1 HM.out k
    by_cases hlt : 0 < k
    · obtain ⟨j, rfl⟩ : ∃ j, k = j + 1 := ⟨k - 1, by omega⟩
      obtain ⟨bl, off, rfl, _, hc⟩ := HR.out.at (show j < l.length by omega)
      have d0 := HM.out _ (Pl.getD_mem (show j < l.length by omega))
      have ⟨u0, u1⟩ := Pl.val_drop_le b1 HM.out j
      have HS := Lib.hid (Pl.val_drop_step b (show j < l.length by omega))
      rw [HS.out] at u0 u1
      have u2 : 0 ≤ Pl.val b (l.drop (j + 1)) * b := Int.mul_nonneg v0 (by omega)
      have u3 : Pl.val b (l.drop (j + 1)) * b ≤ 160000000000000000 := by
        have : Pl.val b (l.drop (j + 1)) * b ≤ 10000000000000000 * 16 := Int.mul_le_mul (by omega) b2 (by omega) (by omega)
        omega
      have e1 : ((j + 1 : Nat) : Int) - 1 = (j : Int) := by omega
      rw [e1]
      generalize Pl.val b (l.drop (j + 1)) = x at *
      generalize l.getD j 0 = d at *
      go_wp2
      go_round
      case rel => exact ⟨j, by omega, by first | rfl | (congr 1; omega), (by rw [HS.out])⟩
      case measure => simp [intOf]
    · obtain rfl : k = 0 := by omega
      go_wp2
      go_ret
      exact ⟨rfl, rfl⟩
theorem l18Value (l : List Int) (ln : Nat) (hln : ln = l.length) (ao : Option Addr) (cap : Nat) (b : Int) (w : World) (hr : Rd w ao cap l) (b1 : 1 ≤ b) (b2 : b ≤ 16) (hm : ∀ d ∈ l, 0 ≤ d) (hv : Pl.val b l ≤ 10000000000000000) :
    Calls Try.prog 38 #[.slice ao ln cap, .int .i64 b] w fun e w' => e = .returned (.int .i64 (Pl.val b l)) ∧ w = w' := by
  subst hln
  have hcap := hr.1
  have hcap2 := hr.2.1
  unfold maxLen at hcap2
  have HM := Lib.hid hm
  have HR := Lib.hid hr
  clear hm hr
  go_enter Try.func38, Try.ntmps38
  go_wp2
  go_loop [5, 6] (fun vt vi => ∃ (k : Nat), k ≤ l.length ∧ vi = .int .i64 ((k : Int) - 1) ∧ vt = .int .i64 (Pl.val b (l.drop k))) (fun _ vi => (intOf vi + 1).toNat)
  case atStart => exact ⟨l.length, Nat.le_refl _, rfl, by rw [List.drop_length]; rfl⟩
  case round =>
    obtain ⟨k, hk, rfl, rfl⟩ := hrel
    have ⟨v0, v1⟩ := Pl.val_drop_le b1 HM.out k
    by_cases hlt : 0 < k
    · obtain ⟨j, rfl⟩ : ∃ j, k = j + 1 := ⟨k - 1, by omega⟩
      obtain ⟨bl, off, rfl, _, hc⟩ := HR.out.at (show j < l.length by omega)
      have d0 := HM.out _ (Pl.getD_mem (show j < l.length by omega))
      have ⟨u0, u1⟩ := Pl.val_drop_le b1 HM.out j
      have HS := Lib.hid (Pl.val_drop_step b (show j < l.length by omega))
      rw [HS.out] at u0 u1
      have u2 : 0 ≤ Pl.val b (l.drop (j + 1)) * b := Int.mul_nonneg v0 (by omega)
      have u3 : Pl.val b (l.drop (j + 1)) * b ≤ 160000000000000000 := by
        have : Pl.val b (l.drop (j + 1)) * b ≤ 10000000000000000 * 16 := Int.mul_le_mul (by omega) b2 (by omega) (by omega)
        omega
      have e1 : ((j + 1 : Nat) : Int) - 1 = (j : Int) := by omega
      rw [e1]
      generalize Pl.val b (l.drop (j + 1)) = x at *
      generalize l.getD j 0 = d at *
      go_wp2
      go_round
      case rel => exact ⟨j, by omega, by first | rfl | (congr 1; omega), (by rw [HS.out])⟩
      case measure => simp [intOf]
    · obtain rfl : k = 0 := by omega
      go_wp2
      go_ret
      exact ⟨rfl, rfl⟩
end Go.Proofs.Ytnjifahnfmifgaa
