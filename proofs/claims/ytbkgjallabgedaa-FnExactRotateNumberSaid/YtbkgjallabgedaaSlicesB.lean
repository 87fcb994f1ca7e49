/-
  Contracts of the functions that make, read and compare slices of integers.
  Conditions: the sizes that each contract names.
-/
import Derived.Test.YtbkgjallabgedaaSlicesA
namespace Go.Proofs.Ytbkgjallabgedaa
open Go.RowKit

theorem Rd.at {w : World} {ao : Option Addr} {cap : Nat} {l : List Int} (h : Rd w ao cap l) {j : Nat} (hj : j < l.length) :
    ∃ b off, ao = some ⟨b, off, none⟩ ∧ b < w.heap.size ∧ w.cell? ⟨b, off + j, none⟩ = some (.int .i64 (l.getD j 0)) := by
  rcases h.2.2.2 with h4 | ⟨b, off, e, hl, hc⟩
  · subst h4; simp at hj
  · exact ⟨b, off, e, hl, hc j hj⟩
theorem own_made (w : World) : Own (w.alloc (.cells #[] 3)) w.heap.size (.slice (some ⟨w.heap.size, 0, none⟩) 0 0) [] :=
  World.ownsRow_made w #[] 0 (Nat.le_refl _) (by unfold maxLen; omega) rfl

theorem digitsOf (n b : Int) (w : World) (hb1 : 2 ≤ b) (hb2 : b ≤ 16) (h0 : 0 ≤ n) (h1 : n ≤ 1000000000000) :
    Calls Try.prog 65 #[.int .i64 n, .int .i64 b] w fun e w' => ∃ v, e = .returned v ∧ Own w' w.heap.size v (Pl.dg b n) ∧ Below w.heap.size w w' := by
  have hlen := Pl.dg_len40 hb1 h0 h1
  have HLEN := Lib.hid hlen
  clear hlen
  go_enter Try.func65, Try.ntmps65
  go_wp2
  go_loopw [0, 5] (fun vn vo wr => ∃ (m : Int) (xs : List Int), 0 ≤ m ∧ m ≤ 1000000000000 ∧ vn = .int .i64 m ∧ Own wr w.heap.size vo xs ∧ Hid (xs ++ Pl.dg b m = Pl.dg b n) ∧ Below w.heap.size w wr) (fun vn _ _ => (intOf vn).toNat)
  case atStart => exact ⟨n, [], h0, h1, rfl, own_nil _ _, rfl, Below.refl _ _⟩
  case round =>
    obtain ⟨m, xs, m0, m1, rfl, hown, hg, hbel⟩ := hrel
    by_cases hm : 0 < m
    · have d1 := Pl.mod_nn (a := m) (show 0 < b by omega)
      have d2 := Pl.mod_lt (a := m) (show 0 < b by omega)
      have d3 := Pl.div_nn m0 (show 0 ≤ b by omega)
      have d4 := Pl.div_lt hm hb1
      have hx : xs.length < 1000000000000 := by have h1 := congrArg List.length hg.out; have := HLEN.out; rw [List.length_append] at h1; omega
      have hsz := hbel.size
      go_wp2_with (at_builtin; refine wp_push wr _ _ xs (m % b) hown rfl _ _ rfl rfl rfl hx hsz ?_; intro v1 w1 hown1 hb1')
      go_roundw
      case rel => exact ⟨m / b, xs ++ [m % b], d3, by omega, rfl, hown1, (by have := hg.out; rw [Pl.dg_step hb1 hm] at this; show xs ++ [m % b] ++ Pl.dg b (m / b) = Pl.dg b n; rw [List.append_assoc]; exact this), hbel.trans hb1'⟩
      case measure => simp [intOf]; omega
    · obtain rfl : m = 0 := by omega
      go_wp2
      go_ret
      exact ⟨_, rfl, (by have := hg.out; rw [Pl.dg_zero, List.append_nil] at this; rw [← this]; exact hown), hbel⟩
theorem l02Digits (n b : Int) (w : World) (hb1 : 2 ≤ b) (hb2 : b ≤ 16) (h0 : 0 ≤ n) (h1 : n ≤ 1000000000000) :
    Calls Try.prog 54 #[.int .i64 n, .int .i64 b] w fun e w' => ∃ v, e = .returned v ∧ Own w' w.heap.size v (Pl.dg b n) ∧ Below w.heap.size w w' := by
  have hlen := Pl.dg_len40 hb1 h0 h1
  have HLEN := Lib.hid hlen
  clear hlen
  go_enter Try.func54, Try.ntmps54
  go_wp2
  go_loopw [0, 5] (fun vn vo wr => ∃ (m : Int) (xs : List Int), 0 ≤ m ∧ m ≤ 1000000000000 ∧ vn = .int .i64 m ∧ Own wr w.heap.size vo xs ∧ Hid (xs ++ Pl.dg b m = Pl.dg b n) ∧ Below w.heap.size w wr) (fun vn _ _ => (intOf vn).toNat)
  case atStart => exact ⟨n, [], h0, h1, rfl, own_made _, rfl, (Below.refl _ _).alloc (Nat.le_refl _) _⟩
  case round =>
    obtain ⟨m, xs, m0, m1, rfl, hown, hg, hbel⟩ := hrel
    by_cases hm : 0 < m
    · have d1 := Pl.mod_nn (a := m) (show 0 < b by omega)
      have d2 := Pl.mod_lt (a := m) (show 0 < b by omega)
      have d3 := Pl.div_nn m0 (show 0 ≤ b by omega)
      have d4 := Pl.div_lt hm hb1
      have hx : xs.length < 1000000000000 := by have h1 := congrArg List.length hg.out; have := HLEN.out; rw [List.length_append] at h1; omega
      have hsz := hbel.size
      go_wp2_with (at_builtin; refine wp_push wr _ _ xs (m % b) hown rfl _ _ rfl rfl rfl hx hsz ?_; intro v1 w1 hown1 hb1')
      go_roundw
      case rel => exact ⟨m / b, xs ++ [m % b], d3, by omega, rfl, hown1, (by have := hg.out; rw [Pl.dg_step hb1 hm] at this; show xs ++ [m % b] ++ Pl.dg b (m / b) = Pl.dg b n; rw [List.append_assoc]; exact this), hbel.trans hb1'⟩
      case measure => simp [intOf]; omega
    · obtain rfl : m = 0 := by omega
      go_wp2
      go_ret
      exact ⟨_, rfl, (by have := hg.out; rw [Pl.dg_zero, List.append_nil] at this; rw [← this]; exact hown), hbel⟩
end Go.Proofs.Ytbkgjallabgedaa
