/-
  Contracts of the functions that make, read and compare slices of integers.
  Conditions: the sizes that each contract names.
-/
import Derived.Test.YtkddmngbfncocaaDoorSlicesA
namespace Go.Proofs.YtkddmngbfncocaaDoor
open Go.RowKit

theorem Rd.at {w : World} {ao : Option Addr} {cap : Nat} {l : List Int} (h : Rd w ao cap l) {j : Nat} (hj : j < l.length) :
    ∃ b off, ao = some ⟨b, off, none⟩ ∧ b < w.heap.size ∧ w.cell? ⟨b, off + j, none⟩ = some (.int .i64 (l.getD j 0)) := by
  rcases h.2.2.2 with h4 | ⟨b, off, e, hl, hc⟩
  · subst h4; simp at hj
  · exact ⟨b, off, e, hl, hc j hj⟩
theorem own_made (w : World) : Own (w.alloc (.cells #[] 3)) w.heap.size (.slice (some ⟨w.heap.size, 0, none⟩) 0 0) [] :=
  World.ownsRow_made w #[] 0 (Nat.le_refl _) (by unfold maxLen; omega) rfl

theorem l02Digits (n b : Int) (w : World) (hb1 : 2 ≤ b) (hb2 : b ≤ 16) (h0 : 0 ≤ n) (h1 : n ≤ 1000000000000) :
    Calls Tryd.prog 38 #[.int .i64 n, .int .i64 b] w fun e w' => ∃ v, e = .returned v ∧ Own w' w.heap.size v (Pl.dg b n) ∧ Below w.heap.size w w' := by
  have hlen := Pl.dg_len40 hb1 h0 h1
  have HLEN := Lib.hid hlen
  clear hlen
  go_enter Tryd.func38, Tryd.ntmps38
  go_wp2
  go_loopw [0, 5] (fun vn vo wr => ∃ (m : Int) (xs : List Int), 0 ≤ m ∧ m ≤ 1000000000000 ∧ vn = .int .i64 m ∧ Own wr w.heap.size vo xs ∧ Hid (xs ++ Pl.dg b m = Pl.dg b n) ∧ Below w.heap.size w wr) (fun vn _ _ => (intOf vn).toNat)
  case atStart => exact ⟨n, [], h0, h1, rfl, own_made _, rfl, (Below.refl _ _).alloc (Nat.le_refl _) _⟩
  case round =>
    obtain ⟨m, xs, m0, m1, rfl, hown, hg, hbel⟩ := hrel
    by_cases hm : 0 < m
    · have d1 := Pl.mod_nn (a := m) (show 0 < b by omega)
      have d2 := Pl.mod_lt (a := m) (show 0 < b by omega)
      have d3 := Pl.div_nn m0 (show 0 ≤ b by omega)
      have d4 := Pl.div_lt hm hb1
      have hx : xs.length < 1000000000000 := by have h1 := congrArg List.length hg.out; have := HLEN.out; rw [List.length_append] at h1; omega
      have hsz := hbel.size
      go_wp2_with (at_builtin; refine wp_push wr _ _ xs (m % b) hown rfl _ _ rfl rfl rfl hx hsz ?_; intro v1 w1 hown1 hb1')
      go_roundw
      case rel => exact ⟨m / b, xs ++ [m % b], d3, by omega, rfl, hown1, (by have := hg.out; rw [Pl.dg_step hb1 hm] at this; show xs ++ [m % b] ++ Pl.dg b (m / b) = Pl.dg b n; rw [List.append_assoc]; exact this), hbel.trans hb1'⟩
      case measure => simp [intOf]; omega
    · obtain rfl : m = 0 := by omega
      go_wp2
      go_ret
      exact ⟨_, rfl, (by have := hg.out; rw [Pl.dg_zero, List.append_nil] at this; rw [← this]; exact hown), hbel⟩
theorem l02Sum (l : List Int) (ln : Nat) (hln : ln = l.length) (ao : Option Addr) (cap : Nat) (c : Int) (w : World) (hr : Rd w ao cap l) (hl : l.length ≤ 1000) (hm : ∀ d ∈ l, 0 ≤ d ∧ d ≤ c) (c1 : c ≤ 1000000000000) :
    Calls Tryd.prog 37 #[.slice ao ln cap] w fun e w' => e = .returned (.int .i64 (Pl.sm l)) ∧ w = w' := by
  subst hln
  have HM := Lib.hid hm
  have HR := Lib.hid hr
  clear hm hr
  go_enter Tryd.func37, Tryd.ntmps37
  go_wp2
  go_loop [3, 8] (fun vt vi => ∃ (k : Nat) (t : Int), k ≤ l.length ∧ vi = .int .i64 k ∧ vt = .int .i64 t ∧ 0 ≤ t ∧ t ≤ (k : Int) * 1000000000000 ∧ Hid (t + Pl.sm (l.drop k) = Pl.sm l)) (fun _ vi => l.length - (intOf vi).toNat)
  case atStart => exact ⟨0, 0, Nat.zero_le _, rfl, rfl, by omega, by omega, (by show (0 : Int) + _ = _; simp)⟩
  case round =>
    obtain ⟨k, t, hk, rfl, rfl, t0, t1, hg⟩ := hrel
    by_cases hlt : k < l.length
    · obtain ⟨b, off, rfl, _, hc⟩ := HR.out.at hlt
      have ⟨d0, d1⟩ := HM.out _ (Pl.getD_mem hlt)
      have HS := Lib.hid (Pl.sm_drop_step hlt)
      generalize l.getD k 0 = d at *
      go_wp2
      go_round
      case rel => exact ⟨k + 1, t + d, by omega, by go_num, rfl, by omega, by omega, (by have h1 := HS.out; have h2 := hg.out; show t + d + Pl.sm (l.drop (k + 1)) = Pl.sm l; omega)⟩
      case measure => simp [intOf]; omega
    · have HE := Lib.hid (Pl.drop_all (l := l) (k := k) (by omega))
      go_wp2
      go_ret
      exact ⟨ret_int (by have h2 := hg.out; rw [HE.out] at h2; simp [Pl.sm] at h2; exact h2), rfl⟩
end Go.Proofs.YtkddmngbfncocaaDoor
