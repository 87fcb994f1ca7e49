/-
  Contracts of the weights of rules of divisibility.
  Conditions: none, or the ranges that a contract names.
-/
import Derived.Test.YtnjifahnfmifgaaSlicesC
import Derived.Test.YtnjifahnfmifgaaSlicesE
namespace Go.Proofs.Ytnjifahnfmifgaa
open Go.RowKit
/-- The remainders of the powers of b, from x on. -/
def rwL (m b : Int) : Nat → Int → List Int
  | 0, _ => []
  | k + 1, x => x :: rwL m b k (x * b % m)
theorem rwL_len (m b : Int) : ∀ (k : Nat) (x : Int), (rwL m b k x).length = k := by
  intro k
  induction k with
  | zero => intro x; rfl
  | succ k ih => intro x; simp [rwL, ih]
def rwV (m b k : Int) : List Int := if inB b 2 16 && inB m 2 1000 && inB k 0 40 then rwL m b k.toNat 1 else []
theorem rwV_len (m b k : Int) : (rwV m b k).length ≤ 40 := by
  unfold rwV
  split
  · rename_i h
    rw [Bool.and_eq_true] at h
    have := inB_t h.2
    rw [rwL_len]; omega
  · simp
theorem ruleW (m b k : Int) (w : World) (b1 : 2 ≤ b) (b2 : b ≤ 16) (m1 : 2 ≤ m) (m2 : m ≤ 1000) (k1 : 0 ≤ k) (k2 : k ≤ 40) :
    Calls Try.prog 48 #[.int .i64 m, .int .i64 b, .int .i64 k] w fun e w' => ∃ v, e = .returned v ∧ Own w' w.heap.size v (rwL m b k.toNat 1) ∧ Below w.heap.size w w' := by
  obtain ⟨n, rfl⟩ := Int.eq_ofNat_of_zero_le k1
  rw [Int.toNat_natCast]
  go_enter Try.func48, Try.ntmps48
  go_wp2
  go_loopw [7, 8, 10] (fun vo vx vi wr => ∃ (j : Nat) (x : Int) (xs : List Int), j ≤ n ∧ 0 ≤ x ∧ x ≤ 1000 ∧ vi = .int .i64 j ∧ vx = .int .i64 x ∧ Own wr w.heap.size vo xs ∧ Hid (xs.length = j) ∧ Hid (xs ++ rwL m b (n - j) x = rwL m b n 1) ∧ Below w.heap.size w wr) (fun _ _ vi _ => n - (intOf vi).toNat)
  case atStart => exact ⟨0, 1, [], Nat.zero_le _, by omega, by omega, rfl, rfl, own_nil _ _, rfl, rfl, Below.refl _ _⟩
  case round =>
    obtain ⟨j, x, xs, hj, x0, x1, rfl, rfl, hown, hxl, hg, hbel⟩ := hrel
    by_cases hlt : j < n
    · have y0 : 0 ≤ x * b := Int.mul_nonneg x0 (by omega)
      have y1 : x * b ≤ 1000 * 16 := Int.mul_le_mul x1 b2 (by omega) (by omega)
      have z0 := Pl.mod_nn (a := x * b) (show 0 < m by omega)
      have z1 := Pl.mod_lt (a := x * b) (show 0 < m by omega)
      have hx : xs.length < 1000000000000 := by rw [hxl.out]; omega
      have hsz := hbel.size
      have HS := Lib.hid (show xs ++ [x] ++ rwL m b (n - (j + 1)) (x * b % m) = rwL m b n 1 by
        rw [← hg.out, show n - j = n - (j + 1) + 1 by omega, List.append_assoc]; rfl)
      go_wp2_with (at_builtin; refine wp_push wr _ _ xs x hown rfl _ _ rfl rfl rfl hx hsz ?_; intro v1 w1 hown1 hb1')
      go_roundw
      case rel => exact ⟨j + 1, x * b % m, xs ++ [x], by omega, z0, by omega, by go_num, rfl, hown1, by rw [Hid, List.length_append, hxl.out]; rfl, HS.out, hbel.trans hb1'⟩
      case measure => simp [intOf]; omega
    · obtain rfl : j = n := by omega
      have HE := Lib.hid (show xs = rwL m b j 1 by rw [← hg.out, Nat.sub_self]; simp [rwL])
      rw [HE.out] at hown
      go_wp2
      go_ret
      exact ⟨_, rfl, hown, hbel⟩
theorem iRuleW (m b k : Int) (w : World) : Calls Try.prog 11 #[.int .i64 m, .int .i64 b, .int .i64 k] w fun e w' => ∃ v, e = .returned v ∧ Own w' w.heap.size v (rwV m b k) ∧ Below w.heap.size w w' := by
  rcases inB_cases b 2 16 with h | h <;> rcases inB_cases m 2 1000 with h' | h' <;> rcases inB_cases k 0 40 with h'' | h''
  case inl.inl.inl =>
    have HV := Lib.hid (show rwV m b k = rwL m b k.toNat 1 by simp [rwV, h, h', h''])
    have ⟨b1, b2⟩ := inB_t h
    have ⟨m1, m2⟩ := inB_t h'
    have ⟨k1, k2⟩ := inB_t h''
    go_enter Try.func11, Try.ntmps11
    go_wp2_with (first | (go_at_call 47; refine (isRuled_any _ _ _).mono ?_; rintro e w' ⟨rfl, rfl⟩) | (go_at_call 40; refine (within_any _ _ _ _).mono ?_; rintro e w' ⟨rfl, rfl⟩))
    refine (ruleW _ _ _ _ b1 b2 m1 m2 k1 k2).mono ?_
    rintro e w1 ⟨v, rfl, hown, hb1⟩
    rw [← HV.out] at hown
    go_wp2
    go_ret
    exact ⟨_, rfl, hown, hb1⟩
  all_goals
    have HV := Lib.hid (show [] = rwV m b k by simp [rwV, h, h', h''])
    go_enter Try.func11, Try.ntmps11
    go_wp2_with (first | (go_at_call 47; refine (isRuled_any _ _ _).mono ?_; rintro e w' ⟨rfl, rfl⟩) | (go_at_call 40; refine (within_any _ _ _ _).mono ?_; rintro e w' ⟨rfl, rfl⟩))
    go_ret
    exact ⟨_, rfl, by rw [← HV.out]; exact own_nil _ _, Below.refl _ _⟩

/-- The weights as small numbers. -/
def small (m w : Int) : Int := if m < 2 * w then w - m else w
def swV (m b k : Int) : List Int := (rwV m b k).map (small m)
theorem swV_len (m b k : Int) : (swV m b k).length ≤ 40 := by unfold swV; rw [List.length_map]; exact rwV_len m b k
theorem map_getD {l : List Int} {f : Int → Int} {j : Nat} (h : j < l.length) : (l.map f).getD j 0 = f (l.getD j 0) := by
  simp [List.getD_eq_getElem?_getD, h]
theorem rwL_bd {m b : Int} (hm : 2 ≤ m) : ∀ (k : Nat) (x : Int), 0 ≤ x → x < m → ∀ d ∈ rwL m b k x, 0 ≤ d ∧ d < m := by
  intro k
  induction k with
  | zero => intro x _ _ d hd; simp [rwL] at hd
  | succ k ih =>
    intro x h0 h1 d hd
    rcases List.mem_cons.1 hd with rfl | hd
    · exact ⟨h0, h1⟩
    · exact ih _ (Pl.mod_nn (by omega)) (Pl.mod_lt (by omega)) d hd
theorem rwV_bd {m b k : Int} : ∀ d ∈ rwV m b k, 0 ≤ d ∧ d < m ∧ 2 ≤ m ∧ m ≤ 1000 := by
  intro d hd
  unfold rwV at hd
  split at hd
  · rename_i h
    rw [Bool.and_eq_true, Bool.and_eq_true] at h
    have := inB_t h.1.2
    have := rwL_bd this.1 _ _ (by omega) (by omega) d hd
    omega
  · simp at hd
theorem small_step {m : Int} {l xs : List Int} {j : Nat} {e : Int} (hl : xs.length = l.length) (hj : j < l.length) (h : ∀ i, i < l.length → xs.getD i 0 = if i < j then small m (l.getD i 0) else l.getD i 0) (he : small m (l.getD j 0) = e) :
    ∀ i, i < l.length → (xs.set j e).getD i 0 = if i < j + 1 then small m (l.getD i 0) else l.getD i 0 := by
  intro i hi
  rw [getD_set (by omega)]
  by_cases c : j = i
  · subst c; rw [if_pos rfl, if_pos (by omega), he]
  · rw [if_neg c, h i hi]
    by_cases c2 : i < j
    · rw [if_pos c2, if_pos (by omega)]
    · rw [if_neg c2, if_neg (by omega)]
theorem small_keep {m : Int} {l xs : List Int} {j : Nat} (_hj : j < l.length) (h : ∀ i, i < l.length → xs.getD i 0 = if i < j then small m (l.getD i 0) else l.getD i 0) (he : small m (l.getD j 0) = l.getD j 0) :
    ∀ i, i < l.length → xs.getD i 0 = if i < j + 1 then small m (l.getD i 0) else l.getD i 0 := by
  intro i hi
  rw [h i hi]
  by_cases c : i = j
  · subst c; rw [if_neg (by omega), if_pos (by omega), he]
  · by_cases c2 : i < j
    · rw [if_pos c2, if_pos (by omega)]
    · rw [if_neg c2, if_neg (by omega)]
theorem iSmallW (m b k : Int) (w : World) : Calls Try.prog 12 #[.int .i64 m, .int .i64 b, .int .i64 k] w fun e w' => ∃ v, e = .returned v ∧ Own w' w.heap.size v (swV m b k) ∧ Below w.heap.size w w' := by
  have HV := Lib.hid (show swV m b k = (rwV m b k).map (small m) from rfl)
  have hlen := rwV_len m b k
  have HM := Lib.hid (rwV_bd (m := m) (b := b) (k := k))
  go_enter Try.func12, Try.ntmps12
  go_wp2_with fail
  refine (iRuleW _ _ _ _).mono ?_
  rintro e w1 ⟨v, rfl, hown, hb1⟩
  generalize rwV m b k = l at *
  rcases hown.forms with ⟨rfl, rfl⟩ | ⟨g, cap, rfl, hBg, hg, hcap, hcap2⟩
  · go_wp2_with fail
    refine wp_loop_rounds 1 ?_
    rw [rounds_succ]
    go_wp2
    go_ret
    exact ⟨_, rfl, by rw [HV.out]; exact hown, hb1⟩
  · unfold maxLen at hcap2
    go_wp2_with fail
    go_loopw [16] (fun vi wr => ∃ (j : Nat) (xs : List Int), j ≤ l.length ∧ vi = .int .i64 j ∧ Hid (xs.length = l.length) ∧ Own wr w.heap.size (.slice (some ⟨g, 0, none⟩) l.length cap) xs ∧ Hid (∀ i, i < l.length → xs.getD i 0 = if i < j then small m (l.getD i 0) else l.getD i 0) ∧ Below w.heap.size w wr) (fun vi _ => l.length - (intOf vi).toNat)
    case atStart => exact ⟨0, l, Nat.zero_le _, rfl, rfl, hown, (fun i hi => by rw [if_neg (by omega)]), hb1⟩
    case round =>
      obtain ⟨j, xs, hj, rfl, hxl, hown', hx, hbel⟩ := hrel
      by_cases hlt : j < l.length
      · have hcell := hown'.cellAt (show j < xs.length by rw [hxl.out]; exact hlt)
        rw [show xs.getD j 0 = l.getD j 0 by rw [hx.out j hlt, if_neg (by omega)]] at hcell
        have hfree := hown'.free j
        have ⟨d0, d1, d2, d3⟩ := HM.out _ (Pl.getD_mem hlt)
        have HSy := Lib.hid (fun (hs : m < 2 * l.getD j 0) => small_step (m := m) hxl.out hlt hx.out (show small m (l.getD j 0) = l.getD j 0 - m by rw [small, if_pos hs]))
        have HSn := Lib.hid (fun (hs : ¬ m < 2 * l.getD j 0) => small_keep (m := m) hlt hx.out (show small m (l.getD j 0) = l.getD j 0 by rw [small, if_neg hs]))
        have HO := Lib.hid hown'
        clear hown' hown
        generalize l.getD j 0 = d at *
        by_cases hs : m < 2 * d
        · have ht : m / 2 < d := by omega
          have HS := Lib.hid (HSy.out hs)
          clear hs
          go_wp2
          go_roundw
          case rel =>
            have o1 := HO.out.set j (d - m)
            exact ⟨j + 1, xs.set j (d - m), by omega, by go_num, by rw [Hid, List.length_set]; exact hxl.out, o1.1, HS.out, hbel.trans o1.2⟩
          case measure => simp [intOf]; omega
        · have ht : ¬ m / 2 < d := by omega
          have HS := Lib.hid (HSn.out hs)
          clear hs
          go_wp2
          go_roundw
          case rel => exact ⟨j + 1, xs, by omega, by go_num, hxl, HO.out, HS.out, hbel⟩
          case measure => simp [intOf]; omega
      · have HE := Lib.hid (show xs = l.map (small m) from eq_of_get (by rw [hxl.out, List.length_map]) (fun i hi => by have h1 := hxl.out; rw [hx.out i (by omega), if_pos (by omega), map_getD (by omega)]))
        rw [HE.out, ← HV.out] at hown'
        go_wp2
        go_ret
        exact ⟨_, rfl, hown', hbel⟩
end Go.Proofs.Ytnjifahnfmifgaa
