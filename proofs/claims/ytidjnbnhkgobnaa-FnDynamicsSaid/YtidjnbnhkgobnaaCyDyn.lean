/-
  Contracts of the statements on happy numbers.
  Conditions: none.
-/
import Derived.Test.YtidjnbnhkgobnaaCyStep
namespace Go.Proofs.Ytidjnbnhkgobnaa
open Go.RowKit
namespace Cy
theorem own_one (w : World) (n : Int) : Own (w.alloc (.cells #[.int .i64 n] 3)) w.heap.size (.slice (some ⟨w.heap.size, 0, none⟩) 1 1) [n] :=
  World.ownsRow_lit w #[.int .i64 n] 1 (Nat.le_refl _) (by unfold maxLen; omega) rfl
theorem iHappy (n b : Int) (l : List Int) (hl : PcV n b 2 l) (w : World) : Calls Try.prog 16 #[.int .i64 n, .int .i64 b] w fun r w' => r = .returned (.bool (l == [1])) ∧ Below w.heap.size w w' := by
  go_enter Try.func16, Try.ntmps16
  go_wp2_with fail
  refine (iPC n b 2 l hl w).mono ?_
  rintro e w1 ⟨v, rfl, hown, hb1⟩
  obtain ⟨ao, cap, rfl, hrd⟩ := hown.shape
  have HA := Lib.hid (show Below w1.heap.size w1 (w1.alloc (.cells #[.int .i64 1] 3)) from (Below.refl _ _).alloc (Nat.le_refl _) _)
  have HR := Lib.hid (hrd.below HA.out (Nat.le_refl _))
  have HO := Lib.hid (own_one w1 1)
  have HB := Lib.hid hb1
  clear hown hb1 hrd
  go_wp2_with fail
  obtain ⟨ao2, cap2, e2, hrd2⟩ := HO.out.shape
  rw [e2]
  refine (slEqual l [1] _ _ (by simp) (by simp) _ _ _ _ _ HR.out hrd2).mono ?_
  rintro e w2 ⟨rfl, hb2⟩
  clear hrd2 e2
  go_wp2
  go_ret
  exact ⟨rfl, HB.out.trans ((HA.out.trans (hb2.mono HA.out.size)).mono HB.out.size)⟩
theorem sHappy (n b : Int) (l : List Int) (hl : PcV n b 2 l) (w : World) : Calls Try.prog 15 #[.int .i64 n, .int .i64 b] w fun r w' => r = .returned (.bool (l == [1])) ∧ Below w.heap.size w w' := by
  obtain ⟨res, hres⟩ : ∃ res, (l == [1]) = res := ⟨_, rfl⟩
  rw [hres]
  have HRES := Lib.hid hres
  clear hres
  go_enter Try.func15, Try.ntmps15
  go_wp2_with fail
  refine (sPC n b 2 l hl w).mono ?_
  rintro e w1 ⟨v, rfl, hown, hb1⟩
  obtain ⟨ao, cap, rfl, hrd⟩ := hown.shape
  have HB := Lib.hid hb1
  clear hown hb1
  have hcap := hrd.1
  have hcap2 := hrd.2.1
  unfold maxLen at hcap2
  match l, hrd, hcap, HRES with
  | [], hrd, hcap, HRES =>
    have HV := Lib.hid (show false = res by rw [← HRES.out]; simp)
    clear hrd HRES
    go_wp2
    go_ret
    exact ⟨ret_bool HV.out, HB.out⟩
  | [x], hrd, hcap, HRES =>
    obtain ⟨g, off, rfl, _, hc⟩ := hrd.at (show 0 < [x].length by simp)
    have hc' : w1.cell? ⟨g, off, none⟩ = some (.int .i64 x) := hc
    have HV := Lib.hid (show (x == 1) = res by rw [← HRES.out]; simp)
    clear hrd hc HRES
    simp only [List.length_cons, List.length_nil, Nat.zero_add] at hcap ⊢
    go_wp2
    go_ret
    exact ⟨ret_bool HV.out, HB.out⟩
  | x :: y :: l, hrd, hcap, HRES =>
    have HV := Lib.hid (show false = res by rw [← HRES.out]; simp)
    have hne : (((x :: y :: l).length : Int) == 1) = false := by simp; omega
    clear hrd HRES
    generalize (x :: y :: l).length = q at *
    go_wp2
    go_ret
    exact ⟨ret_bool HV.out, HB.out⟩
/-- How many of the first j numbers have the cycle [1]. -/
def hcN (L : Int → List Int) : Nat → Int
  | 0 => 0
  | j + 1 => hcN L j + if L ((j + 1 : Nat) : Int) == [1] then 1 else 0
theorem hcN_bd (L : Int → List Int) : ∀ j : Nat, 0 ≤ hcN L j ∧ hcN L j ≤ j := by
  intro j
  induction j with
  | zero => simp [hcN]
  | succ j ih => unfold hcN; split <;> omega
def chV (L : Int → List Int) (b most : Int) : Int := if inB b 2 16 && inB most 0 300 then hcN L most.toNat else -1
set_option maxHeartbeats 1000000 in
theorem iCH (b most : Int) (L : Int → List Int) (hL : ∀ m, PcV m b 2 (L m)) (w : World) : Calls Try.prog 18 #[.int .i64 b, .int .i64 most] w fun r w' => r = .returned (.int .i64 (chV L b most)) ∧ Below w.heap.size w w' := by
  rcases inB_cases b 2 16 with h | h <;> rcases inB_cases most 0 300 with h' | h'
  case inl.inl =>
    have HL := Lib.hid hL
    have ⟨b1, b2⟩ := inB_t h
    have ⟨m1, m2⟩ := inB_t h'
    have HV := Lib.hid (show chV L b most = hcN L most.toNat by simp [chV, h, h'])
    obtain ⟨N, rfl⟩ := Int.eq_ofNat_of_zero_le m1
    rw [Int.toNat_natCast] at HV
    clear hL
    go_enter Try.func18, Try.ntmps18
    go_wp2_with (first | (go_at_call 44; refine (iBaseOk_any _ _).mono ?_; rintro e w' ⟨rfl, rfl⟩) | (go_at_call 45; refine (within_any _ _ _ _).mono ?_; rintro e w' ⟨rfl, rfl⟩))
    go_loopw [5, 6] (fun vt vi wr => ∃ (j : Nat) (t : Int), j ≤ N ∧ 0 ≤ t ∧ t ≤ (j : Int) ∧ vi = .int .i64 ((j : Int) + 1) ∧ vt = .int .i64 t ∧ Hid (hcN L j = t) ∧ Below w.heap.size w wr) (fun _ vi _ => N + 1 - (intOf vi).toNat)
    case atStart => exact ⟨0, 0, Nat.zero_le _, by omega, by omega, rfl, rfl, Lib.hid rfl, Below.refl _ _⟩
    case round =>
      obtain ⟨j, t, hj, t0, t1, rfl, rfl, hg, hbel⟩ := hrel
      have HB := Lib.hid hbel
      clear hbel
      by_cases hlt : j < N
      · have hle : (j : Int) + 1 ≤ (N : Int) := by omega
        have HS := Lib.hid (show hcN L (j + 1) = t + if L ((j : Int) + 1) == [1] then 1 else 0 by
          rw [← hg.out]; show hcN L j + (if L ((j + 1 : Nat) : Int) == [1] then 1 else 0) = _; rw [Int.natCast_add]; rfl)
        go_wp2_with fail
        refine (iHappy _ _ (L ((j : Int) + 1)) (HL.out _) _).mono ?_
        rintro e w1 ⟨rfl, hb1⟩
        have HB1 := Lib.hid (HB.out.trans (hb1.mono HB.out.size))
        clear hb1
        cases hq : (L ((j : Int) + 1) == [1]) with
        | true =>
          have HS2 := Lib.hid (show hcN L (j + 1) = t + 1 by rw [HS.out, hq]; rfl)
          clear hq
          go_wp2
          go_roundw
          case rel => exact ⟨j + 1, t + 1, by omega, by omega, by omega, by go_num, rfl, HS2, HB1.out⟩
          case measure => simp [intOf]; omega
        | false =>
          have HS2 := Lib.hid (show hcN L (j + 1) = t by rw [HS.out, hq]; simp)
          clear hq
          go_wp2
          go_roundw
          case rel => exact ⟨j + 1, t, by omega, by omega, by omega, by go_num, rfl, HS2, HB1.out⟩
          case measure => simp [intOf]; omega
      · obtain rfl : j = N := by omega
        go_wp2
        go_ret
        exact ⟨ret_int (hg.out.symm.trans HV.out.symm), HB.out⟩
  all_goals
    have HV := Lib.hid (show -1 = chV L b most by simp [chV, h, h'])
    go_enter Try.func18, Try.ntmps18
    go_wp2_with (first | (go_at_call 44; refine (iBaseOk_any _ _).mono ?_; rintro e w' ⟨rfl, rfl⟩) | (go_at_call 45; refine (within_any _ _ _ _).mono ?_; rintro e w' ⟨rfl, rfl⟩))
    go_ret
    exact ⟨ret_int HV.out, Below.refl _ _⟩
set_option maxHeartbeats 1000000 in
theorem sCH (b most : Int) (L : Int → List Int) (hL : ∀ m, PcV m b 2 (L m)) (w : World) : Calls Try.prog 17 #[.int .i64 b, .int .i64 most] w fun r w' => r = .returned (.int .i64 (chV L b most)) ∧ Below w.heap.size w w' := by
  rcases inB_cases b 2 16 with h | h <;> rcases inB_cases most 0 300 with h' | h'
  case inl.inl =>
    have HL := Lib.hid hL
    have ⟨b1, b2⟩ := inB_t h
    have ⟨m1, m2⟩ := inB_t h'
    have HV := Lib.hid (show chV L b most = hcN L most.toNat by simp [chV, h, h'])
    obtain ⟨N, rfl⟩ := Int.eq_ofNat_of_zero_le m1
    rw [Int.toNat_natCast] at HV
    clear hL
    go_enter Try.func17, Try.ntmps17
    go_wp2_with (first | (go_at_call 42; refine (sBaseOk_any _ _).mono ?_; rintro e w' ⟨rfl, rfl⟩) | (go_at_call 43; refine (l01In_any _ _ _ _).mono ?_; rintro e w' ⟨rfl, rfl⟩))
    go_loopw [5, 6] (fun vt vi wr => ∃ (j : Nat) (t : Int), j ≤ N ∧ 0 ≤ t ∧ t ≤ (j : Int) ∧ vi = .int .i64 ((j : Int) + 1) ∧ vt = .int .i64 t ∧ Hid (hcN L j = t) ∧ Below w.heap.size w wr) (fun _ vi _ => N + 1 - (intOf vi).toNat)
    case atStart => exact ⟨0, 0, Nat.zero_le _, by omega, by omega, rfl, rfl, Lib.hid rfl, Below.refl _ _⟩
    case round =>
      obtain ⟨j, t, hj, t0, t1, rfl, rfl, hg, hbel⟩ := hrel
      have HB := Lib.hid hbel
      clear hbel
      by_cases hlt : j < N
      · have hle : (j : Int) + 1 ≤ (N : Int) := by omega
        have HS := Lib.hid (show hcN L (j + 1) = t + if L ((j : Int) + 1) == [1] then 1 else 0 by
          rw [← hg.out]; show hcN L j + (if L ((j + 1 : Nat) : Int) == [1] then 1 else 0) = _; rw [Int.natCast_add]; rfl)
        go_wp2_with fail
        refine (sHappy _ _ (L ((j : Int) + 1)) (HL.out _) _).mono ?_
        rintro e w1 ⟨rfl, hb1⟩
        have HB1 := Lib.hid (HB.out.trans (hb1.mono HB.out.size))
        clear hb1
        cases hq : (L ((j : Int) + 1) == [1]) with
        | true =>
          have HS2 := Lib.hid (show hcN L (j + 1) = t + 1 by rw [HS.out, hq]; rfl)
          clear hq
          go_wp2
          go_roundw
          case rel => exact ⟨j + 1, t + 1, by omega, by omega, by omega, by go_num, rfl, HS2, HB1.out⟩
          case measure => simp [intOf]; omega
        | false =>
          have HS2 := Lib.hid (show hcN L (j + 1) = t by rw [HS.out, hq]; simp)
          clear hq
          go_wp2
          go_roundw
          case rel => exact ⟨j + 1, t, by omega, by omega, by omega, by go_num, rfl, HS2, HB1.out⟩
          case measure => simp [intOf]; omega
      · obtain rfl : j = N := by omega
        go_wp2
        go_ret
        exact ⟨ret_int (hg.out.symm.trans HV.out.symm), HB.out⟩
  all_goals
    have HV := Lib.hid (show -1 = chV L b most by simp [chV, h, h'])
    go_enter Try.func17, Try.ntmps17
    go_wp2_with (first | (go_at_call 42; refine (sBaseOk_any _ _).mono ?_; rintro e w' ⟨rfl, rfl⟩) | (go_at_call 43; refine (l01In_any _ _ _ _).mono ?_; rintro e w' ⟨rfl, rfl⟩))
    go_ret
    exact ⟨ret_int HV.out, Below.refl _ _⟩
end Cy
end Go.Proofs.Ytidjnbnhkgobnaa
