/-
  Contracts of SortStep and of FixedSorts.
  Conditions: none.
-/
import Derived.Test.YtidjnbnhkgobnaaSStep
namespace Go.Proofs.Ytidjnbnhkgobnaa
open Go.RowKit
namespace Srt
theorem iSS (n b k : Int) (w : World) : Calls Try.prog 32 #[.int .i64 n, .int .i64 b, .int .i64 k] w fun e w' => e = .returned (.int .i64 (ssV n b k)) ∧ Below w.heap.size w w' := by
  cases hf : fitB n b k with
  | true =>
    have HV := Lib.hid (show Pl.ss b k.toNat n = ssV n b k by rw [ssV, if_pos hf])
    have ⟨⟨b1, b2⟩, ⟨k1, k2⟩, n1, n2⟩ := fit_t hf
    have p5 := (pow5 (k := k) b1 b2 (by omega) k2).2
    have HF := Lib.hid hf
    obtain ⟨K, rfl⟩ := Int.eq_ofNat_of_zero_le (show 0 ≤ k by omega)
    rw [Int.toNat_natCast] at HV n2 p5
    have n3 : n ≤ 1000000000000 := by omega
    have K5 : K ≤ 5 := by omega
    clear hf n2 p5
    go_enter Try.func32, Try.ntmps32
    go_wp2_with fail
    refine (as_bool HF.out (isSorted _ _ _ _)).mono ?_
    rintro e w1 ⟨rfl, rfl⟩
    go_wp2_with fail
    refine (iSortStep _ _ _ _ b1 b2 n1 n3 K5).mono ?_
    rintro e w1 ⟨rfl, hb1⟩
    go_wp2
    go_ret
    exact ⟨ret_int HV.out, hb1⟩
  | false =>
    have HV := Lib.hid (show -1 = ssV n b k by rw [ssV, hf]; rfl)
    have HF := Lib.hid hf
    clear hf
    go_enter Try.func32, Try.ntmps32
    go_wp2_with fail
    refine (as_bool HF.out (isSorted _ _ _ _)).mono ?_
    rintro e w1 ⟨rfl, rfl⟩
    go_wp2
    go_ret
    exact ⟨ret_int HV.out, Below.refl _ _⟩
/-- The numbers below j that the step leaves as they are. -/
def fsL (b : Int) (k : Nat) : Nat → List Int
  | 0 => []
  | j + 1 => fsL b k j ++ (if Pl.ss b k j = j then [(j : Int)] else [])
theorem fsL_len (b : Int) (k : Nat) : ∀ j : Nat, (fsL b k j).length ≤ j := by
  intro j
  induction j with
  | zero => simp [fsL]
  | succ j ih =>
    show (fsL b k j ++ _).length ≤ _
    rw [List.length_append]
    split <;> simp <;> omega
def fsV (b k : Int) : List Int := if inB b 2 16 && inB k 2 4 then fsL b k.toNat (b ^ k.toNat).toNat else []
theorem fsV_in {b k : Int} (h : inB b 2 16 = true) (h' : inB k 2 4 = true) : fsV b k = fsL b k.toNat (b ^ k.toNat).toNat := by rw [fsV, h, h']; rfl
theorem pow4 {b k : Int} (b1 : 2 ≤ b) (b2 : b ≤ 16) (k1 : 0 ≤ k) (k2 : k ≤ 4) : 1 ≤ b ^ k.toNat ∧ b ^ k.toNat ≤ 65536 := by
  have h0 := Pl.pow_pos (show 0 < b by omega) k.toNat
  have h1 := Pl.pow_mono (show 0 ≤ b by omega) b2 k.toNat
  have h2 : (16 : Int) ^ k.toNat ≤ 16 ^ 4 := Pl.pow_up (by omega) (by omega)
  have h3 : (16 : Int) ^ 4 = 65536 := by decide
  omega
theorem fsV_len (b k : Int) : (fsV b k).length ≤ 65536 := by
  rcases inB_cases b 2 16 with h | h <;> rcases inB_cases k 2 4 with h' | h'
  case inl.inl =>
    have ⟨b1, b2⟩ := inB_t h
    have ⟨k1, k2⟩ := inB_t h'
    have p := pow4 (k := k) b1 b2 (by omega) k2
    have := fsL_len b k.toNat (b ^ k.toNat).toNat
    rw [fsV_in h h']
    omega
  all_goals simp [fsV, h, h']
theorem iFS (b k : Int) (w : World) : Calls Try.prog 35 #[.int .i64 b, .int .i64 k] w fun e w' => ∃ v, e = .returned v ∧ Own w' w.heap.size v (fsV b k) ∧ Below w.heap.size w w' := by
  rcases inB_cases b 2 16 with h | h <;> rcases inB_cases k 2 4 with h' | h'
  case inl.inl =>
    have HV := Lib.hid (fsV_in h h')
    have ⟨b1, b2⟩ := inB_t h
    have ⟨k1, k2⟩ := inB_t h'
    have ⟨p1, p2⟩ := pow4 (k := k) b1 b2 (by omega) k2
    have HP := Lib.hid (Pl.pow16' (show 0 ≤ b by omega) b2 (n := k.toNat) (by omega))
    go_enter Try.func35, Try.ntmps35
    go_wp2_with (first | (go_at_call 44; refine (iBaseOk_any _ _).mono ?_; rintro e w' ⟨rfl, rfl⟩) | (go_at_call 45; refine (within_any _ _ _ _).mono ?_; rintro e w' ⟨rfl, rfl⟩))
    refine (ipowerZ _ _ _ (by omega) (by omega) (by omega) HP.out).mono ?_
    rintro e w' ⟨rfl, rfl⟩
    obtain ⟨K, rfl⟩ := Int.eq_ofNat_of_zero_le (show 0 ≤ k by omega)
    rw [Int.toNat_natCast] at HV HP p1 p2 ⊢
    have K4 : K ≤ 5 := by omega
    generalize hN : b ^ K = N at *
    have HN := Lib.hid hN
    clear hN
    obtain ⟨M, rfl⟩ := Int.eq_ofNat_of_zero_le (show 0 ≤ N by omega)
    rw [Int.toNat_natCast] at HV
    have M2 : M ≤ 65536 := by omega
    have hmn : ¬ (100000 : Int) < (M : Int) := by omega
    go_wp2
    go_loopw [5, 19] (fun vo vi wr => ∃ (j : Nat), j ≤ M ∧ vi = .int .i64 j ∧ Own wr w.heap.size vo (fsL b K j) ∧ Below w.heap.size w wr) (fun _ vi _ => M - (intOf vi).toNat)
    case atStart => exact ⟨0, Nat.zero_le _, rfl, own_nil _ _, Below.refl _ _⟩
    case round =>
      obtain ⟨j, hj, rfl, hown, hbel⟩ := hrel
      have HO := Lib.hid hown
      have HB := Lib.hid hbel
      clear hown hbel
      by_cases hlt : j < M
      · have hx := fsL_len b K j
        have HX := Lib.hid (show (fsL b K j).length < 1000000000000 by omega)
        clear hx
        have HS := Lib.hid (show fsL b K (j + 1) = fsL b K j ++ (if Pl.ss b K j = j then [(j : Int)] else []) from rfl)
        go_wp2_with fail
        refine (iSortStep _ _ _ _ b1 b2 (by omega) (by omega) K4).mono ?_
        rintro e w1 ⟨rfl, hb1⟩
        have HO1 := Lib.hid (HO.out.below hb1 (Nat.le_refl _))
        have HB1 := Lib.hid (HB.out.trans (hb1.mono HB.out.size))
        have hsz := HB1.out.size
        clear hb1
        by_cases he : Pl.ss b K j = j
        · have hb : (Pl.ss b K j == (j : Int)) = true := by rw [beq_iff_eq]; exact he
          have HE := Lib.hid (show fsL b K (j + 1) = fsL b K j ++ [(j : Int)] by rw [HS.out, if_pos he])
          clear he
          generalize Pl.ss b K j = s at *
          go_wp2_with (at_builtin; refine wp_push w1 _ _ (fsL b K j) j HO1.out rfl _ _ rfl rfl rfl HX.out hsz ?_; intro v1 w2 hown1 hb1')
          go_roundw
          case rel => exact ⟨j + 1, by omega, by go_num, by rw [HE.out]; exact hown1, HB1.out.trans hb1'⟩
          case measure => simp [intOf]; omega
        · have hb : (Pl.ss b K j == (j : Int)) = false := by rw [beq_eq_false_iff_ne]; exact he
          have HE := Lib.hid (show fsL b K (j + 1) = fsL b K j by rw [HS.out, if_neg he, List.append_nil])
          clear he
          generalize Pl.ss b K j = s at *
          go_wp2
          go_roundw
          case rel => exact ⟨j + 1, by omega, by go_num, by rw [HE.out]; exact HO1.out, HB1.out⟩
          case measure => simp [intOf]; omega
      · obtain rfl : j = M := by omega
        go_wp2
        go_ret
        exact ⟨_, rfl, by rw [HV.out]; exact HO.out, HB.out⟩
  all_goals
    have HV := Lib.hid (show [] = fsV b k by simp [fsV, h, h'])
    go_enter Try.func35, Try.ntmps35
    go_wp2_with (first | (go_at_call 44; refine (iBaseOk_any _ _).mono ?_; rintro e w' ⟨rfl, rfl⟩) | (go_at_call 45; refine (within_any _ _ _ _).mono ?_; rintro e w' ⟨rfl, rfl⟩))
    go_ret
    exact ⟨_, rfl, by rw [← HV.out]; exact own_nil _ _, Below.refl _ _⟩
end Srt
end Go.Proofs.Ytidjnbnhkgobnaa
