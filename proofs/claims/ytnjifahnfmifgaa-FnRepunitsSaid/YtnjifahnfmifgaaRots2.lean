/-
  Contracts of the least rotation, and of cyclic numbers.
  Conditions: none.
-/
import Derived.Test.YtnjifahnfmifgaaRots
namespace Go.Proofs.Ytnjifahnfmifgaa
open Go.RowKit
namespace Rots
def lrV (n b k : Int) : Int := if rokB n b k then (rotsV n b k).getD 0 0 else -1
theorem rotsV_pos {n b k : Int} (h : rokB n b k = true) : 0 < (rotsV n b k).length := by
  have ⟨_, ⟨k1, k2⟩, _⟩ := rok_bd h
  rw [rotsV, if_pos h, (Pl.srt_perm _).length_eq]
  obtain ⟨j, hj⟩ : ∃ j, k.toNat = j + 1 := ⟨k.toNat - 1, by omega⟩
  have : Pl.orb (rf b k) n 0 ∈ rotsL n b k k.toNat := Pl.ddL_mem.2 ⟨0, by omega, rfl⟩
  exact List.length_pos_iff.2 (List.ne_nil_of_mem this)
/-- The first k multiples of n. -/
def mulL (n : Int) (k : Nat) : List Int := (List.range k).map fun (j : Nat) => n * ((j : Int) + 1)
theorem mulL_len (n : Int) (k : Nat) : (mulL n k).length = k := by simp [mulL]
theorem mulL_get {n : Int} {k j : Nat} (h : j < k) : (mulL n k).getD j 0 = n * ((j : Int) + 1) := by
  simp [mulL, List.getD_eq_getElem?_getD, h]
theorem mulL_succ (n : Int) (k : Nat) : mulL n (k + 1) = mulL n k ++ [n * ((k : Int) + 1)] := by
  simp [mulL, List.range_succ]
def icV (n b k : Int) : Bool := rokB n b k && (rotsV n b k == mulL n k.toNat)
theorem iLeastRot (n b k : Int) (w : World) : Calls Try.prog 29 #[.int .i64 n, .int .i64 b, .int .i64 k] w fun e w' => e = .returned (.int .i64 (lrV n b k)) ∧ Below w.heap.size w w' := by
  cases hok : rokB n b k with
  | true =>
    have HV := Lib.hid (show (rotsV n b k).getD 0 0 = lrV n b k by rw [lrV, if_pos hok])
    have HP := Lib.hid (rotsV_pos hok)
    have HF := Lib.hid hok
    clear hok
    go_enter Try.func29, Try.ntmps29
    go_wp2_with fail
    refine (as_bool HF.out (isRotated _ _ _ _)).mono ?_
    rintro e w1 ⟨rfl, rfl⟩
    go_wp2_with fail
    refine (iRots _ _ _ _).mono ?_
    rintro e w1 ⟨v, rfl, hown, hb1⟩
    obtain ⟨ao, cap, rfl, hrd⟩ := hown.shape
    obtain ⟨g, off, rfl, _, hc⟩ := hrd.at HP.out
    rw [Nat.add_zero] at hc
    have HB := Lib.hid hb1
    have hcap := hrd.1
    have hpos := HP.out
    clear hown hrd hb1
    generalize (rotsV n b k).getD 0 0 = d at *
    generalize (rotsV n b k).length = q at *
    have hp2 : (0 : Int) < q := by omega
    go_wp2
    go_ret
    exact ⟨ret_int HV.out, HB.out⟩
  | false =>
    have HV := Lib.hid (show -1 = lrV n b k by rw [lrV, hok]; rfl)
    have HF := Lib.hid hok
    clear hok
    go_enter Try.func29, Try.ntmps29
    go_wp2_with fail
    refine (as_bool HF.out (isRotated _ _ _ _)).mono ?_
    rintro e w1 ⟨rfl, rfl⟩
    go_wp2
    go_ret
    exact ⟨ret_int HV.out, Below.refl _ _⟩
theorem iIsCyc (n b k : Int) (w : World) : Calls Try.prog 32 #[.int .i64 n, .int .i64 b, .int .i64 k] w fun e w' => e = .returned (.bool (icV n b k)) ∧ Below w.heap.size w w' := by
  cases hok : rokB n b k with
  | true =>
    have HV := Lib.hid (show (rotsV n b k == mulL n k.toNat) = icV n b k by rw [icV, hok]; rfl)
    have ⟨⟨b1, b2⟩, ⟨k1, k2⟩, n1, n2⟩ := rok_bd hok
    have HF := Lib.hid hok
    clear hok
    obtain ⟨K, rfl⟩ := Int.eq_ofNat_of_zero_le (show 0 ≤ k by omega)
    rw [Int.toNat_natCast] at HV
    have K9 : K ≤ 9 := by omega
    go_enter Try.func32, Try.ntmps32
    go_wp2_with fail
    refine (as_bool HF.out (isRotated _ _ _ _)).mono ?_
    rintro e w1 ⟨rfl, rfl⟩
    go_wp2
    go_loopw [7, 15] (fun vo vi wr => ∃ (j : Nat), j ≤ K ∧ vi = .int .i64 j ∧ Own wr w.heap.size vo (mulL n j) ∧ Below w.heap.size w wr) (fun _ vi _ => K - (intOf vi).toNat)
    case atStart => exact ⟨0, Nat.zero_le _, rfl, own_nil _ _, Below.refl _ _⟩
    case round =>
      obtain ⟨j, hj, rfl, hown, hbel⟩ := hrel
      have HO := Lib.hid hown
      have HB := Lib.hid hbel
      clear hown hbel
      by_cases hlt : j < K
      · have hsz := HB.out.size
        have HX := Lib.hid (show (mulL n j).length < 1000000000000 by rw [mulL_len]; omega)
        have HS := Lib.hid (mulL_succ n j)
        have m0 : 0 ≤ n * ((j : Int) + 1) := Int.mul_nonneg n1 (by omega)
        have m1 : n * ((j : Int) + 1) ≤ 68719476736 * 9 := Int.mul_le_mul n2 (by omega) (by omega) (by omega)
        go_wp2_with (at_builtin; refine wp_push wr _ _ (mulL n j) (n * ((j : Int) + 1)) HO.out rfl _ _ rfl rfl rfl HX.out hsz ?_; intro v1 w2 hown1 hb1')
        go_roundw
        case rel => exact ⟨j + 1, by omega, by go_num, by rw [HS.out]; exact hown1, HB.out.trans hb1'⟩
        case measure => simp [intOf]; omega
      · obtain rfl : j = K := by omega
        obtain ⟨ao, cap, rfl, hrd⟩ := HO.out.shape
        have HRD := Lib.hid hrd
        clear hrd
        go_wp2_with fail
        refine (iRots _ _ _ _).mono ?_
        rintro e w2 ⟨v, rfl, hown2, hb2⟩
        obtain ⟨ao2, cap2, rfl, hrd2⟩ := hown2.shape
        have HRD2 := Lib.hid hrd2
        have HRD1 := Lib.hid (HRD.out.below hb2 (Nat.le_refl _))
        have HB2 := Lib.hid (HB.out.trans (hb2.mono HB.out.size))
        clear hown2 hrd2 hb2
        go_wp2_with fail
        refine (as_bool HV.out (slEqual _ _ _ _ (by simp) (by simp) _ _ _ _ _ HRD2.out HRD1.out)).mono ?_
        rintro e w3 ⟨rfl, hb3⟩
        go_wp2
        go_ret
        exact ⟨rfl, HB2.out.trans (hb3.mono HB2.out.size)⟩
  | false =>
    have HV := Lib.hid (show false = icV n b k by rw [icV, hok]; rfl)
    have HF := Lib.hid hok
    clear hok
    go_enter Try.func32, Try.ntmps32
    go_wp2_with fail
    refine (as_bool HF.out (isRotated _ _ _ _)).mono ?_
    rintro e w1 ⟨rfl, rfl⟩
    go_wp2
    go_ret
    exact ⟨ret_bool HV.out, Below.refl _ _⟩
end Rots
end Go.Proofs.Ytnjifahnfmifgaa
