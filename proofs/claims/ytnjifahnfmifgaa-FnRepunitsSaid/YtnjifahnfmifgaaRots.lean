/-
  Contracts of the list of all rotations of a number, of the least one, and of cyclic numbers.
  Conditions: none.
-/
import Derived.Test.YtnjifahnfmifgaaSlicesC
import Derived.Test.YtnjifahnfmifgaaSlicesD
import Derived.Test.YtnjifahnfmifgaaSortC
import Derived.Test.YtnjifahnfmifgaaRot1
import Derived.Test.YtnjifahnfmifgaaRotPl
import Derived.Deep.DeepCutAuto
namespace Go.Proofs.Ytnjifahnfmifgaa
open Go.RowKit
namespace Rots
def rf (b k : Int) (x : Int) : Int := rotZ x b k
def rotsL (n b : Int) (k : Int) (j : Nat) : List Int := Pl.ddL (rf b k) n j
def rotsV (n b k : Int) : List Int := if rokB n b k then Pl.srt (rotsL n b k k.toNat) else []
theorem rok_rot {x b k : Int} (h : rokB x b k = true) : rokB (rotZ x b k) b k = true := by
  obtain ⟨h1, h2, h3, h4⟩ := rok_t h
  have ⟨b1, b2⟩ := inB_t h1
  have ⟨k1, k2⟩ := inB_t h2
  have ⟨n1, n2⟩ := inB_t h3
  obtain ⟨_, _, _, _, r5, r6, _⟩ := rot_bd b1 b2 k1 k2 n1 h4
  have := (rot_bd b1 b2 k1 k2 r5 r6).2.2.2.2.2.2
  rw [rok_mk h1 h2 (inB_mk r5 (by omega))]
  simpa using r6
theorem rok_orb {n b k : Int} (h : rokB n b k = true) : ∀ j : Nat, rokB (Pl.orb (rf b k) n j) b k = true := by
  intro j
  induction j with
  | zero => exact h
  | succ j ih => exact rok_rot ih
theorem rok_bd {x b k : Int} (h : rokB x b k = true) : (2 ≤ b ∧ b ≤ 16) ∧ (1 ≤ k ∧ k ≤ 9) ∧ 0 ≤ x ∧ x ≤ 68719476736 := by
  obtain ⟨h1, h2, h3, h4⟩ := rok_t h
  have ⟨b1, b2⟩ := inB_t h1
  have ⟨k1, k2⟩ := inB_t h2
  have ⟨n1, n2⟩ := inB_t h3
  exact ⟨⟨b1, b2⟩, ⟨k1, k2⟩, n1, (rot_bd b1 b2 k1 k2 n1 h4).2.2.2.2.2.2⟩
theorem rotsV_len (n b k : Int) : (rotsV n b k).length ≤ 9 := by
  cases h : rokB n b k with
  | true =>
    have := (rok_bd h).2.1
    rw [rotsV, if_pos h, (Pl.srt_perm _).length_eq]
    have := Pl.ddL_len (rf b k) n k.toNat
    show (Pl.ddL (rf b k) n k.toNat).length ≤ 9
    omega
  | false => rw [rotsV, h]; simp
theorem iRots (n b k : Int) (w : World) : Calls Try.prog 27 #[.int .i64 n, .int .i64 b, .int .i64 k] w fun e w' => ∃ v, e = .returned v ∧ Own w' w.heap.size v (rotsV n b k) ∧ Below w.heap.size w w' := by
  cases hok : rokB n b k with
  | true =>
    have HV := Lib.hid (show rotsV n b k = Pl.srt (Pl.ddL (rf b k) n k.toNat) by rw [rotsV, if_pos hok]; rfl)
    have ⟨⟨b1, b2⟩, ⟨k1, k2⟩, n1, n2⟩ := rok_bd hok
    have HK := Lib.hid (rok_orb hok)
    have HF := Lib.hid hok
    clear hok
    obtain ⟨K, rfl⟩ := Int.eq_ofNat_of_zero_le (show 0 ≤ k by omega)
    rw [Int.toNat_natCast] at HV
    have K9 : K ≤ 9 := by omega
    go_enter Try.func27, Try.ntmps27
    go_wp2_with fail
    refine (as_bool HF.out (isRotated _ _ _ _)).mono ?_
    rintro e w1 ⟨rfl, rfl⟩
    go_wp2
    go_loopw [0, 7, 14] (fun vn vo vi wr => ∃ (j : Nat) (x : Int), j ≤ K ∧ vi = .int .i64 j ∧ vn = .int .i64 x ∧ Hid (Pl.orb (rf b K) n j = x) ∧ Own wr w.heap.size vo (Pl.ddL (rf b K) n j) ∧ Below w.heap.size w wr) (fun _ _ vi _ => K - (intOf vi).toNat)
    case atStart => exact ⟨0, n, Nat.zero_le _, rfl, rfl, Lib.hid rfl, own_nil _ _, Below.refl _ _⟩
    case round =>
      obtain ⟨j, x, hj, rfl, rfl, hx, hown, hbel⟩ := hrel
      have HO := Lib.hid hown
      have HB := Lib.hid hbel
      clear hown hbel
      have hl := Pl.ddL_len (rf b K) n j
      have HX := Lib.hid (show (Pl.ddL (rf b K) n j).length < 1000000000000 by omega)
      have HXL := Lib.hid hl
      clear hl
      by_cases hlt : j < K
      · have HR := Lib.hid (show rokB x b K = true by rw [← hx.out]; exact HK.out j)
        have HX2 := Lib.hid (show Pl.orb (rf b K) n (j + 1) = rotZ x b K by rw [← hx.out]; rfl)
        obtain ⟨ao, cap, rfl, hrd⟩ := HO.out.shape
        have HRD := Lib.hid hrd
        clear hrd
        have hsz := HB.out.size
        by_cases hm : x ∈ Pl.ddL (rf b K) n j
        · have HC := Lib.hid (show decide (x ∈ Pl.ddL (rf b K) n j) = true by simpa using hm)
          have HD := Lib.hid (Pl.ddL_yes (f := rf b K) (n := n) (j := j) (by rw [hx.out]; exact hm))
          clear hm
          go_wp2_with fail
          refine (as_bool HC.out (slContains _ _ (by simp) _ _ _ _ HRD.out)).mono ?_
          rintro e w2 ⟨rfl, rfl⟩
          go_wp2_with fail
          refine (iRotate _ _ _ _ HR.out).mono ?_
          rintro e w2 ⟨rfl, hb2⟩
          have HO2 := Lib.hid (HO.out.below hb2 (Nat.le_refl _))
          have HB2 := Lib.hid (HB.out.trans (hb2.mono hsz))
          clear hb2 HO
          generalize rotZ x b K = y at *
          go_wp2
          go_roundw
          case rel => exact ⟨j + 1, y, by omega, by go_num, rfl, HX2, by rw [HD.out]; exact HO2.out, HB2.out⟩
          case measure => simp [intOf]; omega
        · have HC := Lib.hid (show decide (x ∈ Pl.ddL (rf b K) n j) = false by simpa using hm)
          have HD := Lib.hid (show Pl.ddL (rf b K) n (j + 1) = Pl.ddL (rf b K) n j ++ [x] by
            have := Pl.ddL_no (f := rf b K) (n := n) (j := j) (by rw [hx.out]; exact hm)
            rwa [hx.out] at this)
          clear hm
          go_wp2_with fail
          refine (as_bool HC.out (slContains _ _ (by simp) _ _ _ _ HRD.out)).mono ?_
          rintro e w2 ⟨rfl, rfl⟩
          go_wp2_with (at_builtin; refine wp_push wr _ _ (Pl.ddL (rf b K) n j) x HO.out rfl _ _ rfl rfl rfl HX.out hsz ?_; intro v1 w3 hown1 hb1')
          refine (iRotate _ _ _ _ HR.out).mono ?_
          rintro e w4 ⟨rfl, hb4⟩
          have HO2 := Lib.hid (hown1.below hb4 (Nat.le_refl _))
          have HB3 := Lib.hid (HB.out.trans hb1')
          have HB2 := Lib.hid (HB3.out.trans (hb4.mono HB3.out.size))
          clear hb4 HO hown1 hb1'
          generalize rotZ x b K = y at *
          go_wp2
          go_roundw
          case rel => exact ⟨j + 1, y, by omega, by go_num, rfl, HX2, by rw [HD.out]; exact HO2.out, HB2.out⟩
          case measure => simp [intOf]; omega
      · obtain rfl : j = K := by omega
        go_wp2_with fail
        refine (Srt.slSort _ _ _ _ HO.out (by have := HXL.out; omega)).mono ?_
        rintro e w2 ⟨rfl, hown2, hb2⟩
        have HO2 := Lib.hid hown2
        have HB2 := Lib.hid (HB.out.trans hb2)
        clear hown2 hb2
        go_wp2
        go_ret
        exact ⟨_, rfl, by rw [HV.out]; exact HO2.out, HB2.out⟩
  | false =>
    have HV := Lib.hid (show [] = rotsV n b k by rw [rotsV, hok]; rfl)
    have HF := Lib.hid hok
    clear hok
    go_enter Try.func27, Try.ntmps27
    go_wp2_with fail
    refine (as_bool HF.out (isRotated _ _ _ _)).mono ?_
    rintro e w1 ⟨rfl, rfl⟩
    go_wp2
    go_ret
    exact ⟨_, rfl, by rw [← HV.out]; exact own_nil _ _, Below.refl _ _⟩
theorem rd_take {w : World} {ao : Option Addr} {cap : Nat} {l : List Int} (h : Rd w ao cap l) (s : Nat) : Rd w ao cap (l.take s) := by
  obtain ⟨h1, h2, h3, h4⟩ := h
  refine ⟨by rw [List.length_take]; omega, h2, h3, ?_⟩
  rcases h4 with rfl | ⟨b, off, e, hl, hc⟩
  · left; simp
  · refine .inr ⟨b, off, e, hl, fun j hj => ?_⟩
    rw [List.length_take] at hj
    rw [hc j (by omega), List.getD_eq_getElem?_getD, List.getD_eq_getElem?_getD, List.getElem?_take, if_pos (by omega)]
theorem rd_drop {w : World} {b off cap : Nat} {l : List Int} (h : Rd w (some ⟨b, off, none⟩) cap l) (s : Nat) (hs : s ≤ cap) : Rd w (some ⟨b, off + s, none⟩) (cap - s) (l.drop s) := by
  obtain ⟨h1, h2, h3, h4⟩ := h
  refine ⟨by rw [List.length_drop]; omega, by omega, fun h => by simp at h, ?_⟩
  rcases h4 with rfl | ⟨b', off', e, hl, hcell⟩
  · left; simp
  · simp only [Option.some.injEq, Addr.mk.injEq, and_true] at e
    obtain ⟨rfl, rfl⟩ := e
    refine .inr ⟨b, off + s, rfl, hl, fun j hj => ?_⟩
    rw [List.length_drop] at hj
    rw [show off + s + j = off + (s + j) by omega, hcell (s + j) (by omega), List.getD_eq_getElem?_getD, List.getD_eq_getElem?_getD, List.getElem?_drop]
theorem rd_end {w : World} {b off s : Nat} {l : List Int} (h : Rd w (some ⟨b, off, none⟩) s l) : Rd w (some ⟨b, off, none⟩) 0 (l.drop s) := by
  have hl : l.drop s = [] := List.drop_eq_nil_of_le h.1
  rw [hl]
  exact ⟨by simp, by unfold maxLen; omega, fun h => by simp at h, .inl rfl⟩
theorem own_some {w : World} {B : Nat} {v : Value} {l : List Int} (h : Own w B v l) (hl : l ≠ []) : ∃ g cap, v = .slice (some ⟨g, 0, none⟩) l.length cap := by
  rcases h.forms with ⟨_, h0⟩ | ⟨g, cap, e, _⟩
  · exact absurd h0 hl
  · exact ⟨g, cap, e⟩
theorem at_step {s : List Int} {x : Int} {i : Nat} (h : ∀ j, j < i → s.getD j 0 < x) (h2 : s.getD i 0 < x) : ∀ j, j < i + 1 → s.getD j 0 < x := fun j hj => if e : j = i then (by subst e; exact h2) else h j (by omega)
end Rots
end Go.Proofs.Ytnjifahnfmifgaa
