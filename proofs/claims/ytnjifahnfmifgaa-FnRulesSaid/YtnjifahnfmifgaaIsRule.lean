/-
  Contracts of the test whether weights are a rule of divisibility.
  Conditions: none.
-/
import Derived.Test.YtnjifahnfmifgaaAllW
import Derived.Test.YtnjifahnfmifgaaWeights
namespace Go.Proofs.Ytnjifahnfmifgaa
open Go.RowKit
/-- Each number of l has the remainder of its fellow. -/
def eqMod (m : Int) : List Int → List Int → Bool
  | x :: l, r :: q => ((x - r).tmod m == 0) && eqMod m l q
  | _, _ => true
theorem eqMod_step {m : Int} {l q : List Int} {k : Nat} (h : k < l.length) (h' : k < q.length) : eqMod m (l.drop k) (q.drop k) = (((l.getD k 0 - q.getD k 0).tmod m == 0) && eqMod m (l.drop (k + 1)) (q.drop (k + 1))) := by
  rw [Pl.drop_step h, Pl.drop_step h']; rfl
theorem eqMod_end {m : Int} {l q : List Int} {k : Nat} (h : q.length ≤ k) : eqMod m (l.drop k) (q.drop k) = true := by
  rw [Pl.drop_all h]; cases l.drop k <;> rfl
def irV (l : List Int) (m b : Int) : Bool := inB b 2 16 && inB m 2 1000 && decide (l.length ≤ 40) && allB l (-1000) 1000 && eqMod m l (rwL m b l.length 1)
theorem irV_no {l : List Int} {m b : Int} (h : inB b 2 16 = false ∨ inB m 2 1000 = false ∨ 40 < l.length ∨ allB l (-1000) 1000 = false) : irV l m b = false := by
  rcases h with h | h | h | h
  · simp [irV, h]
  · simp [irV, h]
  · simp [irV, show ¬ l.length ≤ 40 by omega]
  · simp [irV, h]
theorem rwV_ok {m b : Int} {n : Nat} (h : inB b 2 16 = true) (h' : inB m 2 1000 = true) (hn : n ≤ 40) : rwV m b n = rwL m b n 1 := by
  rw [rwV, if_pos (by rw [h, h', inB_mk (by omega) (by omega)]; rfl), Int.toNat_natCast]
set_option maxHeartbeats 400000 in
theorem iIsRule (l : List Int) (ln : Nat) (hln : ln = l.length) (ao : Option Addr) (cap : Nat) (m b : Int) (w : World) (hr : Rd w ao cap l) :
    Calls Try.prog 14 #[.slice ao ln cap, .int .i64 m, .int .i64 b] w fun e w' => e = .returned (.bool (irV l m b)) ∧ Below w.heap.size w w' := by
  subst hln
  have HR := Lib.hid hr
  clear hr
  rcases inB_cases b 2 16 with h | h <;> rcases inB_cases m 2 1000 with h' | h'
  case inl.inl =>
    have ⟨b1, b2⟩ := inB_t h
    have ⟨m1, m2⟩ := inB_t h'
    by_cases h4 : l.length ≤ 40
    · have h4' : ¬ (40 : Int) < (l.length : Int) := by omega
      have h4b : decide ((40 : Int) < (l.length : Int)) = false := by simp; omega
      cases ha : allB l (-1000) 1000 with
      | false =>
        have HV := Lib.hid (show false = irV l m b from (irV_no (by simp [ha])).symm)
        go_enter Try.func14, Try.ntmps14
        go_wp2_with (first | (go_at_call 47; refine (isRuled_any _ _ _).mono ?_; rintro e w' ⟨rfl, rfl⟩))
        refine (allWithin _ _ (by simp) _ _ _ _ _ HR.out).mono ?_
        rintro e w1 ⟨rfl, hbw⟩
        go_wp2_with fail
        go_ret
        exact ⟨ret_bool HV.out, by first | exact Below.refl _ _ | assumption⟩
      | true =>
        have HA := Lib.hid (show ∀ j, j < l.length → -1000 ≤ l.getD j 0 ∧ l.getD j 0 ≤ 1000 from fun j hj => allB_get ha hj)
        have HV := Lib.hid (show eqMod m l (rwL m b l.length 1) = irV l m b by simp [irV, h, h', ha, h4])
        have HW := Lib.hid (rwV_ok h h' h4)
        have HL := Lib.hid (rwL_len m b l.length 1)
        have HD := Lib.hid (rwL_bd (b := b) m1 l.length 1 (by omega) (by omega))
        go_enter Try.func14, Try.ntmps14
        go_wp2_with (first | (go_at_call 47; refine (isRuled_any _ _ _).mono ?_; rintro e w' ⟨rfl, rfl⟩))
        refine (allWithin _ _ (by simp) _ _ _ _ _ HR.out).mono ?_
        rintro e w1 ⟨rfl, hbw⟩
        go_wp2_with fail
        refine (ruleW _ _ _ _ b1 b2 m1 m2 (by omega) (by omega)).mono ?_
        rintro e w2 ⟨v, rfl, hown, hb2⟩
        rw [Int.toNat_natCast] at hown
        obtain ⟨ao2, cap2, rfl, hrd⟩ := hown.shape
        have HR1 := Lib.hid hrd
        have HB := Lib.hid (hbw.trans (hb2.mono hbw.size))
        have HR2 := Lib.hid (HR.out.below HB.out (Nat.le_refl _))
        rw [HL.out]
        clear hown hrd
        generalize rwL m b l.length 1 = q at *
        go_wp2_with fail
        go_loop [29] (fun vi => ∃ (k : Nat), k ≤ l.length ∧ vi = .int .i64 k ∧ Hid (eqMod m (l.drop k) (q.drop k) = eqMod m l q)) (fun vi => l.length - (intOf vi).toNat)
        case atStart => exact ⟨0, Nat.zero_le _, rfl, rfl⟩
        case round =>
          obtain ⟨k, hk, rfl, hg⟩ := hrel
          by_cases hlt : k < l.length
          · obtain ⟨bl, off, rfl, _, hc⟩ := HR2.out.at hlt
            obtain ⟨bl2, off2, rfl, _, hc2⟩ := HR1.out.at (show k < q.length by rw [HL.out]; exact hlt)
            have ⟨x0, x1⟩ := HA.out k hlt
            have ⟨r0, r1⟩ := HD.out _ (Pl.getD_mem (show k < q.length by rw [HL.out]; exact hlt))
            have HS := Lib.hid (eqMod_step (m := m) hlt (show k < q.length by rw [HL.out]; exact hlt))
            generalize l.getD k 0 = x at *
            generalize q.getD k 0 = r at *
            by_cases ht : (x - r).tmod m = 0
            · have e1 : ((x - r).tmod m != 0) = false := by rw [ht]; rfl
              have HG := Lib.hid (show eqMod m (l.drop (k + 1)) (q.drop (k + 1)) = eqMod m l q by rw [← hg.out, HS.out, ht]; simp)
              have HT := Lib.hid ht
              clear ht
              go_wp2
              go_round
              case rel => exact ⟨k + 1, by omega, by go_num, HG.out⟩
              case measure => simp [intOf]; omega
            · have e1 : ((x - r).tmod m != 0) = true := by rw [bne_iff_ne]; exact ht
              have HG := Lib.hid (show false = eqMod m l q by rw [← hg.out, HS.out, beq_eq_false_iff_ne.2 ht]; rfl)
              clear ht
              go_wp2
              go_ret
              exact ⟨ret_bool (HG.out.trans HV.out), HB.out⟩
          · have HE := Lib.hid (show true = eqMod m l q by rw [← hg.out]; exact (eqMod_end (by rw [HL.out]; omega)).symm)
            go_wp2
            go_ret
            exact ⟨ret_bool (HE.out.trans HV.out), HB.out⟩
    · have HV := Lib.hid (show false = irV l m b from (irV_no (by right; right; left; omega)).symm)
      have h4' : (40 : Int) < (l.length : Int) := by omega
      have h4b : decide ((40 : Int) < (l.length : Int)) = true := by simp; omega
      go_enter Try.func14, Try.ntmps14
      go_wp2_with (first | (go_at_call 47; refine (isRuled_any _ _ _).mono ?_; rintro e w' ⟨rfl, rfl⟩))
      go_ret
      exact ⟨ret_bool HV.out, Below.refl _ _⟩
  all_goals
    have HV := Lib.hid (show false = irV l m b from (irV_no (by simp [h, h'])).symm)
    go_enter Try.func14, Try.ntmps14
    go_wp2_with (first | (go_at_call 47; refine (isRuled_any _ _ _).mono ?_; rintro e w' ⟨rfl, rfl⟩))
    go_ret
    exact ⟨ret_bool HV.out, Below.refl _ _⟩
end Go.Proofs.Ytnjifahnfmifgaa
