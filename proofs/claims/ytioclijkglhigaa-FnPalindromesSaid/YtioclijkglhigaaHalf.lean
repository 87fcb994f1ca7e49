/-
  Contracts of the joining of halves.
  Conditions: the sizes that each contract names.
-/
import Derived.Test.YtioclijkglhigaaSlicesC
import Derived.Test.YtioclijkglhigaaSlicesE
import Derived.Test.YtioclijkglhigaaPals
namespace Go.Proofs.Ytioclijkglhigaa
open Go.RowKit
theorem Rd.tail {w : World} {b off cap : Nat} {l : List Int} (h : Rd w (some ⟨b, off, none⟩) cap l) (_hc : cap ≠ 1) (h0 : 0 < cap) : Rd w (some ⟨b, off + 1, none⟩) (cap - 1) (l.drop 1) := by
  obtain ⟨h1, h2, h3, h4⟩ := h
  refine ⟨by rw [List.length_drop]; omega, by omega, fun h => by simp at h, ?_⟩
  rcases h4 with rfl | ⟨b', off', e, hl, hcell⟩
  · exact .inl rfl
  · simp only [Option.some.injEq, Addr.mk.injEq, and_true] at e
    obtain ⟨rfl, rfl⟩ := e
    refine .inr ⟨b, off + 1, rfl, hl, fun j hj => ?_⟩
    rw [List.length_drop] at hj
    have := hcell (j + 1) (by omega)
    rw [show off + 1 + j = off + (j + 1) by omega, this, List.getD_eq_getElem?_getD, List.getD_eq_getElem?_getD, List.getElem?_drop, Nat.add_comm 1 j]
theorem Rd.tail1 {w : World} {b off : Nat} {l : List Int} (h : Rd w (some ⟨b, off, none⟩) 1 l) : Rd w (some ⟨b, off, none⟩) 0 (l.drop 1) := by
  have hl : l.drop 1 = [] := List.drop_eq_nil_of_le h.1
  rw [hl]
  exact ⟨by simp, by unfold maxLen; omega, fun h => by simp at h, .inl rfl⟩
theorem iJoin (l : List Int) (ln : Nat) (hln : ln = l.length) (ao : Option Addr) (cap : Nat) (odd : Bool) (w : World) (hr : Rd w ao cap l) (hl : l.length ≤ 1000000000000) :
    Calls Try.prog 49 #[.slice ao ln cap, .bool odd] w fun e w' => ∃ v, e = .returned v ∧ Own w' w.heap.size v (Pl.jh l odd) ∧ Below w.heap.size w w' := by
  subst hln
  rcases Nat.eq_zero_or_pos l.length with h0 | h0
  · have hl0 : l = [] := List.eq_nil_of_length_eq_zero h0
    subst hl0
    have HV := Lib.hid (show Pl.jh [] odd = [] by cases odd <;> rfl)
    clear hr
    go_enter Try.func49, Try.ntmps49
    go_wp2_with fail
    go_ret
    exact ⟨_, rfl, by rw [HV.out]; exact own_nil _ _, Below.refl _ _⟩
  · obtain ⟨b, off, rfl, hb, _⟩ := hr.at h0
    have hcap := hr.1
    have hcap2 := hr.2.1
    unfold maxLen at hcap2
    have HR := Lib.hid hr
    clear hr
    have hz : ((l.length : Int) == 0) = false := beq_eq_false_iff_ne.2 (by omega)
    have HV1 := Lib.hid (show Pl.jh l true = l.reverse ++ l.drop 1 from rfl)
    have HV2 := Lib.hid (show Pl.jh l false = l.reverse ++ l from rfl)
    cases odd with
    | false =>
      go_enter Try.func49, Try.ntmps49
      go_wp2_with fail
      refine (clone _ _ (by simp) _ _ _ HR.out hl).mono ?_
      rintro e w1 ⟨v, rfl, hown, hb1⟩
      go_wp2_with fail
      refine (slReverse _ _ _ _ hown).mono ?_
      rintro e w2 ⟨rfl, hown2, hb2⟩
      have HB := Lib.hid (hb1.trans hb2)
      have HO := Lib.hid hown2
      have hrd := Lib.hid (HR.out.below HB.out (Nat.le_refl _))
      have hsz := HB.out.size
      clear hown hown2 hb1 hb2
      go_wp2_with (at_builtin; refine wp_pushL _ _ _ l.reverse l _ _ _ HO.out hrd.out rfl _ _ rfl rfl rfl rfl (by simp; omega) hsz ?_; intro v3 w3 hown3 hb3)
      go_ret
      exact ⟨_, rfl, by rw [HV2.out]; exact hown3, HB.out.trans hb3⟩
    | true =>
      by_cases hc1 : cap = 1
      · subst hc1
        go_enter Try.func49, Try.ntmps49
        go_wp2_with fail
        refine (clone _ _ (by simp) _ _ _ HR.out hl).mono ?_
        rintro e w1 ⟨v, rfl, hown, hb1⟩
        go_wp2_with fail
        refine (slReverse _ _ _ _ hown).mono ?_
        rintro e w2 ⟨rfl, hown2, hb2⟩
        have HB := Lib.hid (hb1.trans hb2)
        have HO := Lib.hid hown2
        have hrd := Lib.hid (HR.out.below HB.out (Nat.le_refl _)).tail1
        have hsz := HB.out.size
        clear hown hown2 hb1 hb2
        go_wp2_with (at_builtin; refine wp_pushL _ _ _ l.reverse (l.drop 1) _ _ _ HO.out hrd.out rfl _ _ rfl rfl rfl (by simp <;> omega) (by simp; omega) hsz ?_; intro v3 w3 hown3 hb3)
        go_ret
        exact ⟨_, rfl, by rw [HV1.out]; exact hown3, HB.out.trans hb3⟩
      · go_enter Try.func49, Try.ntmps49
        go_wp2_with fail
        refine (clone _ _ (by simp) _ _ _ HR.out hl).mono ?_
        rintro e w1 ⟨v, rfl, hown, hb1⟩
        go_wp2_with fail
        refine (slReverse _ _ _ _ hown).mono ?_
        rintro e w2 ⟨rfl, hown2, hb2⟩
        have HB := Lib.hid (hb1.trans hb2)
        have HO := Lib.hid hown2
        have hrd := Lib.hid ((HR.out.below HB.out (Nat.le_refl _)).tail hc1 (by omega))
        have hsz := HB.out.size
        clear hown hown2 hb1 hb2
        go_wp2_with (at_builtin; refine wp_pushL _ _ _ l.reverse (l.drop 1) _ _ _ HO.out hrd.out rfl _ _ rfl rfl rfl (by simp <;> omega) (by simp; omega) hsz ?_; intro v3 w3 hown3 hb3)
        go_ret
        exact ⟨_, rfl, by rw [HV1.out]; exact hown3, HB.out.trans hb3⟩
theorem sJoin (l : List Int) (ln : Nat) (hln : ln = l.length) (ao : Option Addr) (cap : Nat) (odd : Bool) (w : World) (hr : Rd w ao cap l) (hl : l.length ≤ 1000000000000) :
    Calls Try.prog 87 #[.slice ao ln cap, .bool odd] w fun e w' => ∃ v, e = .returned v ∧ Own w' w.heap.size v (Pl.jh l odd) ∧ Below w.heap.size w w' := by
  subst hln
  have hcap := hr.1
  have hcap2 := hr.2.1
  unfold maxLen at hcap2
  have HR := Lib.hid hr
  clear hr
  by_cases hodd : odd = true ∧ 0 < l.length
  · obtain ⟨rfl, h0⟩ := hodd
    obtain ⟨b, off, rfl, hb, _⟩ := HR.out.at h0
    have HV1 := Lib.hid (show Pl.jh l true = l.reverse ++ l.drop 1 from rfl)
    by_cases hc1 : cap = 1
    · subst hc1
      go_enter Try.func87, Try.ntmps87
      go_wp2_with fail
      refine (l02Turn _ _ (by simp) _ _ _ HR.out hl).mono ?_
      rintro e w1 ⟨v, rfl, hown, hb1⟩
      have HB := Lib.hid hb1
      have HO := Lib.hid hown
      have hrd := Lib.hid (HR.out.below HB.out (Nat.le_refl _)).tail1
      have hsz := HB.out.size
      clear hown hb1
      go_wp2_with (at_builtin; refine wp_pushL _ _ _ l.reverse (l.drop 1) _ _ _ HO.out hrd.out rfl _ _ rfl rfl rfl (by simp <;> omega) (by simp; omega) hsz ?_; intro v3 w3 hown3 hb3)
      go_ret
      exact ⟨_, rfl, by rw [HV1.out]; exact hown3, HB.out.trans hb3⟩
    · go_enter Try.func87, Try.ntmps87
      go_wp2_with fail
      refine (l02Turn _ _ (by simp) _ _ _ HR.out hl).mono ?_
      rintro e w1 ⟨v, rfl, hown, hb1⟩
      have HB := Lib.hid hb1
      have HO := Lib.hid hown
      have hrd := Lib.hid ((HR.out.below HB.out (Nat.le_refl _)).tail hc1 (by omega))
      have hsz := HB.out.size
      clear hown hb1
      go_wp2_with (at_builtin; refine wp_pushL _ _ _ l.reverse (l.drop 1) _ _ _ HO.out hrd.out rfl _ _ rfl rfl rfl (by simp <;> omega) (by simp; omega) hsz ?_; intro v3 w3 hown3 hb3)
      go_ret
      exact ⟨_, rfl, by rw [HV1.out]; exact hown3, HB.out.trans hb3⟩
  · have HV := Lib.hid (show Pl.jh l odd = l.reverse ++ l by
      cases odd with
      | false => rfl
      | true =>
        have h0 : l = [] := List.eq_nil_of_length_eq_zero (by have : ¬ 0 < l.length := fun h => hodd ⟨rfl, h⟩; omega)
        subst h0; rfl)
    have HC := Lib.hid hodd
    clear hodd
    cases odd with
    | false =>
      go_enter Try.func87, Try.ntmps87
      go_wp2_with fail
      refine (l02Turn _ _ (by simp) _ _ _ HR.out hl).mono ?_
      rintro e w1 ⟨v, rfl, hown, hb1⟩
      have HB := Lib.hid hb1
      have HO := Lib.hid hown
      have hrd := Lib.hid (HR.out.below HB.out (Nat.le_refl _))
      have hsz := HB.out.size
      clear hown hb1
      go_wp2_with (at_builtin; refine wp_pushL _ _ _ l.reverse l _ _ _ HO.out hrd.out rfl _ _ rfl rfl rfl rfl (by simp; omega) hsz ?_; intro v3 w3 hown3 hb3)
      go_ret
      exact ⟨_, rfl, by rw [HV.out]; exact hown3, HB.out.trans hb3⟩
    | true =>
      have h0 : l.length = 0 := by have : ¬ 0 < l.length := fun h => HC.out ⟨rfl, h⟩; omega
      have H0 := Lib.hid h0
      have h1 : ¬ (0 : Int) < (l.length : Int) := by omega
      clear h0
      go_enter Try.func87, Try.ntmps87
      go_wp2_with fail
      refine (l02Turn _ _ (by simp) _ _ _ HR.out hl).mono ?_
      rintro e w1 ⟨v, rfl, hown, hb1⟩
      have HB := Lib.hid hb1
      have HO := Lib.hid hown
      have hrd := Lib.hid (HR.out.below HB.out (Nat.le_refl _))
      have hsz := HB.out.size
      clear hown hb1
      go_wp2_with (at_builtin; refine wp_pushL _ _ _ l.reverse l _ _ _ HO.out hrd.out rfl _ _ rfl rfl rfl (by have := H0.out; simp <;> omega) (by simp; omega) hsz ?_; intro v3 w3 hown3 hb3)
      go_ret
      exact ⟨_, rfl, by rw [HV.out]; exact hown3, HB.out.trans hb3⟩
end Go.Proofs.Ytioclijkglhigaa
