/-
  Contracts of the functions that copy, turn and compare slices of integers.
  Conditions: the sizes that each contract names.
-/
import Derived.Test.YtnjifahnfmifgaaSlicesB
namespace Go.Proofs.Ytnjifahnfmifgaa
open Go.RowKit

theorem l02Turn (l : List Int) (ln : Nat) (hln : ln = l.length) (ao : Option Addr) (cap : Nat) (w : World) (hr : Rd w ao cap l) (hl : l.length ≤ 1000000000000) :
    Calls Try.prog 39 #[.slice ao ln cap] w fun e w' => ∃ v, e = .returned v ∧ Own w' w.heap.size v l.reverse ∧ Below w.heap.size w w' := by
  subst hln
  have HR := Lib.hid hr
  clear hr
  go_enter Try.func39, Try.ntmps39
  go_wp2
  go_loopw [3, 4] (fun vo vi wr => ∃ (k : Nat), k ≤ l.length ∧ vi = .int .i64 ((k : Int) - 1) ∧ Own wr w.heap.size vo (l.drop k).reverse ∧ Below w.heap.size w wr) (fun _ vi _ => (intOf vi + 1).toNat)
  case atStart => exact ⟨l.length, Nat.le_refl _, rfl, (by rw [List.drop_length]; exact own_made _), (Below.refl _ _).alloc (Nat.le_refl _) _⟩
  case round =>
    obtain ⟨k, hk, rfl, hown, hbel⟩ := hrel
    by_cases hlt : 0 < k
    · obtain ⟨j, rfl⟩ : ∃ j, k = j + 1 := ⟨k - 1, by omega⟩
      obtain ⟨bl, off, rfl, hbl, hc0⟩ := HR.out.at (show j < l.length by omega)
      have hc := (hbel.cell (p := ⟨bl, off + j, none⟩) hbl).trans hc0
      clear hc0
      have hx : (l.drop (j + 1)).reverse.length < 1000000000000 := by rw [List.length_reverse, List.length_drop]; omega
      have hsz := hbel.size
      have HS := Lib.hid (show (l.drop j).reverse = (l.drop (j + 1)).reverse ++ [l.getD j 0] by rw [Pl.drop_step (show j < l.length by omega), List.reverse_cons])
      have e1 : ((j + 1 : Nat) : Int) - 1 = (j : Int) := by omega
      rw [e1]
      generalize (l.drop (j + 1)).reverse = x at *
      generalize l.getD j 0 = d at *
      go_wp2_with (at_builtin; refine wp_push wr _ _ x d hown rfl _ _ rfl rfl rfl hx hsz ?_; intro v1 w1 hown1 hb1')
      go_roundw
      case rel => exact ⟨j, by omega, by first | rfl | (congr 1; omega), (by rw [HS.out]; exact hown1), hbel.trans hb1'⟩
      case measure => simp [intOf]
    · obtain rfl : k = 0 := by omega
      go_wp2
      go_ret
      exact ⟨_, rfl, hown, hbel⟩
theorem q_nil_eql : ∀ (w : World) (a : Option Addr) (n c n' c' : Nat), (binOp .eql 27 (.slice a n c) (.slice none n' c')).run Try.prog w = .ok (.bool a.isNone) w := fun w a n c n' c' => Lib.run_eql_slice_nil w _ _ a n c n' c' Try.underlying27
theorem clone (l : List Int) (ln : Nat) (hln : ln = l.length) (ao : Option Addr) (cap : Nat) (w : World) (hr : Rd w ao cap l) (hl : l.length ≤ 1000000000000) :
    Calls Try.prog 68 #[.slice ao ln cap] w fun e w' => ∃ v, e = .returned v ∧ Own w' w.heap.size v l ∧ Below w.heap.size w w' := by
  subst hln
  have hq := q_nil_eql
  cases ao with
  | none =>
    have h0 : l = [] := by
      rcases hr.2.2.2 with h | ⟨b, off, e, _⟩
      · exact h
      · cases e
    subst h0
    clear hr
    go_enter Try.func68, Try.ntmps68
    go_wp2
    go_ret
    exact ⟨_, rfl, own_nil _ _, Below.refl _ _⟩
  | some ad =>
    have hr1 := hr.below ((Below.refl w.heap.size w).alloc (Nat.le_refl _) (.cells #[] 3)) (Nat.le_refl _)
    have HR := Lib.hid hr1
    clear hr hr1
    go_enter Try.func68, Try.ntmps68
    go_wp2_with (at_builtin; refine wp_pushL _ _ _ [] l _ _ _ (own_made w) HR.out rfl _ _ rfl rfl rfl rfl (by simp; omega) (by simp) ?_; intro v1 w1 hown1 hb1')
    go_ret
    exact ⟨_, rfl, (by simpa using hown1), ((Below.refl _ _).alloc (Nat.le_refl _) _).trans hb1'⟩
theorem eq_of_get {l m : List Int} (h : l.length = m.length) (he : ∀ j, j < l.length → l.getD j 0 = m.getD j 0) : l = m := by
  apply List.ext_getElem h
  intro i h1 h2
  have := he i h1
  rw [List.getD_eq_getElem?_getD, List.getD_eq_getElem?_getD, List.getElem?_eq_getElem h1, List.getElem?_eq_getElem h2] at this
  simpa using this
theorem ne_of_get {l m : List Int} {j : Nat} (he : l.getD j 0 ≠ m.getD j 0) : l ≠ m := fun h => he (by rw [h])
theorem slEqual (l m : List Int) (ln mn : Nat) (hln : ln = l.length) (hmn : mn = m.length) (ao bo : Option Addr) (cap cap' : Nat) (w : World) (hr : Rd w ao cap l) (hr' : Rd w bo cap' m) :
    Calls Try.prog 63 #[.slice ao ln cap, .slice bo mn cap'] w fun e w' => e = .returned (.bool (l == m)) ∧ Below w.heap.size w w' := by
  subst hln
  subst hmn
  have HR := Lib.hid hr
  have HR' := Lib.hid hr'
  have hcap := hr.1
  have hcap2 := hr.2.1
  unfold maxLen at hcap2
  clear hr hr'
  by_cases hlen : l.length = m.length
  · have HL := Lib.hid hlen
    have hll : ((l.length : Int) != (m.length : Int)) = false := by rw [hlen]; simp
    have HYes := Lib.hid (fun he => show (l == m) = true by rw [beq_iff_eq]; exact eq_of_get hlen he)
    have HNo := Lib.hid (fun j (he : l.getD j 0 ≠ m.getD j 0) => show (l == m) = false by rw [beq_eq_false_iff_ne]; exact ne_of_get he)
    clear hlen
    generalize hres : (l == m) = res at *
    have HRES := Lib.hid hres
    clear hres
    go_enter Try.func63, Try.ntmps63
    go_wp2
    go_loopw [13] (fun vi wr => ∃ (k : Nat), k ≤ l.length ∧ vi = .int .i64 k ∧ Hid (∀ j, j < k → l.getD j 0 = m.getD j 0) ∧ Below w.heap.size w wr) (fun vi _ => l.length - (intOf vi).toNat)
    case atStart => exact ⟨0, Nat.zero_le _, rfl, (fun j hj => absurd hj (by omega)), Below.refl _ _⟩
    case round =>
      obtain ⟨k, hk, rfl, hg, hbel⟩ := hrel
      by_cases hlt : k < l.length
      · obtain ⟨b1, off1, rfl, hb1, hc1⟩ := HR.out.at hlt
        have hlt' : k < m.length := by have := HL.out; omega
        obtain ⟨b2, off2, rfl, hb2, hc2⟩ := HR'.out.at hlt'
        have hd1 := (hbel.cell (p := ⟨b1, off1 + k, none⟩) hb1).trans hc1
        have hd2 := (hbel.cell (p := ⟨b2, off2 + k, none⟩) hb2).trans hc2
        clear hc1 hc2
        by_cases he : l.getD k 0 = m.getD k 0
        · have hb : (l.getD k 0 != m.getD k 0) = false := by rw [he]; simp
          have HE := Lib.hid (show ∀ j, j < k + 1 → l.getD j 0 = m.getD j 0 from fun j hj => if e : j = k then (by subst e; exact he) else hg.out j (by omega))
          clear he
          generalize l.getD k 0 = d1 at *
          generalize m.getD k 0 = d2 at *
          go_wp2
          go_quiet (fail)
          go_wp2
          go_roundw
          case rel => exact ⟨k + 1, by omega, by go_num, HE.out, (by repeat (first | exact hbel | refine below_drewN ?_ _))⟩
          case measure => simp [intOf]; omega
        · have hb : (l.getD k 0 != m.getD k 0) = true := by rw [bne_iff_ne]; exact he
          have HE := Lib.hid (HNo.out k he)
          clear he
          generalize l.getD k 0 = d1 at *
          generalize m.getD k 0 = d2 at *
          go_wp2
          go_quiet (fail)
          go_wp2
          go_ret
          exact ⟨ret_bool HE.out.symm, (by repeat (first | exact hbel | refine below_drewN ?_ _))⟩
      · go_wp2
        go_ret
        exact ⟨ret_bool (HYes.out (fun j hj => hg.out j (by omega))).symm, hbel⟩
  · have hll : ((l.length : Int) != (m.length : Int)) = true := by rw [bne_iff_ne]; omega
    have HV := Lib.hid (show (l == m) = false by rw [beq_eq_false_iff_ne]; exact fun h => hlen (by rw [h]))
    clear hlen
    go_enter Try.func63, Try.ntmps63
    go_wp2
    go_ret
    exact ⟨ret_bool HV.out.symm, Below.refl _ _⟩
end Go.Proofs.Ytnjifahnfmifgaa
