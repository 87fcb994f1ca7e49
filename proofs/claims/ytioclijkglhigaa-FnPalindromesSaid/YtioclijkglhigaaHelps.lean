/-
  Contracts of the small functions of the laws: same, has, btoi, power.
  Conditions: the sizes that a contract names.
-/
import Derived.Test.YtioclijkglhigaaSlicesC
import Derived.Test.YtioclijkglhigaaSlicesD
namespace Go.Proofs.Ytioclijkglhigaa
open Go.RowKit
def btI (q : Bool) : Int := if q then 1 else 0
theorem btoi (q : Bool) (w : World) : Calls Try.prog 42 #[.bool q] w fun e w' => e = .returned (.int .i64 (btI q)) ∧ w = w' := by
  cases q
  all_goals
    go_enter Try.func42, Try.ntmps42
    go_wp2
    go_ret
    exact ⟨rfl, rfl⟩
theorem vb_or {a : Bool} (h : a = false) : Value.bool a = .bool false := by rw [h]
theorem vb_t {a : Bool} (h : a = true) : Value.bool a = .bool true := by rw [h]
theorem same (l m : List Int) (ln mn : Nat) (hln : ln = l.length) (hmn : mn = m.length) (ao bo : Option Addr) (cap cap' : Nat) (w : World) (hr : Rd w ao cap l) (hr' : Rd w bo cap' m) :
    Calls Try.prog 48 #[.slice ao ln cap, .slice bo mn cap'] w fun e w' => e = .returned (.bool (l == m)) ∧ w = w' := by
  subst hln
  subst hmn
  have HR := Lib.hid hr
  have HR' := Lib.hid hr'
  have hcap := hr.1
  have hcap2 := hr.2.1
  unfold maxLen at hcap2
  clear hr hr'
  by_cases hlen : l.length = m.length
  · have HL := Lib.hid hlen
    have hll : ((l.length : Int) != (m.length : Int)) = false := by rw [hlen]; simp
    have HYes := Lib.hid (fun he => show (l == m) = true by rw [beq_iff_eq]; exact eq_of_get hlen he)
    have HNo := Lib.hid (fun j (he : l.getD j 0 ≠ m.getD j 0) => show (l == m) = false by rw [beq_eq_false_iff_ne]; exact ne_of_get he)
    clear hlen
    generalize hres : (l == m) = res at *
    have HRES := Lib.hid hres
    clear hres
    go_enter Try.func48, Try.ntmps48
    go_wp2
    go_loop [14] (fun vi => ∃ (k : Nat), k ≤ l.length ∧ vi = .int .i64 k ∧ Hid (∀ j, j < k → l.getD j 0 = m.getD j 0)) (fun vi => l.length - (intOf vi).toNat)
    case atStart => exact ⟨0, Nat.zero_le _, rfl, (fun j hj => absurd hj (by omega))⟩
    case round =>
      obtain ⟨k, hk, rfl, hg⟩ := hrel
      by_cases hlt : k < l.length
      · obtain ⟨b1, off1, rfl, hb1, hc1⟩ := HR.out.at hlt
        have hlt' : k < m.length := by have := HL.out; omega
        obtain ⟨b2, off2, rfl, hb2, hc2⟩ := HR'.out.at hlt'
        by_cases he : l.getD k 0 = m.getD k 0
        · have hb : (l.getD k 0 != m.getD k 0) = false := by rw [he]; simp
          have HE := Lib.hid (show ∀ j, j < k + 1 → l.getD j 0 = m.getD j 0 from fun j hj => if e : j = k then (by subst e; exact he) else hg.out j (by omega))
          clear he
          generalize l.getD k 0 = d1 at *
          generalize m.getD k 0 = d2 at *
          go_wp2
          go_round
          case rel => exact ⟨k + 1, by omega, by go_num, HE.out⟩
          case measure => simp [intOf]; omega
        · have hb : (l.getD k 0 != m.getD k 0) = true := by rw [bne_iff_ne]; exact he
          have HE := Lib.hid (HNo.out k he)
          clear he
          generalize l.getD k 0 = d1 at *
          generalize m.getD k 0 = d2 at *
          go_wp2
          go_ret
          exact ⟨ret_bool HE.out.symm, rfl⟩
      · have HE := Lib.hid (HYes.out (fun j hj => hg.out j (by omega)))
        go_wp2
        go_ret
        exact ⟨ret_bool HE.out.symm, rfl⟩
  · have hll : ((l.length : Int) != (m.length : Int)) = true := by rw [bne_iff_ne]; omega
    have HV := Lib.hid (show (l == m) = false by rw [beq_eq_false_iff_ne]; exact fun h => hlen (by rw [h]))
    clear hlen
    go_enter Try.func48, Try.ntmps48
    go_wp2
    go_ret
    exact ⟨ret_bool HV.out.symm, rfl⟩
end Go.Proofs.Ytioclijkglhigaa
