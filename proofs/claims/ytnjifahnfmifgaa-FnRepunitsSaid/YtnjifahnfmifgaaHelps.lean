/-
  Contracts of the small functions of the laws: same, has, btoi, power.
  Conditions: the sizes that a contract names.
-/
import Derived.Test.YtnjifahnfmifgaaSlicesC
import Derived.Test.YtnjifahnfmifgaaSlicesD
namespace Go.Proofs.Ytnjifahnfmifgaa
open Go.RowKit
theorem vb_or {a : Bool} (h : a = false) : Value.bool a = .bool false := by rw [h]
theorem vb_t {a : Bool} (h : a = true) : Value.bool a = .bool true := by rw [h]
theorem same (l m : List Int) (ln mn : Nat) (hln : ln = l.length) (hmn : mn = m.length) (ao bo : Option Addr) (cap cap' : Nat) (w : World) (hr : Rd w ao cap l) (hr' : Rd w bo cap' m) :
    Calls Try.prog 30 #[.slice ao ln cap, .slice bo mn cap'] w fun e w' => e = .returned (.bool (l == m)) ∧ w = w' := by
  subst hln
  subst hmn
  have HR := Lib.hid hr
  have HR' := Lib.hid hr'
  have hcap := hr.1
  have hcap2 := hr.2.1
  unfold maxLen at hcap2
  clear hr hr'
  by_cases hlen : l.length = m.length
  · have HL := Lib.hid hlen
    have hll : ((l.length : Int) != (m.length : Int)) = false := by rw [hlen]; simp
    have HYes := Lib.hid (fun he => show (l == m) = true by rw [beq_iff_eq]; exact eq_of_get hlen he)
    have HNo := Lib.hid (fun j (he : l.getD j 0 ≠ m.getD j 0) => show (l == m) = false by rw [beq_eq_false_iff_ne]; exact ne_of_get he)
    clear hlen
    generalize hres : (l == m) = res at *
    have HRES := Lib.hid hres
    clear hres
    go_enter Try.func30, Try.ntmps30
    go_wp2
    go_loop [14] (fun vi => ∃ (k : Nat), k ≤ l.length ∧ vi = .int .i64 k ∧ Hid (∀ j, j < k → l.getD j 0 = m.getD j 0)) (fun vi => l.length - (intOf vi).toNat)
    case atStart => exact ⟨0, Nat.zero_le _, rfl, (fun j hj => absurd hj (by omega))⟩
    case round =>
      obtain ⟨k, hk, rfl, hg⟩ := hrel
      by_cases hlt : k < l.length
      · obtain ⟨b1, off1, rfl, hb1, hc1⟩ := HR.out.at hlt
        have hlt' : k < m.length := by have := HL.out; omega
        obtain ⟨b2, off2, rfl, hb2, hc2⟩ := HR'.out.at hlt'
        by_cases he : l.getD k 0 = m.getD k 0
        · have hb : (l.getD k 0 != m.getD k 0) = false := by rw [he]; simp
          have HE := Lib.hid (show ∀ j, j < k + 1 → l.getD j 0 = m.getD j 0 from fun j hj => if e : j = k then (by subst e; exact he) else hg.out j (by omega))
          clear he
          generalize l.getD k 0 = d1 at *
          generalize m.getD k 0 = d2 at *
          go_wp2
          go_round
          case rel => exact ⟨k + 1, by omega, by go_num, HE.out⟩
          case measure => simp [intOf]; omega
        · have hb : (l.getD k 0 != m.getD k 0) = true := by rw [bne_iff_ne]; exact he
          have HE := Lib.hid (HNo.out k he)
          clear he
          generalize l.getD k 0 = d1 at *
          generalize m.getD k 0 = d2 at *
          go_wp2
          go_ret
          exact ⟨ret_bool HE.out.symm, rfl⟩
      · have HE := Lib.hid (HYes.out (fun j hj => hg.out j (by omega)))
        go_wp2
        go_ret
        exact ⟨ret_bool HE.out.symm, rfl⟩
  · have hll : ((l.length : Int) != (m.length : Int)) = true := by rw [bne_iff_ne]; omega
    have HV := Lib.hid (show (l == m) = false by rw [beq_eq_false_iff_ne]; exact fun h => hlen (by rw [h]))
    clear hlen
    go_enter Try.func30, Try.ntmps30
    go_wp2
    go_ret
    exact ⟨ret_bool HV.out.symm, rfl⟩
theorem hasC (l : List Int) (ln : Nat) (hln : ln = l.length) (ao : Option Addr) (cap : Nat) (x : Int) (w : World) (hr : Rd w ao cap l) :
    Calls Try.prog 28 #[.slice ao ln cap, .int .i64 x] w fun e w' => e = .returned (.bool (decide (x ∈ l))) ∧ w = w' := by
  subst hln
  have HR := Lib.hid hr
  have hcap := hr.1
  have hcap2 := hr.2.1
  unfold maxLen at hcap2
  clear hr
  have HNo := Lib.hid (fun (h : ∀ j, j < l.length → l.getD j 0 ≠ x) => show decide (x ∈ l) = false by
    simp only [decide_eq_false_iff_not]
    exact fun hm => by obtain ⟨j, h1, h2⟩ := mem_getD.1 hm; exact h j h1 h2)
  have HYes := Lib.hid (fun k (h1 : k < l.length) (h2 : l.getD k 0 = x) => show decide (x ∈ l) = true by
    simp only [decide_eq_true_eq]
    exact mem_getD.2 ⟨k, h1, h2⟩)
  generalize decide (x ∈ l) = res at *
  go_enter Try.func28, Try.ntmps28
  go_wp2
  go_loop [9] (fun vi => ∃ (k : Nat), k ≤ l.length ∧ vi = .int .i64 k ∧ Hid (∀ j, j < k → l.getD j 0 ≠ x)) (fun vi => l.length - (intOf vi).toNat)
  case atStart => exact ⟨0, Nat.zero_le _, rfl, (fun j hj => absurd hj (by omega))⟩
  case round =>
    obtain ⟨k, hk, rfl, hg⟩ := hrel
    by_cases hlt : k < l.length
    · obtain ⟨b, off, rfl, _, hc⟩ := HR.out.at hlt
      by_cases he : l.getD k 0 = x
      · have hb : (l.getD k 0 == x) = true := by rw [he]; simp
        have HE := Lib.hid (HYes.out k hlt he)
        clear he
        generalize l.getD k 0 = d at *
        go_wp2
        go_ret
        exact ⟨ret_bool HE.out.symm, rfl⟩
      · have hb : (l.getD k 0 == x) = false := by rw [beq_eq_false_iff_ne]; exact he
        have HE := Lib.hid (show ∀ j, j < k + 1 → l.getD j 0 ≠ x from fun j hj => if e : j = k then (by subst e; exact he) else hg.out j (by omega))
        clear he
        generalize l.getD k 0 = d at *
        go_wp2
        go_round
        case rel => exact ⟨k + 1, by omega, by go_num, HE.out⟩
        case measure => simp [intOf]; omega
    · have HE := Lib.hid (HNo.out (fun j hj => hg.out j (by omega)))
      go_wp2
      go_ret
      exact ⟨ret_bool HE.out.symm, rfl⟩
theorem lpower (a : Int) (n : Nat) (w : World) (h0 : 0 ≤ a) (hn : n ≤ 1000) (hk : ∀ k, k ≤ n → a ^ k ≤ 1000000000000000000) :
    Calls Try.prog 25 #[.int .i64 a, .int .i64 n] w fun e w' => e = .returned (.int .i64 (a ^ n)) ∧ w = w' := by
  have HK := Lib.hid hk
  clear hk
  go_enter Try.func25, Try.ntmps25
  go_wp2
  go_loop [5, 6] (fun o i => ∃ k : Nat, k ≤ n ∧ i = .int .i64 k ∧ o = .int .i64 (a ^ k)) (fun _ i => n - (intOf i).toNat)
  case atStart => exact ⟨0, Nat.zero_le _, rfl, by simp⟩
  case round =>
    obtain ⟨k, hkn, rfl, rfl⟩ := hrel
    have p0 : 0 ≤ a ^ k := Int.pow_nonneg h0
    have p1 := HK.out k hkn
    by_cases hlt : k < n
    · have p2 : 0 ≤ a ^ k * a := Int.mul_nonneg p0 h0
      have p3 : a ^ k * a ≤ 1000000000000000000 := by rw [← Int.pow_succ]; exact HK.out (k + 1) (by omega)
      go_wp2
      go_round
      case rel => exact ⟨k + 1, by omega, by go_num, by rw [Int.pow_succ]⟩
      case measure => simp [intOf]; omega
    · obtain rfl : k = n := by omega
      go_wp2
      go_ret
      exact ⟨rfl, rfl⟩
theorem lpowerZ (a n : Int) (w : World) (h0 : 0 ≤ a) (n0 : 0 ≤ n) (hn : n ≤ 1000) (hk : ∀ k : Nat, k ≤ n.toNat → a ^ k ≤ 1000000000000000000) :
    Calls Try.prog 25 #[.int .i64 a, .int .i64 n] w fun e w' => e = .returned (.int .i64 (a ^ n.toNat)) ∧ w = w' := by
  obtain ⟨m, rfl⟩ := Int.eq_ofNat_of_zero_le n0
  rw [Int.toNat_natCast] at hk ⊢
  exact lpower a m w h0 (by omega) hk
end Go.Proofs.Ytnjifahnfmifgaa
