/-
  Contracts of the tests of palindromes.
  Conditions: none, or the ranges that a contract names.
-/
import Derived.Test.YtioclijkglhigaaSlicesC
import Derived.Test.YtioclijkglhigaaSlicesE
import Derived.Test.YtioclijkglhigaaPals
namespace Go.Proofs.Ytioclijkglhigaa
open Go.RowKit
theorem isPalindrome (n b : Int) (w : World) (b1 : 2 ≤ b) (b2 : b ≤ 16) (n1 : 0 ≤ n) (n2 : n ≤ 1000000000000) :
    Calls Try.prog 96 #[.int .i64 n, .int .i64 b] w fun e w' => e = .returned (.bool (Pl.pal b n)) ∧ Below w.heap.size w w' := by
  have hlen := Lib.hid (Pl.dg_len40 b1 n1 n2)
  have HV := Lib.hid (show Pl.pal b n = (Pl.dg b n == (Pl.dg b n).reverse) from rfl)
  go_enter Try.func96, Try.ntmps96
  go_wp2_with fail
  refine (digitsOf _ _ _ b1 b2 n1 n2).mono ?_
  rintro e w1 ⟨v, rfl, hown, hb1⟩
  obtain ⟨ao, cap, rfl, hrd⟩ := hown.shape
  clear hown
  go_wp2_with fail
  refine (clone _ _ (by simp) _ _ _ hrd (by have := hlen.out; omega)).mono ?_
  rintro e w2 ⟨v, rfl, hown, hb2⟩
  go_wp2_with fail
  refine (slReverse _ _ _ _ hown).mono ?_
  rintro e w3 ⟨rfl, hown3, hb3⟩
  have hrd3 := hrd.below (hb2.trans hb3) (Nat.le_refl _)
  obtain ⟨ao3, cap3, e3, hrd4⟩ := hown3.shape
  subst e3
  have HB := Lib.hid (hb1.trans ((hb2.trans hb3).mono hb1.size))
  clear hrd hown hown3 hb1 hb2 hb3
  go_wp2_with fail
  refine (slEqual _ _ _ _ (by simp) (by simp) _ _ _ _ _ hrd3 hrd4).mono ?_
  rintro e w4 ⟨rfl, hb4⟩
  go_wp2
  go_ret
  exact ⟨ret_bool HV.out.symm, HB.out.trans (hb4.mono HB.out.size)⟩
def palV (n b : Int) : Bool := inB b 2 16 && inB n 0 1000000000000 && Pl.pal b n
theorem l21Is (l : List Int) (ln : Nat) (hln : ln = l.length) (ao : Option Addr) (cap : Nat) (w : World) (hr : Rd w ao cap l) (hl : l.length ≤ 1000000000000) :
    Calls Try.prog 95 #[.slice ao ln cap] w fun e w' => e = .returned (.bool (l == l.reverse)) ∧ Below w.heap.size w w' := by
  subst hln
  have HR := Lib.hid hr
  clear hr
  go_enter Try.func95, Try.ntmps95
  go_wp2_with fail
  refine (l02Turn _ _ (by simp) _ _ _ HR.out hl).mono ?_
  rintro e w1 ⟨v, rfl, hown, hb1⟩
  obtain ⟨ao1, cap1, rfl, hrd1⟩ := hown.shape
  have hrd := HR.out.below hb1 (Nat.le_refl _)
  clear hown
  go_wp2_with fail
  refine (l11Same _ _ _ _ (by simp) (by simp) _ _ _ _ _ hrd hrd1).mono ?_
  rintro e w2 ⟨rfl, hb2⟩
  go_wp2
  go_ret
  exact ⟨rfl, hb1.trans (hb2.mono hb1.size)⟩
theorem iIsPal (n b : Int) (w : World) : Calls Try.prog 41 #[.int .i64 n, .int .i64 b] w fun e w' => e = .returned (.bool (palV n b)) ∧ Below w.heap.size w w' := by
  rcases inB_cases b 2 16 with h | h <;> rcases inB_cases n 0 1000000000000 with h' | h'
  case inl.inl =>
    have HV := Lib.hid (show palV n b = Pl.pal b n by simp [palV, h, h'])
    have ⟨b1, b2⟩ := inB_t h
    have ⟨n1, n2⟩ := inB_t h'
    go_enter Try.func41, Try.ntmps41
    go_wp2_with (first | (go_at_call 79; refine (iBaseOk_any _ _).mono ?_; rintro e w' ⟨rfl, rfl⟩) | (go_at_call 65; refine (isNumber_any _ _).mono ?_; rintro e w' ⟨rfl, rfl⟩))
    refine (isPalindrome _ _ _ b1 b2 n1 n2).mono ?_
    rintro e w1 ⟨rfl, hb1⟩
    go_wp2
    go_ret
    exact ⟨ret_bool HV.out.symm, hb1⟩
  all_goals
    have HV := Lib.hid (show palV n b = false by simp [palV, h, h'])
    go_enter Try.func41, Try.ntmps41
    go_wp2_with (first | (go_at_call 79; refine (iBaseOk_any _ _).mono ?_; rintro e w' ⟨rfl, rfl⟩) | (go_at_call 65; refine (isNumber_any _ _).mono ?_; rintro e w' ⟨rfl, rfl⟩))
    go_ret
    exact ⟨ret_bool HV.out.symm, Below.refl _ _⟩
theorem iIsDouble (n b c : Int) (w : World) : Calls Try.prog 47 #[.int .i64 n, .int .i64 b, .int .i64 c] w fun e w' => e = .returned (.bool (palV n b && palV n c)) ∧ Below w.heap.size w w' := by
  go_enter Try.func47, Try.ntmps47
  go_wp2_with fail
  refine (iIsPal _ _ _).mono ?_
  rintro e w1 ⟨rfl, hb1⟩
  cases h1 : palV n b with
  | false =>
    go_wp2_with fail
    go_ret
    exact ⟨by first | rfl | simp [h1], hb1⟩
  | true =>
    go_wp2_with fail
    refine (iIsPal _ _ _).mono ?_
    rintro e w2 ⟨rfl, hb2⟩
    go_wp2
    go_ret
    exact ⟨by first | rfl | simp [h1], hb1.trans (hb2.mono hb1.size)⟩
end Go.Proofs.Ytioclijkglhigaa
