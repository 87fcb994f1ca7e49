/-
  Contracts of the sum of digits with signs that turn.
  Conditions: none.
-/
import Derived.Test.YtnjifahnfmifgaaSlicesB
namespace Go.Proofs.Ytnjifahnfmifgaa
open Go.RowKit
def altV (n b : Int) : Int := if inB b 2 16 && inB n 0 1000000000000 then Pl.alt 0 (Pl.dg b n) else 0
theorem alt_mod (k : Nat) (d : Int) : (k : Int) % 2 = 0 ∧ (if k % 2 = 0 then d else -d) = d ∨ (k : Int) % 2 = 1 ∧ (if k % 2 = 0 then d else -d) = -d := by
  by_cases h : k % 2 = 0
  · left; rw [if_pos h]; omega
  · right; rw [if_neg h]; omega
theorem digitsOfX (n b : Int) (w : World) (hb : inB b 2 16 = true) (hn : inB n 0 1000000000000 = true) :
    Calls Try.prog 57 #[.int .i64 n, .int .i64 b] w fun e w' => ∃ v, e = .returned v ∧ Own w' w.heap.size v (Pl.dg b n) ∧ Below w.heap.size w w' := by
  have ⟨b1, b2⟩ := inB_t hb
  have ⟨n1, n2⟩ := inB_t hn
  go_enter Try.func57, Try.ntmps57
  go_wp2_with (first | (go_at_call 50; refine (isNumber_any _ _).mono ?_; rintro e w' ⟨rfl, rfl⟩) | (go_at_call 49; refine (iBaseOk_any _ _).mono ?_; rintro e w' ⟨rfl, rfl⟩))
  refine (digitsOf _ _ _ b1 b2 n1 n2).mono ?_
  rintro e w1 ⟨v, rfl, hown, hb1⟩
  go_wp2
  go_ret
  exact ⟨_, rfl, hown, hb1⟩
theorem digitsOfX_bad (n b : Int) (w : World) (h : (inB b 2 16 && inB n 0 1000000000000) = false) :
    Calls Try.prog 57 #[.int .i64 n, .int .i64 b] w fun e w' => e = .returned (.slice none 0 0) ∧ w = w' := by
  have H := Lib.hid h
  clear h
  rcases inB_cases b 2 16 with h | h <;> rcases inB_cases n 0 1000000000000 with h' | h'
  case inl.inl => have := H.out; simp [h, h'] at this
  all_goals
    go_enter Try.func57, Try.ntmps57
    go_wp2_with (first | (go_at_call 50; refine (isNumber_any _ _).mono ?_; rintro e w' ⟨rfl, rfl⟩) | (go_at_call 49; refine (iBaseOk_any _ _).mono ?_; rintro e w' ⟨rfl, rfl⟩))
    go_ret
    exact ⟨rfl, rfl⟩
theorem iAlt (n b : Int) (w : World) : Calls Try.prog 22 #[.int .i64 n, .int .i64 b] w fun e w' => e = .returned (.int .i64 (altV n b)) ∧ Below w.heap.size w w' := by
  cases hok : (inB b 2 16 && inB n 0 1000000000000) with
  | true =>
    have HV := Lib.hid (show altV n b = Pl.alt 0 (Pl.dg b n) by rw [altV, if_pos hok])
    have h2 := hok
    rw [Bool.and_eq_true] at h2
    have ⟨b1, b2⟩ := inB_t h2.1
    have ⟨n1, n2⟩ := inB_t h2.2
    have HM := Lib.hid (Pl.dg_mem b1 n1)
    have hlen := Pl.dg_len40 b1 n1 n2
    go_enter Try.func22, Try.ntmps22
    go_wp2_with fail
    refine (digitsOfX _ _ _ h2.1 h2.2).mono ?_
    rintro e w2 ⟨v, rfl, hown, hb2⟩
    obtain ⟨ao, cap, rfl, hrd⟩ := hown.shape
    have HR := Lib.hid hrd
    clear hrd hown
    generalize hl : Pl.dg b n = l at *
    have HL := Lib.hid hl
    clear hl
    go_wp2_with fail
    go_loop [5, 12] (fun vt vi => ∃ (k : Nat) (t : Int), k ≤ l.length ∧ vi = .int .i64 k ∧ vt = .int .i64 t ∧ -((k : Int) * 16) ≤ t ∧ t ≤ (k : Int) * 16 ∧ Hid (t + Pl.alt k (l.drop k) = Pl.alt 0 l)) (fun _ vi => l.length - (intOf vi).toNat)
    case atStart => exact ⟨0, 0, Nat.zero_le _, rfl, rfl, by omega, by omega, (by show (0 : Int) + _ = _; simp)⟩
    case round =>
      obtain ⟨k, t, hk, rfl, rfl, t0, t1, hg⟩ := hrel
      by_cases hlt : k < l.length
      · obtain ⟨bl, off, rfl, _, hc⟩ := HR.out.at hlt
        have ⟨d0, d1⟩ := HM.out _ (Pl.getD_mem hlt)
        have HS := Lib.hid (Pl.alt_drop_step hlt)
        have hpar := alt_mod k (l.getD k 0)
        generalize l.getD k 0 = d at *
        rcases hpar with ⟨e1, e2⟩ | ⟨e1, e2⟩
        · have E2 := Lib.hid e2
          clear e2
          have e3 : ((k : Int) % 2 == 0) = true := by rw [e1]; rfl
          go_wp2
          go_round
          case rel => exact ⟨k + 1, t + d, by omega, by go_num, rfl, by omega, by omega, (by have h1 := HS.out; have h2 := hg.out; rw [E2.out] at h1; show t + d + Pl.alt (k + 1) (l.drop (k + 1)) = Pl.alt 0 l; omega)⟩
          case measure => simp [intOf]; omega
        · have E2 := Lib.hid e2
          clear e2
          have e3 : ((k : Int) % 2 == 0) = false := by rw [e1]; rfl
          go_wp2
          go_round
          case rel => exact ⟨k + 1, t - d, by omega, by go_num, (by congr 1), by omega, by omega, (by have h1 := HS.out; have h2 := hg.out; rw [E2.out] at h1; show t - d + Pl.alt (k + 1) (l.drop (k + 1)) = Pl.alt 0 l; omega)⟩
          case measure => simp [intOf]; omega
      · have HE := Lib.hid (Pl.drop_all (l := l) (k := k) (by omega))
        go_wp2
        go_ret
        exact ⟨ret_int (by have h2 := hg.out; rw [HE.out] at h2; simp [Pl.alt] at h2; rw [HV.out, h2]), hb2⟩
  | false =>
    have HV := Lib.hid (show 0 = altV n b by rw [altV, if_neg (by rw [hok]; simp)])
    go_enter Try.func22, Try.ntmps22
    go_wp2_with fail
    refine (digitsOfX_bad _ _ _ hok).mono ?_
    rintro e w2 ⟨rfl, rfl⟩
    go_wp2
    refine wp_loop_rounds 1 ?_
    rw [rounds_succ]
    go_wp2
    go_ret
    exact ⟨ret_int HV.out, Below.refl _ _⟩
end Go.Proofs.Ytnjifahnfmifgaa
