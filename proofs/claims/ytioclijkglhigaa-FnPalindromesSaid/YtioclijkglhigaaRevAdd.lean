/-
  Contracts of the sum with the turned number, and of the steps to a palindrome.
  Conditions: none.
-/
import Derived.Test.YtioclijkglhigaaRev
namespace Go.Proofs.Ytioclijkglhigaa
open Go.RowKit
namespace Rev
open Pl (rvN raB stp stpAt)
def raV (n b : Int) : Int × Bool := if inB b 2 16 && inB n 0 1000000000000 && raB b n then (n + rvN b n, true) else (0, false)
def okB (n b : Int) : Bool := inB b 2 16 && inB n 0 1000000000000 && decide (rvN b n ≤ 1000000000000)
theorem okB_t {n b : Int} (h : okB n b = true) : (2 ≤ b ∧ b ≤ 16) ∧ (0 ≤ n ∧ n ≤ 1000000000000) ∧ rvN b n ≤ 1000000000000 ∧ rvV n b = (rvN b n, true) := by
  have h0 := h
  unfold okB at h
  simp only [Bool.and_eq_true, decide_eq_true_eq] at h
  exact ⟨inB_t h.1.1, inB_t h.1.2, h.2, (rvV_yes h.1.1 h.1.2 h.2).symm⟩
theorem okB_f {n b : Int} (h : okB n b = false) : rvV n b = (0, false) ∧ ((0 : Int), false) = raV n b := by
  constructor
  · show (if okB n b then _ else _) = _
    rw [h]; rfl
  · rw [raV, if_neg]
    intro hx
    simp only [raB, Bool.and_eq_true, decide_eq_true_eq] at hx
    simp [okB, hx] at h
theorem raV_yes {n b : Int} (h : okB n b = true) (h2 : n + rvN b n ≤ 1000000000000) : (n + rvN b n, true) = raV n b := by
  have ⟨⟨b1, b2⟩, ⟨n1, n2⟩, h3, _⟩ := okB_t h
  rw [raV, if_pos]
  simp [raB, inB_mk b1 b2, inB_mk n1 n2, h2, h3]
theorem raV_no {n b : Int} (h2 : 1000000000000 < n + rvN b n) : ((0 : Int), false) = raV n b := by
  rw [raV, if_neg]
  intro hx
  simp only [raB, Bool.and_eq_true, decide_eq_true_eq] at hx
  omega
theorem iRev_as {n b x : Int} {q : Bool} (h : rvV n b = (x, q)) (w : World) : Calls Try.prog 46 #[.int .i64 n, .int .i64 b] w fun e w' => e = .returned (.tuple #[.int .i64 x, .bool q]) ∧ Below w.heap.size w w' :=
  (iRev n b w).mono fun e w' hh => by rw [h] at hh; exact hh
theorem iRevAdd (n b : Int) (w : World) : Calls Try.prog 24 #[.int .i64 n, .int .i64 b] w fun e w' => e = .returned (.tuple #[.int .i64 (raV n b).1, .bool (raV n b).2]) ∧ Below w.heap.size w w' := by
  cases hq : okB n b with
  | false =>
    have HV := Lib.hid (okB_f hq)
    clear hq
    go_enter Try.func24, Try.ntmps24
    go_wp2_with fail
    refine (iRev_as HV.out.1 _).mono ?_
    rintro e w1 ⟨rfl, hb1⟩
    go_wp2
    go_ret2
    exact ⟨ret_two HV.out.2, hb1⟩
  | true =>
    have ⟨⟨b1, b2⟩, ⟨n1, n2⟩, h3, h4⟩ := okB_t hq
    have ⟨v0, v1⟩ := rvN_bd b1 b2 n1 n2
    have HV := Lib.hid h4
    clear h4
    by_cases h5 : n + rvN b n ≤ 1000000000000
    · have HE := Lib.hid (raV_yes hq h5)
      clear hq
      go_enter Try.func24, Try.ntmps24
      go_wp2_with fail
      refine (iRev_as HV.out _).mono ?_
      rintro e w1 ⟨rfl, hb1⟩
      generalize rvN b n = x at *
      go_wp2
      go_ret2
      exact ⟨ret_two HE.out, hb1⟩
    · have HE := Lib.hid (raV_no (n := n) (b := b) (by omega))
      clear hq
      go_enter Try.func24, Try.ntmps24
      go_wp2_with fail
      refine (iRev_as HV.out _).mono ?_
      rintro e w1 ⟨rfl, hb1⟩
      generalize rvN b n = x at *
      go_wp2
      go_ret2
      exact ⟨ret_two HE.out, hb1⟩
theorem sRev_as {n b x : Int} {q : Bool} (h : rvV n b = (x, q)) (w : World) : Calls Try.prog 67 #[.int .i64 n, .int .i64 b] w fun e w' => e = .returned (.tuple #[.int .i64 x, .bool q]) ∧ Below w.heap.size w w' :=
  (sRev n b w).mono fun e w' hh => by rw [h] at hh; exact hh
theorem sRevAdd (n b : Int) (w : World) : Calls Try.prog 23 #[.int .i64 n, .int .i64 b] w fun e w' => e = .returned (.tuple #[.int .i64 (raV n b).1, .bool (raV n b).2]) ∧ Below w.heap.size w w' := by
  cases hq : okB n b with
  | false =>
    have HV := Lib.hid (okB_f hq)
    clear hq
    go_enter Try.func23, Try.ntmps23
    go_wp2_with fail
    refine (sRev_as HV.out.1 _).mono ?_
    rintro e w1 ⟨rfl, hb1⟩
    go_wp2
    go_ret2
    exact ⟨ret_two HV.out.2, hb1⟩
  | true =>
    have ⟨⟨b1, b2⟩, ⟨n1, n2⟩, h3, h4⟩ := okB_t hq
    have ⟨v0, v1⟩ := rvN_bd b1 b2 n1 n2
    have HV := Lib.hid h4
    clear h4
    by_cases h5 : n + rvN b n ≤ 1000000000000
    · have HE := Lib.hid (raV_yes hq h5)
      clear hq
      go_enter Try.func23, Try.ntmps23
      go_wp2_with fail
      refine (sRev_as HV.out _).mono ?_
      rintro e w1 ⟨rfl, hb1⟩
      generalize rvN b n = x at *
      go_wp2
      go_ret2
      exact ⟨ret_two HE.out, hb1⟩
    · have HE := Lib.hid (raV_no (n := n) (b := b) (by omega))
      clear hq
      go_enter Try.func23, Try.ntmps23
      go_wp2_with fail
      refine (sRev_as HV.out _).mono ?_
      rintro e w1 ⟨rfl, hb1⟩
      generalize rvN b n = x at *
      go_wp2
      go_ret2
      exact ⟨ret_two HE.out, hb1⟩
theorem raV_in {x b : Int} (b1 : 2 ≤ b) (b2 : b ≤ 16) (x0 : 0 ≤ x) (x1 : x ≤ 1000000000000) : (raB b x = true → raV x b = (x + rvN b x, true) ∧ 0 ≤ x + rvN b x ∧ x + rvN b x ≤ 1000000000000) ∧ (raB b x = false → raV x b = (0, false)) := by
  have ⟨v0, v1⟩ := rvN_bd b1 b2 x0 x1
  constructor
  · intro h
    refine ⟨by rw [raV, inB_mk b1 b2, inB_mk x0 x1, h]; rfl, by omega, ?_⟩
    simp only [raB, Bool.and_eq_true, decide_eq_true_eq] at h
    exact h.2
  · intro h
    rw [raV, inB_mk b1 b2, inB_mk x0 x1, h]; rfl
def stV (n b m : Int) : Int := if inB m 0 30 && inB b 2 16 && inB n 0 1000000000000 then stp b m.toNat n else -1
def StInv (b : Int) (F k : Nat) (x V : Int) : Prop := (k ≤ F → stpAt b k (F - k) x = V) ∧ (k = F + 1 → V = -1)
theorem StInv.start {b n : Int} (F : Nat) : StInv b F 0 n (stp b F n) := ⟨fun _ => Pl.stpAt_zero b F n, fun h => by omega⟩
theorem StInv.pal {b x V : Int} {F k : Nat} (h : StInv b F k x V) (hk : k ≤ F) (hp : Pl.pal b x = true) : (k : Int) = V := by
  rw [← h.1 hk, Pl.stpAt_pal _ hp]
theorem StInv.no {b x V : Int} {F k : Nat} (h : StInv b F k x V) (hk : k ≤ F) (hp : Pl.pal b x = false) (hr : raB b x = false) : -1 = V := by
  rw [← h.1 hk, Pl.stpAt_no _ hp hr]
theorem StInv.step {b x V : Int} {F k : Nat} (h : StInv b F k x V) (hk : k ≤ F) (hp : Pl.pal b x = false) (hr : raB b x = true) : StInv b F (k + 1) (x + rvN b x) V := by
  have h1 := h.1 hk
  constructor
  · intro hk'
    rw [← h1, show F - k = (F - (k + 1)) + 1 by omega, Pl.stpAt_step _ hp hr]
    congr 1
  · intro hk'
    rw [← h1, show F - k = 0 by omega, Pl.stpAt_end hp]
theorem StInv.fin {b x V : Int} {F k : Nat} (h : StInv b F k x V) (hk : k ≤ F + 1) (hk' : ¬ k ≤ F) : -1 = V := (h.2 (by omega)).symm
theorem iRevAdd_as {n b x : Int} {q : Bool} (h : raV n b = (x, q)) (w : World) : Calls Try.prog 24 #[.int .i64 n, .int .i64 b] w fun e w' => e = .returned (.tuple #[.int .i64 x, .bool q]) ∧ Below w.heap.size w w' :=
  (iRevAdd n b w).mono fun e w' hh => by rw [h] at hh; exact hh
theorem isPal_as {n b : Int} {q : Bool} (h : Pl.pal b n = q) (w : World) (b1 : 2 ≤ b) (b2 : b ≤ 16) (n1 : 0 ≤ n) (n2 : n ≤ 1000000000000) :
    Calls Try.prog 96 #[.int .i64 n, .int .i64 b] w fun e w' => e = .returned (.bool q) ∧ Below w.heap.size w w' := by
  rw [← h]; exact isPalindrome n b w b1 b2 n1 n2
theorem iSteps (n b m : Int) (w : World) : Calls Try.prog 38 #[.int .i64 n, .int .i64 b, .int .i64 m] w fun e w' => e = .returned (.int .i64 (stV n b m)) ∧ Below w.heap.size w w' := by
  rcases inB_cases m 0 30 with hm | hm <;> rcases inB_cases b 2 16 with h | h <;> rcases inB_cases n 0 1000000000000 with h' | h'
  case inl.inl.inl =>
    have ⟨m1, m2⟩ := inB_t hm
    have ⟨b1, b2⟩ := inB_t h
    have ⟨n1, n2⟩ := inB_t h'
    have HV := Lib.hid (show stV n b m = stp b m.toNat n by rw [stV, hm, h, h']; rfl)
    obtain ⟨F, rfl⟩ := Int.eq_ofNat_of_zero_le m1
    rw [Int.toNat_natCast] at HV
    have F2 : F ≤ 30 := by omega
    go_enter Try.func38, Try.ntmps38
    go_wp2_with (first | (go_at_call 72; refine (within_any _ _ _ _).mono ?_; rintro e w' ⟨rfl, rfl⟩) | (go_at_call 79; refine (iBaseOk_any _ _).mono ?_; rintro e w' ⟨rfl, rfl⟩) | (go_at_call 65; refine (isNumber_any _ _).mono ?_; rintro e w' ⟨rfl, rfl⟩))
    go_loopw [0, 25] (fun vn vi wr => ∃ (k : Nat) (x : Int), k ≤ F + 1 ∧ 0 ≤ x ∧ x ≤ 1000000000000 ∧ vn = .int .i64 x ∧ vi = .int .i64 k ∧ Hid (StInv b F k x (stp b F n)) ∧ Below w.heap.size w wr) (fun _ vi _ => F + 1 - (intOf vi).toNat)
    case atStart => exact ⟨0, n, by omega, n1, n2, rfl, rfl, Lib.hid (StInv.start F), Below.refl _ _⟩
    case round =>
      obtain ⟨k, x, hk, x0, x1, rfl, rfl, hg, hbel⟩ := hrel
      have HB := Lib.hid hbel
      clear hbel
      by_cases hkF : k ≤ F
      · cases hp : Pl.pal b x with
        | true =>
          have HE := Lib.hid (hg.out.pal hkF hp)
          have HP := Lib.hid hp
          clear hp
          go_wp2_with fail
          refine (isPal_as HP.out _ b1 b2 x0 x1).mono ?_
          rintro e w1 ⟨rfl, hb1⟩
          go_wp2
          go_ret
          exact ⟨ret_int (HE.out.trans HV.out.symm), HB.out.trans (hb1.mono HB.out.size)⟩
        | false =>
          have HP := Lib.hid hp
          cases hr : raB b x with
          | true =>
            have ⟨q1, q2, q3⟩ := (raV_in b1 b2 x0 x1).1 hr
            have HQ := Lib.hid q1
            have HE := Lib.hid (hg.out.step hkF hp hr)
            clear hp hr q1
            go_wp2_with fail
            refine (isPal_as HP.out _ b1 b2 x0 x1).mono ?_
            rintro e w1 ⟨rfl, hb1⟩
            have HB1 := Lib.hid (HB.out.trans (hb1.mono HB.out.size))
            clear hb1
            go_wp2_with fail
            refine (iRevAdd_as HQ.out _).mono ?_
            rintro e w2 ⟨rfl, hb2⟩
            have HB2 := Lib.hid (HB1.out.trans (hb2.mono HB1.out.size))
            clear hb2
            generalize x + rvN b x = y at *
            go_wp2
            go_roundw
            case rel => exact ⟨k + 1, y, by omega, q2, q3, rfl, by go_num, HE, HB2.out⟩
            case measure => simp [intOf]; omega
          | false =>
            have HQ := Lib.hid ((raV_in b1 b2 x0 x1).2 hr)
            have HE := Lib.hid (hg.out.no hkF hp hr)
            clear hp hr
            go_wp2_with fail
            refine (isPal_as HP.out _ b1 b2 x0 x1).mono ?_
            rintro e w1 ⟨rfl, hb1⟩
            have HB1 := Lib.hid (HB.out.trans (hb1.mono HB.out.size))
            clear hb1
            go_wp2_with fail
            refine (iRevAdd_as HQ.out _).mono ?_
            rintro e w2 ⟨rfl, hb2⟩
            have HB2 := Lib.hid (HB1.out.trans (hb2.mono HB1.out.size))
            clear hb2
            go_wp2
            go_ret
            exact ⟨ret_int (HE.out.trans HV.out.symm), HB2.out⟩
      · have HE := Lib.hid (hg.out.fin hk hkF)
        obtain rfl : k = F + 1 := by omega
        go_wp2
        go_ret
        exact ⟨ret_int (HE.out.trans HV.out.symm), HB.out⟩
  all_goals
    have HV := Lib.hid (show -1 = stV n b m by simp [stV, hm, h, h'])
    go_enter Try.func38, Try.ntmps38
    go_wp2_with (first | (go_at_call 72; refine (within_any _ _ _ _).mono ?_; rintro e w' ⟨rfl, rfl⟩) | (go_at_call 79; refine (iBaseOk_any _ _).mono ?_; rintro e w' ⟨rfl, rfl⟩) | (go_at_call 65; refine (isNumber_any _ _).mono ?_; rintro e w' ⟨rfl, rfl⟩))
    go_ret
    exact ⟨ret_int HV.out, Below.refl _ _⟩
theorem sRevAdd_as {n b x : Int} {q : Bool} (h : raV n b = (x, q)) (w : World) : Calls Try.prog 23 #[.int .i64 n, .int .i64 b] w fun e w' => e = .returned (.tuple #[.int .i64 x, .bool q]) ∧ Below w.heap.size w w' :=
  (sRevAdd n b w).mono fun e w' hh => by rw [h] at hh; exact hh
theorem l21Is_as {l : List Int} {q : Bool} (h : (l == l.reverse) = q) (ln : Nat) (hln : ln = l.length) (ao : Option Addr) (cap : Nat) (w : World) (hr : Rd w ao cap l) (hl : l.length ≤ 1000000000000) :
    Calls Try.prog 95 #[.slice ao ln cap] w fun e w' => e = .returned (.bool q) ∧ Below w.heap.size w w' := by
  rw [← h]; exact l21Is l ln hln ao cap w hr hl
theorem sSteps (n b m : Int) (w : World) : Calls Try.prog 37 #[.int .i64 n, .int .i64 b, .int .i64 m] w fun e w' => e = .returned (.int .i64 (stV n b m)) ∧ Below w.heap.size w w' := by
  rcases inB_cases m 0 30 with hm | hm <;> rcases inB_cases b 2 16 with h | h <;> rcases inB_cases n 0 1000000000000 with h' | h'
  case inl.inl.inl =>
    have ⟨m1, m2⟩ := inB_t hm
    have ⟨b1, b2⟩ := inB_t h
    have ⟨n1, n2⟩ := inB_t h'
    have HV := Lib.hid (show stV n b m = stp b m.toNat n by rw [stV, hm, h, h']; rfl)
    obtain ⟨F, rfl⟩ := Int.eq_ofNat_of_zero_le m1
    rw [Int.toNat_natCast] at HV
    have F2 : F ≤ 30 := by omega
    go_enter Try.func37, Try.ntmps37
    go_wp2_with (first | (go_at_call 63; refine (l01In_any _ _ _ _).mono ?_; rintro e w' ⟨rfl, rfl⟩) | (go_at_call 94; refine (l02Ok_any _ _ _).mono ?_; rintro e w' ⟨rfl, rfl⟩))
    go_loopw [0, 7] (fun vn vi wr => ∃ (k : Nat) (x : Int), k ≤ F + 1 ∧ 0 ≤ x ∧ x ≤ 1000000000000 ∧ vn = .int .i64 x ∧ vi = .int .i64 k ∧ Hid (StInv b F k x (stp b F n)) ∧ Below w.heap.size w wr) (fun _ vi _ => F + 1 - (intOf vi).toNat)
    case atStart => exact ⟨0, n, by omega, n1, n2, rfl, rfl, Lib.hid (StInv.start F), Below.refl _ _⟩
    case round =>
      obtain ⟨k, x, hk, x0, x1, rfl, rfl, hg, hbel⟩ := hrel
      have HB := Lib.hid hbel
      clear hbel
      by_cases hkF : k ≤ F
      · have hlen := Lib.hid (Pl.dg_len40 b1 x0 x1)
        cases hp : Pl.pal b x with
        | true =>
          have HE := Lib.hid (hg.out.pal hkF hp)
          have HP := Lib.hid (show (Pl.dg b x == (Pl.dg b x).reverse) = true from hp)
          clear hp
          go_wp2_with fail
          refine (l02Digits _ _ _ b1 b2 x0 x1).mono ?_
          rintro e w1 ⟨v, rfl, hown, hb1⟩
          obtain ⟨ao, cap, rfl, hrd⟩ := hown.shape
          have HB1 := Lib.hid (HB.out.trans (hb1.mono HB.out.size))
          clear hown hb1
          go_wp2_with fail
          refine (l21Is_as HP.out _ (by simp) _ _ _ hrd (by have := hlen.out; omega)).mono ?_
          rintro e w2 ⟨rfl, hb2⟩
          go_wp2
          go_ret
          exact ⟨ret_int (HE.out.trans HV.out.symm), HB1.out.trans (hb2.mono HB1.out.size)⟩
        | false =>
          have HP := Lib.hid (show (Pl.dg b x == (Pl.dg b x).reverse) = false from hp)
          cases hr : raB b x with
          | true =>
            have ⟨q1, q2, q3⟩ := (raV_in b1 b2 x0 x1).1 hr
            have HQ := Lib.hid q1
            have HE := Lib.hid (hg.out.step hkF hp hr)
            clear hp hr q1
            go_wp2_with fail
            refine (l02Digits _ _ _ b1 b2 x0 x1).mono ?_
            rintro e w1 ⟨v, rfl, hown, hb1⟩
            obtain ⟨ao, cap, rfl, hrd⟩ := hown.shape
            have HB1 := Lib.hid (HB.out.trans (hb1.mono HB.out.size))
            clear hown hb1
            go_wp2_with fail
            refine (l21Is_as HP.out _ (by simp) _ _ _ hrd (by have := hlen.out; omega)).mono ?_
            rintro e w2 ⟨rfl, hb2⟩
            have HB2 := Lib.hid (HB1.out.trans (hb2.mono HB1.out.size))
            clear hb2 hrd
            go_wp2_with fail
            refine (sRevAdd_as HQ.out _).mono ?_
            rintro e w3 ⟨rfl, hb3⟩
            have HB3 := Lib.hid (HB2.out.trans (hb3.mono HB2.out.size))
            clear hb3
            generalize x + rvN b x = y at *
            go_wp2
            go_roundw
            case rel => exact ⟨k + 1, y, by omega, q2, q3, rfl, by go_num, HE, HB3.out⟩
            case measure => simp [intOf]; omega
          | false =>
            have HQ := Lib.hid ((raV_in b1 b2 x0 x1).2 hr)
            have HE := Lib.hid (hg.out.no hkF hp hr)
            clear hp hr
            go_wp2_with fail
            refine (l02Digits _ _ _ b1 b2 x0 x1).mono ?_
            rintro e w1 ⟨v, rfl, hown, hb1⟩
            obtain ⟨ao, cap, rfl, hrd⟩ := hown.shape
            have HB1 := Lib.hid (HB.out.trans (hb1.mono HB.out.size))
            clear hown hb1
            go_wp2_with fail
            refine (l21Is_as HP.out _ (by simp) _ _ _ hrd (by have := hlen.out; omega)).mono ?_
            rintro e w2 ⟨rfl, hb2⟩
            have HB2 := Lib.hid (HB1.out.trans (hb2.mono HB1.out.size))
            clear hb2 hrd
            go_wp2_with fail
            refine (sRevAdd_as HQ.out _).mono ?_
            rintro e w3 ⟨rfl, hb3⟩
            have HB3 := Lib.hid (HB2.out.trans (hb3.mono HB2.out.size))
            clear hb3
            go_wp2
            go_ret
            exact ⟨ret_int (HE.out.trans HV.out.symm), HB3.out⟩
      · have HE := Lib.hid (hg.out.fin hk hkF)
        obtain rfl : k = F + 1 := by omega
        go_wp2
        go_ret
        exact ⟨ret_int (HE.out.trans HV.out.symm), HB.out⟩
  all_goals
    have HV := Lib.hid (show -1 = stV n b m by simp [stV, hm, h, h'])
    go_enter Try.func37, Try.ntmps37
    go_wp2_with (first | (go_at_call 63; refine (l01In_any _ _ _ _).mono ?_; rintro e w' ⟨rfl, rfl⟩) | (go_at_call 94; refine (l02Ok_any _ _ _).mono ?_; rintro e w' ⟨rfl, rfl⟩))
    go_ret
    exact ⟨ret_int HV.out, Below.refl _ _⟩
end Rev
end Go.Proofs.Ytioclijkglhigaa
