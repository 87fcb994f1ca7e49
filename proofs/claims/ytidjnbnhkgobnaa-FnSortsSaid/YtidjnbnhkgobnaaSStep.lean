/-
  Contracts of the step that sorts the digits of a number.
  Conditions: none, or the ranges that a contract names.
-/
import Derived.Test.YtidjnbnhkgobnaaSlicesC
import Derived.Test.YtidjnbnhkgobnaaSortC
import Derived.Test.YtidjnbnhkgobnaaCSort
namespace Go.Proofs.Ytidjnbnhkgobnaa
open Go.RowKit
namespace Srt
def lenS : Value → Nat | .slice _ n _ => n | _ => 0
/-- The k digits of a number can be sorted. -/
def fitB (n b k : Int) : Bool := inB b 2 16 && inB k 2 5 && inB n 0 (b ^ k.toNat - 1)
def ssV (n b k : Int) : Int := if fitB n b k then Pl.ss b k.toNat n else -1
theorem fit_t {n b k : Int} (h : fitB n b k = true) : (2 ≤ b ∧ b ≤ 16) ∧ (2 ≤ k ∧ k ≤ 5) ∧ 0 ≤ n ∧ n < b ^ k.toNat := by
  unfold fitB at h
  simp only [Bool.and_eq_true] at h
  have := inB_t h.2
  exact ⟨inB_t h.1.1, inB_t h.1.2, this.1, by omega⟩
theorem pow5 {b k : Int} (b1 : 2 ≤ b) (b2 : b ≤ 16) (k1 : 0 ≤ k) (k2 : k ≤ 5) : 1 ≤ b ^ k.toNat ∧ b ^ k.toNat ≤ 1048576 := by
  have h0 := Pl.pow_pos (show 0 < b by omega) k.toNat
  have h1 := Pl.pow_mono (show 0 ≤ b by omega) b2 k.toNat
  have h2 : (16 : Int) ^ k.toNat ≤ 16 ^ 5 := Pl.pow_up (by omega) (by omega)
  have h3 : (16 : Int) ^ 5 = 1048576 := by decide
  omega
structure SsB (b : Int) (k : Nat) (l : List Int) : Prop where
  len : l.length = k
  mem : ∀ d ∈ l, 0 ≤ d ∧ d < b
  v : 0 ≤ Pl.val b l ∧ Pl.val b l ≤ 1048576
theorem ssB {b : Int} {k : Nat} {l : List Int} (b1 : 2 ≤ b) (b2 : b ≤ 16) (k2 : k ≤ 5) (h1 : l.length = k) (h2 : ∀ d ∈ l, 0 ≤ d ∧ d < b) : SsB b k l := by
  refine ⟨h1, h2, Pl.val_nn (by omega) _ fun d hd => (h2 d hd).1, ?_⟩
  have h3 := Pl.val_lt (b := b) (by omega) l h2
  have h4 := pow5 (k := (k : Int)) b1 b2 (by omega) (by omega)
  rw [Int.toNat_natCast] at h4
  rw [h1] at h3
  omega
theorem ss_parts {b : Int} {k : Nat} (n : Int) (b1 : 2 ≤ b) (b2 : b ≤ 16) (k2 : k ≤ 5) : SsB b k (Pl.pl b k n) ∧ SsB b k (Pl.srt (Pl.pl b k n)) ∧ SsB b k (Pl.srt (Pl.pl b k n)).reverse := by
  have hm := Pl.pl_mem (b := b) (by omega) k n
  refine ⟨ssB b1 b2 k2 (Pl.pl_len b k n) hm, ssB b1 b2 k2 (by rw [Pl.srt_len, Pl.pl_len]) (fun d hd => hm d (Pl.srt_mem.1 hd)), ssB b1 b2 k2 (by rw [List.length_reverse, Pl.srt_len, Pl.pl_len]) (fun d hd => hm d (Pl.srt_mem.1 (List.mem_reverse.1 hd)))⟩
theorem placed (n b : Int) (k : Nat) (w : World) (b1 : 2 ≤ b) (b2 : b ≤ 16) (n1 : 0 ≤ n) (n2 : n ≤ 1000000000000) (hk : k ≤ 60) :
    Calls Try.prog 70 #[.int .i64 n, .int .i64 b, .int .i64 k] w fun e w' => ∃ v, e = .returned v ∧ Own w' w.heap.size v (Pl.pl b k n) ∧ Below w.heap.size w w' := by
  go_enter Try.func70, Try.ntmps70
  go_wp2
  go_loopw [0, 7, 9] (fun vn vo vi wr => ∃ (j : Nat) (m : Int) (xs : List Int), j ≤ k ∧ 0 ≤ m ∧ m ≤ 1000000000000 ∧ vn = .int .i64 m ∧ vi = .int .i64 j ∧ Own wr w.heap.size vo xs ∧ Hid (xs.length = j) ∧ Hid (xs ++ Pl.pl b (k - j) m = Pl.pl b k n) ∧ Below w.heap.size w wr) (fun _ _ vi _ => k - (intOf vi).toNat)
  case atStart => exact ⟨0, n, [], Nat.zero_le _, n1, n2, rfl, rfl, own_nil _ _, Lib.hid rfl, Lib.hid rfl, Below.refl _ _⟩
  case round =>
    obtain ⟨j, m, xs, hj, m0, m1, rfl, rfl, hown, hl, hg, hbel⟩ := hrel
    by_cases hlt : j < k
    · have d1 := Pl.mod_nn (a := m) (show 0 < b by omega)
      have d2 := Pl.mod_lt (a := m) (show 0 < b by omega)
      have d3 := Pl.div_nn m0 (show 0 ≤ b by omega)
      have d4 := Pl.div_le m0 b1
      have hx : xs.length < 1000000000000 := by have := hl.out; omega
      have hsz := hbel.size
      go_wp2_with (at_builtin; refine wp_push wr _ _ xs (m % b) hown rfl _ _ rfl rfl rfl hx hsz ?_; intro v1 w1 hown1 hb1')
      go_roundw
      case rel => exact ⟨j + 1, m / b, xs ++ [m % b], by omega, d3, by omega, rfl, by go_num, hown1, Lib.hid (by have := hl.out; simp; exact this), Lib.hid (by
        have := hg.out
        rw [show k - j = (k - (j + 1)) + 1 by omega] at this
        rw [List.append_assoc]; exact this), hbel.trans hb1'⟩
      case measure => simp [intOf]; omega
    · obtain rfl : j = k := by omega
      have HE := Lib.hid (show xs = Pl.pl b j n by have := hg.out; rw [Nat.sub_self] at this; simpa [Pl.pl] using this)
      go_wp2
      go_ret
      exact ⟨_, rfl, by rw [← HE.out]; exact hown, hbel⟩
theorem iSortStep (n b : Int) (k : Nat) (w : World) (b1 : 2 ≤ b) (b2 : b ≤ 16) (n1 : 0 ≤ n) (n2 : n ≤ 1000000000000) (hk : k ≤ 5) :
    Calls Try.prog 56 #[.int .i64 n, .int .i64 b, .int .i64 k] w fun e w' => e = .returned (.int .i64 (Pl.ss b k n)) ∧ Below w.heap.size w w' := by
  obtain ⟨P1, P2, P3⟩ := ss_parts n b1 b2 hk
  have HP1 := Lib.hid P1
  have HP2 := Lib.hid P2
  have HP3 := Lib.hid P3
  have ⟨v0, v1⟩ := P2.v
  have ⟨v2, v3⟩ := P3.v
  have HV := Lib.hid (show Pl.val b (Pl.srt (Pl.pl b k n)) - Pl.val b (Pl.srt (Pl.pl b k n)).reverse = Pl.ss b k n from rfl)
  clear P1 P2 P3
  go_enter Try.func56, Try.ntmps56
  go_wp2_with fail
  refine (placed _ _ _ _ b1 b2 n1 n2 (by omega)).mono ?_
  rintro e w1 ⟨v, rfl, hown1, hb1⟩
  go_wp2_with fail
  refine (slSort _ _ _ _ hown1 (by rw [HP1.out.len]; omega)).mono ?_
  rintro e w2 ⟨rfl, hown2, hb2⟩
  have HB2 := Lib.hid (hb1.trans hb2)
  have HO2 := Lib.hid hown2
  clear hown1 hown2 hb1 hb2
  generalize Pl.srt (Pl.pl b k n) = s at *
  obtain ⟨ao, cap, rfl, hrd⟩ := HO2.out.shape
  go_wp2_with fail
  refine (valueOf _ _ (by simp) _ _ _ _ hrd (by omega) b2 (fun d hd => (HP2.out.mem d hd).1) (by omega)).mono ?_
  rintro e w3 ⟨rfl, rfl⟩
  clear hrd
  go_wp2_with fail
  refine (slReverse _ _ _ _ HO2.out).mono ?_
  rintro e w3 ⟨rfl, hown3, hb3⟩
  have HB3 := Lib.hid (HB2.out.trans hb3)
  have hrd3 : Rd w3 ao cap s.reverse := by
    obtain ⟨ao', cap', e, hr⟩ := hown3.shape
    simp only [Value.slice.injEq] at e
    obtain ⟨rfl, _, rfl⟩ := e
    exact hr
  clear hown3 hb3
  go_wp2_with fail
  refine (valueOf _ _ (by simp) _ _ _ _ hrd3 (by omega) b2 (fun d hd => (HP3.out.mem d hd).1) (by omega)).mono ?_
  rintro e w4 ⟨rfl, rfl⟩
  generalize Pl.val b s = x at *
  generalize Pl.val b s.reverse = y at *
  go_wp2
  go_ret
  exact ⟨ret_int HV.out, HB3.out⟩
theorem fit_mk {n b k : Int} (h1 : inB b 2 16 = true) (h2 : inB k 2 5 = true) : fitB n b k = inB n 0 (b ^ k.toNat - 1) := by simp [fitB, h1, h2]
theorem fit_no {n b k : Int} (h : inB b 2 16 = false ∨ inB k 2 5 = false) : fitB n b k = false := by
  rcases h with h | h <;> simp [fitB, h]
theorem isSorted (n b k : Int) (w : World) : Calls Try.prog 54 #[.int .i64 n, .int .i64 b, .int .i64 k] w fun e w' => e = .returned (.bool (fitB n b k)) ∧ w = w' := by
  rcases inB_cases b 2 16 with h | h <;> rcases inB_cases k 2 5 with h' | h'
  case inl.inl =>
    have HV := Lib.hid (fit_mk (n := n) h h')
    have ⟨b1, b2⟩ := inB_t h
    have ⟨k1, k2⟩ := inB_t h'
    have HP := Lib.hid (Pl.pow16' (show 0 ≤ b by omega) b2 (n := k.toNat) (by omega))
    have ⟨p1, p2⟩ := pow5 (k := k) b1 b2 (by omega) k2
    go_enter Try.func54, Try.ntmps54
    go_wp2_with (first | (go_at_call 44; refine (iBaseOk_any _ _).mono ?_; rintro e w' ⟨rfl, rfl⟩) | (go_at_call 45; refine (within_any _ _ _ _).mono ?_; rintro e w' ⟨rfl, rfl⟩))
    refine (ipowerZ _ _ _ (by omega) (by omega) (by omega) HP.out).mono ?_
    rintro e w' ⟨rfl, rfl⟩
    go_wp2_with (first | (go_at_call 45; refine (within_any _ _ _ _).mono ?_; rintro e w' ⟨rfl, rfl⟩))
    go_ret
    exact ⟨ret_bool HV.out.symm, rfl⟩
  all_goals
    have HV := Lib.hid (show false = fitB n b k from (fit_no (by simp [h, h'])).symm)
    go_enter Try.func54, Try.ntmps54
    go_wp2_with (first | (go_at_call 44; refine (iBaseOk_any _ _).mono ?_; rintro e w' ⟨rfl, rfl⟩) | (go_at_call 45; refine (within_any _ _ _ _).mono ?_; rintro e w' ⟨rfl, rfl⟩))
    go_ret
    exact ⟨ret_bool HV.out, rfl⟩
theorem l22Fits (n b k : Int) (w : World) : Calls Try.prog 53 #[.int .i64 n, .int .i64 b, .int .i64 k] w fun e w' => e = .returned (.bool (fitB n b k)) ∧ Below w.heap.size w w' := by
  rcases inB_cases b 2 16 with h | h <;> rcases inB_cases n 0 1000000000000 with h'' | h'' <;> rcases inB_cases k 2 5 with h' | h'
  case inl.inl.inl =>
    have ⟨b1, b2⟩ := inB_t h
    have ⟨k1, k2⟩ := inB_t h'
    have ⟨n1, n2⟩ := inB_t h''
    have HV := Lib.hid (show fitB n b k = decide (((Pl.dg b n).length : Int) ≤ k) by
      rw [fit_mk h h', inB]
      have := Pl.dg_len b1 k.toNat n n1
      rw [decide_eq_decide]
      constructor
      · intro hx; have := this.2 (by omega); omega
      · intro hx; have := this.1 (by omega); omega)
    go_enter Try.func53, Try.ntmps53
    go_wp2_with (first | (go_at_call 61; refine (l02Ok_any _ _ _).mono ?_; rintro e w' ⟨rfl, rfl⟩) | (go_at_call 43; refine (l01In_any _ _ _ _).mono ?_; rintro e w' ⟨rfl, rfl⟩))
    refine (l02Digits _ _ _ b1 b2 n1 n2).mono ?_
    rintro e w1 ⟨v, rfl, hown, hb1⟩
    obtain ⟨ao, cap, rfl, hrd⟩ := hown.shape
    clear hown hrd
    go_wp2
    go_ret
    exact ⟨ret_bool HV.out.symm, hb1⟩
  all_goals
    have HV := Lib.hid (show false = fitB n b k by
      cases hf : fitB n b k with
      | false => rfl
      | true =>
        have ⟨⟨b1, b2⟩, ⟨k1, k2⟩, n1, n2⟩ := fit_t hf
        have p := (pow5 (k := k) b1 b2 (by omega) k2).2
        rw [inB_mk b1 b2] at h
        rw [inB_mk n1 (by omega)] at h''
        rw [inB_mk k1 k2] at h'
        simp at h h' h'')
    go_enter Try.func53, Try.ntmps53
    go_wp2_with (first | (go_at_call 61; refine (l02Ok_any _ _ _).mono ?_; rintro e w' ⟨rfl, rfl⟩) | (go_at_call 43; refine (l01In_any _ _ _ _).mono ?_; rintro e w' ⟨rfl, rfl⟩))
    go_ret
    exact ⟨ret_bool HV.out, Below.refl _ _⟩
theorem cs_filter_step {d : List Int} {j : Nat} {x : Int} (hj : j < d.length) : (d.take (j + 1)).filter (fun y => y == x) = (d.take j).filter (fun y => y == x) ++ (if d.getD j 0 == x then [d.getD j 0] else []) := by
  have e : d.take (j + 1) = d.take j ++ [d.getD j 0] := by
    rw [List.take_add_one, List.getD_eq_getElem?_getD, List.getElem?_eq_getElem hj]; rfl
  rw [e, List.filter_append]
  generalize d.getD j 0 = y
  by_cases h : (y == x) = true
  · rw [if_pos h]; simp [h]
  · rw [if_neg h]; simp [h]
theorem cs_len (d : List Int) : ∀ x : Nat, (Pl.cs d x).length ≤ x * d.length := by
  intro x
  induction x with
  | zero => simp [Pl.cs]
  | succ x ih =>
    show (Pl.cs d x ++ d.filter _).length ≤ _
    have := List.length_filter_le (fun y => y == (x : Int)) d
    rw [List.length_append, Nat.add_mul]
    omega
set_option maxHeartbeats 1000000 in
theorem l22Sort (n b : Int) (k : Nat) (w : World) (b1 : 2 ≤ b) (b2 : b ≤ 16) (n1 : 0 ≤ n) (n2 : n < b ^ k) (hk : k ≤ 5) :
    Calls Try.prog 75 #[.int .i64 n, .int .i64 b, .int .i64 k] w fun e w' => e = .returned (.int .i64 (Pl.ss b k n)) ∧ Below w.heap.size w w' := by
  obtain ⟨P1, P2, P3⟩ := ss_parts n b1 b2 hk
  have HP1 := Lib.hid P1
  have HP2 := Lib.hid P2
  have HP3 := Lib.hid P3
  have ⟨v0, v1⟩ := P2.v
  have ⟨v2, v3⟩ := P3.v
  have HV := Lib.hid (show Pl.val b (Pl.srt (Pl.pl b k n)) - Pl.val b (Pl.srt (Pl.pl b k n)).reverse = Pl.ss b k n from rfl)
  have hp5 := (pow5 (k := (k : Int)) b1 b2 (by omega) (by omega)).2
  rw [Int.toNat_natCast] at hp5
  have HD := Lib.hid (Pl.pl_dg b1 k n n1 n2)
  have HL := Lib.hid ((Pl.dg_len b1 k n n1).2 n2)
  have HC := Lib.hid (Pl.cs_srt (d := Pl.pl b k n) (k := b.toNat) (fun y hy => by have := P1.mem y hy; omega))
  clear P1 P2 P3
  have n3 : n ≤ 1000000000000 := by omega
  clear n2
  go_enter Try.func75, Try.ntmps75
  go_wp2_with fail
  refine (l02Digits _ _ _ b1 b2 n1 n3).mono ?_
  rintro e w1 ⟨v, rfl, hown1, hb1⟩
  go_wp2
  go_loopw [7] (fun vd wr => ∃ (j : Nat), Hid ((Pl.dg b n).length + j ≤ k) ∧ Own wr w.heap.size vd (Pl.dg b n ++ List.replicate j 0) ∧ Below w.heap.size w wr) (fun vd _ => k - lenS vd)
  case atStart => exact ⟨0, Lib.hid (by have := HL.out; omega), by simpa using hown1, hb1⟩
  case round =>
    obtain ⟨j, hj, hown, hbel⟩ := hrel
    obtain ⟨ao, cap, rfl, _⟩ := hown.shape
    have hlen : (Pl.dg b n ++ List.replicate j 0).length = (Pl.dg b n).length + j := by simp
    have HLen := Lib.hid hlen
    clear hlen hown1 hb1
    have HO := Lib.hid hown
    have HB := Lib.hid hbel
    clear hown hbel
    obtain ⟨q, hq⟩ : ∃ q, q = (Pl.dg b n ++ List.replicate j 0).length := ⟨_, rfl⟩
    have HQ := Lib.hid hq
    rw [← hq] at HO ⊢
    clear hq
    by_cases hlt : q < k
    · have hx : (Pl.dg b n ++ List.replicate j 0).length < 1000000000000 := by have := HQ.out; omega
      have hsz := HB.out.size
      have HX := Lib.hid hx
      clear hx
      go_wp2_with (at_builtin; refine wp_push wr _ _ (Pl.dg b n ++ List.replicate j 0) 0 HO.out rfl _ _ rfl rfl rfl HX.out hsz ?_; intro v1 w1 hown1 hb1')
      go_roundw
      case rel => exact ⟨j + 1, Lib.hid (by have := HQ.out; have := HLen.out; omega), by rw [List.replicate_succ', ← List.append_assoc]; exact hown1, HB.out.trans hb1'⟩
      case measure =>
        obtain ⟨_, _, e, _⟩ := hown1.shape
        have := HQ.out
        rw [e]; simp [lenS] at *; omega
    · have HE := Lib.hid (show Pl.dg b n ++ List.replicate j 0 = Pl.pl b k n by
        rw [HD.out]
        congr 1
        congr 1
        have := hj.out
        have := HQ.out
        have := HLen.out
        omega)
      rw [HE.out] at HO HQ
      clear HE HLen
      have hk5 := HP1.out.len
      have hq5 : q ≤ 5 := by have := HQ.out; omega
      clear hk5
      obtain ⟨wo, rfl⟩ : ∃ wo : World, wo = wr := ⟨_, rfl⟩
      have hrd : Rd wo ao cap (Pl.pl b k n) := by
        obtain ⟨ao', cap', e, hr⟩ := HO.out.shape
        simp only [Value.slice.injEq] at e
        obtain ⟨rfl, _, rfl⟩ := e
        exact hr
      have HRD := Lib.hid hrd
      have hcap := hrd.1
      have hcap2 := hrd.2.1
      unfold maxLen at hcap2
      clear hrd HO
      rw [← HQ.out] at hcap
      go_wp2
      go_loopw [8, 9] (fun vs vx wr => ∃ (x : Nat), (x : Int) ≤ b ∧ vx = .int .i64 x ∧ Own wr wo.heap.size vs (Pl.cs (Pl.pl b k n) x) ∧ Below wo.heap.size wo wr) (fun _ vx _ => b.toNat - (intOf vx).toNat)
      case atStart => exact ⟨0, by omega, rfl, own_made _, (Below.refl _ _).alloc (Nat.le_refl _) _⟩
      case round =>
        obtain ⟨x, hx, rfl, hown3, hbel3⟩ := hrel
        have HO3 := Lib.hid hown3
        have HB3 := Lib.hid hbel3
        clear hown3 hbel3
        by_cases hxb : (x : Int) < b
        · obtain ⟨wp, rfl⟩ : ∃ wp : World, wp = wr := ⟨_, rfl⟩
          have hx16 : x ≤ 15 := by omega
          go_wp2
          go_loopw [8, 30] (fun vs vi wr => ∃ (j : Nat), j ≤ q ∧ vi = .int .i64 j ∧ Own wr wo.heap.size vs (Pl.cs (Pl.pl b k n) x ++ ((Pl.pl b k n).take j).filter (fun y => y == (x : Int))) ∧ Below wo.heap.size wo wr) (fun _ vi _ => q - (intOf vi).toNat)
          case atStart => exact ⟨0, Nat.zero_le _, rfl, by simpa using HO3.out, HB3.out⟩
          case round =>
            obtain ⟨j, hjq, rfl, hown4, hbel4⟩ := hrel
            have HO4 := Lib.hid hown4
            have HB4 := Lib.hid hbel4
            clear hown4 hbel4
            by_cases hjl : j < q
            · have hjd : j < (Pl.pl b k n).length := by have := HQ.out; omega
              obtain ⟨g, off, rfl, hg, hc0⟩ := HRD.out.at hjd
              have hc := (HB4.out.cell (p := ⟨g, off + j, none⟩) hg).trans hc0
              have HF := Lib.hid (cs_filter_step (x := (x : Int)) hjd)
              have hx4 : (Pl.cs (Pl.pl b k n) x ++ ((Pl.pl b k n).take j).filter (fun y => y == (x : Int))).length < 1000000000000 := by
                have h1 := cs_len (Pl.pl b k n) x
                have h2 := List.length_filter_le (fun y => y == (x : Int)) ((Pl.pl b k n).take j)
                rw [List.length_take] at h2
                have h3 : x * (Pl.pl b k n).length ≤ 15 * 5 := Nat.mul_le_mul hx16 (by have := HQ.out; omega)
                have := HQ.out
                rw [List.length_append]; omega
              have HX4 := Lib.hid hx4
              clear hc0 hx4 hjd
              have hsz4 := HB4.out.size
              generalize (Pl.pl b k n).getD j 0 = y at *
              by_cases hyx : y = (x : Int)
              · have hb1 : (y == (x : Int)) = true := by rw [beq_iff_eq]; exact hyx
                have HF2 := Lib.hid (show ((Pl.pl b k n).take (j + 1)).filter (fun y => y == (x : Int)) = ((Pl.pl b k n).take j).filter (fun y => y == (x : Int)) ++ [(x : Int)] by
                  rw [HF.out, if_pos hb1, hyx])
                clear hyx
                go_wp2_with (at_builtin; refine wp_push wr _ _ (Pl.cs (Pl.pl b k n) x ++ ((Pl.pl b k n).take j).filter (fun y => y == (x : Int))) x HO4.out rfl _ _ rfl rfl rfl HX4.out hsz4 ?_; intro v1 w1 hown1 hb1')
                go_roundw
                case rel => exact ⟨j + 1, by omega, by go_num, by rw [HF2.out, ← List.append_assoc]; exact hown1, HB4.out.trans hb1'⟩
                case measure => simp [intOf]; omega
              · have hb1 : (y == (x : Int)) = false := by rw [beq_eq_false_iff_ne]; exact hyx
                have HF2 := Lib.hid (show ((Pl.pl b k n).take (j + 1)).filter (fun y => y == (x : Int)) = ((Pl.pl b k n).take j).filter (fun y => y == (x : Int)) by
                  rw [HF.out, if_neg (by rw [hb1]; simp), List.append_nil])
                clear hyx
                go_wp2
                go_roundw
                case rel => exact ⟨j + 1, by omega, by go_num, by rw [HF2.out]; exact HO4.out, HB4.out⟩
                case measure => simp [intOf]; omega
            · obtain rfl : j = q := by omega
              have HE := Lib.hid (show Pl.cs (Pl.pl b k n) x ++ ((Pl.pl b k n).take j).filter (fun y => y == (x : Int)) = Pl.cs (Pl.pl b k n) (x + 1) by
                rw [List.take_of_length_le (by have := HQ.out; omega)]; rfl)
              go_wp2
              go_roundw
              case rel => exact ⟨x + 1, by omega, by go_num, by rw [← HE.out]; exact HO4.out, HB4.out⟩
              case measure => simp [intOf]; omega
        · have HE := Lib.hid (show Pl.cs (Pl.pl b k n) x = Pl.srt (Pl.pl b k n) by rw [← HC.out]; congr 1; omega)
          rw [HE.out] at HO3
          have HB5 := Lib.hid (HB.out.trans (HB3.out.mono HB.out.size))
          have HSZ := Lib.hid HB.out.size
          have HSZ3 := Lib.hid HB3.out.size
          generalize Pl.srt (Pl.pl b k n) = s at *
          clear HE HC HRD HQ
          obtain ⟨ao5, cap5, rfl, hrd5⟩ := HO3.out.shape
          go_wp2_with fail
          refine (l18Value _ _ (by simp) _ _ _ _ hrd5 (by omega) b2 (fun d hd => (HP2.out.mem d hd).1) (by omega)).mono ?_
          rintro e w6 ⟨rfl, rfl⟩
          go_wp2_with fail
          refine (l02Turn _ _ (by simp) _ _ _ hrd5 (by have := HP2.out.len; omega)).mono ?_
          rintro e w7 ⟨v7, rfl, hown7, hb7⟩
          obtain ⟨ao7, cap7, rfl, hrd7⟩ := hown7.shape
          have HB7 := Lib.hid (HB5.out.trans (hb7.mono HB5.out.size))
          clear hown7 hb7 hrd5
          go_wp2_with fail
          refine (l18Value _ _ (by simp) _ _ _ _ hrd7 (by omega) b2 (fun d hd => (HP3.out.mem d hd).1) (by omega)).mono ?_
          rintro e w8 ⟨rfl, rfl⟩
          generalize Pl.val b s = xx at *
          generalize Pl.val b s.reverse = yy at *
          go_wp2
          go_ret
          exact ⟨ret_int HV.out, HB7.out⟩
end Srt
end Go.Proofs.Ytidjnbnhkgobnaa
