/-
  Contracts of the rank of a palindrome.
  Conditions: none, or the ranges that a contract names.
-/
import Derived.Test.YtioclijkglhigaaPalAt
namespace Go.Proofs.Ytioclijkglhigaa
open Go.RowKit
theorem Rd.cut {w : World} {b off cap : Nat} {l : List Int} (h : Rd w (some ⟨b, off, none⟩) cap l) (s : Nat) (hs : s ≤ cap) : Rd w (some ⟨b, off + s, none⟩) (cap - s) (l.drop s) := by
  obtain ⟨h1, h2, h3, h4⟩ := h
  refine ⟨by rw [List.length_drop]; omega, by omega, fun h => by simp at h, ?_⟩
  rcases h4 with rfl | ⟨b', off', e, hl, hcell⟩
  · left; simp
  · simp only [Option.some.injEq, Addr.mk.injEq, and_true] at e
    obtain ⟨rfl, rfl⟩ := e
    refine .inr ⟨b, off + s, rfl, hl, fun j hj => ?_⟩
    rw [List.length_drop] at hj
    rw [show off + s + j = off + (s + j) by omega, hcell (s + j) (by omega), List.getD_eq_getElem?_getD, List.getD_eq_getElem?_getD, List.getElem?_drop]
theorem cpZ_cp (j : Nat) (b : Int) : cpZ (j : Int) b = Pl.cp j b := by
  unfold cpZ Pl.cp Pl.lh
  by_cases h : j = 0
  · rw [if_pos (by omega), if_pos h]
  · rw [if_neg (by omega), if_neg h, show (((j : Int) - 1) / 2).toNat = (j + 1) / 2 - 1 by omega]
structure RkB (n b : Int) (k : Nat) : Prop where
  kk : 1 ≤ k ∧ k ≤ 20
  l : 1 ≤ Pl.lh k b ∧ Pl.lh k b ≤ 1000000
  h : 1 ≤ n / b ^ (k / 2) ∧ n / b ^ (k / 2) ≤ 1000000
  pw : ∀ j, j ≤ k → b ^ j ≤ 1000000000000000000
  pl : ∀ j : Nat, j ≤ k → b ^ (((j : Int) - 1) / 2).toNat ≤ 1000000000000000
  cp : ∀ j, j ≤ k → 0 ≤ Pl.cp j b ∧ Pl.cp j b ≤ 15000000
  un : ∀ j, j ≤ k → 0 ≤ Pl.under b j ∧ Pl.under b j ≤ 15000000 * j
  mir : 0 ≤ mirZ (n / b ^ (k / 2)) k b ∧ mirZ (n / b ^ (k / 2)) k b ≤ 16000000
  pp : 1 ≤ b ^ (k / 2) ∧ b ^ (k / 2) ≤ 16000000
theorem rk_b {n b : Int} {k : Nat} (b1 : 2 ≤ b) (b2 : b ≤ 16) (n1 : 1 ≤ n) (n2 : n ≤ 1000000) (hk : (Pl.dg b n).length = k) : RkB n b k := by
  have k1 : 1 ≤ k := by
    have := Pl.dg_pos_iff (n := n) b1 (by omega)
    have : Pl.dg b n ≠ [] := fun e => by rw [this] at e; omega
    have := List.length_pos_iff.2 this
    omega
  have k2 : k ≤ 20 := by
    rw [← hk, Pl.dg_len b1 20 n (by omega)]
    have h1 := Pl.pow_mono (show (0 : Int) ≤ 2 by omega) b1 20
    have h2 : (2 : Int) ^ 20 = 1048576 := by decide
    omega
  have hb := (Pl.dg_len_eq b1 (show 0 ≤ n by omega) k1).1 hk
  have P : ∀ e, e ≤ k - 1 → b ^ e ≤ 1000000 := fun e he => by have := Pl.pow_up (show 1 ≤ b by omega) he; omega
  have P0 : ∀ e, 1 ≤ b ^ e := fun e => Pl.pow_pos (by omega) e
  have hH := Pl.half_of b1 (show 0 ≤ n by omega) k1 hk
  have l1 := P0 ((k + 1) / 2 - 1)
  have l2 := P ((k + 1) / 2 - 1) (by omega)
  have hkk : b ^ k ≤ 1000000 * 16 := by
    have e : b ^ k = b ^ (k - 1) * b := by rw [← Int.pow_succ]; congr 1; omega
    rw [e]; exact Int.mul_le_mul (P _ (by omega)) b2 (by omega) (by omega)
  have cpb : ∀ j, j ≤ k → 0 ≤ Pl.cp j b ∧ Pl.cp j b ≤ 15000000 := fun j hj => by
    unfold Pl.cp
    split
    · omega
    · unfold Pl.lh
      have h1 := P0 ((j + 1) / 2 - 1)
      have h2 := P ((j + 1) / 2 - 1) (by omega)
      have h3 : (b - 1) * b ^ ((j + 1) / 2 - 1) ≤ 15 * 1000000 := Int.mul_le_mul (by omega) h2 (by omega) (by omega)
      have h4 : 0 ≤ (b - 1) * b ^ ((j + 1) / 2 - 1) := Int.mul_nonneg (by omega) (by omega)
      omega
  have m := Pl.mir_facts b1 hH
  have m2 := (Pl.dg_len b1 k (Pl.mir (n / b ^ (k / 2)) k b) (by omega)).1 (by omega)
  refine ⟨⟨k1, k2⟩, ⟨l1, l2⟩, ?_, ?_, ?_, cpb, ?_, ?_, ?_⟩
  · have h1 := hH.2.1
    have h2 : n / b ^ (k / 2) ≤ n := Int.ediv_le_self _ (by omega)
    unfold Pl.lh at h1
    omega
  · intro j hj
    have := Pl.pow_up (show 1 ≤ b by omega) hj
    omega
  · intro j hj
    have := P (((j : Int) - 1) / 2).toNat (by omega)
    omega
  · intro j
    induction j with
    | zero => intro _; simp [Pl.under]
    | succ j ih =>
      intro hj
      have h1 := ih (by omega)
      have h2 := cpb j (by omega)
      show 0 ≤ Pl.under b j + Pl.cp j b ∧ Pl.under b j + Pl.cp j b ≤ _
      omega
  · rw [mirZ_eq (by omega), Int.toNat_natCast]
    omega
  · have := Pl.pow_up (show 1 ≤ b by omega) (show k / 2 ≤ k by omega)
    have := P0 (k / 2)
    omega
def rkV (n b : Int) : Int := if inB b 2 16 && inB n 0 1000000 then Pl.rank b n else -1
theorem rank_zero (b : Int) : Pl.rank b 0 = 0 := by simp [Pl.rank, Pl.dg_zero]
theorem rank_lt {n b : Int} {k : Nat} (hk : (Pl.dg b n).length = k) (k1 : 1 ≤ k) (h : mirZ (n / b ^ (k / 2)) k b < n) : Pl.under b k + (n / b ^ (k / 2) - Pl.lh k b) + 1 = Pl.rank b n := by
  rw [mirZ_eq (by omega), Int.toNat_natCast] at h
  rw [Pl.rank_of hk k1]; simp [Pl.b2i, h]
theorem rank_ge {n b : Int} {k : Nat} (hk : (Pl.dg b n).length = k) (k1 : 1 ≤ k) (h : ¬ mirZ (n / b ^ (k / 2)) k b < n) : Pl.under b k + (n / b ^ (k / 2) - Pl.lh k b) = Pl.rank b n := by
  rw [mirZ_eq (by omega), Int.toNat_natCast] at h
  rw [Pl.rank_of hk k1]; simp [Pl.b2i, h]
theorem iRank (n b : Int) (w : World) : Calls Try.prog 34 #[.int .i64 n, .int .i64 b] w fun e w' => e = .returned (.int .i64 (rkV n b)) ∧ Below w.heap.size w w' := by
  rcases inB_cases b 2 16 with h | h <;> rcases inB_cases n 0 1000000 with h' | h'
  case inl.inl =>
    have ⟨b1, b2⟩ := inB_t h
    have ⟨n1, n2⟩ := inB_t h'
    have HV := Lib.hid (show Pl.rank b n = rkV n b by simp [rkV, h, h'])
    by_cases n0 : n = 0
    · subst n0
      have HE := Lib.hid (Pl.dg_zero b)
      go_enter Try.func34, Try.ntmps34
      go_wp2_with (first | (go_at_call 79; refine (iBaseOk_any _ _).mono ?_; rintro e w' ⟨rfl, rfl⟩) | (go_at_call 72; refine (within_any _ _ _ _).mono ?_; rintro e w' ⟨rfl, rfl⟩))
      refine (digitsOf _ _ _ b1 b2 n1 (by omega)).mono ?_
      rw [HE.out]
      rintro e w1 ⟨v, rfl, hown, hb1⟩
      obtain ⟨ao, cap, rfl, hrd⟩ := hown.shape
      clear hown
      have HR := Lib.hid hrd
      clear hrd
      go_wp2_with fail
      refine wp_loop_rounds 1 ?_
      rw [rounds_succ]
      go_wp2
      go_ret
      exact ⟨ret_int (by rw [← HV.out, rank_zero]), hb1⟩
    · obtain ⟨k, hk⟩ : ∃ k, k = (Pl.dg b n).length := ⟨_, rfl⟩
      obtain ⟨⟨k1, k2⟩, ⟨l1, l2⟩, ⟨h1, h2⟩, pw, pl, cp, un, ⟨m1, m2⟩, ⟨q1, q2⟩⟩ := rk_b b1 b2 (show 1 ≤ n by omega) n2 hk.symm
      have HR1 := Lib.hid (rank_lt hk.symm k1)
      have HR2 := Lib.hid (rank_ge hk.symm k1)
      have PW := Lib.hid pw
      have PL := Lib.hid pl
      have CP := Lib.hid cp
      have UN := Lib.hid un
      have LE := Lib.hid (show b ^ (((k : Int) - 1) / 2).toNat = Pl.lh k b by rw [Pl.lh]; congr 1; omega)
      have HN0 := Lib.hid n0
      clear pw pl cp un n0
      go_enter Try.func34, Try.ntmps34
      go_wp2_with (first | (go_at_call 79; refine (iBaseOk_any _ _).mono ?_; rintro e w' ⟨rfl, rfl⟩) | (go_at_call 72; refine (within_any _ _ _ _).mono ?_; rintro e w' ⟨rfl, rfl⟩))
      refine (digitsOf _ _ _ b1 b2 n1 (by omega)).mono ?_
      rintro e w1 ⟨v, rfl, hown, hb1⟩
      obtain ⟨ao, cap, rfl, hrd⟩ := hown.shape
      clear hown hrd
      rw [← hk]
      have HK := Lib.hid hk
      clear hk
      go_wp2_with fail
      go_loopw [6, 22] (fun vc vk wr => ∃ (j : Nat), j ≤ k ∧ vc = .int .i64 (Pl.under b j) ∧ vk = .int .i64 j ∧ Below w.heap.size w wr) (fun _ vk _ => k - (intOf vk).toNat)
      case atStart => exact ⟨0, by omega, rfl, rfl, hb1⟩
      case round =>
        obtain ⟨j, hj, rfl, rfl, hbj⟩ := hrel
        have ⟨u1, u2⟩ := UN.out j hj
        by_cases hlt : j < k
        · have ⟨c1, c2⟩ := CP.out j hj
          have HU := Lib.hid (show Pl.under b (j + 1) = Pl.under b j + Pl.cp j b from rfl)
          have PLj := PL.out j hj
          generalize Pl.under b j = u at *
          go_wp2_with fail
          refine (icountPal _ _ _ b1 b2 (by omega) (by omega) PLj).mono ?_
          rw [cpZ_cp]
          rintro e w' ⟨rfl, rfl⟩
          generalize Pl.cp j b = c at *
          go_wp2
          go_roundw
          case rel => exact ⟨j + 1, by omega, by rw [HU.out], by go_num, hbj⟩
          case measure => simp [intOf]; omega
        · obtain rfl : j = k := by omega
          have EP : ((j : Int) / 2).toNat = j / 2 := by omega
          have EP' := Lib.hid EP
          clear EP
          have PLj := PL.out j (Nat.le_refl _)
          have LE' := LE
          go_wp2_with fail
          refine (ipowerZ _ _ _ (by omega) (by omega) (by omega) (fun i hi => PW.out i (by omega))).mono ?_
          rw [EP'.out]
          rintro e w' ⟨rfl, rfl⟩
          generalize b ^ (j / 2) = x at *
          go_wp2_with fail
          generalize n / x = y at *
          refine (leastHalf _ _ _ b1 b2 (by omega) (by omega) PLj).mono ?_
          rw [LE.out]
          rintro e w' ⟨rfl, rfl⟩
          generalize Pl.lh j b = z at *
          generalize Pl.under b j = u at *
          go_wp2_with fail
          refine (mirrored _ _ _ _ b1 b2 (by omega) (by omega) (by omega) (by omega) (by omega)).mono ?_
          rintro e w2 ⟨rfl, hb2⟩
          by_cases hm : mirZ y j b < n
          · have HO := Lib.hid ((HR1.out hm).trans HV.out)
            generalize mirZ y j b = m at *
            go_wp2
            go_ret
            exact ⟨ret_int (by have := HO.out; omega), hbj.trans (hb2.mono hbj.size)⟩
          · have HO := Lib.hid ((HR2.out (by omega)).trans HV.out)
            generalize mirZ y j b = m at *
            go_wp2
            go_ret
            exact ⟨ret_int (by have := HO.out; omega), hbj.trans (hb2.mono hbj.size)⟩
  all_goals
    have HV := Lib.hid (show -1 = rkV n b by simp [rkV, h, h'])
    go_enter Try.func34, Try.ntmps34
    go_wp2_with (first | (go_at_call 79; refine (iBaseOk_any _ _).mono ?_; rintro e w' ⟨rfl, rfl⟩) | (go_at_call 72; refine (within_any _ _ _ _).mono ?_; rintro e w' ⟨rfl, rfl⟩))
    go_ret
    exact ⟨ret_int HV.out, Below.refl _ _⟩
theorem l21Count (k b : Int) (w : World) (b1 : 2 ≤ b) (b2 : b ≤ 16) (k1 : 0 ≤ k) (k2 : k ≤ 31) (hp : b ^ ((k - 1) / 2).toNat ≤ 1000000000000000) : Calls Try.prog 90 #[.int .i64 k, .int .i64 b] w fun e w' => e = .returned (.int .i64 (cpZ k b)) ∧ w = w' := by
  by_cases hk : k = 0
  · subst hk
    have HV := Lib.hid (show 1 = cpZ 0 b by simp [cpZ])
    clear hp
    go_enter Try.func90, Try.ntmps90
    go_wp2_with fail
    go_ret
    exact ⟨ret_int HV.out, rfl⟩
  · have HV := Lib.hid (show (b - 1) * b ^ ((k - 1) / 2).toNat = cpZ k b by simp [cpZ, hk])
    have hk' := beq_eq_false_iff_ne.2 hk
    have h2 := Pl.pow_pos (show 0 < b by omega) ((k - 1) / 2).toNat
    have c1 : (b - 1) * b ^ ((k - 1) / 2).toNat ≤ 15 * 1000000000000000 := Int.mul_le_mul (by omega) hp (by omega) (by omega)
    have c2 : 0 ≤ (b - 1) * b ^ ((k - 1) / 2).toNat := Int.mul_nonneg (by omega) (by omega)
    have k1' : 1 ≤ k := by omega
    have HP := Lib.hid (show ∀ j, j ≤ ((k - 1) / 2).toNat → b ^ j ≤ 1000000000000000000 from fun j hj => by have := Pl.pow_up (show 1 ≤ b by omega) hj; omega)
    clear hk
    go_enter Try.func90, Try.ntmps90
    go_wp2_with fail
    refine (spowerZ _ _ _ (by omega) (by omega) (by omega) HP.out).mono ?_
    rintro e w' ⟨rfl, rfl⟩
    generalize b ^ ((k - 1) / 2).toNat = x at *
    go_wp2
    go_ret
    exact ⟨ret_int HV.out, rfl⟩
theorem sRank (n b : Int) (w : World) : Calls Try.prog 33 #[.int .i64 n, .int .i64 b] w fun e w' => e = .returned (.int .i64 (rkV n b)) ∧ Below w.heap.size w w' := by
  rcases inB_cases b 2 16 with h | h <;> rcases inB_cases n 0 1000000 with h' | h'
  case inl.inl =>
    have ⟨b1, b2⟩ := inB_t h
    have ⟨n1, n2⟩ := inB_t h'
    have HV := Lib.hid (show Pl.rank b n = rkV n b by simp [rkV, h, h'])
    by_cases n0 : n = 0
    · subst n0
      go_enter Try.func33, Try.ntmps33
      go_wp2_with (first | (go_at_call 76; refine (sBaseOk_any _ _).mono ?_; rintro e w' ⟨rfl, rfl⟩) | (go_at_call 63; refine (l01In_any _ _ _ _).mono ?_; rintro e w' ⟨rfl, rfl⟩))
      go_ret
      exact ⟨ret_int (by rw [← HV.out, rank_zero]), Below.refl _ _⟩
    · obtain ⟨k, hk⟩ : ∃ k, k = (Pl.dg b n).length := ⟨_, rfl⟩
      obtain ⟨⟨k1, k2⟩, ⟨l1, l2⟩, ⟨h1, h2⟩, pw, pl, cp, un, ⟨m1, m2⟩, ⟨q1, q2⟩⟩ := rk_b b1 b2 (show 1 ≤ n by omega) n2 hk.symm
      have HR1 := Lib.hid (rank_lt hk.symm k1)
      have HR2 := Lib.hid (rank_ge hk.symm k1)
      have PW := Lib.hid pw
      have PL := Lib.hid pl
      have CP := Lib.hid cp
      have UN := Lib.hid un
      have LE := Lib.hid (show b ^ (((k : Int) - 1) / 2).toNat = Pl.lh k b by rw [Pl.lh]; congr 1; omega)
      have n0' := beq_eq_false_iff_ne.2 n0
      have HM := Lib.hid (Pl.dg_mem b1 n1)
      have DR := Lib.hid (Pl.dg_drop b1 (k / 2) n n1)
      have VD := Lib.hid (Pl.val_dg b1 (show 0 ≤ n / b ^ (k / 2) by omega))
      have MD := Lib.hid (show mirZ (n / b ^ (k / 2)) k b = Pl.val b (Pl.jh (Pl.dg b (n / b ^ (k / 2))) ((k : Int) % 2 == 1)) from rfl)
      have JM := Lib.hid (jh_dg (h := n / b ^ (k / 2)) (q := ((k : Int) % 2 == 1)) b1 (by omega))
      have DM := Lib.hid (Pl.dg_mem b1 (show 0 ≤ n / b ^ (k / 2) by omega))
      clear pw pl cp un n0
      go_enter Try.func33, Try.ntmps33
      go_wp2_with (first | (go_at_call 76; refine (sBaseOk_any _ _).mono ?_; rintro e w' ⟨rfl, rfl⟩) | (go_at_call 63; refine (l01In_any _ _ _ _).mono ?_; rintro e w' ⟨rfl, rfl⟩))
      refine (l02Digits _ _ _ b1 b2 n1 (by omega)).mono ?_
      rintro e w1 ⟨v, rfl, hown, hb1⟩
      obtain ⟨ao, cap, rfl, hrd⟩ := hown.shape
      clear hown hrd
      rw [← hk]
      have HK := Lib.hid hk
      clear hk
      go_wp2_with fail
      go_loopw [6, 7] (fun vc vk wr => ∃ (j : Nat), j ≤ k ∧ vc = .int .i64 (Pl.under b j) ∧ vk = .int .i64 j ∧ Below w.heap.size w wr) (fun _ vk _ => k - (intOf vk).toNat)
      case atStart => exact ⟨0, by omega, rfl, rfl, hb1⟩
      case round =>
        obtain ⟨j, hj, rfl, rfl, hbj⟩ := hrel
        have ⟨u1, u2⟩ := UN.out j hj
        by_cases hlt : j < k
        · have ⟨c1, c2⟩ := CP.out j hj
          have HU := Lib.hid (show Pl.under b (j + 1) = Pl.under b j + Pl.cp j b from rfl)
          have PLj := PL.out j hj
          generalize Pl.under b j = u at *
          go_wp2_with fail
          refine (l21Count _ _ _ b1 b2 (by omega) (by omega) PLj).mono ?_
          rw [cpZ_cp]
          rintro e w' ⟨rfl, rfl⟩
          generalize Pl.cp j b = c at *
          go_wp2
          go_roundw
          case rel => exact ⟨j + 1, by omega, by rw [HU.out], by go_num, hbj⟩
          case measure => simp [intOf]; omega
        · obtain rfl : j = k := by omega
          generalize Pl.under b j = u at *
          go_wp2_with fail
          refine (l02Digits _ _ _ b1 b2 n1 (by omega)).mono ?_
          rintro e w2 ⟨v, rfl, hown, hb2⟩
          obtain ⟨ao2, cap2, rfl, hrd2⟩ := hown.shape
          clear hown
          rw [← HK.out]
          have hcap := hrd2.1
          have hcap2 := hrd2.2.1
          unfold maxLen at hcap2
          rw [← HK.out] at hcap
          obtain ⟨g, off, rfl⟩ : ∃ g off, ao2 = some ⟨g, off, none⟩ := by
            rcases hrd2.2.2.2 with e | ⟨g, off, e, _⟩
            · have := HK.out; rw [e] at this; simp at this; omega
            · exact ⟨g, off, e⟩
          have hrd3 := hrd2.cut (j / 2) (by omega)
          rw [DR.out] at hrd3
          have HR3 := Lib.hid hrd3
          have HB := Lib.hid (hbj.trans (hb2.mono hbj.size))
          have hj2 : j - j / 2 = (Pl.dg b (n / b ^ (j / 2))).length := by rw [← DR.out, List.length_drop, ← HK.out]
          have HJ2 := Lib.hid hj2
          clear hrd2 hrd3 hb2 hbj hj2
          have hL3 : decide (j / 2 = cap2) = false := by simp; omega
          have LEN := Lib.hid (show (Pl.dg b (n / b ^ (j / 2))).length ≤ 1000000000000 by have := HJ2.out; omega)
          have V1 := Lib.hid (Pl.val1_yes (b := b) (l := Pl.dg b (n / b ^ (j / 2))) (by rw [VD.out]; omega))
          have V2 := Lib.hid (Pl.val1_yes (b := b) (l := Pl.jh (Pl.dg b (n / b ^ (j / 2))) ((j : Int) % 2 == 1)) (by rw [← MD.out]; omega))
          have PLj := PL.out j (Nat.le_refl _)
          go_wp2_with fail
          refine (l02Value _ _ HJ2.out _ _ _ _ HR3.out (by omega) b2 (fun d hd => by have := DM.out d hd; omega)).mono ?_
          rw [V1.out, VD.out]
          rintro e w3 ⟨rfl, rfl⟩
          generalize n / b ^ (j / 2) = y at *
          go_wp2_with fail
          refine (spowerZ _ _ _ (by omega) (by omega) (by omega) (fun i hi => PW.out i (by omega))).mono ?_
          rw [LE.out]
          rintro e w' ⟨rfl, rfl⟩
          generalize Pl.lh j b = z at *
          go_wp2_with fail
          refine (sJoin _ _ HJ2.out _ _ _ _ HR3.out LEN.out).mono ?_
          rintro e w4 ⟨v, rfl, hown, hb4⟩
          obtain ⟨ao4, cap4, rfl, hrd4⟩ := hown.shape
          have HB4 := Lib.hid (HB.out.trans (hb4.mono HB.out.size))
          clear hown hb4
          go_wp2_with fail
          refine (l02Value _ _ (by simp) _ _ _ _ hrd4 (by omega) b2 (fun d hd => by have := JM.out d hd; omega)).mono ?_
          rw [V2.out, ← MD.out]
          rintro e w5 ⟨rfl, rfl⟩
          by_cases hm : mirZ y j b < n
          · have HO := Lib.hid ((HR1.out hm).trans HV.out)
            generalize mirZ y j b = m at *
            go_wp2
            go_ret
            exact ⟨ret_int (by have := HO.out; omega), HB4.out⟩
          · have HO := Lib.hid ((HR2.out (by omega)).trans HV.out)
            generalize mirZ y j b = m at *
            go_wp2
            go_ret
            exact ⟨ret_int (by have := HO.out; omega), HB4.out⟩
  all_goals
    have HV := Lib.hid (show -1 = rkV n b by simp [rkV, h, h'])
    go_enter Try.func33, Try.ntmps33
    go_wp2_with (first | (go_at_call 76; refine (sBaseOk_any _ _).mono ?_; rintro e w' ⟨rfl, rfl⟩) | (go_at_call 63; refine (l01In_any _ _ _ _).mono ?_; rintro e w' ⟨rfl, rfl⟩))
    go_ret
    exact ⟨ret_int HV.out, Below.refl _ _⟩
end Go.Proofs.Ytioclijkglhigaa
