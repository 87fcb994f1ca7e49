/-
  Contracts of the next palindrome.
  Conditions: none, or the ranges that a contract names.
-/
import Derived.Test.YtioclijkglhigaaPalAt
import Derived.Test.YtioclijkglhigaaRank
import Derived.Test.YtioclijkglhigaaLAdd
namespace Go.Proofs.Ytioclijkglhigaa
open Go.RowKit
structure NxB (m b : Int) (k : Nat) : Prop where
  kk : 1 ≤ k ∧ k ≤ 30
  l : 1 ≤ Pl.lh k b ∧ Pl.lh k b ≤ 1000000001
  lb : Pl.lh k b * b ≤ 16000000016
  h : 1 ≤ m / b ^ (k / 2) ∧ m / b ^ (k / 2) ≤ 1000000001
  hl : Pl.lh k b ≤ m / b ^ (k / 2) ∧ m / b ^ (k / 2) < Pl.lh k b * b
  pw : ∀ j, j ≤ k → b ^ j ≤ 1000000000000000000
  pl : b ^ (((k : Int) - 1) / 2).toNat ≤ 1000000000000000
  mir : ∀ x, Pl.lh k b ≤ x → x < Pl.lh k b * b → 0 ≤ mirZ x k b ∧ mirZ x k b ≤ 16000000016
  pp : 1 ≤ b ^ (k / 2)
  top : 1 ≤ b ^ k ∧ b ^ k ≤ 16000000016
theorem nx_b {m b : Int} {k : Nat} (b1 : 2 ≤ b) (b2 : b ≤ 16) (n1 : 1 ≤ m) (n2 : m ≤ 1000000001) (hk : (Pl.dg b m).length = k) : NxB m b k := by
  have k1 : 1 ≤ k := by
    have := Pl.dg_pos_iff (n := m) b1 (by omega)
    have : Pl.dg b m ≠ [] := fun e => by rw [this] at e; omega
    have := List.length_pos_iff.2 this
    omega
  have k2 : k ≤ 30 := by
    rw [← hk, Pl.dg_len b1 30 m (by omega)]
    have h1 := Pl.pow_mono (show (0 : Int) ≤ 2 by omega) b1 30
    have h2 : (2 : Int) ^ 30 = 1073741824 := by decide
    omega
  have hb := (Pl.dg_len_eq b1 (show 0 ≤ m by omega) k1).1 hk
  have P : ∀ e, e ≤ k - 1 → b ^ e ≤ 1000000001 := fun e he => by have := Pl.pow_up (show 1 ≤ b by omega) he; omega
  have P0 : ∀ e, 1 ≤ b ^ e := fun e => Pl.pow_pos (by omega) e
  have hH := Pl.half_of b1 (show 0 ≤ m by omega) k1 hk
  have l1 : 1 ≤ Pl.lh k b := P0 ((k + 1) / 2 - 1)
  have l2 : Pl.lh k b ≤ 1000000001 := P ((k + 1) / 2 - 1) (by omega)
  have l3 : Pl.lh k b * b ≤ 1000000001 * 16 := Int.mul_le_mul l2 b2 (by omega) (by omega)
  have hkk : b ^ k ≤ 1000000001 * 16 := by
    have e : b ^ k = b ^ (k - 1) * b := by rw [← Int.pow_succ]; congr 1; omega
    rw [e]; exact Int.mul_le_mul (P _ (by omega)) b2 (by omega) (by omega)
  have h1 := hH.2.1
  have h2 : m / b ^ (k / 2) ≤ m := Int.ediv_le_self _ (by omega)
  refine ⟨⟨k1, k2⟩, ⟨l1, l2⟩, by omega, by omega, hH.2, ?_, ?_, ?_, P0 _, P0 _, by omega⟩
  · intro j hj
    have := Pl.pow_up (show 1 ≤ b by omega) hj
    omega
  · have := P (((k : Int) - 1) / 2).toNat (by omega)
    omega
  · intro x x1 x2
    have hx : Pl.IsHalf x k b := ⟨k1, x1, x2⟩
    have m1 := Pl.mir_facts b1 hx
    have m2 := (Pl.dg_len b1 k (Pl.mir x k b) (by omega)).1 (by omega)
    rw [mirZ_eq (by omega), Int.toNat_natCast]
    omega
def nxV (n b : Int) : Int := if inB b 2 16 && inB n 0 1000000000 then Pl.nextP b n else -1
theorem mirN (h : Int) (k : Nat) (b : Int) : mirZ h k b = Pl.mir h k b := by rw [mirZ_eq (by omega), Int.toNat_natCast]
theorem next1 {n b : Int} {k : Nat} (hk : (Pl.dg b (n + 1)).length = k) (h : n < mirZ ((n + 1) / b ^ (k / 2)) k b) : mirZ ((n + 1) / b ^ (k / 2)) k b = Pl.nextP b n := by
  rw [mirN] at h ⊢
  simp only [Pl.nextP, hk]; rw [if_pos h]
theorem next2 {n b : Int} {k : Nat} (hk : (Pl.dg b (n + 1)).length = k) (h : ¬ n < mirZ ((n + 1) / b ^ (k / 2)) k b) (h' : (n + 1) / b ^ (k / 2) + 1 < Pl.lh k b * b) : mirZ ((n + 1) / b ^ (k / 2) + 1) k b = Pl.nextP b n := by
  rw [mirN] at h ⊢
  simp only [Pl.nextP, hk]; rw [if_neg h, if_pos h']
theorem next3 {n b : Int} {k : Nat} (hk : (Pl.dg b (n + 1)).length = k) (h : ¬ n < mirZ ((n + 1) / b ^ (k / 2)) k b) (h' : ¬ (n + 1) / b ^ (k / 2) + 1 < Pl.lh k b * b) : b ^ k + 1 = Pl.nextP b n := by
  rw [mirN] at h
  simp only [Pl.nextP, hk]; rw [if_neg h, if_neg h']
theorem iNext (n b : Int) (w : World) : Calls Try.prog 36 #[.int .i64 n, .int .i64 b] w fun e w' => e = .returned (.int .i64 (nxV n b)) ∧ Below w.heap.size w w' := by
  rcases inB_cases b 2 16 with h | h <;> rcases inB_cases n 0 1000000000 with h' | h'
  case inl.inl =>
    have ⟨b1, b2⟩ := inB_t h
    have ⟨n1, n2⟩ := inB_t h'
    have HV := Lib.hid (show Pl.nextP b n = nxV n b by simp [nxV, h, h'])
    obtain ⟨k, hk⟩ : ∃ k, k = (Pl.dg b (n + 1)).length := ⟨_, rfl⟩
    obtain ⟨⟨k1, k2⟩, ⟨l1, l2⟩, lb, ⟨h1, h2⟩, ⟨hl1, hl2⟩, pw, PLj, mr, q1, ⟨t1, t2⟩⟩ := nx_b b1 b2 (show 1 ≤ n + 1 by omega) (by omega) hk.symm
    have HR1 := Lib.hid (next1 hk.symm)
    have HR2 := Lib.hid (next2 hk.symm)
    have HR3 := Lib.hid (next3 hk.symm)
    have PW := Lib.hid pw
    have MR := Lib.hid mr
    have LE := Lib.hid (show b ^ (((k : Int) - 1) / 2).toNat = Pl.lh k b by rw [Pl.lh]; congr 1; omega)
    have EP := Lib.hid (show ((k : Int) / 2).toNat = k / 2 by omega)
    clear pw mr
    go_enter Try.func36, Try.ntmps36
    go_wp2_with (first | (go_at_call 79; refine (iBaseOk_any _ _).mono ?_; rintro e w' ⟨rfl, rfl⟩) | (go_at_call 72; refine (within_any _ _ _ _).mono ?_; rintro e w' ⟨rfl, rfl⟩))
    refine (digitsOf _ _ _ b1 b2 (by omega) (by omega)).mono ?_
    rintro e w1 ⟨v, rfl, hown, hb1⟩
    obtain ⟨ao, cap, rfl, hrd⟩ := hown.shape
    clear hown hrd
    rw [← hk]
    have HK := Lib.hid hk
    clear hk
    go_wp2_with fail
    refine (ipowerZ _ _ _ (by omega) (by omega) (by omega) (fun i hi => PW.out i (by omega))).mono ?_
    rw [EP.out]
    rintro e w' ⟨rfl, rfl⟩
    generalize b ^ (k / 2) = x at *
    go_wp2_with fail
    generalize (n + 1) / x = y at *
    have ⟨m1, m2⟩ := MR.out y hl1 hl2
    refine (mirrored _ _ _ _ b1 b2 (by omega) (by omega) (by omega) (by omega) (by omega)).mono ?_
    rintro e w2 ⟨rfl, hb2⟩
    have HB := Lib.hid (hb1.trans (hb2.mono hb1.size))
    clear hb1 hb2
    by_cases hm : n < mirZ y k b
    · have HO := Lib.hid ((HR1.out hm).trans HV.out)
      generalize mirZ y k b = m at *
      go_wp2
      go_ret
      exact ⟨ret_int (by have := HO.out; omega), HB.out⟩
    · have HR2' := Lib.hid (HR2.out (by omega))
      have HR3' := Lib.hid (HR3.out (by omega))
      generalize mirZ y k b = m at *
      go_wp2_with fail
      refine (leastHalf _ _ _ b1 b2 (by omega) (by omega) PLj).mono ?_
      rw [LE.out]
      rintro e w' ⟨rfl, rfl⟩
      have z1 : 0 ≤ Pl.lh k b * b := by omega
      by_cases ht : y + 1 < Pl.lh k b * b
      · have ⟨r1, r2⟩ := MR.out (y + 1) (by omega) ht
        have HO := Lib.hid ((HR2'.out ht).trans HV.out)
        generalize Pl.lh k b = z at *
        go_wp2_with fail
        refine (mirrored _ _ _ _ b1 b2 (by omega) (by omega) (by omega) (by omega) (by omega)).mono ?_
        rintro e w3 ⟨rfl, hb3⟩
        go_wp2
        go_ret
        exact ⟨ret_int HO.out, HB.out.trans (hb3.mono HB.out.size)⟩
      · have HO := Lib.hid ((HR3'.out (by omega)).trans HV.out)
        generalize Pl.lh k b = z at *
        go_wp2_with fail
        refine (ipowerZ _ _ _ (by omega) (by omega) (by omega) (fun i hi => PW.out i (by omega))).mono ?_
        rw [Int.toNat_natCast]
        rintro e w' ⟨rfl, rfl⟩
        generalize b ^ k = q at *
        go_wp2
        go_ret
        exact ⟨ret_int HO.out, HB.out⟩
  all_goals
    have HV := Lib.hid (show -1 = nxV n b by simp [nxV, h, h'])
    go_enter Try.func36, Try.ntmps36
    go_wp2_with (first | (go_at_call 79; refine (iBaseOk_any _ _).mono ?_; rintro e w' ⟨rfl, rfl⟩) | (go_at_call 72; refine (within_any _ _ _ _).mono ?_; rintro e w' ⟨rfl, rfl⟩))
    go_ret
    exact ⟨ret_int HV.out, Below.refl _ _⟩
theorem getD_bd {l : List Int} {b : Int} (b1 : 2 ≤ b) (h : ∀ d ∈ l, 0 ≤ d ∧ d < b) : ∀ j, 0 ≤ l.getD j 0 ∧ l.getD j 0 < b := by
  intro j
  by_cases hj : j < l.length
  · exact h _ (Pl.getD_mem hj)
  · rw [List.getD_eq_getElem?_getD, List.getElem?_eq_none (by omega)]; simp; omega
theorem len_over {y b : Int} {k : Nat} (b1 : 2 ≤ b) (hk : 1 ≤ k) (hy : 0 ≤ y) : (Pl.dg b y).length ≤ k - k / 2 ↔ y < Pl.lh k b * b := by
  rw [Pl.dg_len b1 _ y hy, Pl.lh, ← Int.pow_succ]
  rw [show ((k + 1) / 2 - 1).succ = k - k / 2 by omega]
theorem sNext (n b : Int) (w : World) : Calls Try.prog 35 #[.int .i64 n, .int .i64 b] w fun e w' => e = .returned (.int .i64 (nxV n b)) ∧ Below w.heap.size w w' := by
  rcases inB_cases b 2 16 with h | h <;> rcases inB_cases n 0 1000000000 with h' | h'
  case inl.inl =>
    have ⟨b1, b2⟩ := inB_t h
    have ⟨n1, n2⟩ := inB_t h'
    have HV := Lib.hid (show Pl.nextP b n = nxV n b by simp [nxV, h, h'])
    obtain ⟨k, hk⟩ : ∃ k, k = (Pl.dg b (n + 1)).length := ⟨_, rfl⟩
    obtain ⟨⟨k1, k2⟩, ⟨l1, l2⟩, lb, ⟨h1, h2⟩, ⟨hl1, hl2⟩, pw, PLj, mr, q1, ⟨t1, t2⟩⟩ := nx_b b1 b2 (show 1 ≤ n + 1 by omega) (by omega) hk.symm
    have HR1 := Lib.hid (next1 hk.symm)
    have HR2 := Lib.hid (next2 hk.symm)
    have HR3 := Lib.hid (next3 hk.symm)
    have PW := Lib.hid pw
    have ⟨m1, m2⟩ := mr _ hl1 hl2
    have MR := Lib.hid (mr ((n + 1) / b ^ (k / 2) + 1) (by omega))
    have DR := Lib.hid (Pl.dg_drop b1 (k / 2) (n + 1) (by omega))
    have VD := Lib.hid (Pl.val_dg b1 (show 0 ≤ (n + 1) / b ^ (k / 2) by omega))
    have MD := Lib.hid (show mirZ ((n + 1) / b ^ (k / 2)) k b = Pl.val b (Pl.jh (Pl.dg b ((n + 1) / b ^ (k / 2))) ((k : Int) % 2 == 1)) from rfl)
    have MD2 := Lib.hid (show mirZ ((n + 1) / b ^ (k / 2) + 1) k b = Pl.val b (Pl.jh (Pl.dg b ((n + 1) / b ^ (k / 2) + 1)) ((k : Int) % 2 == 1)) from rfl)
    have JM := Lib.hid (jh_dg (h := (n + 1) / b ^ (k / 2)) (q := ((k : Int) % 2 == 1)) b1 (by omega))
    have JM2 := Lib.hid (jh_dg (h := (n + 1) / b ^ (k / 2) + 1) (q := ((k : Int) % 2 == 1)) b1 (by omega))
    have DM := Lib.hid (getD_bd b1 (Pl.dg_mem b1 (show 0 ≤ (n + 1) / b ^ (k / 2) by omega)))
    have LO := Lib.hid (len_over (k := k) (y := (n + 1) / b ^ (k / 2) + 1) b1 k1 (by omega))
    have L40 := Lib.hid (Pl.dg_len40 (n := (n + 1) / b ^ (k / 2) + 1) b1 (by omega) (by omega))
    clear pw mr
    go_enter Try.func35, Try.ntmps35
    go_wp2_with (first | (go_at_call 76; refine (sBaseOk_any _ _).mono ?_; rintro e w' ⟨rfl, rfl⟩) | (go_at_call 63; refine (l01In_any _ _ _ _).mono ?_; rintro e w' ⟨rfl, rfl⟩))
    refine (l02Digits _ _ _ b1 b2 (by omega) (by omega)).mono ?_
    rintro e w1 ⟨v, rfl, hown, hb1⟩
    obtain ⟨ao2, cap2, rfl, hrd2⟩ := hown.shape
    clear hown
    rw [← hk]
    have HK := Lib.hid hk
    have hcap := hrd2.1
    have hcap2 := hrd2.2.1
    unfold maxLen at hcap2
    rw [← hk] at hcap
    obtain ⟨g, off, rfl⟩ : ∃ g off, ao2 = some ⟨g, off, none⟩ := by
      rcases hrd2.2.2.2 with e | ⟨g, off, e, _⟩
      · have := HK.out; rw [e] at this; simp at this; omega
      · exact ⟨g, off, e⟩
    have hrd3 := hrd2.cut (k / 2) (by omega)
    rw [DR.out] at hrd3
    have HR3' := Lib.hid hrd3
    have HB := Lib.hid hb1
    have HJ2 := Lib.hid (show k - k / 2 = (Pl.dg b ((n + 1) / b ^ (k / 2))).length by rw [← DR.out, List.length_drop, ← HK.out])
    clear hrd2 hrd3 hb1 hk
    have hL3 : decide (k / 2 = cap2) = false := by simp; omega
    have LEN := Lib.hid (show (Pl.dg b ((n + 1) / b ^ (k / 2))).length ≤ 100000 by have := HJ2.out; omega)
    have V2 := Lib.hid (Pl.val1_yes (b := b) (l := Pl.jh (Pl.dg b ((n + 1) / b ^ (k / 2))) ((k : Int) % 2 == 1)) (by rw [← MD.out]; omega))
    go_wp2_with fail
    refine (sJoin _ _ HJ2.out _ _ _ _ HR3'.out (by have := LEN.out; omega)).mono ?_
    rintro e w4 ⟨v, rfl, hown, hb4⟩
    obtain ⟨ao4, cap4, rfl, hrd4⟩ := hown.shape
    have HB4 := Lib.hid (HB.out.trans (hb4.mono HB.out.size))
    have HR4 := Lib.hid (HR3'.out.below hb4 (Nat.le_refl _))
    clear hown hb4
    generalize (n + 1) / b ^ (k / 2) = y at *
    go_wp2_with fail
    refine (l02Value _ _ (by simp) _ _ _ _ hrd4 (by omega) b2 (fun d hd => by have := JM.out d hd; omega)).mono ?_
    rw [V2.out, ← MD.out]
    rintro e w5 ⟨rfl, rfl⟩
    by_cases hm : n < mirZ y k b
    · have HO := Lib.hid ((HR1.out hm).trans HV.out)
      generalize mirZ y k b = m at *
      go_wp2
      go_ret
      exact ⟨ret_int (by have := HO.out; omega), HB4.out⟩
    · have HR2' := Lib.hid (HR2.out (by omega))
      have HR3q := Lib.hid (HR3.out (by omega))
      generalize mirZ y k b = m at *
      have HA := Lib.hid (HB4.out.alloc HB4.out.size (.cells #[.int .i64 1] 3))
      have HL1 : Hid (Own (w4.alloc (.cells #[.int .i64 1] 3)) w4.heap.size (.slice (some ⟨w4.heap.size, 0, none⟩) 1 1) [1]) := Lib.hid (World.ownsRow_lit w4 #[.int .i64 1] 1 (Nat.le_refl _) (by unfold maxLen; omega) rfl)
      have HLr : Hid (Rd (w4.alloc (.cells #[.int .i64 1] 3)) (some ⟨w4.heap.size, 0, none⟩) 1 [1]) := Lib.hid (by
        obtain ⟨ao', cap', e', h'⟩ := Own.shape HL1.out
        simp at e'
        obtain ⟨rfl, rfl⟩ := e'
        exact h')
      have V11 := Lib.hid (show Pl.val b [1] = 1 by simp [Pl.val])
      go_wp2_with fail
      refine (l03Add _ [1] _ _ HJ2.out rfl _ _ _ _ b _ (HR4.out.below ((Below.refl _ _).alloc (Nat.le_refl _) _) (Nat.le_refl _)) HLr.out b1 b2 LEN.out (by simp) DM.out (getD_bd b1 (by simp; omega))).mono ?_
      rw [VD.out, V11.out]
      rintro e w6 ⟨⟨ao6, n6, cap6, rfl, en, hrd6⟩, hb6⟩
      have HB6 := Lib.hid (HA.out.trans (hb6.mono HA.out.size))
      have HE := Lib.hid en
      have n40 : n6 ≤ 40 := by have := L40.out; omega
      clear hb6
      by_cases hlt : n6 ≤ k - k / 2
      · have hy := LO.out.1 (by rw [← HE.out]; exact hlt)
        have ⟨r1, r2⟩ := MR.out hy
        have HO := Lib.hid ((HR2'.out hy).trans HV.out)
        have V3 := Lib.hid (Pl.val1_yes (b := b) (l := Pl.jh (Pl.dg b (y + 1)) ((k : Int) % 2 == 1)) (by rw [← MD2.out]; omega))
        have HR6 := Lib.hid hrd6
        clear en hrd6
        go_wp2_with fail
        refine (sJoin _ _ HE.out _ _ _ _ HR6.out (by have := HE.out; omega)).mono ?_
        rintro e w7 ⟨v, rfl, hown, hb7⟩
        obtain ⟨ao7, cap7, rfl, hrd7⟩ := hown.shape
        have HB7 := Lib.hid (HB6.out.trans (hb7.mono HB6.out.size))
        clear hown hb7
        go_wp2_with fail
        refine (l02Value _ _ (by simp) _ _ _ _ hrd7 (by omega) b2 (fun d hd => by have := JM2.out d hd; omega)).mono ?_
        rw [V3.out, ← MD2.out]
        rintro e w8 ⟨rfl, rfl⟩
        go_wp2
        go_ret
        exact ⟨ret_int HO.out, HB7.out⟩
      · have hy : ¬ y + 1 < Pl.lh k b * b := fun h => hlt (by rw [HE.out]; exact LO.out.2 h)
        have HO := Lib.hid ((HR3q.out (by omega)).trans HV.out)
        clear en hrd6 hy
        go_wp2_with fail
        refine (spowerZ _ _ _ (by omega) (by omega) (by omega) (fun i hi => PW.out i (by omega))).mono ?_
        rw [Int.toNat_natCast]
        rintro e w' ⟨rfl, rfl⟩
        generalize b ^ k = q at *
        go_wp2
        go_ret
        exact ⟨ret_int HO.out, HB6.out⟩
  all_goals
    have HV := Lib.hid (show -1 = nxV n b by simp [nxV, h, h'])
    go_enter Try.func35, Try.ntmps35
    go_wp2_with (first | (go_at_call 76; refine (sBaseOk_any _ _).mono ?_; rintro e w' ⟨rfl, rfl⟩) | (go_at_call 63; refine (l01In_any _ _ _ _).mono ?_; rintro e w' ⟨rfl, rfl⟩))
    go_ret
    exact ⟨ret_int HV.out, Below.refl _ _⟩
end Go.Proofs.Ytioclijkglhigaa
