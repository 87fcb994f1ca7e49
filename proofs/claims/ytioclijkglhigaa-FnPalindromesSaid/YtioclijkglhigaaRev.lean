/-
  Contracts of the turning of a number, of the sum with the turned number, and of the steps to a palindrome.
  Conditions: none, or the ranges that a contract names.
-/
import Derived.Test.YtioclijkglhigaaSlicesC
import Derived.Test.YtioclijkglhigaaSlicesE
import Derived.Test.YtioclijkglhigaaAllW
import Derived.Test.YtioclijkglhigaaPal1
import Derived.Test.YtioclijkglhigaaStepsPl
namespace Go.Proofs.Ytioclijkglhigaa
open Go.RowKit
namespace Rev
theorem rd_front {w : World} {ao : Option Addr} {cap : Nat} {l : List Int} (h : Rd w ao cap l) (s : Nat) : Rd w ao cap (l.take s) := by
  obtain ⟨h1, h2, h3, h4⟩ := h
  refine ⟨by rw [List.length_take]; omega, h2, h3, ?_⟩
  rcases h4 with rfl | ⟨b, off, e, hl, hc⟩
  · left; simp
  · refine .inr ⟨b, off, e, hl, fun j hj => ?_⟩
    rw [List.length_take] at hj
    rw [hc j (by omega), List.getD_eq_getElem?_getD, List.getD_eq_getElem?_getD, List.getElem?_take, if_pos (by omega)]
theorem rd_clip {w : World} {ao : Option Addr} {cap : Nat} {l : List Int} (h : Rd w ao cap l) : Rd w ao l.length l :=
  ⟨Nat.le_refl _, Nat.le_trans h.1 h.2.1, fun e => by have := h.1; have := h.2.2.1 e; omega, h.2.2.2⟩
theorem trim_step {b : Int} {l : List Int} {n : Nat} (hn : n + 1 ≤ l.length) (h0 : l.getD n 0 = 0) : Pl.val b (l.take n) = Pl.val b (l.take (n + 1)) := by
  have e : l.take (n + 1) = l.take n ++ [l.getD n 0] := by
    rw [List.take_add_one, List.getD_eq_getElem?_getD, List.getElem?_eq_getElem (by omega)]; rfl
  rw [e, h0, Pl.val_append]
  simp [Pl.val]
theorem trim_done {b : Int} {l : List Int} {n : Nat} (b1 : 2 ≤ b) (hm : ∀ d ∈ l, 0 ≤ d ∧ d < b) (hn : n + 1 ≤ l.length) (h0 : l.getD n 0 ≠ 0) (hv : Pl.val b (l.take (n + 1)) = Pl.val b l) : Pl.dg b (Pl.val b l) = l.take (n + 1) := by
  rw [← hv]
  refine (Pl.dg_val b1 _ (fun d hd => hm d (List.mem_of_mem_take hd)) ?_).1
  intro d hd
  have e : l.take (n + 1) = l.take n ++ [l.getD n 0] := by
    rw [List.take_add_one, List.getD_eq_getElem?_getD, List.getElem?_eq_getElem (by omega)]; rfl
  rw [e, List.getLast?_append] at hd
  simp at hd
  rw [← hd]; simpa using h0
open Pl (rvN raB)
theorem ret_two {a : Int} {q : Bool} {r : Int × Bool} (h : (a, q) = r) : Ending.returned (.tuple #[.int .i64 a, .bool q]) = .returned (.tuple #[.int .i64 r.1, .bool r.2]) := by rw [← h]
def rvV (n b : Int) : Int × Bool := if inB b 2 16 && inB n 0 1000000000000 && decide (rvN b n ≤ 1000000000000) then (rvN b n, true) else (0, false)
def lenS : Value → Nat | .slice _ n _ => n | _ => 0
theorem rvV_no {n b : Int} (h : inB b 2 16 = false ∨ inB n 0 1000000000000 = false ∨ 1000000000000 < rvN b n) : ((0 : Int), false) = rvV n b := by
  rw [rvV, if_neg]
  intro hx
  simp only [Bool.and_eq_true, decide_eq_true_eq] at hx
  rcases h with h | h | h
  · rw [h] at hx; simp at hx
  · rw [h] at hx; simp at hx
  · omega
theorem rvV_yes {n b : Int} (h1 : inB b 2 16 = true) (h2 : inB n 0 1000000000000 = true) (h : rvN b n ≤ 1000000000000) : (rvN b n, true) = rvV n b := by
  rw [rvV, if_pos]
  simp [h1, h2, h]
theorem rev_mem {b n : Int} (b1 : 2 ≤ b) (n1 : 0 ≤ n) : ∀ d ∈ (Pl.dg b n).reverse, 0 ≤ d ∧ d < b := fun d hd => Pl.dg_mem b1 n1 d (List.mem_reverse.1 hd)
theorem rvN_bd {b n : Int} (b1 : 2 ≤ b) (b2 : b ≤ 16) (n1 : 0 ≤ n) (n2 : n ≤ 1000000000000) : 0 ≤ rvN b n ∧ rvN b n ≤ 16000000000000 := by
  refine ⟨Pl.val_nn (by omega) _ fun d hd => (rev_mem b1 n1 d hd).1, ?_⟩
  have h1 := Pl.val_lt (b := b) (by omega) _ (rev_mem b1 n1)
  rw [List.length_reverse] at h1
  by_cases h0 : n = 0
  · subst h0; simp [rvN, Pl.dg_zero, Pl.val]
  · have hne : Pl.dg b n ≠ [] := fun e => h0 ((Pl.dg_pos_iff b1 n1).1 e)
    have hl := List.length_pos_iff.2 hne
    obtain ⟨k, hk⟩ : ∃ k, (Pl.dg b n).length = k + 1 := ⟨(Pl.dg b n).length - 1, by omega⟩
    have h2 := ((Pl.dg_len_eq b1 n1 (k := k + 1) (by omega)).1 hk).1
    rw [Nat.add_sub_cancel] at h2
    rw [hk, Int.pow_succ] at h1
    have h3 : b ^ k * b ≤ 1000000000000 * 16 := Int.mul_le_mul (by omega) b2 (by omega) (by omega)
    show Pl.val b _ ≤ _
    omega
theorem sRev (n b : Int) (w : World) : Calls Try.prog 67 #[.int .i64 n, .int .i64 b] w fun e w' => e = .returned (.tuple #[.int .i64 (rvV n b).1, .bool (rvV n b).2]) ∧ Below w.heap.size w w' := by
  rcases inB_cases b 2 16 with h | h <;> rcases inB_cases n 0 1000000000000 with h' | h'
  case inl.inl =>
    have ⟨b1, b2⟩ := inB_t h
    have ⟨n1, n2⟩ := inB_t h'
    have hlen := Pl.dg_len40 b1 n1 n2
    have hbd := rvN_bd b1 b2 n1 n2
    have HM := Lib.hid (rev_mem b1 n1)
    by_cases hv : rvN b n ≤ 1000000000000
    · have HE := Lib.hid (rvV_yes h h' hv)
      have HV := Lib.hid (show Pl.val1 b (Pl.dg b n).reverse = rvN b n from Pl.val1_yes hv)
      go_enter Try.func67, Try.ntmps67
      go_wp2_with (first | (go_at_call 94; refine (l02Ok_any _ _ _).mono ?_; rintro e w' ⟨rfl, rfl⟩))
      refine (l02Digits _ _ _ b1 b2 n1 n2).mono ?_
      rintro e w1 ⟨v, rfl, hown, hb1⟩
      obtain ⟨ao, cap, rfl, hrd⟩ := hown.shape
      clear hown
      go_wp2_with fail
      refine (l02Turn _ _ (by simp) _ _ _ hrd (by omega)).mono ?_
      rintro e w2 ⟨v, rfl, hown, hb2⟩
      obtain ⟨ao2, cap2, rfl, hrd2⟩ := hown.shape
      clear hown
      go_wp2_with fail
      refine (l02Value _ _ (by simp) _ _ _ _ hrd2 (by omega) b2 (fun d hd => ⟨(HM.out d hd).1, by have := HM.out d hd; omega⟩)).mono ?_
      rintro e w3 ⟨rfl, rfl⟩
      rw [HV.out]
      generalize rvN b n = x at *
      go_wp2
      go_ret2
      exact ⟨ret_two HE.out, hb1.trans (hb2.mono hb1.size)⟩
    · have HE := Lib.hid (rvV_no (n := n) (b := b) (.inr (.inr (by omega))))
      have HV := Lib.hid (show Pl.val1 b (Pl.dg b n).reverse = -1 from Pl.val1_no (by show _ < rvN b n; omega))
      go_enter Try.func67, Try.ntmps67
      go_wp2_with (first | (go_at_call 94; refine (l02Ok_any _ _ _).mono ?_; rintro e w' ⟨rfl, rfl⟩))
      refine (l02Digits _ _ _ b1 b2 n1 n2).mono ?_
      rintro e w1 ⟨v, rfl, hown, hb1⟩
      obtain ⟨ao, cap, rfl, hrd⟩ := hown.shape
      clear hown
      go_wp2_with fail
      refine (l02Turn _ _ (by simp) _ _ _ hrd (by omega)).mono ?_
      rintro e w2 ⟨v, rfl, hown, hb2⟩
      obtain ⟨ao2, cap2, rfl, hrd2⟩ := hown.shape
      clear hown
      go_wp2_with fail
      refine (l02Value _ _ (by simp) _ _ _ _ hrd2 (by omega) b2 (fun d hd => ⟨(HM.out d hd).1, by have := HM.out d hd; omega⟩)).mono ?_
      rintro e w3 ⟨rfl, rfl⟩
      rw [HV.out]
      go_wp2
      go_ret2
      exact ⟨ret_two HE.out, hb1.trans (hb2.mono hb1.size)⟩
  all_goals
    have HE := Lib.hid (rvV_no (n := n) (b := b) (by first | exact .inl h | exact .inr (.inl h')))
    go_enter Try.func67, Try.ntmps67
    go_wp2_with (first | (go_at_call 94; refine (l02Ok_any _ _ _).mono ?_; rintro e w' ⟨rfl, rfl⟩))
    go_ret2
    exact ⟨ret_two HE.out, Below.refl _ _⟩
theorem slClip (l : List Int) (ln : Nat) (hln : ln = l.length) (ao : Option Addr) (cap : Nat) (w : World) (hr : Rd w ao cap l) :
    Calls Try.prog 125 #[.slice ao ln cap] w fun e w' => e = .returned (.slice ao ln ln) ∧ w = w' := by
  have hcap := hr.1
  rw [← hln] at hcap
  have hcap2 := hr.2.1
  unfold maxLen at hcap2
  have hn := hr.2.2.1
  cases ao with
  | none =>
    obtain rfl := hn rfl
    obtain rfl : ln = 0 := by omega
    clear hr hn hln
    go_enter Try.func125, Try.ntmps125
    go_wp2
    go_ret
    exact ⟨rfl, rfl⟩
  | some ad =>
    clear hr hn hln
    go_enter Try.func125, Try.ntmps125
    go_wp2
    go_ret
    exact ⟨rfl, rfl⟩
theorem trimmed (l : List Int) (ln : Nat) (hln : ln = l.length) (ao : Option Addr) (cap : Nat) (b : Int) (w : World) (hr : Rd w ao cap l) (b1 : 2 ≤ b) (hm : ∀ d ∈ l, 0 ≤ d ∧ d < b) :
    Calls Try.prog 103 #[.slice ao ln cap] w fun e w' => (∃ n, e = .returned (.slice ao n n) ∧ n = (Pl.dg b (Pl.val b l)).length ∧ Rd w ao n (Pl.dg b (Pl.val b l))) ∧ w = w' := by
  subst hln
  have HR := Lib.hid hr
  have HM := Lib.hid hm
  have hcap := hr.1
  have hcap2 := hr.2.1
  unfold maxLen at hcap2
  clear hr hm
  go_enter Try.func103, Try.ntmps103
  go_wp2
  go_loop [0] (fun vd => ∃ (n : Nat), n ≤ l.length ∧ vd = .slice ao n cap ∧ Hid (Pl.val b (l.take n) = Pl.val b l)) (fun vd => lenS vd)
  case atStart => exact ⟨l.length, Nat.le_refl _, rfl, Lib.hid (by rw [List.take_length])⟩
  case round =>
    obtain ⟨n, hn, rfl, hg⟩ := hrel
    have hnc : n ≤ cap := by omega
    have HN := Lib.hid (show n = (l.take n).length by rw [List.length_take]; omega)
    by_cases h0 : n = 0
    · subst h0
      have HE := Lib.hid (show 0 = (Pl.dg b (Pl.val b l)).length ∧ Rd w ao 0 (Pl.dg b (Pl.val b l)) from by
        have h : 0 = Pl.val b l := hg.out
        rw [← h, Pl.dg_zero]
        exact ⟨rfl, by have := (rd_front HR.out 0) |> rd_clip; simpa using this⟩)
      go_wp2_with fail
      refine (slClip (l.take 0) _ HN.out _ _ _ (rd_front HR.out 0)).mono ?_
      rintro e w' ⟨rfl, rfl⟩
      go_wp2
      go_ret
      exact ⟨⟨_, rfl, HE.out⟩, rfl⟩
    · obtain ⟨m, rfl⟩ : ∃ m, n = m + 1 := ⟨n - 1, by omega⟩
      obtain ⟨g, off, rfl, _, hc⟩ := HR.out.at (show m < l.length by omega)
      by_cases hz : l.getD m 0 = 0
      · have HE := Lib.hid ((trim_step hn hz).trans hg.out)
        rw [hz] at hc
        go_wp2
        go_round
        case rel => exact ⟨m, by omega, by first | rfl | simp, HE.out⟩
        case measure => simp [lenS]
      · have HE := Lib.hid (show m + 1 = (Pl.dg b (Pl.val b l)).length ∧ Rd w (some ⟨g, off, none⟩) (m + 1) (Pl.dg b (Pl.val b l)) from by
          rw [trim_done b1 HM.out hn hz hg.out]
          have e : (l.take (m + 1)).length = m + 1 := by rw [List.length_take]; omega
          exact ⟨e.symm, by have := (rd_front HR.out (m + 1)) |> rd_clip; rwa [e] at this⟩)
        have hz' := beq_eq_false_iff_ne.2 hz
        generalize l.getD m 0 = d at *
        clear hz
        go_wp2_with fail
        refine (slClip (l.take (m + 1)) _ HN.out _ _ _ (rd_front HR.out (m + 1))).mono ?_
        rintro e w' ⟨rfl, rfl⟩
        go_wp2
        go_ret
        exact ⟨⟨_, rfl, HE.out⟩, rfl⟩
theorem endsWell (l : List Int) (ln : Nat) (hln : ln = l.length) (ao : Option Addr) (cap : Nat) (w : World) (hr : Rd w ao cap l) (hl : l.length ≤ 60) (hz : ∀ d, l.getLast? = some d → d ≠ 0) :
    Calls Try.prog 128 #[.slice ao ln cap] w fun e w' => e = .returned (.bool true) ∧ w = w' := by
  subst hln
  by_cases h0 : l = []
  · subst h0
    clear hr hz
    go_enter Try.func128, Try.ntmps128
    go_wp2
    go_ret
    exact ⟨rfl, rfl⟩
  · have hpos := List.length_pos_iff.2 h0
    obtain ⟨k, hk⟩ : ∃ k, l.length = k + 1 := ⟨l.length - 1, by omega⟩
    obtain ⟨g, off, rfl, _, hc⟩ := hr.at (show k < l.length by omega)
    have hne : (l.getD k 0 != 0) = true := by
      rw [bne_iff_ne]
      refine hz _ ?_
      rw [List.getLast?_eq_getElem?, hk, Nat.add_sub_cancel, List.getD_eq_getElem?_getD, List.getElem?_eq_getElem (by omega)]; rfl
    have hcap := hr.1
    have hcap2 := hr.2.1
    unfold maxLen at hcap2
    rw [hk] at hcap hl ⊢
    clear hr hz h0 hpos hk
    generalize l.getD k 0 = d at *
    go_enter Try.func128, Try.ntmps128
    go_wp2
    go_ret
    exact ⟨rfl, rfl⟩
theorem digitsOkT (l : List Int) (ln : Nat) (hln : ln = l.length) (ao : Option Addr) (cap : Nat) (b : Int) (w : World) (hr : Rd w ao cap l) (hl : l.length ≤ 60) (b1 : 2 ≤ b) (b2 : b ≤ 16) (hm : ∀ d ∈ l, 0 ≤ d ∧ d < b) (hz : ∀ d, l.getLast? = some d → d ≠ 0) :
    Calls Try.prog 124 #[.slice ao ln cap, .int .i64 b] w fun e w' => e = .returned (.bool true) ∧ Below w.heap.size w w' := by
  subst hln
  have h := inB_mk b1 b2
  have hall : allB l 0 (b - 1) = true := by
    unfold allB
    rw [List.all_eq_true]
    intro d hd
    have := hm d hd
    exact inB_mk this.1 (by omega)
  have HA := Lib.hid hall
  have HR := Lib.hid hr
  have HZ := Lib.hid hz
  clear hall hr hz hm
  go_enter Try.func124, Try.ntmps124
  go_wp2_with (first | (go_at_call 79; refine (iBaseOk_any _ _).mono ?_; rintro e w' ⟨rfl, rfl⟩))
  refine (endsWell l _ rfl _ _ _ HR.out hl HZ.out).mono ?_
  rintro e w' ⟨rfl, rfl⟩
  go_wp2_with fail
  refine (allWithin l _ rfl _ _ _ _ _ HR.out).mono ?_
  rintro e w' ⟨rfl, hb1⟩
  rw [HA.out]
  go_wp2
  go_ret
  exact ⟨rfl, hb1⟩
/-- The number of some digits and whether it is small enough. -/
def voV (b : Int) (l : List Int) : Int × Bool := if Pl.val b l ≤ 1000000000000 then (Pl.val b l, true) else (0, false)
theorem voV_yes {b : Int} {l : List Int} (h : Pl.val b l ≤ 1000000000000) : (Pl.val b l, true) = voV b l := by rw [voV, if_pos h]
theorem voV_no {b : Int} {l : List Int} (h : 1000000000000 < Pl.val b l) : ((0 : Int), false) = voV b l := by rw [voV, if_neg (by omega)]
theorem iValueOf (l : List Int) (ln : Nat) (hln : ln = l.length) (ao : Option Addr) (cap : Nat) (b : Int) (w : World) (hr : Rd w ao cap l) (hl : l.length ≤ 60) (b1 : 2 ≤ b) (b2 : b ≤ 16) (hm : ∀ d ∈ l, 0 ≤ d ∧ d < b) (hz : ∀ d, l.getLast? = some d → d ≠ 0) :
    Calls Try.prog 102 #[.slice ao ln cap, .int .i64 b] w fun e w' => e = .returned (.tuple #[.int .i64 (voV b l).1, .bool (voV b l).2]) ∧ Below w.heap.size w w' := by
  subst hln
  have hcap := hr.1
  have hcap2 := hr.2.1
  unfold maxLen at hcap2
  have HM := Lib.hid hm
  have HM0 := Lib.hid (fun d hd => (hm d hd).1)
  have HR0 := Lib.hid hr
  have HZ := Lib.hid hz
  clear hm hr hz
  have HYes := Lib.hid (fun h : Pl.val b l ≤ 1000000000000 => voV_yes h)
  have HNo := Lib.hid (fun h : 1000000000000 < Pl.val b l => voV_no h)
  go_enter Try.func102, Try.ntmps102
  go_wp2_with fail
  refine (digitsOkT l _ rfl _ _ _ _ HR0.out hl b1 b2 HM.out HZ.out).mono ?_
  rintro e w1 ⟨rfl, hb1⟩
  have HR := Lib.hid (HR0.out.below hb1 (Nat.le_refl _))
  have HB := Lib.hid hb1
  clear hb1
  go_wp2
  go_loop [6, 7] (fun vt vi => ∃ (k : Nat), k ≤ l.length ∧ vi = .int .i64 ((k : Int) - 1) ∧ vt = .int .i64 (Pl.val b (l.drop k)) ∧ Pl.val b (l.drop k) ≤ 1000000000000) (fun _ vi => (intOf vi + 1).toNat)
  case atStart => exact ⟨l.length, Nat.le_refl _, rfl, (by rw [List.drop_length]; rfl), by rw [List.drop_length]; simp [Pl.val]⟩
  case round =>
    obtain ⟨k, hk, rfl, rfl, hle⟩ := hrel
    have ⟨v0, v1⟩ := Pl.val_drop_le (show 1 ≤ b by omega) HM0.out k
    by_cases hlt : 0 < k
    · obtain ⟨j, rfl⟩ : ∃ j, k = j + 1 := ⟨k - 1, by omega⟩
      obtain ⟨bl, off, rfl, _, hc⟩ := HR.out.at (show j < l.length by omega)
      have ⟨d0, d1⟩ := HM.out _ (Pl.getD_mem (show j < l.length by omega))
      have ⟨u0, u1⟩ := Pl.val_drop_le (show 1 ≤ b by omega) HM0.out j
      have HS := Lib.hid (Pl.val_drop_step b (show j < l.length by omega))
      rw [HS.out] at u0 u1
      have u2 : 0 ≤ Pl.val b (l.drop (j + 1)) * b := Int.mul_nonneg v0 (by omega)
      have u3 : Pl.val b (l.drop (j + 1)) * b ≤ 16000000000000 := by
        have : Pl.val b (l.drop (j + 1)) * b ≤ 1000000000000 * 16 := Int.mul_le_mul (by omega) b2 (by omega) (by omega)
        omega
      have e1 : ((j + 1 : Nat) : Int) - 1 = (j : Int) := by omega
      rw [e1]
      generalize Pl.val b (l.drop (j + 1)) = x at *
      generalize l.getD j 0 = d at *
      by_cases hbig : 1000000000000 < x * b + d
      · go_wp2
        go_ret2
        exact ⟨ret_two (HNo.out (by omega)), HB.out⟩
      · go_wp2
        go_round
        case rel => exact ⟨j, by omega, by first | rfl | (congr 1; omega), (by rw [HS.out]), (by rw [HS.out]; omega)⟩
        case measure => simp [intOf]
    · obtain rfl : k = 0 := by omega
      have HF := Lib.hid (HYes.out hle)
      go_wp2
      go_ret2
      exact ⟨ret_two HF.out, HB.out⟩
theorem iRev (n b : Int) (w : World) : Calls Try.prog 46 #[.int .i64 n, .int .i64 b] w fun e w' => e = .returned (.tuple #[.int .i64 (rvV n b).1, .bool (rvV n b).2]) ∧ Below w.heap.size w w' := by
  rcases inB_cases b 2 16 with h | h <;> rcases inB_cases n 0 1000000000000 with h' | h'
  case inl.inl =>
    have ⟨b1, b2⟩ := inB_t h
    have ⟨n1, n2⟩ := inB_t h'
    have hlen := Pl.dg_len40 b1 n1 n2
    have ⟨v0, v1⟩ := rvN_bd b1 b2 n1 n2
    have HM := Lib.hid (rev_mem b1 n1)
    have HV := Lib.hid (show Pl.val b (Pl.dg b n).reverse = rvN b n from rfl)
    have HW := Lib.hid (Pl.val_dg b1 v0)
    have HL := Lib.hid (show (Pl.dg b (rvN b n)).length ≤ 60 from (Pl.dg_len b1 60 _ v0).2 (by
      have h1 := Pl.pow_mono (show (0 : Int) ≤ 2 by omega) b1 60
      have h2 : (2 : Int) ^ 60 = 1152921504606846976 := by decide +kernel
      omega))
    have HD := Lib.hid (Pl.dg_mem b1 v0)
    have HZ := Lib.hid (Pl.dg_last b1 v0)
    have HE := Lib.hid (show voV b (Pl.dg b (rvN b n)) = rvV n b by
      rw [voV, Pl.val_dg b1 v0]
      by_cases hv : rvN b n ≤ 1000000000000
      · rw [if_pos hv]; exact rvV_yes h h' hv
      · rw [if_neg hv]; exact rvV_no (.inr (.inr (by omega))))
    go_enter Try.func46, Try.ntmps46
    go_wp2_with (first | (go_at_call 79; refine (iBaseOk_any _ _).mono ?_; rintro e w' ⟨rfl, rfl⟩) | (go_at_call 65; refine (isNumber_any _ _).mono ?_; rintro e w' ⟨rfl, rfl⟩))
    refine (digitsOf _ _ _ b1 b2 n1 n2).mono ?_
    rintro e w1 ⟨v, rfl, hown, hb1⟩
    go_wp2_with fail
    refine (slReverse _ _ _ _ hown).mono ?_
    rintro e w2 ⟨rfl, hown2, hb2⟩
    obtain ⟨ao2, cap2, e2, hrd2⟩ := hown2.shape
    subst e2
    have HB := Lib.hid (hb1.trans hb2)
    clear hown hown2 hb1 hb2
    go_wp2_with fail
    refine (trimmed _ _ (by simp) _ _ b _ hrd2 b1 HM.out).mono ?_
    rw [HV.out]
    rintro e w3 ⟨⟨k, rfl, hk, hrd3⟩, rfl⟩
    have HK := Lib.hid hk
    clear hk hrd2
    go_wp2_with fail
    refine (iValueOf _ _ HK.out _ _ _ _ hrd3 HL.out b1 b2 HD.out HZ.out).mono ?_
    rintro e w4 ⟨rfl, hb4⟩
    rw [HE.out]
    have HB4 := Lib.hid (HB.out.trans (hb4.mono HB.out.size))
    clear hb4 hrd3
    go_wp2
    go_ret2
    exact ⟨rfl, HB4.out⟩
  all_goals
    have HE := Lib.hid (rvV_no (n := n) (b := b) (by first | exact .inl h | exact .inr (.inl h')))
    go_enter Try.func46, Try.ntmps46
    go_wp2_with (first | (go_at_call 79; refine (iBaseOk_any _ _).mono ?_; rintro e w' ⟨rfl, rfl⟩) | (go_at_call 65; refine (isNumber_any _ _).mono ?_; rintro e w' ⟨rfl, rfl⟩))
    go_ret2
    exact ⟨ret_two HE.out, Below.refl _ _⟩
end Rev
end Go.Proofs.Ytioclijkglhigaa
