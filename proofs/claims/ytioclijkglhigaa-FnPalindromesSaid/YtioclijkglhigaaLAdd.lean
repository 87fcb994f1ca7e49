/-
  Contracts of the addition of long numbers.
  Conditions: none, or the ranges that a contract names.
-/
import Derived.Test.YtioclijkglhigaaSlicesB
namespace Go.Proofs.Ytioclijkglhigaa
open Go.RowKit
theorem l03At (l : List Int) (ln : Nat) (hln : ln = l.length) (ao : Option Addr) (cap : Nat) (k : Nat) (w : World) (hr : Rd w ao cap l) :
    Calls Try.prog 119 #[.slice ao ln cap, .int .i64 k] w fun e w' => e = .returned (.int .i64 (l.getD k 0)) ∧ w = w' := by
  subst hln
  have hcap := hr.1
  have hcap2 := hr.2.1
  unfold maxLen at hcap2
  by_cases hk : k < l.length
  · obtain ⟨b, off, rfl, _, hc⟩ := hr.at hk
    clear hr
    generalize l.getD k 0 = d at *
    go_enter Try.func119, Try.ntmps119
    go_wp2
    go_ret
    exact ⟨rfl, rfl⟩
  · have HE := Lib.hid (show 0 = l.getD k 0 by rw [List.getD_eq_getElem?_getD, List.getElem?_eq_none (by omega)]; rfl)
    clear hr
    have hd : decide (l.length ≤ k) = true := by simp; omega
    go_enter Try.func119, Try.ntmps119
    go_wp2
    go_ret
    exact ⟨ret_int HE.out, rfl⟩
theorem trim_step {b : Int} {l : List Int} {n : Nat} (hn : n + 1 ≤ l.length) (h0 : l.getD n 0 = 0) : Pl.val b (l.take n) = Pl.val b (l.take (n + 1)) := by
  have e : l.take (n + 1) = l.take n ++ [l.getD n 0] := by
    rw [List.take_add_one, List.getD_eq_getElem?_getD, List.getElem?_eq_getElem (by omega)]; rfl
  rw [e, h0, Pl.val_append]
  simp [Pl.val]
theorem trim_done {b : Int} {l : List Int} {n : Nat} (b1 : 2 ≤ b) (hm : ∀ d ∈ l, 0 ≤ d ∧ d < b) (hn : n + 1 ≤ l.length) (h0 : l.getD n 0 ≠ 0) (hv : Pl.val b (l.take (n + 1)) = Pl.val b l) : Pl.dg b (Pl.val b l) = l.take (n + 1) := by
  rw [← hv]
  refine (Pl.dg_val b1 _ (fun d hd => hm d (List.mem_of_mem_take hd)) ?_).1
  intro d hd
  have e : l.take (n + 1) = l.take n ++ [l.getD n 0] := by
    rw [List.take_add_one, List.getD_eq_getElem?_getD, List.getElem?_eq_getElem (by omega)]; rfl
  rw [e, List.getLast?_append] at hd
  simp at hd
  rw [← hd]; simpa using h0
theorem Rd.front {w : World} {ao : Option Addr} {cap : Nat} {l : List Int} (h : Rd w ao cap l) (s : Nat) : Rd w ao cap (l.take s) := by
  obtain ⟨h1, h2, h3, h4⟩ := h
  refine ⟨by rw [List.length_take]; omega, h2, h3, ?_⟩
  rcases h4 with rfl | ⟨b, off, e, hl, hc⟩
  · left; simp
  · refine .inr ⟨b, off, e, hl, fun j hj => ?_⟩
    rw [List.length_take] at hj
    rw [hc j (by omega), List.getD_eq_getElem?_getD, List.getD_eq_getElem?_getD, List.getElem?_take, if_pos (by omega)]
/-- The trimmed list is the list of digits of its value. -/
theorem l03Trim (l : List Int) (ln : Nat) (hln : ln = l.length) (ao : Option Addr) (cap : Nat) (b : Int) (w : World) (hr : Rd w ao cap l) (b1 : 2 ≤ b) (hm : ∀ d ∈ l, 0 ≤ d ∧ d < b) :
    Calls Try.prog 120 #[.slice ao ln cap] w fun e w' => (∃ n, e = .returned (.slice ao n cap) ∧ n = (Pl.dg b (Pl.val b l)).length ∧ Rd w ao cap (Pl.dg b (Pl.val b l))) ∧ Below w.heap.size w w' := by
  subst hln
  have HR := Lib.hid hr
  have HM := Lib.hid hm
  have hcap := hr.1
  have hcap2 := hr.2.1
  unfold maxLen at hcap2
  clear hr hm
  go_enter Try.func120, Try.ntmps120
  go_wp2
  go_loop [3] (fun vn => ∃ (n : Nat), n ≤ l.length ∧ vn = .int .i64 n ∧ Hid (Pl.val b (l.take n) = Pl.val b l)) (fun vn => (intOf vn).toNat)
  case atStart => exact ⟨l.length, Nat.le_refl _, rfl, Lib.hid (by rw [List.take_length])⟩
  case round =>
    obtain ⟨n, hn, rfl, hg⟩ := hrel
    by_cases h0 : n = 0
    · subst h0
      have HE := Lib.hid (show 0 = (Pl.dg b (Pl.val b l)).length ∧ Rd w ao cap (Pl.dg b (Pl.val b l)) from by
        have h : 0 = Pl.val b l := hg.out
        rw [← h, Pl.dg_zero]
        exact ⟨rfl, by have := HR.out.front 0; simpa using this⟩)
      go_wp2
      go_ret
      exact ⟨⟨_, rfl, HE.out⟩, Below.refl _ _⟩
    · obtain ⟨m, rfl⟩ : ∃ m, n = m + 1 := ⟨n - 1, by omega⟩
      obtain ⟨g, off, rfl, _, hc⟩ := HR.out.at (show m < l.length by omega)
      by_cases hz : l.getD m 0 = 0
      · have HE := Lib.hid ((trim_step hn hz).trans hg.out)
        rw [hz] at hc
        go_wp2
        go_round
        case rel => exact ⟨m, by omega, by go_num, HE.out⟩
        case measure => simp [intOf]
      · have HE := Lib.hid (show m + 1 = (Pl.dg b (Pl.val b l)).length ∧ Rd w (some ⟨g, off, none⟩) cap (Pl.dg b (Pl.val b l)) from by
          rw [trim_done b1 HM.out hn hz hg.out]
          exact ⟨by rw [List.length_take]; omega, HR.out.front _⟩)
        have hz' := beq_eq_false_iff_ne.2 hz
        generalize l.getD m 0 = d at *
        clear hz
        go_wp2
        go_ret
        exact ⟨⟨_, rfl, HE.out⟩, Below.refl _ _⟩
/-- A round of the addition. -/
theorem add_step {b k1 : Int} {a c xs : List Int} {k : Nat} {V : Int} (hk : xs.length = k)
    (h : Pl.val b xs + b ^ k * (k1 + Pl.val b (a.drop k) + Pl.val b (c.drop k)) = V) :
    Pl.val b (xs ++ [(a.getD k 0 + c.getD k 0 + k1) % b]) + b ^ (k + 1) * ((a.getD k 0 + c.getD k 0 + k1) / b + Pl.val b (a.drop (k + 1)) + Pl.val b (c.drop (k + 1))) = V := by
  have dr : ∀ l : List Int, Pl.val b (l.drop k) = l.getD k 0 + b * Pl.val b (l.drop (k + 1)) := by
    intro l
    by_cases hl : k < l.length
    · rw [Pl.val_drop_step b hl, Int.mul_comm b]; omega
    · rw [Pl.drop_all (by omega), Pl.drop_all (show l.length ≤ k + 1 by omega), List.getD_eq_getElem?_getD, List.getElem?_eq_none (by omega)]; simp [Pl.val]
  rw [dr a, dr c] at h
  rw [Pl.val_append, hk, ← h]
  have e := Int.mul_ediv_add_emod (a.getD k 0 + c.getD k 0 + k1) b
  have v1 : Pl.val b [(a.getD k 0 + c.getD k 0 + k1) % b] = (a.getD k 0 + c.getD k 0 + k1) % b := by simp [Pl.val]
  rw [v1]
  generalize (a.getD k 0 + c.getD k 0 + k1) / b = q at *
  generalize (a.getD k 0 + c.getD k 0 + k1) % b = r at *
  rw [Int.pow_succ]
  grind
theorem l03Add (l m : List Int) (ln mn : Nat) (hln : ln = l.length) (hmn : mn = m.length) (ao bo : Option Addr) (cap cap' : Nat) (b : Int) (w : World) (hr : Rd w ao cap l) (hr' : Rd w bo cap' m) (b1 : 2 ≤ b) (b2 : b ≤ 16)
    (hl : l.length ≤ 100000) (hl' : m.length ≤ 100000) (hm : ∀ j, 0 ≤ l.getD j 0 ∧ l.getD j 0 < b) (hm' : ∀ j, 0 ≤ m.getD j 0 ∧ m.getD j 0 < b) :
    Calls Try.prog 93 #[.slice ao ln cap, .slice bo mn cap', .int .i64 b] w fun e w' => (∃ ao n cap, e = .returned (.slice ao n cap) ∧ n = (Pl.dg b (Pl.val b l + Pl.val b m)).length ∧ Rd w' ao cap (Pl.dg b (Pl.val b l + Pl.val b m))) ∧ Below w.heap.size w w' := by
  have HR := Lib.hid hr
  have HR' := Lib.hid hr'
  have HM := Lib.hid hm
  have HM' := Lib.hid hm'
  have HL := Lib.hid hln
  have HL' := Lib.hid hmn
  have ll : ln ≤ 100000 := by omega
  have ll' : mn ≤ 100000 := by omega
  have hcap := hr.1
  have hcap' := hr'.1
  have hc2 := hr.2.1
  have hc2' := hr'.2.1
  unfold maxLen at hc2 hc2'
  rw [← hln] at hcap
  rw [← hmn] at hcap'
  clear hr hr' hm hm' hln hmn hl hl'
  go_enter Try.func93, Try.ntmps93
  go_wp2
  go_loopw [7, 8, 9] (fun vo vc vk wr => ∃ (k : Nat) (c : Int) (xs : List Int), k ≤ 100001 ∧ (k ≤ ln ∨ k ≤ mn ∨ (k = max ln mn + 1 ∧ c = 0)) ∧ 0 ≤ c ∧ c ≤ 1 ∧ vc = .int .i64 c ∧ vk = .int .i64 k ∧ Own wr w.heap.size vo xs ∧ Hid (xs.length = k) ∧ Hid (∀ d ∈ xs, 0 ≤ d ∧ d < b) ∧ Hid (Pl.val b xs + b ^ k * (c + Pl.val b (l.drop k) + Pl.val b (m.drop k)) = Pl.val b l + Pl.val b m) ∧ Below w.heap.size w wr) (fun _ _ vk _ => 100002 - (intOf vk).toNat)
  case atStart => exact ⟨0, 0, [], by omega, by omega, by omega, by omega, rfl, rfl, own_made _, Lib.hid rfl, Lib.hid (by simp), Lib.hid (by simp [Pl.val]), (Below.refl _ _).alloc (Nat.le_refl _) _⟩
  case round =>
    obtain ⟨k, c, xs, hk, hk', c0, c1, rfl, rfl, hown, hxl, hxm, hg, hbel⟩ := hrel
    have HO := Lib.hid hown
    clear hown
    have hx : xs.length < 1000000000000 := by have := hxl.out; omega
    have hsz := hbel.size
    have R1 := Lib.hid (HR.out.below hbel (Nat.le_refl _))
    have R2 := Lib.hid (HR'.out.below hbel (Nat.le_refl _))
    have hcases : decide (k < ln) = true ∨ (decide (k < ln) = false ∧ decide (k < mn) = true) ∨ (decide (k < ln) = false ∧ decide (k < mn) = false ∧ 0 < c) ∨ (decide (k < ln) = false ∧ decide (k < mn) = false ∧ c = 0) := by
      simp only [decide_eq_true_eq, decide_eq_false_iff_not]; omega
    have z1 : ln ≤ k → l.getD k 0 = 0 := fun h => by rw [List.getD_eq_getElem?_getD, List.getElem?_eq_none (by have := HL.out; omega)]; rfl
    have z2 : mn ≤ k → m.getD k 0 = 0 := fun h => by rw [List.getD_eq_getElem?_getD, List.getElem?_eq_none (by have := HL'.out; omega)]; rfl
    have ⟨a1, a2⟩ := HM.out k
    have ⟨a3, a4⟩ := HM'.out k
    have HS := Lib.hid (add_step (a := l) (c := m) hxl.out hg.out)
    have q0 : 0 ≤ (l.getD k 0 + m.getD k 0 + c) / b := Pl.div_nn (by omega) (by omega)
    have q1 : (l.getD k 0 + m.getD k 0 + c) / b < 2 := (Pl.div_lt_iff (by omega)).2 (by omega)
    have q2 : ln ≤ k → mn ≤ k → (l.getD k 0 + m.getD k 0 + c) / b = 0 := fun h h' => by rw [z1 h, z2 h']; exact Int.ediv_eq_zero_of_lt (by omega) (by omega)
    have q3 := Pl.mod_nn (a := l.getD k 0 + m.getD k 0 + c) (show 0 < b by omega)
    have q4 := Pl.mod_lt (a := l.getD k 0 + m.getD k 0 + c) (show 0 < b by omega)
    have Q2 := Lib.hid q2
    clear z1 z2 q2
    rcases hcases with hA | ⟨hA, hB⟩ | ⟨hA, hB, hC⟩ | ⟨hA, hB, hC⟩
    case inr.inr.inr =>
      have HE := Lib.hid (show Pl.val b xs = Pl.val b l + Pl.val b m from by
        have h := hg.out
        have h1 := of_decide_eq_false hA
        have h2 := of_decide_eq_false hB
        rw [Pl.drop_all (l := l) (by have := HL.out; omega), Pl.drop_all (l := m) (by have := HL'.out; omega), hC] at h
        simpa [Pl.val] using h)
      obtain ⟨aq, cq, rfl, hrq⟩ := HO.out.shape
      clear HO
      subst hC
      go_wp2_with fail
      refine (l03Trim xs _ (by simp) _ _ b _ hrq b1 hxm.out).mono ?_
      rw [HE.out]
      rintro e w2 ⟨⟨n, rfl, en, hrn⟩, hb2⟩
      go_wp2
      go_ret
      exact ⟨⟨_, _, _, rfl, (by first | rfl | exact en), hrn.below hb2 (Nat.le_refl _)⟩, hbel.trans (hb2.mono hsz)⟩
    all_goals
      go_wp2_with fail
      refine (l03At l _ HL.out _ _ _ _ R1.out).mono ?_
      rintro e w' ⟨rfl, rfl⟩
      generalize l.getD k 0 = d1 at *
      go_wp2_with fail
      refine (l03At m _ HL'.out _ _ _ _ R2.out).mono ?_
      rintro e w' ⟨rfl, rfl⟩
      generalize m.getD k 0 = d2 at *
      go_wp2_with (at_builtin; refine wp_push wr _ _ xs ((d1 + d2 + c) % b) HO.out rfl _ _ rfl rfl rfl hx hsz ?_; intro v1 w1 hown1 hb1')
      go_roundw
      case rel =>
        have kk : k + 1 ≤ 100001 ∧ (k + 1 ≤ ln ∨ k + 1 ≤ mn ∨ (k + 1 = max ln mn + 1 ∧ (d1 + d2 + c) / b = 0)) := by
          by_cases hk1 : k < ln
          · omega
          by_cases hk2 : k < mn
          · omega
          have hA' : decide (k < ln) = false := by simp; omega
          have := Q2.out (by omega) (by omega)
          simp only [decide_eq_true_eq, decide_eq_false_iff_not] at *
          omega
        exact ⟨k + 1, (d1 + d2 + c) / b, xs ++ [(d1 + d2 + c) % b], kk.1, kk.2, q0, by omega, rfl, by go_num, hown1, Lib.hid (by have := hxl.out; simp; omega), Lib.hid (fun d hd => by
          rcases List.mem_append.1 hd with h | h
          · exact hxm.out d h
          · simp at h; subst h; exact ⟨q3, q4⟩), HS, hbel.trans hb1'⟩
      case measure => simp [intOf]; omega
end Go.Proofs.Ytioclijkglhigaa
