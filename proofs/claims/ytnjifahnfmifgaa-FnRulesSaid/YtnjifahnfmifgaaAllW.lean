/-
  Contracts of the tests whether all numbers of a list lie in a range.
  Conditions: none.
-/
import Derived.Test.YtnjifahnfmifgaaSlicesB
namespace Go.Proofs.Ytnjifahnfmifgaa
open Go.RowKit
def allB (l : List Int) (lo hi : Int) : Bool := l.all fun x => inB x lo hi
theorem allB_t {l : List Int} {lo hi : Int} (h : ∀ j, j < l.length → inB (l.getD j 0) lo hi = true) : allB l lo hi = true := by
  unfold allB
  rw [List.all_eq_true]
  intro x hx
  obtain ⟨i, hi', e⟩ := List.mem_iff_getElem.1 hx
  have := h i hi'
  rw [List.getD_eq_getElem?_getD, List.getElem?_eq_getElem hi'] at this
  rw [← e]; exact this
theorem allB_f {l : List Int} {lo hi : Int} {j : Nat} (hj : j < l.length) (h : inB (l.getD j 0) lo hi = false) : allB l lo hi = false := by
  unfold allB
  rw [List.all_eq_false]
  exact ⟨_, Pl.getD_mem hj, by rw [h]; simp⟩
theorem allB_get {l : List Int} {lo hi : Int} (h : allB l lo hi = true) {j : Nat} (hj : j < l.length) : lo ≤ l.getD j 0 ∧ l.getD j 0 ≤ hi := by
  unfold allB at h
  rw [List.all_eq_true] at h
  exact inB_t (h _ (Pl.getD_mem hj))
theorem within1 (x lo hi : Int) (B1 B2 : Nat) (w : World) (h1 : w.cell? ⟨B1, 0, none⟩ = some (.int .i64 lo)) (h2 : w.cell? ⟨B2, 0, none⟩ = some (.int .i64 hi)) :
    Calls Try.prog 71 #[.int .i64 x, .pointer (some ⟨B1, 0, none⟩), .pointer (some ⟨B2, 0, none⟩)] w fun e w' => e = .returned (.bool (!inB x lo hi)) ∧ w = w' := by
  go_enter Try.func71, Try.ntmps71
  go_wp2_with (first | (go_at_call 40; refine (within_any _ _ _ _).mono ?_; rintro e w' ⟨rfl, rfl⟩))
  go_ret
  exact ⟨rfl, rfl⟩
theorem idxFunc (l : List Int) (ln : Nat) (hln : ln = l.length) (ao : Option Addr) (cap : Nat) (lo hi : Int) (B1 B2 : Nat) (w : World) (hr : Rd w ao cap l)
    (h1 : w.cell? ⟨B1, 0, none⟩ = some (.int .i64 lo)) (h2 : w.cell? ⟨B2, 0, none⟩ = some (.int .i64 hi)) :
    Calls Try.prog 76 #[.slice ao ln cap, .func (.func 71) #[] #[.pointer (some ⟨B1, 0, none⟩), .pointer (some ⟨B2, 0, none⟩)]] w fun e w' => ∃ r, e = .returned (.int .i64 r) ∧ decide (0 ≤ r) = !allB l lo hi ∧ w = w' := by
  subst hln
  have HR := Lib.hid hr
  have hcap := hr.1
  have hcap2 := hr.2.1
  unfold maxLen at hcap2
  have H1 := Lib.hid h1
  have H2 := Lib.hid h2
  clear hr h1 h2
  go_enter Try.func76, Try.ntmps76
  go_wp2
  go_loop [8] (fun vi => ∃ (k : Nat), k ≤ l.length ∧ vi = .int .i64 k ∧ Hid (∀ j, j < k → inB (l.getD j 0) lo hi = true)) (fun vi => l.length - (intOf vi).toNat)
  case atStart => exact ⟨0, Nat.zero_le _, rfl, (fun j hj => absurd hj (by omega))⟩
  case round =>
    obtain ⟨k, hk, rfl, hg⟩ := hrel
    by_cases hlt : k < l.length
    · obtain ⟨b, off, rfl, _, hc⟩ := HR.out.at hlt
      rcases inB_cases (l.getD k 0) lo hi with h | h
      · have HE := Lib.hid (show ∀ j, j < k + 1 → inB (l.getD j 0) lo hi = true from fun j hj => if e : j = k then (by subst e; exact h) else hg.out j (by omega))
        generalize l.getD k 0 = d at *
        go_wp2_with (go_at_call 71; refine (within1 _ _ _ _ _ _ H1.out H2.out).mono ?_; rintro e w' ⟨rfl, rfl⟩)
        go_round
        case rel => exact ⟨k + 1, by omega, by go_num, HE.out⟩
        case measure => simp [intOf]; omega
      · have HE := Lib.hid (show decide (0 ≤ (k : Int)) = !allB l lo hi by rw [allB_f hlt h]; simp)
        generalize l.getD k 0 = d at *
        go_wp2_with (go_at_call 71; refine (within1 _ _ _ _ _ _ H1.out H2.out).mono ?_; rintro e w' ⟨rfl, rfl⟩)
        go_ret
        exact ⟨_, rfl, HE.out, rfl⟩
    · have HE := Lib.hid (show decide (0 ≤ (-1 : Int)) = !allB l lo hi by rw [allB_t (fun j hj => hg.out j (by omega))]; rfl)
      go_wp2
      go_ret
      exact ⟨_, rfl, HE.out, rfl⟩
theorem containsFunc (l : List Int) (ln : Nat) (hln : ln = l.length) (ao : Option Addr) (cap : Nat) (lo hi : Int) (B1 B2 : Nat) (w : World) (hr : Rd w ao cap l)
    (h1 : w.cell? ⟨B1, 0, none⟩ = some (.int .i64 lo)) (h2 : w.cell? ⟨B2, 0, none⟩ = some (.int .i64 hi)) :
    Calls Try.prog 70 #[.slice ao ln cap, .func (.func 71) #[] #[.pointer (some ⟨B1, 0, none⟩), .pointer (some ⟨B2, 0, none⟩)]] w fun e w' => e = .returned (.bool (!allB l lo hi)) ∧ w = w' := by
  subst hln
  have HR := Lib.hid hr
  have H1 := Lib.hid h1
  have H2 := Lib.hid h2
  clear hr h1 h2
  go_enter Try.func70, Try.ntmps70
  go_wp2_with fail
  refine (idxFunc _ _ (by simp) _ _ _ _ _ _ _ HR.out H1.out H2.out).mono ?_
  rintro e w' ⟨r, rfl, hi, rfl⟩
  have HI := Lib.hid hi
  clear hi
  go_wp2
  go_ret
  exact ⟨ret_bool HI.out, rfl⟩
theorem allWithin (l : List Int) (ln : Nat) (hln : ln = l.length) (ao : Option Addr) (cap : Nat) (lo hi : Int) (w : World) (hr : Rd w ao cap l) :
    Calls Try.prog 51 #[.slice ao ln cap, .int .i64 lo, .int .i64 hi] w fun e w' => e = .returned (.bool (allB l lo hi)) ∧ Below w.heap.size w w' := by
  subst hln
  have hmf : ∀ (fn : Fn) (first cap : Array Value) (w : World), (Instr.makeFunc fn first cap).run Try.prog w = .ok (.func fn first cap) w := fun _ _ _ _ => rfl
  have hb : Below w.heap.size w ((w.alloc (.cells #[.int .i64 lo] 3)).alloc (.cells #[.int .i64 hi] 3)) := ((Below.refl _ _).alloc (Nat.le_refl _) _).alloc (by simp) _
  have HR := Lib.hid (hr.below hb (Nat.le_refl _))
  have HB := Lib.hid hb
  have h1 : ((w.alloc (.cells #[.int .i64 lo] 3)).alloc (.cells #[.int .i64 hi] 3)).cell? ⟨w.heap.size, 0, none⟩ = some (.int .i64 lo) := by
    rw [World.cell?_alloc_past _ _ _ (by simp), World.cell?_alloc_at _ _ _ _ rfl]; rfl
  have h2 : ((w.alloc (.cells #[.int .i64 lo] 3)).alloc (.cells #[.int .i64 hi] 3)).cell? ⟨w.heap.size + 1, 0, none⟩ = some (.int .i64 hi) := by
    rw [World.cell?_alloc_at _ _ _ _ (by simp)]; rfl
  have H1 := Lib.hid h1
  have H2 := Lib.hid h2
  clear hr hb h1 h2
  go_enter Try.func51, Try.ntmps51
  go_wp2_with fail
  refine (containsFunc _ _ (by simp) _ _ _ _ _ _ _ HR.out H1.out H2.out).mono ?_
  rintro e w' ⟨rfl, rfl⟩
  go_wp2
  go_ret
  exact ⟨ret_bool (by simp), HB.out⟩
end Go.Proofs.Ytnjifahnfmifgaa
