/-
  The contract of the equal sums of powers.
  Conditions: the ranges that it names.
-/
import Derived.Test.YtkddmngbfncocaaDoorSeqPl
import Derived.Test.YtkddmngbfncocaaDoorPow
import Derived.Test.YtkddmngbfncocaaDoorWords
import Derived.Deep.DeepCutAuto
import Derived.Deep.RegionWith
import Derived.IntWalk
import Derived.OwnWalk
namespace Go.Proofs.YtkddmngbfncocaaDoor
open Go.RowKit
namespace Sq
/-- The powers at the places where a sequence has one number. -/
def ep (e b : Nat) : Nat → Nat
  | 0 => 0
  | n + 1 => if seqI 1 n = b then ep e b n + n ^ e else ep e b n
def epAll : Bool := (List.range 7).all fun e => (List.range 65).all fun n => decide (ep e 0 n ≤ 10000000000000) && decide (ep e 1 n ≤ 10000000000000) && decide (n ^ e ≤ 100000000000)
theorem epAll_t : epAll = true := by kernel_rfl
theorem ep_le {e n : Nat} (he : e ≤ 6) (hn : n ≤ 64) : ep e 0 n ≤ 10000000000000 ∧ ep e 1 n ≤ 10000000000000 ∧ n ^ e ≤ 100000000000 := by
  have h := epAll_t
  unfold epAll at h
  rw [List.all_eq_true] at h
  have h := h e (List.mem_range.2 (by omega))
  rw [List.all_eq_true] at h
  have h := h n (List.mem_range.2 (by omega))
  simp only [Bool.and_eq_true, decide_eq_true_eq] at h
  exact ⟨h.1.1, h.1.2, h.2⟩
def eqAll : Bool := (List.range 7).all fun e => (List.range 7).all fun k => decide (e < k → ep e 0 (2 ^ k) = ep e 1 (2 ^ k)) && decide (e = 0 → ep e 0 (2 ^ k) + ep e 1 (2 ^ k) = 2 ^ k)
theorem eqAll_t : eqAll = true := by kernel_rfl
theorem ep_eq {e k : Nat} (he : e ≤ 6) (hk : k ≤ 6) : (e < k → ep e 0 (2 ^ k) = ep e 1 (2 ^ k)) ∧ (e = 0 → ep e 0 (2 ^ k) + ep e 1 (2 ^ k) = 2 ^ k) := by
  have h := eqAll_t
  unfold eqAll at h
  rw [List.all_eq_true] at h
  have h := h e (List.mem_range.2 (by omega))
  rw [List.all_eq_true] at h
  have h := h k (List.mem_range.2 (by omega))
  simp only [Bool.and_eq_true, decide_eq_true_eq] at h
  exact h
theorem pow_k {k : Nat} (h : k ≤ 6) : wrap64 ((2 : Int) ^ k) = ((2 ^ k : Nat) : Int) ∧ 2 ^ k ≤ 64 ∧ IntKind.i64.wrap ((2 : Int) ^ k) = ((2 ^ k : Nat) : Int) := by
  have hb : 2 ^ k ≤ 64 := by
    have : k = 0 ∨ k = 1 ∨ k = 2 ∨ k = 3 ∨ k = 4 ∨ k = 5 ∨ k = 6 := by omega
    rcases this with rfl | rfl | rfl | rfl | rfl | rfl | rfl <;> omega
  have e : (2 : Int) ^ k = ((2 ^ k : Nat) : Int) := by simp
  rw [e]
  generalize 2 ^ k = m at *
  refine ⟨?_, hb, IntWalk.i64_in _ (by omega)⟩
  unfold wrap64
  omega
/-- The two sums in their variable. -/
structure TwoC (w0 wr : World) (a b : Int) : Prop where
  c0 : wr.cell? ⟨w0.heap.size, 0, none⟩ = some (.int .i64 a)
  c1 : wr.cell? ⟨w0.heap.size, 1, none⟩ = some (.int .i64 b)
  free : ∀ j, wr.frozen? ⟨w0.heap.size, j, none⟩ = false
  bel : Below w0.heap.size w0 wr
theorem TwoC.new (w : World) : TwoC w (w.alloc (.cells #[.int .i64 0, .int .i64 0] 41)) 0 0 := by
  refine ⟨?_, ?_, ?_, (Below.refl _ _).alloc (Nat.le_refl _) _⟩
  · simp [World.cell?_alloc_new]
  · simp [World.cell?_alloc_new]
  · intro j; simp
theorem TwoC.drew {w wr : World} {a b : Int} (h : TwoC w wr a b) : TwoC w wr.drew a b := ⟨by rw [World.cell?_drew]; exact h.c0, by rw [World.cell?_drew]; exact h.c1, h.free, Below.drew h.bel⟩
theorem TwoC.set0 {w wr : World} {a b : Int} (h : TwoC w wr a b) (x : Int) : TwoC w (wr.setCell ⟨w.heap.size, 0, none⟩ (.int .i64 x)) x b := by
  refine ⟨World.cell?_setCell_same _ _ _ h.c0, ?_, ?_, h.bel.setCell (Nat.le_refl _) _⟩
  · rw [World.cell?_setCell_other]
    · exact h.c1
    · intro e'; simp at e' <;> omega
  · intro j; simpa using h.free j
theorem TwoC.set1 {w wr : World} {a b : Int} (h : TwoC w wr a b) (x : Int) : TwoC w (wr.setCell ⟨w.heap.size, 1, none⟩ (.int .i64 x)) a x := by
  refine ⟨?_, World.cell?_setCell_same _ _ _ h.c1, ?_, h.bel.setCell (Nat.le_refl _) _⟩
  · rw [World.cell?_setCell_other]
    · exact h.c0
    · intro e'; simp at e' <;> omega
  · intro j; simpa using h.free j
set_option maxHeartbeats 1000000 in
theorem iEps (k e : Nat) (hk1 : 1 ≤ k) (hk : k ≤ 6) (he : e ≤ 6) (w : World) (hT : TabAt 1 Lib.deBruijn64tab w) :
    Calls Tryd.prog 13 #[.int .i64 k, .int .i64 e] w fun r w' => r = .returned (.tuple #[.int .i64 (ep e 0 (2 ^ k)), .int .i64 (ep e 1 (2 ^ k)), .bool true]) ∧ Below w.heap.size w w' := by
  have HSeq := Lib.hid (show ∀ (n : Nat) wx, n ≤ 64 → Below w.heap.size w wx → Calls Tryd.prog 29 #[.int .i64 1, .int .i64 n] wx fun r w' => r = .returned (.int .i64 (seqI 1 n)) ∧ w' = wx from fun n wx hn hb => (iAt 1 n (by omega) (by omega) (by omega) wx (tab_below hT hb (Nat.le_refl _))).mono fun _ _ h => ⟨h.1, h.2.symm⟩)
  have HPow := Lib.hid (show ∀ (n : Nat) wx, n ≤ 64 → Calls Tryd.prog 31 #[.int .i64 n, .int .i64 e] wx fun r w' => r = .returned (.int .i64 (n ^ e : Nat)) ∧ w' = wx from fun n wx hn => as_int (by simp) ((ipower n e wx (by omega) (by omega) (fun k hk => by
    have h1 := (ep_le (e := k) (by omega) hn).2.2
    have h2 : (n : Int) ^ k = ((n ^ k : Nat) : Int) := by simp
    omega)).mono fun _ _ h => ⟨h.1, h.2.symm⟩))
  have ⟨hp1, hp2, _⟩ := pow_k hk
  have hkk := inB_mk (show (1 : Int) ≤ (k : Int) by omega) (show (k : Int) ≤ 6 by omega)
  have hee := inB_mk (show (0 : Int) ≤ (e : Int) by omega) (show (e : Int) ≤ 6 by omega)
  clear hT
  generalize 2 ^ k = m at *
  go_enter Tryd.func13, Tryd.ntmps13
  go_wp2_with (first | (go_at_call 22; refine (within_any _ _ _ _).mono ?_; rintro e w' ⟨rfl, rfl⟩))
  go_loopw [19] (fun vi wr => ∃ n : Nat, n ≤ m ∧ vi = .int .i64 n ∧ TwoC w wr (ep e 0 n) (ep e 1 n)) (fun vi _ => m - (intOf vi).toNat)
  case atStart => exact ⟨0, Nat.zero_le _, rfl, TwoC.new w⟩
  case round =>
    obtain ⟨n, hn, rfl, hc⟩ := hrel
    have HC := Lib.hid hc
    have hc0 := hc.c0
    have hc1 := hc.c1
    have hf0 := hc.free 0
    have hf1 := hc.free 1
    clear hc
    by_cases hlt : n < m
    · have HS := Lib.hid (HSeq.out n wr.drew (by omega) (Below.drew HC.out.bel))
      have HP := Lib.hid (HPow.out n wr.drew (by omega))
      have ⟨b0, b1, b2⟩ := ep_le he (show n ≤ 64 by omega)
      have h01 := (seq1 n (by omega)).2.2
      have hq : seqI 1 n = 0 ∨ seqI 1 n = 1 := by omega
      clear h01
      rcases hq with hq | hq
      · have HE0 := Lib.hid (show ep e 0 n + n ^ e = ep e 0 (n + 1) by show _ = (if seqI 1 n = 0 then ep e 0 n + n ^ e else ep e 0 n); rw [if_pos hq])
        have HE1 := Lib.hid (show ep e 1 n = ep e 1 (n + 1) by show _ = (if seqI 1 n = 1 then ep e 1 n + n ^ e else ep e 1 n); rw [if_neg (by omega)])
        rw [hq] at HS
        generalize ep e 0 n = a at *
        generalize ep e 1 n = b at *
        generalize n ^ e = x at *
        have hs1 : IntKind.i64.wrap ((a : Int) + (x : Int)) = ((a + x : Nat) : Int) := IntWalk.i64_in _ (by omega)
        go_upto_region 7 with fail
        go_region_with (first | (go_at_call 29; refine (HS.out).mono ?_; rintro r1 w1 ⟨rfl, rfl⟩) | (go_at_call 31; refine (HP.out).mono ?_; rintro r2 w2 ⟨rfl, rfl⟩))
        all_goals
          clear hs1
          go_wp2
          go_roundw
          case rel => exact ⟨n + 1, by omega, by go_num, by rw [← HE0.out, ← HE1.out]; exact HC.out.drew.set0 _⟩
          case measure => simp [intOf]; omega
      · have HE0 := Lib.hid (show ep e 0 n = ep e 0 (n + 1) by show _ = (if seqI 1 n = 0 then ep e 0 n + n ^ e else ep e 0 n); rw [if_neg (by omega)])
        have HE1 := Lib.hid (show ep e 1 n + n ^ e = ep e 1 (n + 1) by show _ = (if seqI 1 n = 1 then ep e 1 n + n ^ e else ep e 1 n); rw [if_pos hq])
        rw [hq] at HS
        generalize ep e 0 n = a at *
        generalize ep e 1 n = b at *
        generalize n ^ e = x at *
        have hs1 : IntKind.i64.wrap ((b : Int) + (x : Int)) = ((b + x : Nat) : Int) := IntWalk.i64_in _ (by omega)
        go_upto_region 7 with fail
        go_region_with (first | (go_at_call 29; refine (HS.out).mono ?_; rintro r1 w1 ⟨rfl, rfl⟩) | (go_at_call 31; refine (HP.out).mono ?_; rintro r2 w2 ⟨rfl, rfl⟩))
        all_goals
          clear hs1
          go_wp2
          go_roundw
          case rel => exact ⟨n + 1, by omega, by go_num, by rw [← HE0.out, ← HE1.out]; exact HC.out.drew.set1 _⟩
          case measure => simp [intOf]; omega
    · obtain rfl : n = m := by omega
      go_upto_region 9 with fail
      go_region
      go_wp2
      go_ret3
      exact ⟨rfl, Below.drew HC.out.bel⟩
end Sq
end Go.Proofs.YtkddmngbfncocaaDoor
