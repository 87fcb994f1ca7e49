/-
  Contracts of the expansions of 1 / q, for q from 2 to 10.
  Conditions: the ranges that a contract names.
-/
import Derived.Test.YtnjifahnfmifgaaMapL
import Derived.Test.YtnjifahnfmifgaaSlicesD
import Derived.Deep.RegionHeld3
import Derived.Deep.AppendLies
namespace Go.Proofs.Ytnjifahnfmifgaa
open Go.RowKit
namespace Xp
open Go.Maps Cy
def xf (b q x : Int) : Int := x * b % q
theorem orb_bd {b q : Int} (q1 : 2 ≤ q) : ∀ i, 0 ≤ Pl.orb (xf b q) 1 i ∧ Pl.orb (xf b q) 1 i < q := by
  intro i
  cases i with
  | zero => show (0 : Int) ≤ 1 ∧ 1 < q; omega
  | succ i => exact ⟨Int.emod_nonneg _ (by omega), Int.emod_lt_of_pos _ (by omega)⟩
theorem first {b q : Int} (q1 : 2 ≤ q) (q2 : q ≤ 10) : ∃ N P, N ≤ 10 ∧ Pl.IsFirst (xf b q) 1 N P := by
  obtain ⟨N, P, h1, h2⟩ := Pl.first_exists (f := xf b q) (n := 1) (M := q) (orb_bd q1)
  exact ⟨N, P, by omega, h2⟩
/-- The first N digits. -/
def xdL (b q : Int) (N : Nat) : List Int := (Pl.orbL (xf b q) 1 N).map fun x => x * b / q
theorem xdL_len (b q : Int) (N : Nat) : (xdL b q N).length = N := by simp [xdL, Pl.orbL_len]
theorem xdL_succ (b q : Int) (N : Nat) : xdL b q (N + 1) = xdL b q N ++ [Pl.orb (xf b q) 1 N * b / q] := by simp [xdL, Pl.orbL_succ]
theorem xdL_mem {b q : Int} (b1 : 2 ≤ b) (q1 : 2 ≤ q) (N : Nat) : ∀ d ∈ xdL b q N, 0 ≤ d ∧ d < b := by
  intro d hd
  obtain ⟨x, hx, rfl⟩ := List.mem_map.1 hd
  obtain ⟨i, _, rfl⟩ := List.mem_map.1 hx
  have h := orb_bd (b := b) q1 i
  refine ⟨Int.ediv_nonneg (Int.mul_nonneg h.1 (by omega)) (by omega), Int.ediv_lt_of_lt_mul (by omega) ?_⟩
  rw [Int.mul_comm b q]
  exact Int.mul_lt_mul_of_pos_right h.2 (by omega)
/-- The period. -/
def perL (b q : Int) (N P : Nat) : List Int := if Pl.orb (xf b q) 1 P = 0 then [] else (xdL b q N).drop P
theorem perL_len {b q : Int} {N P : Nat} : (perL b q N P).length = if Pl.orb (xf b q) 1 P = 0 then 0 else N - P := by
  unfold perL; split <;> simp [xdL_len]
theorem perL_mem {b q : Int} (b1 : 2 ≤ b) (q1 : 2 ≤ q) (N P : Nat) : ∀ d ∈ perL b q N P, 0 ≤ d ∧ d < b := by
  intro d hd
  unfold perL at hd
  split at hd
  · simp at hd
  · exact xdL_mem b1 q1 N d (List.mem_of_mem_drop hd)
def ExpP (w' : World) (l : List Int) (e : Ending) : Prop := ∃ v1 ao cap, e = .returned (.tuple #[v1, .slice ao l.length cap, .bool true]) ∧ Rd w' ao cap l
theorem step_bd {b q x : Int} (b1 : 2 ≤ b) (b2 : b ≤ 16) (q1 : 2 ≤ q) (q2 : q ≤ 10) (x0 : 0 ≤ x) (x1 : x < q) : 0 ≤ x * b ∧ x * b ≤ 160 ∧ 0 ≤ x * b / q ∧ x * b / q < b ∧ 0 ≤ x * b % q ∧ x * b % q < q := by
  have h1 : 0 ≤ x * b := Int.mul_nonneg x0 (by omega)
  have h2 : x * b ≤ q * b := Int.mul_le_mul_of_nonneg_right (by omega) (by omega)
  have h3 : q * b ≤ 10 * b := Int.mul_le_mul_of_nonneg_right (by omega) (by omega)
  have h4 : x * b < q * b := Int.mul_lt_mul_of_pos_right x1 (by omega)
  exact ⟨h1, by omega, Int.ediv_nonneg h1 (by omega), Int.ediv_lt_of_lt_mul (by omega) (by rw [Int.mul_comm b q]; exact h4), Int.emod_nonneg _ (by omega), Int.emod_lt_of_pos _ (by omega)⟩
theorem isFr (q : Int) (w : World) (q1 : 2 ≤ q) (q2 : q ≤ 10) : Calls Try.prog 67 #[.int .i64 1, .int .i64 q] w fun e w' => e = .returned (.bool true) ∧ w = w' := by
  have h1 := inB_mk (show 1 ≤ q by omega) (show q ≤ 1000 by omega)
  have h2 := inB_mk (show (0 : Int) ≤ 1 by omega) (show (1 : Int) ≤ q - 1 by omega)
  go_enter Try.func67, Try.ntmps67
  go_wp2_with (first | (go_at_call 40; refine (within_any _ _ _ _).mono ?_; rintro e w' ⟨rfl, rfl⟩))
  go_ret
  exact ⟨rfl, rfl⟩
set_option maxRecDepth 100000 in
set_option maxHeartbeats 2000000 in
theorem iExp (q b : Int) (N P : Nat) (w : World) (b1 : 2 ≤ b) (b2 : b ≤ 16) (q1 : 2 ≤ q) (q2 : q ≤ 10) (hf : Pl.IsFirst (xf b q) 1 N P) (hN : N ≤ 10) :
    Calls Try.prog 41 #[.int .i64 1, .int .i64 q, .int .i64 b] w fun e w' => ExpP w' (perL b q N P) e ∧ Below w.heap.size w w' := by
  have HF := Lib.hid hf
  have HBD := Lib.hid (orb_bd (b := b) q1)
  have hbo := inB_mk b1 b2
  have hmm := @run_makeMap Try.prog
  clear hf
  go_enter Try.func41, Try.ntmps41
  go_wp2_with fail
  refine (isFr q _ q1 q2).mono ?_
  rintro e w1 ⟨rfl, rfl⟩
  go_wp2_with (first | (go_at_call 49; refine (iBaseOk_any _ _).mono ?_; rintro e w' ⟨rfl, rfl⟩))
  go_loopw [0, 10] (fun vn vl wr => ∃ (k : Nat) (x : Int) (D : DataW Unit), k ≤ N ∧ vn = .int .i64 x ∧ 0 ≤ x ∧ x < q ∧ Hid (Pl.orb (xf b q) 1 k = x) ∧ Own wr (w.heap.size + 1) vl (xdL b q k) ∧ wr.ownsMap Try.prog 3 (plainElem Try.prog 3) w.heap.size k D ∧ Hid (MapL D (Pl.orbL (xf b q) 1 k)) ∧ Below w.heap.size w wr) (fun _ vl _ => N - lenS vl)
  case atStart =>
    exact ⟨0, 1, .map [], Nat.zero_le _, rfl, by omega, by omega, Lib.hid rfl, own_nil _ _, World.ownsMap_made _ _ _ _, Lib.hid mapL_nil, (Below.refl _ _).alloc (Nat.le_refl _) _⟩
  case round =>
    obtain ⟨k, x, D, hk, rfl, x0, x1, hx, hown, hmap, hD, hbel⟩ := hrel
    obtain ⟨ao, cap, ev, hrd⟩ := hown.shape
    rw [xdL_len] at ev
    subst ev
    have HO := Lib.hid hown
    have HMp := Lib.hid hmap
    have HB := Lib.hid hbel
    have HRD := Lib.hid hrd
    clear hown hmap hbel hrd
    have HKey := Lib.hid (keyI x (by omega))
    by_cases hkN : k < N
    · have hhas : Maps.has D (.int .i64 x) = false := by
        rw [hD.out.has]
        simp only [decide_eq_false_iff_not]
        intro hm
        obtain ⟨j, hj, e⟩ := mem_getD.1 hm
        rw [Pl.orbL_len] at hj
        rw [Pl.orbL_get hj, ← hx.out] at e
        exact HF.out.2.2 j k hj hkN e
      have HXm := Lib.hid (show x ∉ Pl.orbL (xf b q) 1 k from fun hm => by
        have := hD.out.has x
        rw [hhas] at this
        simp [hm] at this)
      have HD2 := Lib.hid (show MapL (D.put (.int .i64 x) (.lit (.int .i64 (k : Int)))) (Pl.orbL (xf b q) 1 (k + 1)) by
        have := hD.out.put HXm.out trivial
        rwa [Pl.orbL_len, show Pl.orbL (xf b q) 1 k ++ [x] = Pl.orbL (xf b q) 1 (k + 1) by rw [Pl.orbL_succ, hx.out]] at this)
      have HX := Lib.hid (show (xdL b q k).length < 1000000000000 by rw [xdL_len]; omega)
      have HL2 := Lib.hid (show xdL b q k ++ [x * b / q] = xdL b q (k + 1) by rw [xdL_succ, hx.out])
      have HX2 := Lib.hid (show Pl.orb (xf b q) 1 (k + 1) = x * b % q by rw [← hx.out]; rfl)
      have hlt0 := HMp.out.lt
      have ⟨s1, s2, s3, s4, s5, s6⟩ := step_bd b1 b2 q1 q2 x0 x1
      go_wp2_with (first
        | (at_lookup; refine wpList_lookup_own_ok_int _ rfl _ _ 57 rfl 3 3 .i64 lawI Try.underlying57 Try.underlying3 (zeroI _) w.heap.size k D rfl HMp.out _ _ rfl HKey.out ?_; intro c hat hwc; clear hat hwc)
        | (at_mapUpdate; refine wpList_mapUpdate_own _ rfl _ _ _ 57 rfl 3 3 lawI Try.underlying57 _ w.heap.size k D rfl HMp.out (by unfold maxLen; omega) _ _ _ rfl rfl HKey.out _ [] (plainElem_int Try.underlying3 (WalkArith.wf_i64 (by omega))) ?_; intro w1 hmap1 hgrow1
           have HO1 := Lib.hid (HO.out.beside (u := .slice (some ⟨w.heap.size, 0, none⟩) 0 0) hgrow1 (fun j hj => by cases hj; exact Nat.lt_succ_self _) (Nat.le_refl _))
           have HB1 := Lib.hid (HB.out.grown hgrow1 HB.out.size (fun j hj => by cases hj; exact Nat.le_refl _))
           have HM1 := Lib.hid hmap1
           have hsz1 : w.heap.size + 1 ≤ w1.heap.size := by have := hgrow1.size; omega
           clear hmap1 hgrow1)
        | (at_builtin; refine wp_push w1 (w.heap.size + 1) _ (xdL b q k) (x * b / q) HO1.out rfl _ _ rfl rfl rfl HX.out hsz1 ?_; intro v2 w2 hown2 hb2))
      have HO2 := Lib.hid hown2
      have HB2 := Lib.hid (HB1.out.trans (hb2.mono (Nat.le_succ _)))
      have HM2 := Lib.hid (ownsMap_below HM1.out hb2 (Nat.lt_succ_self _))
      clear hown2 hb2 hsz1
      go_roundw
      case rel => exact ⟨k + 1, x * b % q, _, by omega, rfl, s5, s6, HX2, by rw [← HL2.out]; exact HO2.out, HM2.out, HD2, HB2.out⟩
      case measure =>
        obtain ⟨_, _, e, _⟩ := HO2.out.shape
        rw [e]; simp [lenS, xdL_len]; omega
    · obtain rfl : k = N := by omega
      have hp1 := HF.out.1
      have HX := Lib.hid (show (Pl.orbL (xf b q) 1 k).getD P 0 = x by rw [Pl.orbL_get hp1, ← hx.out]; exact HF.out.2.1.symm)
      have HXP := Lib.hid (show Pl.orb (xf b q) 1 P = x by rw [← hx.out]; exact HF.out.2.1.symm)
      have hhas : Maps.has D (.int .i64 x) = true := by
        rw [hD.out.has]
        simp only [decide_eq_true_eq]
        rw [← HX.out]
        exact Pl.getD_mem (by rw [Pl.orbL_len]; exact hp1)
      have HC := Lib.hid (fun (c : Int) (h : D.atKey (.int .i64 x) (.lit (.int .i64 0)) = .lit (.int .i64 c)) => show c = (P : Int) by
        have := hD.out.at_ P (by rw [Pl.orbL_len]; exact hp1) (.lit (.int .i64 0))
        rw [HX.out] at this
        rw [this] at h
        simp at h
        exact h.symm)
      obtain ⟨g, cap', eg, hcap, hcap2⟩ := own_some HO.out (by intro e; have := congrArg List.length e; rw [xdL_len] at this; simp at this; omega)
      simp only [Value.slice.injEq] at eg
      obtain ⟨rfl, e9, rfl⟩ := eg
      clear e9
      rw [xdL_len] at hcap
      unfold maxLen at hcap2
      have hcp : ¬ cap = P := by omega
      have HRC := Lib.hid (show Rd wr (some ⟨g, P, none⟩) (cap - P) ((xdL b q k).drop P) by have := rd_drop HRD.out P (by omega); rwa [Nat.zero_add] at this)
      have HLC := Lib.hid (show k - P = ((xdL b q k).drop P).length by rw [List.length_drop, xdL_len])
      have HRT := Lib.hid (rd_take HRD.out P)
      have HLT := Lib.hid (show P = ((xdL b q k).take P).length by rw [List.length_take, xdL_len]; omega)
      have h10 : ((xdL b q k).drop P).length ≤ 1000000000000 := by rw [← HLC.out]; omega
      have h11 : ((xdL b q k).take P).length ≤ 1000000000000 := by rw [← HLT.out]; omega
      have HPer := Lib.hid (show perL b q k P = if x = 0 then [] else (xdL b q k).drop P by unfold perL; rw [HXP.out])
      generalize (xdL b q k).drop P = ld at *
      generalize (xdL b q k).take P = lt at *
      by_cases hx0 : x = 0
      · subst hx0
        have HE := Lib.hid (show perL b q k P = [] by rw [HPer.out]; rfl)
        go_wp2_with (at_lookup; refine wpList_lookup_own_ok_int _ rfl _ _ 57 rfl 3 3 .i64 lawI Try.underlying57 Try.underlying3 (zeroI _) w.heap.size k D rfl HMp.out _ _ rfl HKey.out ?_; intro c hat hwc; obtain rfl := HC.out c hat; clear hat hwc)
        refine (clone lt P HLT.out _ _ _ HRT.out h11).mono ?_
        rintro e w2 ⟨v, rfl, hown, hb⟩
        have HB2 := Lib.hid (HB.out.trans (hb.mono HB.out.size))
        clear hown hb
        go_wp2
        go_ret3
        rw [HE.out]
        exact ⟨⟨v, none, 0, rfl, (own_nil w2 0).rd⟩, HB2.out⟩
      · have HE := Lib.hid (show perL b q k P = ld by rw [HPer.out, if_neg hx0])
        have hs1 : P ≤ cap := by omega
        have hs2 : P ≤ k := by omega
        have hs3 : (P : Int) ≤ (cap : Int) := by omega
        have hs4 : (P : Int) ≤ (k : Int) := by omega
        have hs5 : (0 : Int) ≤ (P : Int) := by omega
        have hx2 : (x == 0) = false := by rw [beq_eq_false_iff_ne]; exact hx0
        go_upto_region 9 with (at_lookup; refine wpList_lookup_own_ok_int _ rfl _ _ 57 rfl 3 3 .i64 lawI Try.underlying57 Try.underlying3 (zeroI _) w.heap.size k D rfl HMp.out _ _ rfl HKey.out ?_; intro c hat hwc; obtain rfl := HC.out c hat; clear hat hwc)
        have HCL1 := Lib.hid (fun wx (hx : Below wr.heap.size wr wx) => clone lt P HLT.out _ _ wx (HRT.out.below hx (Nat.le_refl _)) h11)
        have HCL2 := Lib.hid (fun wx (hx : Below wr.heap.size wr wx) => clone ld (k - P) HLC.out _ _ wx (HRC.out.below hx (Nat.le_refl _)) h10)
        refine wp_region_held_drew (S := (fun wx => Below wr.heap.size wr wx)) (by kernel_rfl) ?hS1000 (fun hHeld => ?hR1000)
        case hS1000 => ((try dsimp only); (first | exact Below.drew (Below.refl _ _) | assumption))
        refine wpAnyH_take (i := 0) (oi := { dst := some 36, op := Go.Op.move (Go.Operand.tmp 10), type := 27, pos := "l14_expansions.go:30", after := #[], guard := none }) (v := ?v1001) rfl (by kernel_rfl) (by kernel_rfl) (by kernel_rfl) (fun _ _ _ h => h) (Or.inl ⟨by rfl, ?hy1001⟩) (by assumption) ?hr1001
        case hy1001 => (intro w hSw; (try dsimp only at hSw); go_simp; (try with_reducible rfl))
        (try simp only [Act.put, List.setIfInBounds_toArray, List.set_cons_zero, List.set_cons_succ])
        refine wpAnyH_take (i := 1) (oi := { dst := some 37, op := Go.Op.move (Go.Operand.tmp 11), type := 3, pos := "l14_expansions.go:30", after := #[], guard := none }) (v := ?v1002) rfl (by kernel_rfl) (by kernel_rfl) (by kernel_rfl) (fun _ _ _ h => h) (Or.inl ⟨by rfl, ?hy1002⟩) (by assumption) ?hr1002
        case hy1002 => (intro w hSw; (try dsimp only at hSw); go_simp; (try with_reducible rfl))
        (try simp only [Act.put, List.setIfInBounds_toArray, List.set_cons_zero, List.set_cons_succ])
        refine wpAnyH_take (i := 2) (oi := { dst := some 38, op := Go.Op.slice 27 (Go.Operand.tmp 36) none (some (Go.Operand.tmp 37)) none, type := 27, pos := "l14_expansions.go:30", after := #[{ on := 0, ground := Go.Ground.data }, { on := 1, ground := Go.Ground.data }], guard := none }) (v := ?v1003) rfl (by kernel_rfl) (by kernel_rfl) (by kernel_rfl) (fun _ _ _ h => h) (Or.inl ⟨by rfl, ?hy1003⟩) (by assumption) ?hr1003
        case hy1003 => (intro w hSw; (try dsimp only at hSw); go_simp; (try with_reducible rfl))
        (try simp only [Act.put, List.setIfInBounds_toArray, List.set_cons_zero, List.set_cons_succ])
        refine wpAnyH_take (i := 4) (oi := { dst := some 40, op := Go.Op.move (Go.Operand.tmp 10), type := 27, pos := "l14_expansions.go:30", after := #[], guard := none }) (v := ?v1004) rfl (by kernel_rfl) (by kernel_rfl) (by kernel_rfl) (fun _ _ _ h => h) (Or.inl ⟨by rfl, ?hy1004⟩) (by assumption) ?hr1004
        case hy1004 => (intro w hSw; (try dsimp only at hSw); go_simp; (try with_reducible rfl))
        (try simp only [Act.put, List.setIfInBounds_toArray, List.set_cons_zero, List.set_cons_succ])
        refine wpAnyH_take (i := 5) (oi := { dst := some 41, op := Go.Op.move (Go.Operand.tmp 11), type := 3, pos := "l14_expansions.go:30", after := #[], guard := none }) (v := ?v1005) rfl (by kernel_rfl) (by kernel_rfl) (by kernel_rfl) (fun _ _ _ h => h) (Or.inl ⟨by rfl, ?hy1005⟩) (by assumption) ?hr1005
        case hy1005 => (intro w hSw; (try dsimp only at hSw); go_simp; (try with_reducible rfl))
        (try simp only [Act.put, List.setIfInBounds_toArray, List.set_cons_zero, List.set_cons_succ])
        refine wpAnyH_take (i := 6) (oi := { dst := some 42, op := Go.Op.slice 27 (Go.Operand.tmp 40) (some (Go.Operand.tmp 41)) none none, type := 27, pos := "l14_expansions.go:30", after := #[{ on := 4, ground := Go.Ground.data }, { on := 5, ground := Go.Ground.data }], guard := none }) (v := ?v1006) rfl (by kernel_rfl) (by kernel_rfl) (by kernel_rfl) (fun _ _ _ h => h) (Or.inl ⟨by rfl, ?hy1006⟩) (by assumption) ?hr1006
        case hy1006 => (intro w hSw; (try dsimp only at hSw); go_simp; (try with_reducible rfl))
        (try simp only [Act.put, List.setIfInBounds_toArray, List.set_cons_zero, List.set_cons_succ])
        refine wpAnyH_ready (rs := [3]) (by kernel_rfl) (by simp) ?_
        refine AllReadyH.cons (o := { dst := some 39, op := Go.Op.call { callee := Go.Callee.value (Go.Operand.func 68), args := #[Go.Operand.tmp 38], argTypes := #[27] }, type := 27, pos := "l14_expansions.go:30", after := #[{ on := 2, ground := Go.Ground.data }], guard := none }) rfl (fun K hK => ?_) AllReadyH.nil
        go_simp
        (go_at_call 68; refine (HCL1.out _ (by exact hHeld)).mono ?_; rintro e w2 ⟨v, rfl, hown, hb⟩; have hb' := hHeld.trans (hb.mono hHeld.size))
        (try go_wp2_with fail)
        refine hK.out _ _ ?hS1007 (fun hHeld => ?hR1007)
        case hS1007 => ((try dsimp only); (first | exact Below.drew (Below.refl _ _) | assumption))
        clear hK K
        (try simp only [Act.put, List.setIfInBounds_toArray, List.set_cons_zero, List.set_cons_succ])
        refine wpAnyH_ready (rs := [7]) (by kernel_rfl) (by simp) ?_
        refine AllReadyH.cons (o := { dst := some 43, op := Go.Op.call { callee := Go.Callee.value (Go.Operand.func 68), args := #[Go.Operand.tmp 42], argTypes := #[27] }, type := 27, pos := "l14_expansions.go:30", after := #[{ on := 6, ground := Go.Ground.data }, { on := 3, ground := Go.Ground.chain }], guard := none }) rfl (fun K hK => ?_) AllReadyH.nil
        go_simp
        (go_at_call 68; refine (HCL2.out _ (by exact hHeld)).mono ?_; rintro e w3 ⟨v', rfl, hown', hb2⟩; have hb2' := hHeld.trans (hb2.mono hHeld.size))
        (try go_wp2_with fail)
        refine hK.out _ _ ?hS1008 (fun hHeld => ?hR1008)
        case hS1008 => ((try dsimp only); (first | exact Below.drew (Below.refl _ _) | assumption))
        clear hK K
        (try simp only [Act.put, List.setIfInBounds_toArray, List.set_cons_zero, List.set_cons_succ])
        refine wpAnyH_take (i := 8) (oi := { dst := some 6, op := Go.Op.assign (Go.Operand.tmp 39), type := 27, pos := "l14_expansions.go:30", after := #[{ on := 3, ground := Go.Ground.data }, { on := 7, ground := Go.Ground.chain }, { on := 0, ground := Go.Ground.phase }, { on := 1, ground := Go.Ground.phase }, { on := 2, ground := Go.Ground.phase }, { on := 3, ground := Go.Ground.phase }, { on := 4, ground := Go.Ground.textOnly Go.Departure.lateStores }, { on := 5, ground := Go.Ground.textOnly Go.Departure.lateStores }, { on := 6, ground := Go.Ground.textOnly Go.Departure.lateStoresUnsure }, { on := 7, ground := Go.Ground.textOnly Go.Departure.lateStoresUnsure }], guard := none }) (v := ?v1009) rfl (by kernel_rfl) (by kernel_rfl) (by kernel_rfl) (fun _ _ _ h => h) (Or.inl ⟨by rfl, ?hy1009⟩) (by assumption) ?hr1009
        case hy1009 => (intro w hSw; (try dsimp only at hSw); go_simp; (try with_reducible rfl))
        (try simp only [Act.put, List.setIfInBounds_toArray, List.set_cons_zero, List.set_cons_succ])
        refine wpAnyH_take (i := 9) (oi := { dst := some 7, op := Go.Op.assign (Go.Operand.tmp 43), type := 27, pos := "l14_expansions.go:30", after := #[{ on := 7, ground := Go.Ground.data }, { on := 8, ground := Go.Ground.chain }, { on := 0, ground := Go.Ground.phase }, { on := 1, ground := Go.Ground.phase }, { on := 2, ground := Go.Ground.phase }, { on := 3, ground := Go.Ground.phase }, { on := 4, ground := Go.Ground.phase }, { on := 5, ground := Go.Ground.phase }, { on := 6, ground := Go.Ground.phase }, { on := 7, ground := Go.Ground.phase }, { on := 8, ground := Go.Ground.phase }], guard := none }) (v := ?v1010) rfl (by kernel_rfl) (by kernel_rfl) (by kernel_rfl) (fun _ _ _ h => h) (Or.inl ⟨by rfl, ?hy1010⟩) (by assumption) ?hr1010
        case hy1010 => (intro w hSw; (try dsimp only at hSw); go_simp; (try with_reducible rfl))
        (try simp only [Act.put, List.setIfInBounds_toArray, List.set_cons_zero, List.set_cons_succ])
        refine wpAnyH_take (i := 10) (oi := { dst := some 8, op := Go.Op.assign (Go.Operand.const (Go.Value.bool true)), type := 4, pos := "l14_expansions.go:30", after := #[{ on := 9, ground := Go.Ground.chain }, { on := 0, ground := Go.Ground.phase }, { on := 1, ground := Go.Ground.phase }, { on := 2, ground := Go.Ground.phase }, { on := 3, ground := Go.Ground.phase }, { on := 4, ground := Go.Ground.phase }, { on := 5, ground := Go.Ground.phase }, { on := 6, ground := Go.Ground.phase }, { on := 7, ground := Go.Ground.phase }, { on := 8, ground := Go.Ground.phase }, { on := 9, ground := Go.Ground.phase }], guard := none }) (v := ?v1011) rfl (by kernel_rfl) (by kernel_rfl) (by kernel_rfl) (fun _ _ _ h => h) (Or.inl ⟨by rfl, ?hy1011⟩) (by assumption) ?hr1011
        case hy1011 => (intro w hSw; (try dsimp only at hSw); go_simp; (try with_reducible rfl))
        (try simp only [Act.put, List.setIfInBounds_toArray, List.set_cons_zero, List.set_cons_succ])
        refine wpAnyH_done (by kernel_rfl) ?_ _
        go_wp2
        go_ret3
        rw [HE.out]
        obtain ⟨ao', cap', e', hr'⟩ := hown'.shape
        subst e'
        exact ⟨⟨v, ao', cap', rfl, hr'⟩, HB.out.trans (hb2'.mono HB.out.size)⟩
theorem sFr (q b : Int) (w : World) (b1 : 2 ≤ b) (b2 : b ≤ 16) (q1 : 2 ≤ q) (q2 : q ≤ 10) : Calls Try.prog 64 #[.int .i64 1, .int .i64 q, .int .i64 b] w fun e w' => e = .returned (.bool true) ∧ w = w' := by
  have h0 := inB_mk b1 b2
  have h1 := inB_mk (show 1 ≤ q by omega) (show q ≤ 1000 by omega)
  have h2 := inB_mk (show (0 : Int) ≤ 1 by omega) (show (1 : Int) ≤ q - 1 by omega)
  go_enter Try.func64, Try.ntmps64
  go_wp2_with (first | (go_at_call 35; refine (l01In_any _ _ _ _).mono ?_; rintro e w' ⟨rfl, rfl⟩) | (go_at_call 75; refine (sBaseOk_any _ _).mono ?_; rintro e w' ⟨rfl, rfl⟩))
  go_ret
  exact ⟨rfl, rfl⟩
theorem sFr_no (q b : Int) (w : World) (h : inB b 2 16 = false) : Calls Try.prog 64 #[.int .i64 1, .int .i64 q, .int .i64 b] w fun e w' => e = .returned (.bool false) ∧ w = w' := by
  go_enter Try.func64, Try.ntmps64
  go_wp2_with (first | (go_at_call 35; refine (l01In_any _ _ _ _).mono ?_; rintro e w' ⟨rfl, rfl⟩) | (go_at_call 75; refine (sBaseOk_any _ _).mono ?_; rintro e w' ⟨rfl, rfl⟩))
  go_ret
  exact ⟨rfl, rfl⟩
section
variable {ops : Array Oper} {rest : List Oper} {o : Oper} {a : Act} {Q : Exit → Act → World → Prop}
/-- One number is appended, and where the new row lies. -/
theorem wp_push2 (wr : World) (B : Nat) (v : Value) (l : List Int) (d : Int) (hown : Own wr B v l) (hgd : o.guard = none) (s x : Operand) (ho : o.op = .call { callee := .builtin .append, args := #[s, x], argTypes := #[27, 27] })
    (hs : a.eval s = v) (hx : a.eval x = .slice (some ⟨wr.heap.size, 0, none⟩) 1 1)
    (hlen : l.length < 1000000000000) (hB : B ≤ wr.heap.size)
    (h : ∀ g cap w', Own w' B (.slice (some ⟨g, 0, none⟩) (l.length + 1) cap) (l ++ [d]) → (wr.alloc (.cells #[.int .i64 d] 3)).grownBy w' v.ownBlock → Below B wr w' → (v.ownBlock = some g ∨ wr.heap.size < g) → wpList Try.prog ops Q rest (a.put o.dst (.slice (some ⟨g, 0, none⟩) (l.length + 1) cap)) w') :
    wpList Try.prog ops Q (o :: rest) a (wr.alloc (.cells #[.int .i64 d] 3)) := by
  obtain ⟨i0, hi, hz0, hz1, hz2⟩ := info_parts Try.infoI
  refine wpList_append_lies _ hgd s x 27 ho B 3 i0 (.int .i64 0) 1 8 Try.underlying27 hi hz0 hz1 hz2 rfl (by decide) v l.length (vs l) hs (World.ownsRow.alloc hown _) ⟨wr.heap.size, 0, none⟩ 1 1 (vs [d]) hx rfl ?_ (vs_one _) (by omega) (by unfold maxLen; omega) (by omega) (by simp; omega) _ rfl ?_
  · intro j u hu
    match j, hu with
    | 0, hu => simp [vs] at hu; subst hu; rw [Addr.add_lit]; exact (World.cell?_alloc_at _ _ _ _ rfl).trans (by simp)
    | j + 1, hu => simp [vs] at hu
  · intro g cap w' h1 h2 h3 _
    refine h g cap w' (by simpa [Own, vs_append] using h1) h2 ?_ ?_
    · exact ((Below.refl _ _).alloc hB _).grown h2 (by simp; omega) (fun k hk => (World.ownsRow.lt hown k hk).1)
    · rcases h3 with h3 | h3
      · exact .inl h3
      · right; rw [h3]; simp
end
theorem Own.kept' {w w' : World} {B g n cap : Nat} {l : List Int} {row : Option Nat} (h : Own w B (.slice (some ⟨g, 0, none⟩) n cap) l) (hg : w.grownBy w' row) (hne : row ≠ some g) : Own w' B (.slice (some ⟨g, 0, none⟩) n cap) l :=
  World.ownsRow.kept h hg (.inr fun e => hne e.symm)
/-- What the row of places holds when k rests have come. -/
def Seen (f : Int → Int) (k : Nat) (S : List Int) : Prop := ∀ y : Nat, y < S.length → (S.getD y 0 = 0 ∧ ∀ i, i < k → Pl.orb f 1 i ≠ y) ∨ ∃ i : Nat, i < k ∧ Pl.orb f 1 i = y ∧ S.getD y 0 = (i : Int) + 1
theorem Seen.step {f : Int → Int} {k : Nat} {S : List Int} (h : Seen f k S) {x : Nat} (hx : Pl.orb f 1 k = x) (hxl : x < S.length) : Seen f (k + 1) (S.set x ((k : Int) + 1)) := by
  intro y hy
  rw [List.length_set] at hy
  rw [getD_set hxl]
  by_cases e : x = y
  · subst e
    rw [if_pos rfl]
    exact .inr ⟨k, by omega, hx, rfl⟩
  · rw [if_neg e]
    rcases h y hy with ⟨h1, h2⟩ | ⟨i, h1, h2, h3⟩
    · refine .inl ⟨h1, fun i hi he => ?_⟩
      by_cases e2 : i = k
      · subst e2; rw [hx] at he; exact e (by omega)
      · exact h2 i (by omega) he
    · exact .inr ⟨i, by omega, h2, h3⟩
set_option maxRecDepth 100000 in
set_option maxHeartbeats 2000000 in
theorem sLen (q b : Int) (N P : Nat) (w : World) (b1 : 2 ≤ b) (b2 : b ≤ 16) (q1 : 2 ≤ q) (q2 : q ≤ 10) (hf : Pl.IsFirst (xf b q) 1 N P) (hN : N ≤ 10) :
    Calls Try.prog 65 #[.int .i64 1, .int .i64 q, .int .i64 b] w fun e w' => e = .returned (.tuple #[.int .i64 P, .int .i64 ((perL b q N P).length : Int)]) ∧ Below w.heap.size w w' := by
  have HF := Lib.hid hf
  have HBD := Lib.hid (orb_bd (b := b) q1)
  obtain ⟨r, hr⟩ : ∃ r : Int, r = ((perL b q N P).length : Int) := ⟨_, rfl⟩
  rw [← hr]
  have HRV := Lib.hid hr
  obtain ⟨Q, rfl⟩ := Int.eq_ofNat_of_zero_le (show 0 ≤ q by omega)
  clear hf hr
  go_enter Try.func65, Try.ntmps65
  have hsz0 : (w.alloc (.cells #[] 3)).heap.size = w.heap.size + 1 := by simp
  go_wp2_with (at_make; refine wp_makeZ _ Q (by omega) rfl _ _ rfl rfl rfl ?_; intro w1 hown1 hb1 hsz1)
  rw [hsz0] at hown1 hb1 hsz1
  have HB0 := Lib.hid (((Below.refl w.heap.size w).alloc (Nat.le_refl _) (.cells #[] 3)).trans (hb1.mono (Nat.le_succ _)))
  have HR0 := Lib.hid (own_below2 (own_made w) hb1 (Nat.lt_succ_self _))
  have HS0 := Lib.hid hown1
  clear hown1 hb1
  go_wp2_with fail
  go_loopw [0, 8] (fun vp vl wr => ∃ (k x gr cap : Nat) (S : List Int), k ≤ N ∧ vp = .int .i64 (x : Int) ∧ x < Q ∧ Hid (Pl.orb (xf b Q) 1 k = x) ∧ Hid (∀ i, i < k → Pl.orb (xf b Q) 1 i ≠ 0) ∧ vl = .slice (some ⟨gr, 0, none⟩) k cap ∧ Hid (gr ≠ w.heap.size + 1) ∧ Own wr w.heap.size (.slice (some ⟨gr, 0, none⟩) k cap) (Pl.orbL (xf b Q) 1 k) ∧ Hid (S.length = Q) ∧ Own wr (w.heap.size + 1) (.slice (some ⟨w.heap.size + 1, 0, none⟩) Q Q) S ∧ Hid (Seen (xf b Q) k S) ∧ Below w.heap.size w wr) (fun _ vl _ => N - lenS vl)
  case atStart =>
    exact ⟨0, 1, w.heap.size, 0, List.replicate Q 0, Nat.zero_le _, rfl, by omega, Lib.hid rfl, Lib.hid (fun i hi => by omega), rfl, Lib.hid (by omega), HR0.out, Lib.hid List.length_replicate, HS0.out, Lib.hid (fun y hy => .inl ⟨by rw [List.length_replicate] at hy; simp [List.getD_eq_getElem?_getD, hy], fun i hi => by omega⟩), HB0.out⟩
  case round =>
    obtain ⟨k, x, gr, cap, S, hk, rfl, x1, hx, hnz, rfl, hgr, hownR, hSl, hownS, hSeen, hbel⟩ := hrel
    have HO := Lib.hid hownR
    have HOS := Lib.hid hownS
    have HB := Lib.hid hbel
    have hgr0 := hownR.lt gr rfl
    have hcell := hownS.cellAt (show x < S.length by rw [hSl.out]; exact x1)
    have hfree := hownS.free x
    clear hownR hownS hbel
    by_cases hx0 : x = 0
    · subst hx0
      have hE : k = P ∧ r = 0 := by
        have h1 := HF.out.1
        have h2 := HF.out.2.1
        have h3 := HF.out.2.2
        have hkN : k < N := by
          rcases Nat.lt_or_ge k N with h | h
          · exact h
          · obtain rfl : k = N := by omega
            exact absurd (h2.symm.trans hx.out) (hnz.out P h1)
        have h4 : Pl.orb (xf b Q) 1 (k + 1) = Pl.orb (xf b Q) 1 k := by
          show xf b Q (Pl.orb (xf b Q) 1 k) = _
          rw [hx.out]; simp [xf]
        have h5 : k + 1 = N := by
          rcases Nat.lt_or_ge (k + 1) N with h | h
          · exact absurd h4.symm (h3 k (k + 1) (by omega) h)
          · omega
        have h6 : k = P := by
          rw [← h5, h4] at h2
          rcases Nat.lt_trichotomy k P with h | h | h
          · omega
          · exact h
          · exact absurd h2.symm (h3 P k h hkN)
        refine ⟨h6, ?_⟩
        rw [HRV.out, perL_len, if_pos (by rw [← h6]; exact hx.out)]; rfl
      obtain ⟨rfl, hr0⟩ := hE
      have HR0' := Lib.hid hr0
      clear hr0
      go_wp2_with fail
      go_ret2
      rw [HR0'.out]
      exact ⟨rfl, HB.out⟩
    · have hx2 : ((x : Int) == 0) = false := by rw [beq_eq_false_iff_ne]; omega
      by_cases hs0 : S.getD x 0 = 0
      · have hkN : k < N := by
          rcases Nat.lt_or_ge k N with h | h
          · exact h
          · obtain rfl : k = N := by omega
            rcases hSeen.out x (by rw [hSl.out]; exact x1) with ⟨_, h2⟩ | ⟨i, _, _, h4⟩
            · exact absurd (HF.out.2.1.symm.trans hx.out) (h2 P HF.out.1)
            · omega
        have HSE := Lib.hid (hSeen.out.step hx.out (by rw [hSl.out]; exact x1))
        have HSL := Lib.hid (show (S.set x ((k : Int) + 1)).length = Q by rw [List.length_set]; exact hSl.out)
        have HNZ := Lib.hid (show ∀ i, i < k + 1 → Pl.orb (xf b Q) 1 i ≠ 0 from fun i hi => by
          by_cases e : i = k
          · subst e; rw [hx.out]; omega
          · exact hnz.out i (by omega))
        have HX := Lib.hid (show (Pl.orbL (xf b Q) 1 k).length < 1000000000000 by rw [Pl.orbL_len]; omega)
        have HL2 := Lib.hid (show Pl.orbL (xf b Q) 1 k ++ [(x : Int)] = Pl.orbL (xf b Q) 1 (k + 1) by rw [Pl.orbL_succ, hx.out])
        obtain ⟨x', hx'⟩ : ∃ x' : Nat, (x' : Int) = (x : Int) * b % Q := ⟨((x : Int) * b % Q).toNat, by have := Int.emod_nonneg ((x : Int) * b) (show (Q : Int) ≠ 0 by omega); omega⟩
        have HX2 := Lib.hid (show Pl.orb (xf b Q) 1 (k + 1) = x' by rw [hx', ← hx.out]; rfl)
        have HX3 := Lib.hid hx'
        have hx1' : x' < Q := by have := Int.emod_lt_of_pos ((x : Int) * b) (show 0 < (Q : Int) by omega); omega
        have ⟨s1, s2, _, _, _, _⟩ := step_bd b1 b2 q1 q2 (show 0 ≤ (x : Int) by omega) (show (x : Int) < Q by omega)
        have hsz : w.heap.size ≤ wr.heap.size := HB.out.size
        clear hx' hSeen hnz
        rw [hs0] at hcell
        have hwr : w.heap.size + 1 < wr.heap.size := by have := HOS.out.lt _ rfl; exact this
        go_wp2_with (at_builtin; refine wp_push2 wr w.heap.size _ (Pl.orbL (xf b Q) 1 k) x HO.out rfl _ _ rfl rfl rfl HX.out hsz ?_; intro g2 cap2 w2 hown2 hgrow hb2 hg2
                     have HOS2 := Lib.hid (Own.kept' (World.ownsRow.alloc HOS.out (.cells #[.int .i64 (x : Int)] 3)) hgrow (by intro e; simp [Value.ownBlock] at e; exact hgr.out e))
                     have hcell2 : w2.cell? ⟨w.heap.size + 1, x, none⟩ = some (.int .i64 0) := by have := HOS2.out.cellAt (show x < S.length by rw [hSl.out]; exact x1); rwa [hs0] at this
                     have hfree2 := HOS2.out.free x
                     rw [Pl.orbL_len] at hown2 ⊢
                     have HO2 := Lib.hid hown2
                     have HB2 := Lib.hid (HB.out.trans hb2)
                     have HG2 := Lib.hid (show g2 ≠ w.heap.size + 1 by
                       rcases hg2 with h | h
                       · simp [Value.ownBlock] at h; rw [← h]; exact hgr.out
                       · omega)
                     clear hown2 hgrow hb2 hg2 hcell hfree)
        go_roundw
        case rel =>
          have o1 := HOS2.out.set x ((k : Int) + 1)
          exact ⟨k + 1, x', g2, cap2, S.set x ((k : Int) + 1), by omega, by rw [HX3.out], hx1', HX2, HNZ, rfl, HG2, by rw [← HL2.out]; exact Own.kept' HO2.out (own_grown HOS2.out x ((k : Int) + 1)) (by intro e; simp at e; exact HG2.out e.symm), HSL, o1.1, HSE, HB2.out.trans (o1.2.mono (Nat.le_succ _))⟩
        case measure => simp [lenS]; omega
      · have hE : k = N ∧ S.getD x 0 = (P : Int) + 1 ∧ r = (N : Int) - P := by
          rcases hSeen.out x (by rw [hSl.out]; exact x1) with ⟨h1, _⟩ | ⟨i, h1, h2, h3⟩
          · exact absurd h1 hs0
          · have f1 := HF.out.1
            have f2 := HF.out.2.1
            have f3 := HF.out.2.2
            have hkN : k = N := by
              rcases Nat.lt_or_ge k N with h | h
              · exact absurd (h2.trans hx.out.symm) (f3 i k h1 h)
              · omega
            subst hkN
            have hiP : i = P := by
              have e : Pl.orb (xf b Q) 1 i = Pl.orb (xf b Q) 1 P := h2.trans (hx.out.symm.trans f2)
              rcases Nat.lt_trichotomy i P with h | h | h
              · exact absurd e (f3 i P h f1)
              · exact h
              · exact absurd e.symm (f3 P i h h1)
            subst hiP
            refine ⟨rfl, h3, ?_⟩
            rw [HRV.out, perL_len, if_neg (by rw [h2]; omega)]
            omega
        obtain ⟨rfl, hsv, hr0⟩ := hE
        have HR0' := Lib.hid hr0
        have hP : P < k := HF.out.1
        rw [hsv] at hcell
        clear hr0 hsv hs0
        go_wp2_with fail
        go_quiet (fail)
        go_wp2
        go_ret2
        rw [HR0'.out]
        refine ⟨?_, below_drewN HB.out _⟩
        show Ending.returned (.tuple #[.int .i64 (P : Int), .int .i64 ((k : Int) - ((P : Int) + 1) + 1)]) = _
        rw [show (k : Int) - ((P : Int) + 1) + 1 = (k : Int) - P by omega]
theorem sDig (q b : Int) (K : Nat) (w : World) (b1 : 2 ≤ b) (b2 : b ≤ 16) (q1 : 2 ≤ q) (q2 : q ≤ 10) (hK : K ≤ 10) :
    Calls Try.prog 66 #[.int .i64 1, .int .i64 q, .int .i64 b, .int .i64 K] w fun e w' => ∃ v, e = .returned v ∧ Own w' w.heap.size v (xdL b q K) ∧ Below w.heap.size w w' := by
  have HBD := Lib.hid (orb_bd (b := b) q1)
  go_enter Try.func66, Try.ntmps66
  go_wp2
  go_loopw [0, 9, 10] (fun vp vo vi wr => ∃ (k : Nat) (x : Int), k ≤ K ∧ vi = .int .i64 k ∧ vp = .int .i64 x ∧ 0 ≤ x ∧ x < q ∧ Hid (Pl.orb (xf b q) 1 k = x) ∧ Own wr w.heap.size vo (xdL b q k) ∧ Below w.heap.size w wr) (fun _ _ vi _ => K - (intOf vi).toNat)
  case atStart => exact ⟨0, 1, Nat.zero_le _, rfl, rfl, by omega, by omega, Lib.hid rfl, own_made w, (Below.refl _ _).alloc (Nat.le_refl _) _⟩
  case round =>
    obtain ⟨k, x, hk, rfl, rfl, x0, x1, hx, hown, hbel⟩ := hrel
    by_cases hlt : k < K
    · have HX := Lib.hid (show (xdL b q k).length < 1000000000000 by rw [xdL_len]; omega)
      have HL2 := Lib.hid (show xdL b q k ++ [x * b / q] = xdL b q (k + 1) by rw [xdL_succ, hx.out])
      have HX2 := Lib.hid (show Pl.orb (xf b q) 1 (k + 1) = x * b % q by rw [← hx.out]; rfl)
      have ⟨s1, s2, s3, s4, s5, s6⟩ := step_bd b1 b2 q1 q2 x0 x1
      have HO := Lib.hid hown
      have HB := Lib.hid hbel
      have hsz := hbel.size
      clear hown hbel
      go_wp2_with (at_builtin; refine wp_push wr w.heap.size _ (xdL b q k) (x * b / q) HO.out rfl _ _ rfl rfl rfl HX.out hsz ?_; intro v2 w2 hown2 hb2)
      go_roundw
      case rel => exact ⟨k + 1, x * b % q, by omega, by go_num, rfl, s5, s6, HX2, by rw [← HL2.out]; exact hown2, HB.out.trans hb2⟩
      case measure => simp [intOf]; omega
    · obtain rfl : k = K := by omega
      go_wp2
      go_ret
      exact ⟨_, rfl, hown, hbel⟩
theorem sExp (q b : Int) (N P : Nat) (w : World) (b1 : 2 ≤ b) (b2 : b ≤ 16) (q1 : 2 ≤ q) (q2 : q ≤ 10) (hf : Pl.IsFirst (xf b q) 1 N P) (hN : N ≤ 10) :
    Calls Try.prog 37 #[.int .i64 1, .int .i64 q, .int .i64 b] w fun e w' => ExpP w' (perL b q N P) e ∧ Below w.heap.size w w' := by
  have HF := Lib.hid hf
  have hP := hf.1
  obtain ⟨K, hK⟩ : ∃ K, K = P + (perL b q N P).length := ⟨_, rfl⟩
  have hpl := perL_len (b := b) (q := q) (N := N) (P := P)
  have hK10 : K ≤ 10 := by rw [hK, hpl]; split <;> omega
  have hK0 : 0 < K := by
    rw [hK, hpl]
    split
    · rename_i h0
      rcases Nat.eq_zero_or_pos P with h | h
      · rw [h] at h0; exact absurd h0 (by show ¬ (1 : Int) = 0; omega)
      · omega
    · omega
  have HDrop := Lib.hid (show (xdL b q K).drop P = perL b q N P by
    have e : perL b q N P = if Pl.orb (xf b q) 1 P = 0 then [] else (xdL b q N).drop P := rfl
    by_cases h0 : Pl.orb (xf b q) 1 P = 0
    · rw [if_pos h0] at hpl e
      rw [e, List.drop_eq_nil_iff, xdL_len]; omega
    · rw [if_neg h0] at hpl e
      rw [e, show K = N by omega])
  have HKp := Lib.hid (show (K : Int) = (P : Int) + ((perL b q N P).length : Int) by omega)
  have HKl := Lib.hid (show (perL b q N P).length = K - P by omega)
  have hPK : P ≤ K := by omega
  clear hf hpl hK
  go_enter Try.func37, Try.ntmps37
  go_wp2_with fail
  refine (sFr q b _ b1 b2 q1 q2).mono ?_
  rintro e w1 ⟨rfl, rfl⟩
  go_wp2_with fail
  refine (sLen q b N P _ b1 b2 q1 q2 HF.out hN).mono ?_
  rintro e w1 ⟨rfl, hb1⟩
  have HB1 := Lib.hid hb1
  have hper : (perL b q N P).length ≤ 10 := by rw [HKl.out]; omega
  clear hb1
  go_wp2_with fail
  rw [← HKp.out]
  refine (sDig q b K _ b1 b2 q1 q2 hK10).mono ?_
  rintro e w2 ⟨v, rfl, hown, hb2⟩
  obtain ⟨g, cap, eg, hcap, hcap2⟩ := own_some hown (by intro e; have := congrArg List.length e; rw [xdL_len] at this; simp at this; omega)
  subst eg
  have HB2 := Lib.hid (HB1.out.trans (hb2.mono HB1.out.size))
  have HRD := Lib.hid (show Rd w2 (some ⟨g, P, none⟩) (cap - P) (perL b q N P) by
    have := rd_drop hown.rd P (by rw [xdL_len] at hcap; omega)
    rwa [Nat.zero_add, HDrop.out] at this)
  rw [xdL_len] at hcap ⊢
  unfold maxLen at hcap2
  clear hown hb2
  have hcp : P ≤ cap := by omega
  have hs3 : (P : Int) ≤ (cap : Int) := by omega
  have hs4 : (P : Int) ≤ (K : Int) := by omega
  have hs5 : (0 : Int) ≤ (P : Int) := by omega
  by_cases hcc : cap = P
  · subst hcc
    go_wp2_with fail
    go_quiet (fail)
    go_wp2
    go_ret3
    have hnil : perL b q N cap = [] := List.eq_nil_of_length_eq_zero (by rw [HKl.out]; omega)
    rw [hnil]
    exact ⟨⟨_, some ⟨g, 0, none⟩, 0, rfl, ⟨by simp, by unfold maxLen; omega, fun h => by simp at h, .inl rfl⟩⟩, below_drewN HB2.out _⟩
  · go_wp2_with fail
    go_quiet (fail)
    go_wp2
    go_ret3
    exact ⟨⟨_, some ⟨g, P, none⟩, cap - P, by rw [HKl.out]; rfl, HRD.out.below (below_drewN (Below.refl _ _) _) (Nat.le_refl _)⟩, below_drewN HB2.out _⟩
/-- The number of places of the period. -/
def PerP (q b : Int) (N P : Nat) : Int := if inB b 2 16 then ((perL b q N P).length : Int) else -1
theorem iExp_no (q b : Int) (w : World) (q1 : 2 ≤ q) (q2 : q ≤ 10) (h : inB b 2 16 = false) :
    Calls Try.prog 41 #[.int .i64 1, .int .i64 q, .int .i64 b] w fun e w' => e = .returned (.tuple #[.slice none 0 0, .slice none 0 0, .bool false]) ∧ w = w' := by
  go_enter Try.func41, Try.ntmps41
  go_wp2_with fail
  refine (isFr q _ q1 q2).mono ?_
  rintro e w1 ⟨rfl, rfl⟩
  go_wp2_with (first | (go_at_call 49; refine (iBaseOk_any _ _).mono ?_; rintro e w' ⟨rfl, rfl⟩))
  go_ret3
  exact ⟨rfl, rfl⟩
theorem iPer (q b : Int) (N P : Nat) (w : World) (q1 : 2 ≤ q) (q2 : q ≤ 10) (hf : inB b 2 16 = true → Pl.IsFirst (xf b q) 1 N P) (hN : N ≤ 10) :
    Calls Try.prog 31 #[.int .i64 1, .int .i64 q, .int .i64 b] w fun e w' => e = .returned (.int .i64 (PerP q b N P)) ∧ Below w.heap.size w w' := by
  rcases inB_cases b 2 16 with h | h
  · have ⟨b1, b2⟩ := inB_t h
    have HF := Lib.hid (hf h)
    have HV := Lib.hid (show ((perL b q N P).length : Int) = PerP q b N P by unfold PerP; rw [h]; rfl)
    clear hf
    go_enter Try.func31, Try.ntmps31
    go_wp2_with fail
    refine (iExp q b N P _ b1 b2 q1 q2 HF.out hN).mono ?_
    rintro e w1 ⟨⟨v1, ao, cap, rfl, hrd⟩, hb1⟩
    have HB1 := Lib.hid hb1
    clear hrd hb1
    go_wp2
    go_ret
    exact ⟨ret_int HV.out, HB1.out⟩
  · have HV := Lib.hid (show -1 = PerP q b N P by unfold PerP; rw [h]; rfl)
    clear hf
    go_enter Try.func31, Try.ntmps31
    go_wp2_with fail
    refine (iExp_no q b _ q1 q2 h).mono ?_
    rintro e w1 ⟨rfl, rfl⟩
    go_wp2
    go_ret
    exact ⟨ret_int HV.out, Below.refl _ _⟩
theorem sPer (q b : Int) (N P : Nat) (w : World) (q1 : 2 ≤ q) (q2 : q ≤ 10) (hf : inB b 2 16 = true → Pl.IsFirst (xf b q) 1 N P) (hN : N ≤ 10) :
    Calls Try.prog 36 #[.int .i64 1, .int .i64 q, .int .i64 b] w fun e w' => e = .returned (.int .i64 (PerP q b N P)) ∧ Below w.heap.size w w' := by
  rcases inB_cases b 2 16 with h | h
  · have ⟨b1, b2⟩ := inB_t h
    have HF := Lib.hid (hf h)
    have HV := Lib.hid (show ((perL b q N P).length : Int) = PerP q b N P by unfold PerP; rw [h]; rfl)
    clear hf
    go_enter Try.func36, Try.ntmps36
    go_wp2_with fail
    refine (sFr q b _ b1 b2 q1 q2).mono ?_
    rintro e w1 ⟨rfl, rfl⟩
    go_wp2_with fail
    refine (sLen q b N P _ b1 b2 q1 q2 HF.out hN).mono ?_
    rintro e w1 ⟨rfl, hb1⟩
    have HB1 := Lib.hid hb1
    clear hb1
    go_wp2
    go_ret
    exact ⟨ret_int HV.out, HB1.out⟩
  · have HV := Lib.hid (show -1 = PerP q b N P by unfold PerP; rw [h]; rfl)
    clear hf
    go_enter Try.func36, Try.ntmps36
    go_wp2_with fail
    refine (sFr_no q b _ h).mono ?_
    rintro e w1 ⟨rfl, rfl⟩
    go_wp2
    go_ret
    exact ⟨ret_int HV.out, Below.refl _ _⟩
theorem val_rev_take {b : Int} {l : List Int} {k : Nat} (hk : k < l.length) : Pl.val b (l.take (k + 1)).reverse = Pl.val b (l.take k).reverse * b + l.getD k 0 := by
  have e : l.take (k + 1) = l.take k ++ [l.getD k 0] := by
    rw [List.take_add_one, List.getD_eq_getElem?_getD, List.getElem?_eq_getElem hk]; rfl
  rw [e, List.reverse_append]
  rfl
theorem val_rev_bd {b : Int} {l : List Int} (b1 : 2 ≤ b) (b2 : b ≤ 16) (hl : l.length ≤ 10) (hm : ∀ d ∈ l, 0 ≤ d ∧ d < b) (k : Nat) : 0 ≤ Pl.val b (l.take k).reverse ∧ Pl.val b (l.take k).reverse ≤ 1099511627776 := by
  have hm' : ∀ d ∈ (l.take k).reverse, 0 ≤ d ∧ d < b := fun d hd => hm d (List.mem_of_mem_take (List.mem_reverse.1 hd))
  have h1 := Pl.val_nn (show 0 ≤ b by omega) _ fun d hd => (hm' d hd).1
  have h2 := Pl.val_lt (show 1 ≤ b by omega) _ hm'
  have hlen : (l.take k).reverse.length ≤ 10 := by rw [List.length_reverse, List.length_take]; omega
  have h3 := Pl.pow_mono (show 0 ≤ b by omega) b2 (l.take k).reverse.length
  have h4 : (16 : Int) ^ (l.take k).reverse.length ≤ 16 ^ 10 := Pl.pow_up (by omega) hlen
  have h5 : (16 : Int) ^ 10 = 1099511627776 := by decide
  omega
theorem numberOf (l : List Int) (ln : Nat) (hln : ln = l.length) (ao : Option Addr) (cap : Nat) (b : Int) (w : World) (hr : Rd w ao cap l) (b1 : 2 ≤ b) (b2 : b ≤ 16) (hl : l.length ≤ 10) (hm : ∀ d ∈ l, 0 ≤ d ∧ d < b) :
    Calls Try.prog 42 #[.slice ao ln cap, .int .i64 b] w fun e w' => e = .returned (.int .i64 (Pl.val b l.reverse)) ∧ w = w' := by
  subst hln
  have HR := Lib.hid hr
  have HM := Lib.hid hm
  have HBd := Lib.hid (val_rev_bd b1 b2 hl hm)
  have hcap := hr.1
  have hcap2 := hr.2.1
  unfold maxLen at hcap2
  clear hr hm
  go_enter Try.func42, Try.ntmps42
  go_wp2
  go_loop [5, 10] (fun vn vi => ∃ (k : Nat) (x : Int), k ≤ l.length ∧ vi = .int .i64 k ∧ vn = .int .i64 x ∧ Hid (Pl.val b (l.take k).reverse = x)) (fun _ vi => l.length - (intOf vi).toNat)
  case atStart => exact ⟨0, 0, Nat.zero_le _, rfl, rfl, by simp [Hid, Pl.val]⟩
  case round =>
    obtain ⟨k, x, hk, rfl, rfl, hx⟩ := hrel
    by_cases hlt : k < l.length
    · obtain ⟨g, off, rfl, _, hc⟩ := HR.out.at hlt
      have ⟨hd1, hd2⟩ := HM.out _ (Pl.getD_mem hlt)
      have HX := Lib.hid (show Pl.val b (l.take (k + 1)).reverse = x * b + l.getD k 0 by rw [val_rev_take hlt, hx.out])
      have hbd := HBd.out k
      rw [hx.out] at hbd
      have ⟨x0, x1⟩ := hbd
      have m1 : 0 ≤ x * b := Int.mul_nonneg x0 (by omega)
      have m2 : x * b ≤ 1099511627776 * 16 := by
        have a1 : x * b ≤ 1099511627776 * b := Int.mul_le_mul_of_nonneg_right x1 (by omega)
        omega
      clear hbd
      generalize l.getD k 0 = d at *
      go_wp2
      go_round
      case rel => exact ⟨k + 1, x * b + d, by omega, by go_num, rfl, HX.out⟩
      case measure => simp [intOf]; omega
    · have HX := Lib.hid (show x = Pl.val b l.reverse by rw [← hx.out, List.take_of_length_le (by omega)])
      go_wp2
      go_ret
      exact ⟨ret_int HX.out, rfl⟩
/-- The number whose rotations are multiples, if the period is long enough. -/
def cycV (q b : Int) (N P : Nat) : Int × Bool := if inB q 2 10 && PerP q b N P == q - 1 then (Pl.val b (perL b q N P).reverse, true) else (0, false)
theorem per_bd {q b : Int} {N P : Nat} (hN : N ≤ 10) : -1 ≤ PerP q b N P ∧ PerP q b N P ≤ 10 := by
  have h1 : (perL b q N P).length ≤ 10 := by rw [perL_len]; split <;> omega
  unfold PerP
  split <;> omega
theorem ret_ib2 {a : Int} {q : Bool} {r : Int × Bool} (h : (a, q) = r) : Ending.returned (.tuple #[.int .i64 a, .bool q]) = .returned (.tuple #[.int .i64 r.1, .bool r.2]) := by rw [← h]
theorem per_ok {q b : Int} {N P : Nat} (q1 : 2 ≤ q) (h : (PerP q b N P == q - 1) = true) : inB b 2 16 = true ∧ ((perL b q N P).length : Int) = q - 1 := by
  rw [beq_iff_eq] at h
  unfold PerP at h
  rcases inB_cases b 2 16 with h' | h'
  · rw [h'] at h; exact ⟨h', h⟩
  · rw [h'] at h; exact absurd h (by simp; omega)
theorem iCyc (q b : Int) (N P : Nat) (w : World) (hf : inB q 2 10 = true → inB b 2 16 = true → Pl.IsFirst (xf b q) 1 N P) (hN : N ≤ 10) :
    Calls Try.prog 7 #[.int .i64 q, .int .i64 b] w fun e w' => e = .returned (.tuple #[.int .i64 (cycV q b N P).1, .bool (cycV q b N P).2]) ∧ Below w.heap.size w w' := by
  rcases inB_cases q 2 10 with h | h
  · have ⟨q1, q2⟩ := inB_t h
    have HFf := Lib.hid (hf h)
    clear hf
    obtain ⟨t, ht⟩ : ∃ t, PerP q b N P = t := ⟨_, rfl⟩
    have HT := Lib.hid ht
    have htb : -1 ≤ t ∧ t ≤ 10 := by
      rw [← ht]; exact per_bd hN
    have ⟨t1, t2⟩ := htb
    clear htb ht
    cases hq : (t == q - 1) with
    | true =>
      have HP := Lib.hid (per_ok q1 (show (PerP q b N P == q - 1) = true by rw [HT.out]; exact hq))
      have HV := Lib.hid (show (Pl.val b (perL b q N P).reverse, true) = cycV q b N P by unfold cycV; rw [h, HT.out, hq]; rfl)
      have ⟨b1, b2⟩ := inB_t HP.out.1
      have hq2 : (t != q - 1) = false := by rw [bne_eq_false_iff_eq, ← beq_iff_eq]; exact hq
      have hlen : (perL b q N P).length ≤ 10 := by have := HP.out.2; omega
      have HM := Lib.hid (perL_mem (N := N) (P := P) b1 q1)
      have HF := Lib.hid (HFf.out HP.out.1)
      clear HFf hq
      go_enter Try.func7, Try.ntmps7
      go_wp2_with (first | (go_at_call 40; refine (within_any _ _ _ _).mono ?_; rintro e w' ⟨rfl, rfl⟩))
      refine (as_int HT.out (iPer q b N P _ q1 q2 (fun _ => HF.out) hN)).mono ?_
      rintro e w1 ⟨rfl, hb1⟩
      have HB1 := Lib.hid hb1
      clear hb1
      go_wp2_with fail
      refine (iExp q b N P _ b1 b2 q1 q2 HF.out hN).mono ?_
      rintro e w2 ⟨⟨v1, ao, cap, rfl, hrd⟩, hb2⟩
      have HB2 := Lib.hid (HB1.out.trans (hb2.mono HB1.out.size))
      have HRD := Lib.hid hrd
      clear hb2 hrd
      go_wp2_with fail
      refine (numberOf _ _ rfl _ _ _ _ HRD.out b1 b2 hlen HM.out).mono ?_
      rintro e w3 ⟨rfl, rfl⟩
      go_wp2
      go_ret2
      exact ⟨ret_ib2 HV.out, HB2.out⟩
    | false =>
      have HV := Lib.hid (show (0, false) = cycV q b N P by unfold cycV; rw [h, HT.out, hq]; rfl)
      have hq2 : (t != q - 1) = true := by rw [bne_iff_ne]; rw [beq_eq_false_iff_ne] at hq; exact hq
      clear hq
      go_enter Try.func7, Try.ntmps7
      go_wp2_with (first | (go_at_call 40; refine (within_any _ _ _ _).mono ?_; rintro e w' ⟨rfl, rfl⟩))
      refine (as_int HT.out (iPer q b N P _ q1 q2 HFf.out hN)).mono ?_
      rintro e w1 ⟨rfl, hb1⟩
      have HB1 := Lib.hid hb1
      clear hb1
      go_wp2_with fail
      go_ret2
      exact ⟨ret_ib2 HV.out, HB1.out⟩
  · have HV := Lib.hid (show (0, false) = cycV q b N P by unfold cycV; rw [h]; rfl)
    clear hf
    go_enter Try.func7, Try.ntmps7
    go_wp2_with (first | (go_at_call 40; refine (within_any _ _ _ _).mono ?_; rintro e w' ⟨rfl, rfl⟩))
    go_ret2
    exact ⟨ret_ib2 HV.out, Below.refl _ _⟩
set_option maxRecDepth 100000 in
theorem sCyc (q b : Int) (N P : Nat) (w : World) (hf : inB q 2 10 = true → inB b 2 16 = true → Pl.IsFirst (xf b q) 1 N P) (hN : N ≤ 10) :
    Calls Try.prog 6 #[.int .i64 q, .int .i64 b] w fun e w' => e = .returned (.tuple #[.int .i64 (cycV q b N P).1, .bool (cycV q b N P).2]) ∧ Below w.heap.size w w' := by
  rcases inB_cases q 2 10 with h | h
  · have ⟨q1, q2⟩ := inB_t h
    have HFf := Lib.hid (hf h)
    clear hf
    obtain ⟨t, ht⟩ : ∃ t, PerP q b N P = t := ⟨_, rfl⟩
    have HT := Lib.hid ht
    have htb : -1 ≤ t ∧ t ≤ 10 := by
      rw [← ht]; exact per_bd hN
    have ⟨t1, t2⟩ := htb
    clear htb ht
    cases hq : (t == q - 1) with
    | true =>
      have HP := Lib.hid (per_ok q1 (show (PerP q b N P == q - 1) = true by rw [HT.out]; exact hq))
      have HV := Lib.hid (show (Pl.val b (perL b q N P).reverse, true) = cycV q b N P by unfold cycV; rw [h, HT.out, hq]; rfl)
      have ⟨b1, b2⟩ := inB_t HP.out.1
      have hq2 : (t != q - 1) = false := by rw [bne_eq_false_iff_eq, ← beq_iff_eq]; exact hq
      have hlen : (perL b q N P).length ≤ 10 := by have := HP.out.2; omega
      have HM := Lib.hid (perL_mem (N := N) (P := P) b1 q1)
      have HF := Lib.hid (HFf.out HP.out.1)
      clear HFf hq
      go_enter Try.func6, Try.ntmps6
      go_wp2_with (first | (go_at_call 35; refine (l01In_any _ _ _ _).mono ?_; rintro e w' ⟨rfl, rfl⟩))
      refine (as_int HT.out (sPer q b N P _ q1 q2 (fun _ => HF.out) hN)).mono ?_
      rintro e w1 ⟨rfl, hb1⟩
      have HB1 := Lib.hid hb1
      clear hb1
      go_wp2_with fail
      refine (sExp q b N P _ b1 b2 q1 q2 HF.out hN).mono ?_
      rintro e w2 ⟨⟨v1, ao, cap, rfl, hrd⟩, hb2⟩
      have HB2 := Lib.hid (HB1.out.trans (hb2.mono HB1.out.size))
      have HRD := Lib.hid hrd
      clear hb2 hrd
      go_wp2_with fail
      refine (l02Turn _ _ rfl _ _ _ HRD.out (by omega)).mono ?_
      rintro e w3 ⟨v, rfl, hown, hb3⟩
      obtain ⟨ao3, cap3, rfl, hrd3⟩ := hown.shape
      have HB3 := Lib.hid (HB2.out.trans (hb3.mono HB2.out.size))
      have HRD3 := Lib.hid hrd3
      clear hb3 hrd3 hown
      have hvb : Pl.val b (perL b q N P).reverse ≤ 10000000000000000 := by
        have := (val_rev_bd b1 b2 hlen HM.out (perL b q N P).length).2
        rw [List.take_length] at this; omega
      go_wp2_with fail
      refine (l18Value (perL b q N P).reverse _ (by simp) _ _ _ _ HRD3.out (by omega) b2 (fun d hd => (HM.out d (List.mem_reverse.1 hd)).1) hvb).mono ?_
      rintro e w4 ⟨rfl, rfl⟩
      go_wp2
      go_ret2
      exact ⟨ret_ib2 HV.out, HB3.out⟩
    | false =>
      have HV := Lib.hid (show (0, false) = cycV q b N P by unfold cycV; rw [h, HT.out, hq]; rfl)
      have hq2 : (t != q - 1) = true := by rw [bne_iff_ne]; rw [beq_eq_false_iff_ne] at hq; exact hq
      clear hq
      go_enter Try.func6, Try.ntmps6
      go_wp2_with (first | (go_at_call 35; refine (l01In_any _ _ _ _).mono ?_; rintro e w' ⟨rfl, rfl⟩))
      refine (as_int HT.out (sPer q b N P _ q1 q2 HFf.out hN)).mono ?_
      rintro e w1 ⟨rfl, hb1⟩
      have HB1 := Lib.hid hb1
      clear hb1
      go_wp2_with fail
      go_ret2
      exact ⟨ret_ib2 HV.out, HB1.out⟩
  · have HV := Lib.hid (show (0, false) = cycV q b N P by unfold cycV; rw [h]; rfl)
    clear hf
    go_enter Try.func6, Try.ntmps6
    go_wp2_with (first | (go_at_call 35; refine (l01In_any _ _ _ _).mono ?_; rintro e w' ⟨rfl, rfl⟩))
    go_ret2
    exact ⟨ret_ib2 HV.out, Below.refl _ _⟩
theorem cyc_first (q b : Int) : ∃ N P, N ≤ 10 ∧ (inB q 2 10 = true → inB b 2 16 = true → Pl.IsFirst (xf b q) 1 N P) := by
  rcases inB_cases q 2 10 with h | h
  · obtain ⟨N, P, h1, h2⟩ := first (b := b) (inB_t h).1 (inB_t h).2
    exact ⟨N, P, h1, fun _ _ => h2⟩
  · exact ⟨0, 0, by omega, fun h' => by rw [h] at h'; exact absurd h' (by simp)⟩
end Xp
end Go.Proofs.Ytnjifahnfmifgaa
