/-
  The contract of the search for a cycle.
  Conditions: the step is met by a contract, and a number comes again soon enough.
-/
import Derived.Test.YtidjnbnhkgobnaaConc
import Derived.Test.YtidjnbnhkgobnaaCycles
import Derived.Test.YtidjnbnhkgobnaaSlicesE
import Derived.Test.YtidjnbnhkgobnaaSlicesF
import Derived.Maps.OwnSet
import Derived.Maps.Views
import Derived.Deep.DeepCutAuto
import Derived.Deep.RegionWith
namespace Go.Proofs.Ytidjnbnhkgobnaa
open Go.RowKit
namespace Cy
open Go.Maps
theorem lawI : Keyed Try.prog 3 := int_keyed Try.underlying3
theorem zeroI (w : World) : (zeroValue 3).run Try.prog w = .ok (.int .i64 0) w := by kernel_rfl
theorem keyI (x : Int) (hx : -1000000000000000000 ≤ x ∧ x ≤ 1000000000000000000) : keyOf Try.prog 3 (.int .i64 x) = some (.int .i64 x) :=
  keyOf_int_mk Try.underlying3 (WalkArith.wf_i64 (by omega))
/-- The map D tells for each number of l where it stands. -/
structure MapL (D : DataW Unit) (l : List Int) : Prop where
  isMap : IsMap D
  has : ∀ x : Int, Maps.has D (.int .i64 x) = decide (x ∈ l)
  at_ : ∀ i : Nat, i < l.length → ∀ z, D.atKey (.int .i64 (l.getD i 0)) z = .lit (.int .i64 i)
theorem mapL_nil : MapL (.map []) [] := ⟨isMap_empty, fun x => by rfl, fun i hi => by simp at hi⟩
theorem MapL.put {D : DataW Unit} {l : List Int} (h : MapL D l) {x : Int} (hx : x ∉ l) (wx : WideAt.IsKeyLit (.int .i64 x)) : MapL (D.put (.int .i64 x) (.lit (.int .i64 (l.length : Int)))) (l ++ [x]) := by
  refine ⟨h.isMap.put _ _, fun y => ?_, fun i hi z => ?_⟩
  · by_cases e : y = x
    · subst e
      rw [has_put_same h.isMap wx]; simp
    · rw [has_put_other (by intro e'; simp at e'; exact e e'), h.has]
      simp [e]
  · rw [List.length_append] at hi
    by_cases hil : i < l.length
    · have e1 : (l ++ [x]).getD i 0 = l.getD i 0 := by
        rw [List.getD_eq_getElem?_getD, List.getD_eq_getElem?_getD, List.getElem?_append_left hil]
      have hne : l.getD i 0 ≠ x := fun e => hx (by rw [← e]; exact Pl.getD_mem hil)
      rw [e1, atKey_put_other (by intro e'; simp at e'; exact hne (by first | exact e' | exact e'.symm))]
      exact h.at_ i hil z
    · obtain rfl : i = l.length := by simp at hi; omega
      have e1 : (l ++ [x]).getD l.length 0 = x := by
        rw [List.getD_eq_getElem?_getD, List.getElem?_append_right (Nat.le_refl _)]; simp
      rw [e1]
      exact atKey_put_same h.isMap wx _ _
theorem minAt_of {l : List Int} {x r : Int} (h : IsMin l x) (hi : IsIdx l x r) : ∃ m : Nat, r = m ∧ Pl.IsMinAt l m := by
  rcases hi with ⟨_, h2⟩ | ⟨k, rfl, h1, h2, h3⟩
  · obtain ⟨j, hj, e⟩ := mem_getD.1 h.1
    exact absurd e (h2 j hj)
  · refine ⟨k, rfl, h1, fun i hi => ?_, fun i hi => ?_⟩
    · rw [h2]; exact h.2 _ (Pl.getD_mem hi)
    · have := h.2 _ (Pl.getD_mem (show i < l.length by omega))
      have := h3 i hi
      rw [h2]; omega
/-- The step is met at all numbers from 0 to M. -/
def StepC (K : Nat) (p1 p2 : Addr) (f : Int → Int) (M : Int) (w0 : World) : Prop :=
  ∀ (m : Int) (w1 : World), 0 ≤ m → m ≤ M → Below w0.heap.size w0 w1 → Calls Try.prog K #[.int .i64 m, .pointer (some p1), .pointer (some p2)] w1 fun e w2 => e = .returned (.int .i64 (f m)) ∧ Below w1.heap.size w1 w2
def lenS : Value → Nat | .slice _ n _ => n | _ => 0
def CycP (f : Int → Int) (n : Int) (w w' : World) (e : Ending) : Prop := ∃ (p : Nat) (c : List Int) (v : Value), e = .returned (.tuple #[.int .i64 p, v]) ∧ Pl.Cyc f n p c ∧ Own w' w.heap.size v c
theorem ownsMap_below {w w' : World} {R : Value → Option (DataW Unit × List MemPlace)} {b n : Nat} {D : DataW Unit} (h : w.ownsMap Try.prog 3 R b n D) {C : Nat} (hb : Below C w w') (hC : b < C) : w'.ownsMap Try.prog 3 R b n D := by
  obtain ⟨es, clock, h1, h2⟩ := h
  exact ⟨es, clock, by rw [hb.block b hC]; exact h1, h2⟩
theorem rd_take {w : World} {ao : Option Addr} {cap : Nat} {l : List Int} (h : Rd w ao cap l) (s : Nat) : Rd w ao cap (l.take s) := by
  obtain ⟨h1, h2, h3, h4⟩ := h
  refine ⟨by rw [List.length_take]; omega, h2, h3, ?_⟩
  rcases h4 with rfl | ⟨b, off, e, hl, hc⟩
  · left; simp
  · refine .inr ⟨b, off, e, hl, fun j hj => ?_⟩
    rw [List.length_take] at hj
    rw [hc j (by omega), List.getD_eq_getElem?_getD, List.getD_eq_getElem?_getD, List.getElem?_take, if_pos (by omega)]
theorem rd_drop {w : World} {b off cap : Nat} {l : List Int} (h : Rd w (some ⟨b, off, none⟩) cap l) (s : Nat) (hs : s ≤ cap) : Rd w (some ⟨b, off + s, none⟩) (cap - s) (l.drop s) := by
  obtain ⟨h1, h2, h3, h4⟩ := h
  refine ⟨by rw [List.length_drop]; omega, by omega, fun h => by simp at h, ?_⟩
  rcases h4 with rfl | ⟨b', off', e, hl, hcell⟩
  · left; simp
  · simp only [Option.some.injEq, Addr.mk.injEq, and_true] at e
    obtain ⟨rfl, rfl⟩ := e
    refine .inr ⟨b, off + s, rfl, hl, fun j hj => ?_⟩
    rw [List.length_drop] at hj
    rw [show off + s + j = off + (s + j) by omega, hcell (s + j) (by omega), List.getD_eq_getElem?_getD, List.getD_eq_getElem?_getD, List.getElem?_drop]
theorem own_some {w : World} {B : Nat} {v : Value} {l : List Int} (h : Own w B v l) (hl : l ≠ []) : ∃ g cap, v = .slice (some ⟨g, 0, none⟩) l.length cap ∧ l.length ≤ cap ∧ cap ≤ maxLen := by
  rcases h.forms with ⟨_, h0⟩ | ⟨g, cap, e, _, _, h1, h2⟩
  · exact absurd h0 hl
  · exact ⟨g, cap, e, h1, h2⟩
set_option maxRecDepth 100000 in
set_option maxHeartbeats 1000000 in
theorem cycleFrom_PowerCycle_1 (p1 p2 : Addr) (f : Int → Int) (n M : Int) (w : World) (hs : StepC 39 p1 p2 f M w) (hb : ∀ i, 0 ≤ Pl.orb f n i ∧ Pl.orb f n i ≤ M) (hM : M ≤ 1000000000000) (N p : Nat) (hf : Pl.IsFirst f n N p) (hN : N ≤ 100000000) :
    Calls Try.prog 38 #[.int .i64 n, .func (.func 39) #[] #[.pointer (some p1), .pointer (some p2)]] w fun e w' => CycP f n w w' e ∧ Below w.heap.size w w' := by
  have HS := Lib.hid hs
  have HB0 := Lib.hid hb
  have HF := Lib.hid hf
  have hmm := @run_makeMap Try.prog
  clear hs hb hf
  go_enter Try.func38, Try.ntmps38
  go_wp2
  go_loopw [0, 7] (fun vn vl wr => ∃ (k : Nat) (x : Int) (D : DataW Unit), k ≤ N ∧ vn = .int .i64 x ∧ 0 ≤ x ∧ x ≤ M ∧ Hid (Pl.orb f n k = x) ∧ Own wr (w.heap.size + 1) vl (Pl.orbL f n k) ∧ wr.ownsMap Try.prog 3 (plainElem Try.prog 3) w.heap.size k D ∧ Hid (MapL D (Pl.orbL f n k)) ∧ Below w.heap.size w wr) (fun _ vl _ => N - lenS vl)
  case atStart =>
    have := HB0.out 0
    exact ⟨0, n, .map [], Nat.zero_le _, rfl, this.1, this.2, Lib.hid rfl, own_nil _ _, World.ownsMap_made _ _ _ _, Lib.hid mapL_nil, (Below.refl _ _).alloc (Nat.le_refl _) _⟩
  case round =>
    obtain ⟨k, x, D, hk, rfl, x0, x1, hx, hown, hmap, hD, hbel⟩ := hrel
    obtain ⟨ao, cap, ev, hrd⟩ := hown.shape
    rw [Pl.orbL_len] at ev
    subst ev
    have HO := Lib.hid hown
    have HMp := Lib.hid hmap
    have HB := Lib.hid hbel
    have HRD := Lib.hid hrd
    clear hown hmap hbel hrd
    have HKey := Lib.hid (keyI x (by omega))
    by_cases hkN : k < N
    · have hhas : Maps.has D (.int .i64 x) = false := by
        rw [hD.out.has]
        simp only [decide_eq_false_iff_not]
        intro hm
        obtain ⟨j, hj, e⟩ := mem_getD.1 hm
        rw [Pl.orbL_len] at hj
        rw [Pl.orbL_get hj, ← hx.out] at e
        exact HF.out.2.2 j k hj hkN e
      have HXm := Lib.hid (show x ∉ Pl.orbL f n k from fun hm => by
        have := hD.out.has x
        rw [hhas] at this
        simp [hm] at this)
      have HD2 := Lib.hid (show MapL (D.put (.int .i64 x) (.lit (.int .i64 (k : Int)))) (Pl.orbL f n (k + 1)) by
        have := hD.out.put HXm.out trivial
        rwa [Pl.orbL_len, show Pl.orbL f n k ++ [x] = Pl.orbL f n (k + 1) by rw [Pl.orbL_succ, hx.out]] at this)
      have HX := Lib.hid (show (Pl.orbL f n k).length < 1000000000000 by rw [Pl.orbL_len]; omega)
      have HL2 := Lib.hid (show Pl.orbL f n k ++ [x] = Pl.orbL f n (k + 1) by rw [Pl.orbL_succ, hx.out])
      have HX2 := Lib.hid (show Pl.orb f n (k + 1) = f x by rw [← hx.out]; rfl)
      have hlt0 := HMp.out.lt
      have HN1 := Lib.hid (HB0.out (k + 1))
      rw [HX2.out] at HN1
      go_wp2_with (first
        | (at_lookup; refine wpList_lookup_own_ok_int _ rfl _ _ 48 rfl 3 3 .i64 lawI Try.underlying48 Try.underlying3 (zeroI _) w.heap.size k D rfl HMp.out _ _ rfl HKey.out ?_; intro c hat hwc; clear hat hwc)
        | (at_mapUpdate; refine wpList_mapUpdate_own _ rfl _ _ _ 48 rfl 3 3 lawI Try.underlying48 _ w.heap.size k D rfl HMp.out (by unfold maxLen; omega) _ _ _ rfl rfl HKey.out _ [] (plainElem_int Try.underlying3 (WalkArith.wf_i64 (by omega))) ?_; intro w1 hmap1 hgrow1
           have HO1 := Lib.hid (HO.out.beside (u := .slice (some ⟨w.heap.size, 0, none⟩) 0 0) hgrow1 (fun j hj => by cases hj; exact Nat.lt_succ_self _) (Nat.le_refl _))
           have HB1 := Lib.hid (HB.out.grown hgrow1 HB.out.size (fun j hj => by cases hj; exact Nat.le_refl _))
           have HM1 := Lib.hid hmap1
           have hsz1 : w.heap.size + 1 ≤ w1.heap.size := by have := hgrow1.size; omega
           clear hmap1 hgrow1)
        | (at_builtin; refine wp_push w1 (w.heap.size + 1) _ (Pl.orbL f n k) x HO1.out rfl _ _ rfl rfl rfl HX.out hsz1 ?_; intro v2 w2 hown2 hb2))
      have HO2 := Lib.hid hown2
      have HB2 := Lib.hid (HB1.out.trans (hb2.mono (Nat.le_succ _)))
      have HM2 := Lib.hid (ownsMap_below HM1.out hb2 (Nat.lt_succ_self _))
      have hsz2 : w.heap.size < w2.heap.size := by have := hb2.size; omega
      clear hown2 hb2 hsz1
      refine (HS.out x _ x0 x1 HB2.out).mono ?_
      rintro e w3 ⟨rfl, hb3⟩
      have HO3 := Lib.hid (HO2.out.below hb3 (Nat.le_refl _))
      have HB3 := Lib.hid (HB2.out.trans (hb3.mono (Nat.le_of_lt hsz2)))
      have HM3 := Lib.hid (ownsMap_below HM2.out hb3 hsz2)
      clear hb3
      have ⟨y0, y1⟩ := HN1.out
      generalize f x = y at *
      go_wp2
      go_roundw
      case rel => exact ⟨k + 1, y, _, by omega, rfl, y0, y1, HX2, by rw [← HL2.out]; exact HO3.out, HM3.out, HD2, HB3.out⟩
      case measure =>
        obtain ⟨_, _, e, _⟩ := HO3.out.shape
        rw [e]; simp [lenS, Pl.orbL_len]; omega
    · obtain rfl : k = N := by omega
      have hp1 := HF.out.1
      have HX := Lib.hid (show (Pl.orbL f n k).getD p 0 = x by rw [Pl.orbL_get hp1, ← hx.out]; exact HF.out.2.1.symm)
      have hhas : Maps.has D (.int .i64 x) = true := by
        rw [hD.out.has]
        simp only [decide_eq_true_eq]
        rw [← HX.out]
        exact Pl.getD_mem (by rw [Pl.orbL_len]; exact hp1)
      have HC := Lib.hid (fun (c : Int) (h : D.atKey (.int .i64 x) (.lit (.int .i64 0)) = .lit (.int .i64 c)) => show c = (p : Int) by
        have := hD.out.at_ p (by rw [Pl.orbL_len]; exact hp1) (.lit (.int .i64 0))
        rw [HX.out] at this
        rw [this] at h
        simp at h
        exact h.symm)
      obtain ⟨g, cap', eg, hcap, hcap2⟩ := own_some HO.out (by intro e; have := congrArg List.length e; rw [Pl.orbL_len] at this; simp at this; omega)
      simp only [Value.slice.injEq] at eg
      obtain ⟨rfl, e9, rfl⟩ := eg
      clear e9
      rw [Pl.orbL_len] at hcap
      unfold maxLen at hcap2
      have hcp : ¬ cap = p := by omega
      go_upto_region 4 with (at_lookup; refine wpList_lookup_own_ok_int _ rfl _ _ 48 rfl 3 3 .i64 lawI Try.underlying48 Try.underlying3 (zeroI _) w.heap.size k D rfl HMp.out _ _ rfl HKey.out ?_; intro c hat hwc; obtain rfl := HC.out c hat; clear hat hwc)
      go_wp2_with fail
      have HRC : Rd wr (some ⟨g, p, none⟩) (cap - p) ((Pl.orbL f n k).drop p) := by have := rd_drop HRD.out p (by omega); rwa [Nat.zero_add] at this
      have HLC : ((Pl.orbL f n k).drop p).length = k - p := by rw [List.length_drop, Pl.orbL_len]
      have HRC' := Lib.hid HRC
      have HLC' := Lib.hid HLC
      clear HRC HLC
      refine (slMin ((Pl.orbL f n k).drop p) _ HLC'.out.symm _ _ _ HRC'.out (by rw [HLC'.out]; omega)).mono ?_
      rintro e w1 ⟨mn, rfl, hmin, rfl⟩
      have HMin := Lib.hid hmin
      clear hmin
      go_wp2_with fail
      refine (slIndex ((Pl.orbL f n k).drop p) _ HLC'.out.symm _ _ _ _ HRC'.out).mono ?_
      rintro e w1 ⟨r, rfl, hidx, rfl⟩
      obtain ⟨m, rfl, hma⟩ := minAt_of HMin.out hidx
      have hm1 : m < k - p := by have := hma.1; rw [HLC'.out] at this; exact this
      have HMA := Lib.hid hma
      clear hidx hma
      have hcm : ¬ cap - p = m := by omega
      have HR1 := Lib.hid (rd_drop HRC'.out m (by omega))
      have HR2 := Lib.hid (rd_take HRC'.out m)
      have HN1 := Lib.hid (show k - p - m = (((Pl.orbL f n k).drop p).drop m).length by rw [List.length_drop, HLC'.out])
      have HN2 := Lib.hid (show m = (((Pl.orbL f n k).drop p).take m).length by rw [List.length_take, HLC'.out]; omega)
      have HCyc := Lib.hid (show Pl.Cyc f n p ((((Pl.orbL f n k).drop p).drop m) ++ (((Pl.orbL f n k).drop p).take m)) from ⟨k, m, HF.out, HMA.out, rfl⟩)
      generalize (((Pl.orbL f n k).drop p).drop m) = l1 at *
      generalize (((Pl.orbL f n k).drop p).take m) = l2 at *
      go_wp2_with fail
      have HBA := Lib.hid (show Below wr.heap.size wr (wr.alloc (.cells #[.slice (some ⟨g, p + m, none⟩) (k - p - m) (cap - p - m), .slice (some ⟨g, p, none⟩) m (cap - p)] 22)).drew from Below.drew ((Below.refl _ _).alloc (Nat.le_refl _) _))
      have HC0 := Lib.hid (show (wr.alloc (.cells #[.slice (some ⟨g, p + m, none⟩) (k - p - m) (cap - p - m), .slice (some ⟨g, p, none⟩) m (cap - p)] 22)).drew.cell? ⟨wr.heap.size, 0, none⟩ = some (.slice (some ⟨g, p + m, none⟩) (k - p - m) (cap - p - m)) by rw [World.cell?_drew]; simp [World.cell?_alloc_new])
      have HC1 := Lib.hid (show (wr.alloc (.cells #[.slice (some ⟨g, p + m, none⟩) (k - p - m) (cap - p - m), .slice (some ⟨g, p, none⟩) m (cap - p)] 22)).drew.cell? ⟨wr.heap.size, 1, none⟩ = some (.slice (some ⟨g, p, none⟩) m (cap - p)) by rw [World.cell?_drew]; simp [World.cell?_alloc_new])
      have HCC := Lib.hid (concat2 l1 l2 _ _ HN1.out HN2.out _ _ _ _ wr.heap.size _ HC0.out HC1.out (by simp) (HR1.out.below HBA.out (Nat.le_refl _)) (HR2.out.below HBA.out (Nat.le_refl _)) (by rw [← HN1.out]; omega) (by rw [← HN2.out]; omega) (by rw [← HN1.out, ← HN2.out]; omega))
      go_region_with ((go_at_call 65; refine HCC.out.mono ?_; rintro e w2 ⟨v, rfl, hown, hb⟩))
      all_goals
        go_wp2
        go_ret2
        exact ⟨⟨p, l1 ++ l2, v, rfl, HCyc.out, hown.mono (Nat.le_trans HB.out.size HBA.out.size)⟩, HB.out.trans ((HBA.out.trans (hb.mono HBA.out.size)).mono HB.out.size)⟩
set_option maxRecDepth 100000 in
set_option maxHeartbeats 1000000 in
theorem cycleFrom_SortCycle_1 (p1 p2 : Addr) (f : Int → Int) (n M : Int) (w : World) (hs : StepC 57 p1 p2 f M w) (hb : ∀ i, 0 ≤ Pl.orb f n i ∧ Pl.orb f n i ≤ M) (hM : M ≤ 1000000000000) (N p : Nat) (hf : Pl.IsFirst f n N p) (hN : N ≤ 100000000) :
    Calls Try.prog 38 #[.int .i64 n, .func (.func 57) #[] #[.pointer (some p1), .pointer (some p2)]] w fun e w' => CycP f n w w' e ∧ Below w.heap.size w w' := by
  have HS := Lib.hid hs
  have HB0 := Lib.hid hb
  have HF := Lib.hid hf
  have hmm := @run_makeMap Try.prog
  clear hs hb hf
  go_enter Try.func38, Try.ntmps38
  go_wp2
  go_loopw [0, 7] (fun vn vl wr => ∃ (k : Nat) (x : Int) (D : DataW Unit), k ≤ N ∧ vn = .int .i64 x ∧ 0 ≤ x ∧ x ≤ M ∧ Hid (Pl.orb f n k = x) ∧ Own wr (w.heap.size + 1) vl (Pl.orbL f n k) ∧ wr.ownsMap Try.prog 3 (plainElem Try.prog 3) w.heap.size k D ∧ Hid (MapL D (Pl.orbL f n k)) ∧ Below w.heap.size w wr) (fun _ vl _ => N - lenS vl)
  case atStart =>
    have := HB0.out 0
    exact ⟨0, n, .map [], Nat.zero_le _, rfl, this.1, this.2, Lib.hid rfl, own_nil _ _, World.ownsMap_made _ _ _ _, Lib.hid mapL_nil, (Below.refl _ _).alloc (Nat.le_refl _) _⟩
  case round =>
    obtain ⟨k, x, D, hk, rfl, x0, x1, hx, hown, hmap, hD, hbel⟩ := hrel
    obtain ⟨ao, cap, ev, hrd⟩ := hown.shape
    rw [Pl.orbL_len] at ev
    subst ev
    have HO := Lib.hid hown
    have HMp := Lib.hid hmap
    have HB := Lib.hid hbel
    have HRD := Lib.hid hrd
    clear hown hmap hbel hrd
    have HKey := Lib.hid (keyI x (by omega))
    by_cases hkN : k < N
    · have hhas : Maps.has D (.int .i64 x) = false := by
        rw [hD.out.has]
        simp only [decide_eq_false_iff_not]
        intro hm
        obtain ⟨j, hj, e⟩ := mem_getD.1 hm
        rw [Pl.orbL_len] at hj
        rw [Pl.orbL_get hj, ← hx.out] at e
        exact HF.out.2.2 j k hj hkN e
      have HXm := Lib.hid (show x ∉ Pl.orbL f n k from fun hm => by
        have := hD.out.has x
        rw [hhas] at this
        simp [hm] at this)
      have HD2 := Lib.hid (show MapL (D.put (.int .i64 x) (.lit (.int .i64 (k : Int)))) (Pl.orbL f n (k + 1)) by
        have := hD.out.put HXm.out trivial
        rwa [Pl.orbL_len, show Pl.orbL f n k ++ [x] = Pl.orbL f n (k + 1) by rw [Pl.orbL_succ, hx.out]] at this)
      have HX := Lib.hid (show (Pl.orbL f n k).length < 1000000000000 by rw [Pl.orbL_len]; omega)
      have HL2 := Lib.hid (show Pl.orbL f n k ++ [x] = Pl.orbL f n (k + 1) by rw [Pl.orbL_succ, hx.out])
      have HX2 := Lib.hid (show Pl.orb f n (k + 1) = f x by rw [← hx.out]; rfl)
      have hlt0 := HMp.out.lt
      have HN1 := Lib.hid (HB0.out (k + 1))
      rw [HX2.out] at HN1
      go_wp2_with (first
        | (at_lookup; refine wpList_lookup_own_ok_int _ rfl _ _ 48 rfl 3 3 .i64 lawI Try.underlying48 Try.underlying3 (zeroI _) w.heap.size k D rfl HMp.out _ _ rfl HKey.out ?_; intro c hat hwc; clear hat hwc)
        | (at_mapUpdate; refine wpList_mapUpdate_own _ rfl _ _ _ 48 rfl 3 3 lawI Try.underlying48 _ w.heap.size k D rfl HMp.out (by unfold maxLen; omega) _ _ _ rfl rfl HKey.out _ [] (plainElem_int Try.underlying3 (WalkArith.wf_i64 (by omega))) ?_; intro w1 hmap1 hgrow1
           have HO1 := Lib.hid (HO.out.beside (u := .slice (some ⟨w.heap.size, 0, none⟩) 0 0) hgrow1 (fun j hj => by cases hj; exact Nat.lt_succ_self _) (Nat.le_refl _))
           have HB1 := Lib.hid (HB.out.grown hgrow1 HB.out.size (fun j hj => by cases hj; exact Nat.le_refl _))
           have HM1 := Lib.hid hmap1
           have hsz1 : w.heap.size + 1 ≤ w1.heap.size := by have := hgrow1.size; omega
           clear hmap1 hgrow1)
        | (at_builtin; refine wp_push w1 (w.heap.size + 1) _ (Pl.orbL f n k) x HO1.out rfl _ _ rfl rfl rfl HX.out hsz1 ?_; intro v2 w2 hown2 hb2))
      have HO2 := Lib.hid hown2
      have HB2 := Lib.hid (HB1.out.trans (hb2.mono (Nat.le_succ _)))
      have HM2 := Lib.hid (ownsMap_below HM1.out hb2 (Nat.lt_succ_self _))
      have hsz2 : w.heap.size < w2.heap.size := by have := hb2.size; omega
      clear hown2 hb2 hsz1
      refine (HS.out x _ x0 x1 HB2.out).mono ?_
      rintro e w3 ⟨rfl, hb3⟩
      have HO3 := Lib.hid (HO2.out.below hb3 (Nat.le_refl _))
      have HB3 := Lib.hid (HB2.out.trans (hb3.mono (Nat.le_of_lt hsz2)))
      have HM3 := Lib.hid (ownsMap_below HM2.out hb3 hsz2)
      clear hb3
      have ⟨y0, y1⟩ := HN1.out
      generalize f x = y at *
      go_wp2
      go_roundw
      case rel => exact ⟨k + 1, y, _, by omega, rfl, y0, y1, HX2, by rw [← HL2.out]; exact HO3.out, HM3.out, HD2, HB3.out⟩
      case measure =>
        obtain ⟨_, _, e, _⟩ := HO3.out.shape
        rw [e]; simp [lenS, Pl.orbL_len]; omega
    · obtain rfl : k = N := by omega
      have hp1 := HF.out.1
      have HX := Lib.hid (show (Pl.orbL f n k).getD p 0 = x by rw [Pl.orbL_get hp1, ← hx.out]; exact HF.out.2.1.symm)
      have hhas : Maps.has D (.int .i64 x) = true := by
        rw [hD.out.has]
        simp only [decide_eq_true_eq]
        rw [← HX.out]
        exact Pl.getD_mem (by rw [Pl.orbL_len]; exact hp1)
      have HC := Lib.hid (fun (c : Int) (h : D.atKey (.int .i64 x) (.lit (.int .i64 0)) = .lit (.int .i64 c)) => show c = (p : Int) by
        have := hD.out.at_ p (by rw [Pl.orbL_len]; exact hp1) (.lit (.int .i64 0))
        rw [HX.out] at this
        rw [this] at h
        simp at h
        exact h.symm)
      obtain ⟨g, cap', eg, hcap, hcap2⟩ := own_some HO.out (by intro e; have := congrArg List.length e; rw [Pl.orbL_len] at this; simp at this; omega)
      simp only [Value.slice.injEq] at eg
      obtain ⟨rfl, e9, rfl⟩ := eg
      clear e9
      rw [Pl.orbL_len] at hcap
      unfold maxLen at hcap2
      have hcp : ¬ cap = p := by omega
      go_upto_region 4 with (at_lookup; refine wpList_lookup_own_ok_int _ rfl _ _ 48 rfl 3 3 .i64 lawI Try.underlying48 Try.underlying3 (zeroI _) w.heap.size k D rfl HMp.out _ _ rfl HKey.out ?_; intro c hat hwc; obtain rfl := HC.out c hat; clear hat hwc)
      go_wp2_with fail
      have HRC : Rd wr (some ⟨g, p, none⟩) (cap - p) ((Pl.orbL f n k).drop p) := by have := rd_drop HRD.out p (by omega); rwa [Nat.zero_add] at this
      have HLC : ((Pl.orbL f n k).drop p).length = k - p := by rw [List.length_drop, Pl.orbL_len]
      have HRC' := Lib.hid HRC
      have HLC' := Lib.hid HLC
      clear HRC HLC
      refine (slMin ((Pl.orbL f n k).drop p) _ HLC'.out.symm _ _ _ HRC'.out (by rw [HLC'.out]; omega)).mono ?_
      rintro e w1 ⟨mn, rfl, hmin, rfl⟩
      have HMin := Lib.hid hmin
      clear hmin
      go_wp2_with fail
      refine (slIndex ((Pl.orbL f n k).drop p) _ HLC'.out.symm _ _ _ _ HRC'.out).mono ?_
      rintro e w1 ⟨r, rfl, hidx, rfl⟩
      obtain ⟨m, rfl, hma⟩ := minAt_of HMin.out hidx
      have hm1 : m < k - p := by have := hma.1; rw [HLC'.out] at this; exact this
      have HMA := Lib.hid hma
      clear hidx hma
      have hcm : ¬ cap - p = m := by omega
      have HR1 := Lib.hid (rd_drop HRC'.out m (by omega))
      have HR2 := Lib.hid (rd_take HRC'.out m)
      have HN1 := Lib.hid (show k - p - m = (((Pl.orbL f n k).drop p).drop m).length by rw [List.length_drop, HLC'.out])
      have HN2 := Lib.hid (show m = (((Pl.orbL f n k).drop p).take m).length by rw [List.length_take, HLC'.out]; omega)
      have HCyc := Lib.hid (show Pl.Cyc f n p ((((Pl.orbL f n k).drop p).drop m) ++ (((Pl.orbL f n k).drop p).take m)) from ⟨k, m, HF.out, HMA.out, rfl⟩)
      generalize (((Pl.orbL f n k).drop p).drop m) = l1 at *
      generalize (((Pl.orbL f n k).drop p).take m) = l2 at *
      go_wp2_with fail
      have HBA := Lib.hid (show Below wr.heap.size wr (wr.alloc (.cells #[.slice (some ⟨g, p + m, none⟩) (k - p - m) (cap - p - m), .slice (some ⟨g, p, none⟩) m (cap - p)] 22)).drew from Below.drew ((Below.refl _ _).alloc (Nat.le_refl _) _))
      have HC0 := Lib.hid (show (wr.alloc (.cells #[.slice (some ⟨g, p + m, none⟩) (k - p - m) (cap - p - m), .slice (some ⟨g, p, none⟩) m (cap - p)] 22)).drew.cell? ⟨wr.heap.size, 0, none⟩ = some (.slice (some ⟨g, p + m, none⟩) (k - p - m) (cap - p - m)) by rw [World.cell?_drew]; simp [World.cell?_alloc_new])
      have HC1 := Lib.hid (show (wr.alloc (.cells #[.slice (some ⟨g, p + m, none⟩) (k - p - m) (cap - p - m), .slice (some ⟨g, p, none⟩) m (cap - p)] 22)).drew.cell? ⟨wr.heap.size, 1, none⟩ = some (.slice (some ⟨g, p, none⟩) m (cap - p)) by rw [World.cell?_drew]; simp [World.cell?_alloc_new])
      have HCC := Lib.hid (concat2 l1 l2 _ _ HN1.out HN2.out _ _ _ _ wr.heap.size _ HC0.out HC1.out (by simp) (HR1.out.below HBA.out (Nat.le_refl _)) (HR2.out.below HBA.out (Nat.le_refl _)) (by rw [← HN1.out]; omega) (by rw [← HN2.out]; omega) (by rw [← HN1.out, ← HN2.out]; omega))
      go_region_with ((go_at_call 65; refine HCC.out.mono ?_; rintro e w2 ⟨v, rfl, hown, hb⟩))
      all_goals
        go_wp2
        go_ret2
        exact ⟨⟨p, l1 ++ l2, v, rfl, HCyc.out, hown.mono (Nat.le_trans HB.out.size HBA.out.size)⟩, HB.out.trans ((HBA.out.trans (hb.mono HBA.out.size)).mono HB.out.size)⟩
set_option maxRecDepth 100000 in
set_option maxHeartbeats 1000000 in
theorem cycleFrom_SortLength_1 (p1 p2 : Addr) (f : Int → Int) (n M : Int) (w : World) (hs : StepC 55 p1 p2 f M w) (hb : ∀ i, 0 ≤ Pl.orb f n i ∧ Pl.orb f n i ≤ M) (hM : M ≤ 1000000000000) (N p : Nat) (hf : Pl.IsFirst f n N p) (hN : N ≤ 100000000) :
    Calls Try.prog 38 #[.int .i64 n, .func (.func 55) #[] #[.pointer (some p1), .pointer (some p2)]] w fun e w' => CycP f n w w' e ∧ Below w.heap.size w w' := by
  have HS := Lib.hid hs
  have HB0 := Lib.hid hb
  have HF := Lib.hid hf
  have hmm := @run_makeMap Try.prog
  clear hs hb hf
  go_enter Try.func38, Try.ntmps38
  go_wp2
  go_loopw [0, 7] (fun vn vl wr => ∃ (k : Nat) (x : Int) (D : DataW Unit), k ≤ N ∧ vn = .int .i64 x ∧ 0 ≤ x ∧ x ≤ M ∧ Hid (Pl.orb f n k = x) ∧ Own wr (w.heap.size + 1) vl (Pl.orbL f n k) ∧ wr.ownsMap Try.prog 3 (plainElem Try.prog 3) w.heap.size k D ∧ Hid (MapL D (Pl.orbL f n k)) ∧ Below w.heap.size w wr) (fun _ vl _ => N - lenS vl)
  case atStart =>
    have := HB0.out 0
    exact ⟨0, n, .map [], Nat.zero_le _, rfl, this.1, this.2, Lib.hid rfl, own_nil _ _, World.ownsMap_made _ _ _ _, Lib.hid mapL_nil, (Below.refl _ _).alloc (Nat.le_refl _) _⟩
  case round =>
    obtain ⟨k, x, D, hk, rfl, x0, x1, hx, hown, hmap, hD, hbel⟩ := hrel
    obtain ⟨ao, cap, ev, hrd⟩ := hown.shape
    rw [Pl.orbL_len] at ev
    subst ev
    have HO := Lib.hid hown
    have HMp := Lib.hid hmap
    have HB := Lib.hid hbel
    have HRD := Lib.hid hrd
    clear hown hmap hbel hrd
    have HKey := Lib.hid (keyI x (by omega))
    by_cases hkN : k < N
    · have hhas : Maps.has D (.int .i64 x) = false := by
        rw [hD.out.has]
        simp only [decide_eq_false_iff_not]
        intro hm
        obtain ⟨j, hj, e⟩ := mem_getD.1 hm
        rw [Pl.orbL_len] at hj
        rw [Pl.orbL_get hj, ← hx.out] at e
        exact HF.out.2.2 j k hj hkN e
      have HXm := Lib.hid (show x ∉ Pl.orbL f n k from fun hm => by
        have := hD.out.has x
        rw [hhas] at this
        simp [hm] at this)
      have HD2 := Lib.hid (show MapL (D.put (.int .i64 x) (.lit (.int .i64 (k : Int)))) (Pl.orbL f n (k + 1)) by
        have := hD.out.put HXm.out trivial
        rwa [Pl.orbL_len, show Pl.orbL f n k ++ [x] = Pl.orbL f n (k + 1) by rw [Pl.orbL_succ, hx.out]] at this)
      have HX := Lib.hid (show (Pl.orbL f n k).length < 1000000000000 by rw [Pl.orbL_len]; omega)
      have HL2 := Lib.hid (show Pl.orbL f n k ++ [x] = Pl.orbL f n (k + 1) by rw [Pl.orbL_succ, hx.out])
      have HX2 := Lib.hid (show Pl.orb f n (k + 1) = f x by rw [← hx.out]; rfl)
      have hlt0 := HMp.out.lt
      have HN1 := Lib.hid (HB0.out (k + 1))
      rw [HX2.out] at HN1
      go_wp2_with (first
        | (at_lookup; refine wpList_lookup_own_ok_int _ rfl _ _ 48 rfl 3 3 .i64 lawI Try.underlying48 Try.underlying3 (zeroI _) w.heap.size k D rfl HMp.out _ _ rfl HKey.out ?_; intro c hat hwc; clear hat hwc)
        | (at_mapUpdate; refine wpList_mapUpdate_own _ rfl _ _ _ 48 rfl 3 3 lawI Try.underlying48 _ w.heap.size k D rfl HMp.out (by unfold maxLen; omega) _ _ _ rfl rfl HKey.out _ [] (plainElem_int Try.underlying3 (WalkArith.wf_i64 (by omega))) ?_; intro w1 hmap1 hgrow1
           have HO1 := Lib.hid (HO.out.beside (u := .slice (some ⟨w.heap.size, 0, none⟩) 0 0) hgrow1 (fun j hj => by cases hj; exact Nat.lt_succ_self _) (Nat.le_refl _))
           have HB1 := Lib.hid (HB.out.grown hgrow1 HB.out.size (fun j hj => by cases hj; exact Nat.le_refl _))
           have HM1 := Lib.hid hmap1
           have hsz1 : w.heap.size + 1 ≤ w1.heap.size := by have := hgrow1.size; omega
           clear hmap1 hgrow1)
        | (at_builtin; refine wp_push w1 (w.heap.size + 1) _ (Pl.orbL f n k) x HO1.out rfl _ _ rfl rfl rfl HX.out hsz1 ?_; intro v2 w2 hown2 hb2))
      have HO2 := Lib.hid hown2
      have HB2 := Lib.hid (HB1.out.trans (hb2.mono (Nat.le_succ _)))
      have HM2 := Lib.hid (ownsMap_below HM1.out hb2 (Nat.lt_succ_self _))
      have hsz2 : w.heap.size < w2.heap.size := by have := hb2.size; omega
      clear hown2 hb2 hsz1
      refine (HS.out x _ x0 x1 HB2.out).mono ?_
      rintro e w3 ⟨rfl, hb3⟩
      have HO3 := Lib.hid (HO2.out.below hb3 (Nat.le_refl _))
      have HB3 := Lib.hid (HB2.out.trans (hb3.mono (Nat.le_of_lt hsz2)))
      have HM3 := Lib.hid (ownsMap_below HM2.out hb3 hsz2)
      clear hb3
      have ⟨y0, y1⟩ := HN1.out
      generalize f x = y at *
      go_wp2
      go_roundw
      case rel => exact ⟨k + 1, y, _, by omega, rfl, y0, y1, HX2, by rw [← HL2.out]; exact HO3.out, HM3.out, HD2, HB3.out⟩
      case measure =>
        obtain ⟨_, _, e, _⟩ := HO3.out.shape
        rw [e]; simp [lenS, Pl.orbL_len]; omega
    · obtain rfl : k = N := by omega
      have hp1 := HF.out.1
      have HX := Lib.hid (show (Pl.orbL f n k).getD p 0 = x by rw [Pl.orbL_get hp1, ← hx.out]; exact HF.out.2.1.symm)
      have hhas : Maps.has D (.int .i64 x) = true := by
        rw [hD.out.has]
        simp only [decide_eq_true_eq]
        rw [← HX.out]
        exact Pl.getD_mem (by rw [Pl.orbL_len]; exact hp1)
      have HC := Lib.hid (fun (c : Int) (h : D.atKey (.int .i64 x) (.lit (.int .i64 0)) = .lit (.int .i64 c)) => show c = (p : Int) by
        have := hD.out.at_ p (by rw [Pl.orbL_len]; exact hp1) (.lit (.int .i64 0))
        rw [HX.out] at this
        rw [this] at h
        simp at h
        exact h.symm)
      obtain ⟨g, cap', eg, hcap, hcap2⟩ := own_some HO.out (by intro e; have := congrArg List.length e; rw [Pl.orbL_len] at this; simp at this; omega)
      simp only [Value.slice.injEq] at eg
      obtain ⟨rfl, e9, rfl⟩ := eg
      clear e9
      rw [Pl.orbL_len] at hcap
      unfold maxLen at hcap2
      have hcp : ¬ cap = p := by omega
      go_upto_region 4 with (at_lookup; refine wpList_lookup_own_ok_int _ rfl _ _ 48 rfl 3 3 .i64 lawI Try.underlying48 Try.underlying3 (zeroI _) w.heap.size k D rfl HMp.out _ _ rfl HKey.out ?_; intro c hat hwc; obtain rfl := HC.out c hat; clear hat hwc)
      go_wp2_with fail
      have HRC : Rd wr (some ⟨g, p, none⟩) (cap - p) ((Pl.orbL f n k).drop p) := by have := rd_drop HRD.out p (by omega); rwa [Nat.zero_add] at this
      have HLC : ((Pl.orbL f n k).drop p).length = k - p := by rw [List.length_drop, Pl.orbL_len]
      have HRC' := Lib.hid HRC
      have HLC' := Lib.hid HLC
      clear HRC HLC
      refine (slMin ((Pl.orbL f n k).drop p) _ HLC'.out.symm _ _ _ HRC'.out (by rw [HLC'.out]; omega)).mono ?_
      rintro e w1 ⟨mn, rfl, hmin, rfl⟩
      have HMin := Lib.hid hmin
      clear hmin
      go_wp2_with fail
      refine (slIndex ((Pl.orbL f n k).drop p) _ HLC'.out.symm _ _ _ _ HRC'.out).mono ?_
      rintro e w1 ⟨r, rfl, hidx, rfl⟩
      obtain ⟨m, rfl, hma⟩ := minAt_of HMin.out hidx
      have hm1 : m < k - p := by have := hma.1; rw [HLC'.out] at this; exact this
      have HMA := Lib.hid hma
      clear hidx hma
      have hcm : ¬ cap - p = m := by omega
      have HR1 := Lib.hid (rd_drop HRC'.out m (by omega))
      have HR2 := Lib.hid (rd_take HRC'.out m)
      have HN1 := Lib.hid (show k - p - m = (((Pl.orbL f n k).drop p).drop m).length by rw [List.length_drop, HLC'.out])
      have HN2 := Lib.hid (show m = (((Pl.orbL f n k).drop p).take m).length by rw [List.length_take, HLC'.out]; omega)
      have HCyc := Lib.hid (show Pl.Cyc f n p ((((Pl.orbL f n k).drop p).drop m) ++ (((Pl.orbL f n k).drop p).take m)) from ⟨k, m, HF.out, HMA.out, rfl⟩)
      generalize (((Pl.orbL f n k).drop p).drop m) = l1 at *
      generalize (((Pl.orbL f n k).drop p).take m) = l2 at *
      go_wp2_with fail
      have HBA := Lib.hid (show Below wr.heap.size wr (wr.alloc (.cells #[.slice (some ⟨g, p + m, none⟩) (k - p - m) (cap - p - m), .slice (some ⟨g, p, none⟩) m (cap - p)] 22)).drew from Below.drew ((Below.refl _ _).alloc (Nat.le_refl _) _))
      have HC0 := Lib.hid (show (wr.alloc (.cells #[.slice (some ⟨g, p + m, none⟩) (k - p - m) (cap - p - m), .slice (some ⟨g, p, none⟩) m (cap - p)] 22)).drew.cell? ⟨wr.heap.size, 0, none⟩ = some (.slice (some ⟨g, p + m, none⟩) (k - p - m) (cap - p - m)) by rw [World.cell?_drew]; simp [World.cell?_alloc_new])
      have HC1 := Lib.hid (show (wr.alloc (.cells #[.slice (some ⟨g, p + m, none⟩) (k - p - m) (cap - p - m), .slice (some ⟨g, p, none⟩) m (cap - p)] 22)).drew.cell? ⟨wr.heap.size, 1, none⟩ = some (.slice (some ⟨g, p, none⟩) m (cap - p)) by rw [World.cell?_drew]; simp [World.cell?_alloc_new])
      have HCC := Lib.hid (concat2 l1 l2 _ _ HN1.out HN2.out _ _ _ _ wr.heap.size _ HC0.out HC1.out (by simp) (HR1.out.below HBA.out (Nat.le_refl _)) (HR2.out.below HBA.out (Nat.le_refl _)) (by rw [← HN1.out]; omega) (by rw [← HN2.out]; omega) (by rw [← HN1.out, ← HN2.out]; omega))
      go_region_with ((go_at_call 65; refine HCC.out.mono ?_; rintro e w2 ⟨v, rfl, hown, hb⟩))
      all_goals
        go_wp2
        go_ret2
        exact ⟨⟨p, l1 ++ l2, v, rfl, HCyc.out, hown.mono (Nat.le_trans HB.out.size HBA.out.size)⟩, HB.out.trans ((HBA.out.trans (hb.mono HBA.out.size)).mono HB.out.size)⟩
end Cy
end Go.Proofs.Ytidjnbnhkgobnaa
