/-
  The contract of the model's search for a cycle.
  Conditions: the step is met by a contract, and a number comes again soon enough.
-/
import Derived.Test.YtidjnbnhkgobnaaCyFrom
import Derived.Deep.RegionLaw
namespace Go.Proofs.Ytidjnbnhkgobnaa
open Go.RowKit
namespace Cy
/-- What a slice reads as is appended to a slice of the call's own, as a step of a region that draws. -/
theorem step_pushL {ops : Array Oper} {o : Oper} {a : Act} {w : World} {K : Act → World → Prop} {Q : Exit → Act → World → Prop} {E : Prop}
    (hg : o.guard = none) (s x : Operand) (hop : o.op = Op.call { callee := Callee.builtin Builtin.append, args := #[s, x], argTypes := #[22, 22] })
    (B : Nat) (v : Value) (l l2 : List Int) (ad : Addr) (m c : Nat) (hown : Own w B v l) (hrd : Rd w (some ad) c l2) (hs : a.eval s = v) (hx : a.eval x = .slice (some ad) m c) (hm : m = l2.length)
    (hlen : l.length + l2.length ≤ 17592186044416) (hB : B ≤ w.heap.size)
    (hK : ∀ v' w', Own w' B v' (l ++ l2) → Below B w w' → K (a.put o.dst v') w') :
    if Region.wanted o (yielded ops a.tmps) = true then Oper.wp Try.prog o a w K Q else E := by
  have hw : Region.wanted o (yielded ops a.tmps) = true := by simp [Region.wanted, hg]
  rw [if_pos hw]
  subst hm
  obtain ⟨i0, hi, hz0, hz1, hz2⟩ := info_parts Try.infoI
  obtain ⟨r1, r2, r3, r4⟩ := hrd
  obtain ⟨v', w', hrun, h1, h2, _⟩ := run_append_own (P := Try.prog) w B 22 o.type 3 i0 (.int .i64 0) 1 8 Try.underlying22 hi hz0 hz1 hz2 rfl (by decide) v l.length (vs l) hown ad l2.length c (vs l2) (by simp [vs])
    (by
      intro j u hu
      have hj : j < l2.length := by have := (List.getElem?_eq_some_iff.1 hu).1; simpa [vs] using this
      rcases r4 with rfl | ⟨b, off, e, _, hc⟩
      · simp at hj
      · obtain rfl := Option.some.inj e
        rw [Addr.add_lit, hc j hj]
        rw [vs_get _ _ hj] at hu
        exact hu)
    (vs_one _) (by unfold maxLen; omega) (by omega) hB
  unfold Oper.wp
  simp [execOp, hop, resolve, invoke, builtin, hs, hx, hrun, Result.andThen]
  exact hK v' w' (by simpa [Own, vs_append] using h1) ((Below.refl _ _).grown h2 hB (fun k hk => (World.ownsRow.lt hown k hk).1))
/-- Place m holds the least of the first j numbers. -/
def MinPt (l : List Int) (j m : Nat) : Prop := m < l.length ∧ (∀ i, i < j → l.getD m 0 ≤ l.getD i 0) ∧ ∀ i, i < m → l.getD m 0 < l.getD i 0
theorem MinPt.keep {l : List Int} {j m : Nat} (h : MinPt l j m) (hx : ¬ l.getD j 0 < l.getD m 0) : MinPt l (j + 1) m := by
  refine ⟨h.1, fun i hi => ?_, h.2.2⟩
  by_cases c : i = j
  · subst c; omega
  · exact h.2.1 i (by omega)
theorem MinPt.new {l : List Int} {j m : Nat} (h : MinPt l j m) (hj : j < l.length) (hx : l.getD j 0 < l.getD m 0) : MinPt l (j + 1) j := by
  refine ⟨hj, fun i hi => ?_, fun i hi => ?_⟩
  · by_cases c : i = j
    · subst c; exact Int.le_refl _
    · have := h.2.1 i (by omega); omega
  · have := h.2.1 i (by omega); omega
def CycQ (f : Int → Int) (n : Int) (w w' : World) (e : Ending) : Prop := ∃ (p : Nat) (c : List Int) (v : Value), e = .returned (.tuple #[v, .int .i64 p]) ∧ Pl.Cyc f n p c ∧ Own w' w.heap.size v c
set_option maxRecDepth 100000 in
set_option maxHeartbeats 1000000 in
theorem l22Cycle (n b e kind : Int) (f : Int → Int) (M : Int) (w : World)
    (hs : ∀ (m : Int) (w1 : World), 0 ≤ m → m ≤ M → Calls Try.prog 62 #[.int .i64 m, .int .i64 b, .int .i64 e, .int .i64 kind] w1 fun r w2 => r = .returned (.int .i64 (f m)) ∧ Below w1.heap.size w1 w2)
    (hb : ∀ i, 0 ≤ Pl.orb f n i ∧ Pl.orb f n i ≤ M) (N p : Nat) (hf : Pl.IsFirst f n N p) (hN : N ≤ 100000000) :
    Calls Try.prog 37 #[.int .i64 n, .int .i64 b, .int .i64 e, .int .i64 kind] w fun r w' => CycQ f n w w' r ∧ Below w.heap.size w w' := by
  have HS := Lib.hid hs
  have HB0 := Lib.hid hb
  have HF := Lib.hid hf
  have hpN := hf.1
  clear hs hb hf
  go_enter Try.func37, Try.ntmps37
  go_wp2
  go_loopw [0, 10, 11] (fun vn vl vp wr => ∃ (k : Nat) (x q : Int), vn = .int .i64 x ∧ vp = .int .i64 q ∧ 0 ≤ x ∧ x ≤ M ∧ Hid (Pl.orb f n k = x) ∧ Own wr w.heap.size vl (Pl.orbL f n k) ∧ Hid ((q = -1 ∧ k < N) ∨ (q = p ∧ k = N)) ∧ Below w.heap.size w wr) (fun _ vl _ _ => N - lenS vl)
  case atStart =>
    have := HB0.out 0
    exact ⟨0, n, -1, rfl, rfl, this.1, this.2, Lib.hid rfl, own_made _, Lib.hid (.inl ⟨rfl, by omega⟩), (Below.refl _ _).alloc (Nat.le_refl _) _⟩
  case round =>
    obtain ⟨k, x, q, rfl, rfl, x0, x1, hx, hown, hq, hbel⟩ := hrel
    obtain ⟨ao, cap, ev, hrd⟩ := hown.shape
    rw [Pl.orbL_len] at ev
    subst ev
    have HO := Lib.hid hown
    have HB := Lib.hid hbel
    have HRD := Lib.hid hrd
    clear hown hbel hrd
    rcases hq.out with ⟨e1, hkN⟩ | ⟨e1, e2⟩
    · subst e1
      clear hq HRD
      have HX := Lib.hid (show (Pl.orbL f n k).length < 1000000000000 by rw [Pl.orbL_len]; omega)
      have HL2 := Lib.hid (show Pl.orbL f n k ++ [x] = Pl.orbL f n (k + 1) by rw [Pl.orbL_succ, hx.out])
      have HX2 := Lib.hid (show Pl.orb f n (k + 1) = f x by rw [← hx.out]; rfl)
      have HN1 := Lib.hid (HB0.out (k + 1))
      rw [HX2.out] at HN1
      have HE := Lib.hid (show ∀ i, i < k + 1 → (Pl.orb f n i = f x ↔ (k + 1 = N ∧ i = p)) from fun i hi => by
        rw [← HX2.out]
        obtain ⟨f1, f2, f3⟩ := HF.out
        constructor
        · intro h
          by_cases c : k + 1 = N
          · refine ⟨c, ?_⟩
            rw [c, f2] at h
            rcases Nat.lt_trichotomy i p with d | d | d
            · exact absurd h (f3 i p d f1)
            · exact d
            · exact absurd h.symm (f3 p i d (by omega))
          · exact absurd h (f3 i (k + 1) hi (by omega))
        · rintro ⟨c, rfl⟩
          rw [c]; exact f2.symm)
      have hsz := HB.out.size
      go_wp2_with (at_builtin; refine wp_push wr w.heap.size _ (Pl.orbL f n k) x HO.out rfl _ _ rfl rfl rfl HX.out hsz ?_; intro v2 w2 hown2 hb2)
      have HO2 := Lib.hid hown2
      have HB2 := Lib.hid (HB.out.trans hb2)
      clear hown2 hb2 hsz
      refine (HS.out x _ x0 x1).mono ?_
      rintro e w3 ⟨rfl, hb3⟩
      have HO3 := Lib.hid (HO2.out.below hb3 (Nat.le_refl _))
      rw [HL2.out] at HO3
      have HB3 := Lib.hid (HB2.out.trans (hb3.mono HB2.out.size))
      clear hb3 HO2
      have ⟨y0, y1⟩ := HN1.out
      generalize f x = y at *
      obtain ⟨g, cap', rfl, hcap, hcap2⟩ := own_some HO3.out (by intro e; have := congrArg List.length e; rw [Pl.orbL_len] at this; simp at this)
      rw [Pl.orbL_len] at HO3 hcap ⊢
      unfold maxLen at hcap2
      go_wp2
      go_loop [11, 32] (fun vp vi => ∃ (i : Nat) (q : Int), i ≤ k + 1 ∧ vi = .int .i64 i ∧ vp = .int .i64 q ∧ Hid ((q = -1 ∧ ¬ (k + 1 = N ∧ p < i)) ∨ (q = p ∧ k + 1 = N ∧ p < i))) (fun _ vi => k + 1 - (intOf vi).toNat)
      case atStart => exact ⟨0, -1, Nat.zero_le _, rfl, rfl, Lib.hid (.inl ⟨rfl, by omega⟩)⟩
      case round =>
        obtain ⟨i, q, hi, rfl, rfl, hq2⟩ := hrel
        by_cases hlt : i < k + 1
        · have hc := HO3.out.cellAt (j := i) (by rw [Pl.orbL_len]; exact hlt)
          rw [Pl.orbL_get hlt] at hc
          have HEi := Lib.hid (HE.out i hlt)
          by_cases heq : Pl.orb f n i = y
          · have HEi2 := Lib.hid (HEi.out.1 heq)
            rw [heq] at hc
            clear heq HEi
            go_wp2
            go_round
            case rel => exact ⟨i + 1, i, by omega, by go_num, rfl, Lib.hid (.inr ⟨by have := HEi2.out.2; omega, HEi2.out.1, by have := HEi2.out.2; omega⟩)⟩
            case measure => simp [intOf]; omega
          · have HEi2 := Lib.hid (show ¬ (k + 1 = N ∧ i = p) from fun h => heq (HEi.out.2 h))
            clear HEi
            generalize Pl.orb f n i = z at *
            go_wp2
            go_round
            case rel => exact ⟨i + 1, q, by omega, by go_num, rfl, Lib.hid (by have := HEi2.out; have := hq2.out; omega)⟩
            case measure => simp [intOf]; omega
        · obtain rfl : i = k + 1 := by omega
          go_wp2
          go_roundw
          case rel => exact ⟨k + 1, y, q, rfl, rfl, y0, y1, HX2, HO3.out, Lib.hid (by have := hq2.out; omega), HB3.out⟩
          case measure => simp [lenS]; omega
    · clear hq
      subst e1
      obtain rfl := e2
      obtain ⟨g, cap', eg, hcap, hcap2⟩ := own_some HO.out (by intro e; have := congrArg List.length e; rw [Pl.orbL_len] at this; simp at this; omega)
      simp only [Value.slice.injEq] at eg
      obtain ⟨rfl, e9, rfl⟩ := eg
      clear e9
      rw [Pl.orbL_len] at hcap
      unfold maxLen at hcap2
      have hcp : ¬ cap = p := by omega
      have HRC : Rd wr (some ⟨g, p, none⟩) (cap - p) ((Pl.orbL f n k).drop p) := by have := rd_drop HRD.out p (by omega); rwa [Nat.zero_add] at this
      have HLC : ((Pl.orbL f n k).drop p).length = k - p := by rw [List.length_drop, Pl.orbL_len]
      have HRC' := Lib.hid HRC
      have HLC' := Lib.hid HLC
      clear HRC HLC
      have HCyc := Lib.hid (show ∀ m, Pl.IsMinAt ((Pl.orbL f n k).drop p) m → Pl.Cyc f n p ((((Pl.orbL f n k).drop p).drop m) ++ (((Pl.orbL f n k).drop p).take m)) from fun m hm => ⟨k, m, HF.out, hm, rfl⟩)
      generalize (Pl.orbL f n k).drop p = L at *
      go_wp2
      go_loop [15, 47] (fun vm vj => ∃ (j m : Nat), j ≤ k - p ∧ m < k - p ∧ vj = .int .i64 j ∧ vm = .int .i64 m ∧ Hid (MinPt L j m)) (fun _ vj => k - p - (intOf vj).toNat)
      case atStart => exact ⟨0, 0, Nat.zero_le _, by omega, rfl, rfl, Lib.hid ⟨by have := HLC'.out; omega, fun i hi => by omega, fun i hi => by omega⟩⟩
      case round =>
        obtain ⟨j, m, hj, hm, rfl, rfl, hmp⟩ := hrel
        by_cases hlt : j < k - p
        · obtain ⟨g', off', e', _, hc⟩ := HRC'.out.at (show j < L.length by have := HLC'.out; omega)
          simp only [Option.some.injEq, Addr.mk.injEq, and_true] at e'
          obtain ⟨rfl, rfl⟩ := e'
          obtain ⟨g', off', e', _, hc2⟩ := HRC'.out.at (show m < L.length by have := HLC'.out; omega)
          simp only [Option.some.injEq, Addr.mk.injEq, and_true] at e'
          obtain ⟨rfl, rfl⟩ := e'
          by_cases hx : L.getD j 0 < L.getD m 0
          · have HE := Lib.hid (hmp.out.new (by have := HLC'.out; omega) hx)
            generalize L.getD j 0 = d1 at *
            generalize L.getD m 0 = d2 at *
            go_wp2
            go_round
            case rel => exact ⟨j + 1, j, by omega, by omega, by go_num, rfl, HE⟩
            case measure => simp [intOf]; omega
          · have HE := Lib.hid (hmp.out.keep hx)
            generalize L.getD j 0 = d1 at *
            generalize L.getD m 0 = d2 at *
            go_wp2
            go_round
            case rel => exact ⟨j + 1, m, by omega, by omega, by go_num, rfl, HE⟩
            case measure => simp [intOf]; omega
        · obtain rfl : j = k - p := by omega
          have HMA : Pl.IsMinAt L m := ⟨hmp.out.1, fun i hi => hmp.out.2.1 i (by have := HLC'.out; omega), hmp.out.2.2⟩
          have HCyc2 := Lib.hid (HCyc.out m HMA)
          clear HMA hmp HCyc
          have hcm : ¬ cap - p = m := by omega
          have HR1 := Lib.hid (rd_drop HRC'.out m (by omega))
          have HR2 := Lib.hid (rd_take HRC'.out m)
          have HN1 := Lib.hid (show k - p - m = (L.drop m).length by rw [List.length_drop, HLC'.out])
          have HN2 := Lib.hid (show m = (L.take m).length by rw [List.length_take, HLC'.out]; omega)
          generalize L.drop m = l1 at *
          generalize L.take m = l2 at *
          have HBA := Lib.hid (show Below wr.heap.size wr (wr.alloc (.cells #[] 3)).drew from Below.drew ((Below.refl _ _).alloc (Nat.le_refl _) _))
          have HA0 := Lib.hid (show Own (wr.alloc (.cells #[] 3)).drew wr.heap.size (.slice (some ⟨wr.heap.size, 0, none⟩) 0 0) [] from (own_made _ : Own (wr.alloc (.cells #[] 3)) wr.heap.size _ []).below (Below.drew (Below.refl _ _)) (Nat.le_refl _))
          have HA1 := Lib.hid (HR1.out.below HBA.out (Nat.le_refl _))
          have hmle : m ≤ k - p := by omega
          have hmle2 : m ≤ cap - p := by omega
          have HX1 := Lib.hid (show ([] : List Int).length + l1.length ≤ 17592186044416 by have := HN1.out; simp; omega)
          have HX2 := Lib.hid (show ([] ++ l1).length + l2.length ≤ 17592186044416 by have := HN1.out; have := HN2.out; simp; omega)
          go_wp2_with fail
          go_region_law (first | (refine step_pushL rfl (.tmp 60) (.tmp 63) rfl wr.heap.size _ [] l1 _ _ _ HA0.out HA1.out (by simp [Act.eval]) (by simp [Act.eval]) HN1.out HX1.out HBA.out.size ?_; intro v3 w3 hown3 hb3) | (refine step_pushL rfl (.tmp 64) (.tmp 67) rfl wr.heap.size _ ([] ++ l1) l2 _ _ _ hown3 (HR2.out.below (HBA.out.trans hb3) (Nat.le_refl _)) (by simp [Act.eval]) (by simp [Act.eval]) HN2.out HX2.out (HBA.out.trans hb3).size ?_; intro v4 w4 hown4 hb4))
          all_goals
            go_wp2
            go_ret2
            exact ⟨⟨p, l1 ++ l2, v4, rfl, HCyc2.out, by have := hown4.mono HB.out.size; simpa using this⟩, HB.out.trans (((HBA.out.trans hb3).trans hb4).mono HB.out.size)⟩
end Cy
end Go.Proofs.Ytidjnbnhkgobnaa
