/-
  Contracts of the statements on the cycles of sorted digits.
  Conditions: none.
-/
import Derived.Test.YtidjnbnhkgobnaaCyStep
namespace Go.Proofs.Ytidjnbnhkgobnaa
open Go.RowKit
namespace Cy
/-- l is the cycle, r how many steps lead to it. -/
def ScV (n b k : Int) (l : List Int) (r : Int) : Prop := (Srt.fitB n b k = true → ∃ p : Nat, r = p ∧ Pl.Cyc (Pl.sf b k.toNat) n p l) ∧ (Srt.fitB n b k = false → l = [] ∧ r = -1)
theorem scV_exists (n b k : Int) : ∃ l r, ScV n b k l r ∧ l.length ≤ 1000000000000 := by
  cases h : Srt.fitB n b k with
  | false => exact ⟨[], -1, ⟨fun h' => by rw [h] at h'; exact absurd h' (by simp), fun _ => ⟨rfl, rfl⟩⟩, by simp⟩
  | true =>
    have ⟨⟨b1, b2⟩, ⟨k1, k2⟩, n1, n2⟩ := Srt.fit_t h
    obtain ⟨N, p, hN, hf⟩ := Pl.sf_first (k := k.toNat) b1 b2 (by omega) n1 n2
    obtain ⟨c, hc⟩ := Pl.cyc_exists hf
    exact ⟨c, p, ⟨fun _ => ⟨p, rfl, hc⟩, fun h' => by rw [h] at h'; exact absurd h' (by simp)⟩, by have := (hc.len_le hf).1; omega⟩
theorem sf_orb' {b : Int} {k : Nat} (b1 : 2 ≤ b) {n : Int} (n0 : 0 ≤ n) (n1 : n < b ^ k) : ∀ i, 0 ≤ Pl.orb (Pl.sf b k) n i ∧ Pl.orb (Pl.sf b k) n i ≤ b ^ k - 1 := fun i => by
  have := Pl.sf_orb (k := k) b1 n0 n1 i; omega
theorem step_SortCycle_1 (b : Int) (k : Nat) (p1 p2 : Addr) (w : World) (b1 : 2 ≤ b) (b2 : b ≤ 16) (hk : k ≤ 5) (h1 : w.cell? p1 = some (.int .i64 b)) (h2 : w.cell? p2 = some (.int .i64 k)) (l1 : p1.block < w.heap.size) (l2 : p2.block < w.heap.size) :
    StepC 57 p1 p2 (Pl.sf b k) (b ^ k - 1) w := by
  intro m w1 m0 m1 hb
  have c1 := (hb.cell (p := p1) l1).trans h1
  have c2 := (hb.cell (p := p2) l2).trans h2
  have p5 := (Srt.pow5 (k := (k : Int)) b1 b2 (by omega) (by omega)).2
  rw [Int.toNat_natCast] at p5
  have m2 : m ≤ 1000000000000 := by omega
  clear h1 h2 hb l1 l2 m1 p5
  go_enter Try.func57, Try.ntmps57
  go_wp2_with fail
  refine (Srt.iSortStep _ _ _ _ b1 b2 m0 m2 hk).mono ?_
  rintro e' w2 ⟨rfl, hb2⟩
  go_wp2
  go_ret
  exact ⟨rfl, hb2⟩
theorem step_SortLength_1 (b : Int) (k : Nat) (p1 p2 : Addr) (w : World) (b1 : 2 ≤ b) (b2 : b ≤ 16) (hk : k ≤ 5) (h1 : w.cell? p1 = some (.int .i64 b)) (h2 : w.cell? p2 = some (.int .i64 k)) (l1 : p1.block < w.heap.size) (l2 : p2.block < w.heap.size) :
    StepC 55 p1 p2 (Pl.sf b k) (b ^ k - 1) w := by
  intro m w1 m0 m1 hb
  have c1 := (hb.cell (p := p1) l1).trans h1
  have c2 := (hb.cell (p := p2) l2).trans h2
  have p5 := (Srt.pow5 (k := (k : Int)) b1 b2 (by omega) (by omega)).2
  rw [Int.toNat_natCast] at p5
  have m2 : m ≤ 1000000000000 := by omega
  clear h1 h2 hb l1 l2 m1 p5
  go_enter Try.func55, Try.ntmps55
  go_wp2_with fail
  refine (Srt.iSortStep _ _ _ _ b1 b2 m0 m2 hk).mono ?_
  rintro e' w2 ⟨rfl, hb2⟩
  go_wp2
  go_ret
  exact ⟨rfl, hb2⟩
set_option maxHeartbeats 1000000 in
theorem iSortCycle (n b k : Int) (l : List Int) (r : Int) (hl : ScV n b k l r) (w : World) : Calls Try.prog 30 #[.int .i64 n, .int .i64 b, .int .i64 k] w fun e w' => ∃ v, e = .returned v ∧ Own w' w.heap.size v l ∧ Below w.heap.size w w' := by
  cases hok : Srt.fitB n b k with
  | true =>
    have ⟨⟨b1, b2⟩, ⟨k1, k2⟩, n1, n2⟩ := Srt.fit_t hok
    obtain ⟨p, hr, hp⟩ := hl.1 hok
    have HL := Lib.hid hp
    have HV := Lib.hid hok
    obtain ⟨j, rfl⟩ := Int.eq_ofNat_of_zero_le (show 0 ≤ k by omega)
    rw [Int.toNat_natCast] at HL n2
    obtain ⟨N, q, hN, hf⟩ := Pl.sf_first (k := j) b1 b2 (by omega) n1 n2
    have HF := Lib.hid hf
    have HO := Lib.hid (sf_orb' (k := j) b1 n1 n2)
    have hj5 : j ≤ 5 := by omega
    have p5 := (Srt.pow5 (k := (j : Int)) b1 b2 (by omega) (by omega)).2
    rw [Int.toNat_natCast] at p5
    have hM : b ^ j - 1 ≤ 1000000000000 := by omega
    have HM := Lib.hid hM
    clear hl hok hp hf n2 hM p5 hr
    have ⟨x1, x2, x3, x4⟩ := box2 w (.int .i64 b) (.int .i64 (j : Int))
    have HC1 := Lib.hid x1
    have HC2 := Lib.hid x2
    have HSZ := Lib.hid x3
    have HB0 := Lib.hid x4
    clear x1 x2 x3 x4
    go_enter Try.func30, Try.ntmps30
    go_wp2_with fail
    refine (as_bool HV.out (Srt.isSorted _ _ _ _)).mono ?_
    rintro e' w1 ⟨rfl, rfl⟩
    generalize (w.alloc (.cells #[.int .i64 b] 3)).alloc (.cells #[.int .i64 (j : Int)] 3) = w1 at *
    have HS := Lib.hid (step_SortCycle_1 b j ⟨w.heap.size, 0, none⟩ ⟨w.heap.size + 1, 0, none⟩ w1 b1 b2 hj5 HC1.out HC2.out (by have := HSZ.out; show w.heap.size < _; omega) (by have := HSZ.out; show w.heap.size + 1 < _; omega))
    go_wp2_with fail
    refine (cycleFrom_SortCycle_1 _ _ _ n _ _ HS.out HO.out HM.out N q HF.out hN).mono ?_
    rintro r w3 ⟨⟨p', c, v, rfl, hc, hown⟩, hb3⟩
    obtain ⟨rfl, rfl⟩ := hc.uniq HL.out
    have HO3 := Lib.hid (hown.mono HB0.out.size)
    have HB3 := Lib.hid (HB0.out.trans (hb3.mono HB0.out.size))
    clear hc hown hb3
    go_wp2
    go_ret
    exact ⟨v, rfl, HO3.out, HB3.out⟩
  | false =>
    obtain ⟨rfl, rfl⟩ := hl.2 hok
    have HV := Lib.hid hok
    clear hl hok
    have HB0 := Lib.hid (box2 w (.int .i64 b) (.int .i64 k)).2.2.2
    go_enter Try.func30, Try.ntmps30
    go_wp2_with fail
    refine (as_bool HV.out (Srt.isSorted _ _ _ _)).mono ?_
    rintro e' w1 ⟨rfl, rfl⟩
    go_wp2
    go_ret
    exact ⟨_, rfl, own_nil _ _, HB0.out⟩
set_option maxHeartbeats 1000000 in
theorem iSortLength (n b k : Int) (l : List Int) (r : Int) (hl : ScV n b k l r) (w : World) : Calls Try.prog 28 #[.int .i64 n, .int .i64 b, .int .i64 k] w fun e w' => e = .returned (.int .i64 r) ∧ Below w.heap.size w w' := by
  cases hok : Srt.fitB n b k with
  | true =>
    have ⟨⟨b1, b2⟩, ⟨k1, k2⟩, n1, n2⟩ := Srt.fit_t hok
    obtain ⟨p, hr, hp⟩ := hl.1 hok
    have HR := Lib.hid hr
    have HL := Lib.hid hp
    have HV := Lib.hid hok
    obtain ⟨j, rfl⟩ := Int.eq_ofNat_of_zero_le (show 0 ≤ k by omega)
    rw [Int.toNat_natCast] at HL n2
    obtain ⟨N, q, hN, hf⟩ := Pl.sf_first (k := j) b1 b2 (by omega) n1 n2
    have HF := Lib.hid hf
    have HO := Lib.hid (sf_orb' (k := j) b1 n1 n2)
    have hj5 : j ≤ 5 := by omega
    have p5 := (Srt.pow5 (k := (j : Int)) b1 b2 (by omega) (by omega)).2
    rw [Int.toNat_natCast] at p5
    have hM : b ^ j - 1 ≤ 1000000000000 := by omega
    have HM := Lib.hid hM
    clear hl hok hp hf n2 hM p5 hr
    have ⟨x1, x2, x3, x4⟩ := box2 w (.int .i64 b) (.int .i64 (j : Int))
    have HC1 := Lib.hid x1
    have HC2 := Lib.hid x2
    have HSZ := Lib.hid x3
    have HB0 := Lib.hid x4
    clear x1 x2 x3 x4
    go_enter Try.func28, Try.ntmps28
    go_wp2_with fail
    refine (as_bool HV.out (Srt.isSorted _ _ _ _)).mono ?_
    rintro e' w1 ⟨rfl, rfl⟩
    generalize (w.alloc (.cells #[.int .i64 b] 3)).alloc (.cells #[.int .i64 (j : Int)] 3) = w1 at *
    have HS := Lib.hid (step_SortLength_1 b j ⟨w.heap.size, 0, none⟩ ⟨w.heap.size + 1, 0, none⟩ w1 b1 b2 hj5 HC1.out HC2.out (by have := HSZ.out; show w.heap.size < _; omega) (by have := HSZ.out; show w.heap.size + 1 < _; omega))
    go_wp2_with fail
    refine (cycleFrom_SortLength_1 _ _ _ n _ _ HS.out HO.out HM.out N q HF.out hN).mono ?_
    rintro r w3 ⟨⟨p', c, v, rfl, hc, hown⟩, hb3⟩
    obtain ⟨rfl, rfl⟩ := hc.uniq HL.out
    have HB3 := Lib.hid (HB0.out.trans (hb3.mono HB0.out.size))
    clear hc hown hb3
    go_wp2
    go_ret
    exact ⟨ret_int HR.out.symm, HB3.out⟩
  | false =>
    obtain ⟨rfl, rfl⟩ := hl.2 hok
    have HV := Lib.hid hok
    clear hl hok
    have HB0 := Lib.hid (box2 w (.int .i64 b) (.int .i64 k)).2.2.2
    go_enter Try.func28, Try.ntmps28
    go_wp2_with fail
    refine (as_bool HV.out (Srt.isSorted _ _ _ _)).mono ?_
    rintro e' w1 ⟨rfl, rfl⟩
    go_wp2
    go_ret
    exact ⟨rfl, HB0.out⟩
theorem sSortStep' (n b : Int) (k : Nat) (w : World) (b1 : 2 ≤ b) (b2 : b ≤ 16) (hk : k ≤ 5) (n1 : 0 ≤ n) (n2 : n ≤ b ^ k - 1) :
    Calls Try.prog 62 #[.int .i64 n, .int .i64 b, .int .i64 k, .int .i64 1] w fun r w' => r = .returned (.int .i64 (Pl.sf b k n)) ∧ Below w.heap.size w w' := by
  have HN := Lib.hid (show n < b ^ k by omega)
  clear n2
  go_enter Try.func62, Try.ntmps62
  go_wp2_with fail
  refine (Srt.l22Sort _ _ _ _ b1 b2 n1 HN.out hk).mono ?_
  rintro e' w2 ⟨rfl, hb2⟩
  go_wp2
  go_ret
  exact ⟨rfl, hb2⟩
set_option maxHeartbeats 1000000 in
theorem sSortCycle (n b k : Int) (l : List Int) (r : Int) (hl : ScV n b k l r) (w : World) : Calls Try.prog 29 #[.int .i64 n, .int .i64 b, .int .i64 k] w fun e w' => ∃ v, e = .returned v ∧ Own w' w.heap.size v l ∧ Below w.heap.size w w' := by
  cases hok : Srt.fitB n b k with
  | true =>
    have ⟨⟨b1, b2⟩, ⟨k1, k2⟩, n1, n2⟩ := Srt.fit_t hok
    obtain ⟨p, hr, hp⟩ := hl.1 hok
    have HL := Lib.hid hp
    have HV := Lib.hid hok
    obtain ⟨j, rfl⟩ := Int.eq_ofNat_of_zero_le (show 0 ≤ k by omega)
    rw [Int.toNat_natCast] at HL n2
    obtain ⟨N, q, hN, hf⟩ := Pl.sf_first (k := j) b1 b2 (by omega) n1 n2
    have HF := Lib.hid hf
    have HO := Lib.hid (sf_orb' (k := j) b1 n1 n2)
    have hj5 : j ≤ 5 := by omega
    clear hl hok hp hf n2 hr
    go_enter Try.func29, Try.ntmps29
    go_wp2_with fail
    refine (as_bool HV.out (Srt.l22Fits _ _ _ _)).mono ?_
    rintro e' w1 ⟨rfl, hb1⟩
    have HB0 := Lib.hid hb1
    clear hb1
    go_wp2_with fail
    refine (l22Cycle n b j 1 _ (b ^ j - 1) _ (fun m w1 m0 m1 => sSortStep' m b j w1 b1 b2 hj5 m0 m1) HO.out N q HF.out hN).mono ?_
    rintro r w3 ⟨⟨p', c, v, rfl, hc, hown⟩, hb3⟩
    obtain ⟨rfl, rfl⟩ := hc.uniq HL.out
    have HO3 := Lib.hid (hown.mono HB0.out.size)
    have HB3 := Lib.hid (HB0.out.trans (hb3.mono HB0.out.size))
    clear hc hown hb3
    go_wp2
    go_ret
    exact ⟨v, rfl, HO3.out, HB3.out⟩
  | false =>
    obtain ⟨rfl, rfl⟩ := hl.2 hok
    have HV := Lib.hid hok
    clear hl hok
    go_enter Try.func29, Try.ntmps29
    go_wp2_with fail
    refine (as_bool HV.out (Srt.l22Fits _ _ _ _)).mono ?_
    rintro e' w1 ⟨rfl, hb1⟩
    have HB0 := Lib.hid hb1
    clear hb1
    go_wp2
    go_ret
    exact ⟨_, rfl, own_nil _ _, HB0.out⟩
set_option maxHeartbeats 1000000 in
theorem sSortLength (n b k : Int) (l : List Int) (r : Int) (hl : ScV n b k l r) (w : World) : Calls Try.prog 27 #[.int .i64 n, .int .i64 b, .int .i64 k] w fun e w' => e = .returned (.int .i64 r) ∧ Below w.heap.size w w' := by
  cases hok : Srt.fitB n b k with
  | true =>
    have ⟨⟨b1, b2⟩, ⟨k1, k2⟩, n1, n2⟩ := Srt.fit_t hok
    obtain ⟨p, hr, hp⟩ := hl.1 hok
    have HR := Lib.hid hr
    have HL := Lib.hid hp
    have HV := Lib.hid hok
    obtain ⟨j, rfl⟩ := Int.eq_ofNat_of_zero_le (show 0 ≤ k by omega)
    rw [Int.toNat_natCast] at HL n2
    obtain ⟨N, q, hN, hf⟩ := Pl.sf_first (k := j) b1 b2 (by omega) n1 n2
    have HF := Lib.hid hf
    have HO := Lib.hid (sf_orb' (k := j) b1 n1 n2)
    have hj5 : j ≤ 5 := by omega
    clear hl hok hp hf n2 hr
    go_enter Try.func27, Try.ntmps27
    go_wp2_with fail
    refine (as_bool HV.out (Srt.l22Fits _ _ _ _)).mono ?_
    rintro e' w1 ⟨rfl, hb1⟩
    have HB0 := Lib.hid hb1
    clear hb1
    go_wp2_with fail
    refine (l22Cycle n b j 1 _ (b ^ j - 1) _ (fun m w1 m0 m1 => sSortStep' m b j w1 b1 b2 hj5 m0 m1) HO.out N q HF.out hN).mono ?_
    rintro r w3 ⟨⟨p', c, v, rfl, hc, hown⟩, hb3⟩
    obtain ⟨rfl, rfl⟩ := hc.uniq HL.out
    have HB3 := Lib.hid (HB0.out.trans (hb3.mono HB0.out.size))
    clear hc hown hb3
    go_wp2
    go_ret
    exact ⟨ret_int HR.out.symm, HB3.out⟩
  | false =>
    obtain ⟨rfl, rfl⟩ := hl.2 hok
    have HV := Lib.hid hok
    clear hl hok
    go_enter Try.func27, Try.ntmps27
    go_wp2_with fail
    refine (as_bool HV.out (Srt.l22Fits _ _ _ _)).mono ?_
    rintro e' w1 ⟨rfl, hb1⟩
    have HB0 := Lib.hid hb1
    clear hb1
    go_wp2
    go_ret
    exact ⟨rfl, HB0.out⟩
end Cy
end Go.Proofs.Ytidjnbnhkgobnaa
