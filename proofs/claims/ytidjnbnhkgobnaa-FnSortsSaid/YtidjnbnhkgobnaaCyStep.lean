/-
  Contracts of the statements on cycles: the closures, the cycles, how many steps lead to them, happy numbers.
  Conditions: the ranges that a contract names.
-/
import Derived.Test.YtidjnbnhkgobnaaCyFrom
import Derived.Test.YtidjnbnhkgobnaaCySpec
import Derived.Test.YtidjnbnhkgobnaaCyPl
import Derived.Test.YtidjnbnhkgobnaaDig2
import Derived.Test.YtidjnbnhkgobnaaSStep
namespace Go.Proofs.Ytidjnbnhkgobnaa
open Go.RowKit
namespace Cy
/-- l is the cycle of the sums of powers of digits, or empty if the arguments are not in range. -/
def PcOk (n b e : Int) : Bool := inB b 2 16 && inB n 0 1000000000000 && inB e 1 5
def PcV (n b e : Int) (l : List Int) : Prop := (PcOk n b e = true → ∃ p, Pl.Cyc (Pl.pf b e.toNat) n p l) ∧ (PcOk n b e = false → l = [])
theorem pcOk_t {n b e : Int} (h : PcOk n b e = true) : (2 ≤ b ∧ b ≤ 16) ∧ (0 ≤ n ∧ n ≤ 1000000000000) ∧ 1 ≤ e ∧ e ≤ 5 := by
  unfold PcOk at h
  simp only [Bool.and_eq_true] at h
  exact ⟨inB_t h.1.1, inB_t h.1.2, inB_t h.2⟩
theorem pcV_exists (n b e : Int) : ∃ l, PcV n b e l ∧ l.length ≤ 1000000000000 := by
  cases h : PcOk n b e with
  | false => exact ⟨[], ⟨fun h' => by rw [h] at h'; exact absurd h' (by simp), fun _ => rfl⟩, by simp⟩
  | true =>
    have ⟨⟨b1, b2⟩, ⟨n1, n2⟩, e1, e2⟩ := pcOk_t h
    obtain ⟨N, p, hN, hf⟩ := Pl.pf_first (e := e.toNat) b1 b2 (by omega) n1 n2
    obtain ⟨c, hc⟩ := Pl.cyc_exists hf
    exact ⟨c, ⟨fun _ => ⟨p, hc⟩, fun h' => by rw [h] at h'; exact absurd h' (by simp)⟩, by have := (hc.len_le hf).1; omega⟩
theorem box2 (w : World) (x y : Value) : ((w.alloc (.cells #[x] 3)).alloc (.cells #[y] 3)).cell? ⟨w.heap.size, 0, none⟩ = some x ∧ ((w.alloc (.cells #[x] 3)).alloc (.cells #[y] 3)).cell? ⟨w.heap.size + 1, 0, none⟩ = some y ∧
    ((w.alloc (.cells #[x] 3)).alloc (.cells #[y] 3)).heap.size = w.heap.size + 2 ∧ Below w.heap.size w ((w.alloc (.cells #[x] 3)).alloc (.cells #[y] 3)) := by
  have h1 : (w.alloc (.cells #[x] 3)).heap.size = w.heap.size + 1 := by simp
  have h2 : ((w.alloc (.cells #[x] 3)).alloc (.cells #[y] 3)).heap.size = w.heap.size + 2 := by simp
  have hb : Below (w.heap.size + 1) (w.alloc (.cells #[x] 3)) ((w.alloc (.cells #[x] 3)).alloc (.cells #[y] 3)) := (Below.refl _ _).alloc (by rw [h1]; exact Nat.le_refl _) _
  refine ⟨(hb.cell (p := ⟨w.heap.size, 0, none⟩) (Nat.lt_succ_self _)).trans (by simp [World.cell?_alloc_new]), ?_, h2, ((Below.refl _ _).alloc (Nat.le_refl _) _).alloc (by rw [h1]; exact Nat.le_succ _) _⟩
  rw [← h1]; simp
theorem powStep (b : Int) (e : Nat) (p1 p2 : Addr) (w : World) (b1 : 2 ≤ b) (b2 : b ≤ 16) (he : e ≤ 5) (h1 : w.cell? p1 = some (.int .i64 b)) (h2 : w.cell? p2 = some (.int .i64 e)) (l1 : p1.block < w.heap.size) (l2 : p2.block < w.heap.size) :
    StepC 39 p1 p2 (Pl.pf b e) 1000000000000 w := by
  intro m w1 m0 m1 hb
  have c1 := (hb.cell (p := p1) l1).trans h1
  have c2 := (hb.cell (p := p2) l2).trans h2
  clear h1 h2 hb l1 l2
  go_enter Try.func39, Try.ntmps39
  go_wp2_with fail
  refine (powerSum _ _ _ _ b1 b2 m0 m1 he).mono ?_
  rintro e' w2 ⟨rfl, hb2⟩
  go_wp2
  go_ret
  exact ⟨rfl, hb2⟩
theorem iPC (n b e : Int) (l : List Int) (hl : PcV n b e l) (w : World) : Calls Try.prog 11 #[.int .i64 n, .int .i64 b, .int .i64 e] w fun r w' => ∃ v, r = .returned v ∧ Own w' w.heap.size v l ∧ Below w.heap.size w w' := by
  cases hok : PcOk n b e with
  | true =>
    have ⟨⟨b1, b2⟩, ⟨n1, n2⟩, e1, e2⟩ := pcOk_t hok
    obtain ⟨p, hp⟩ := hl.1 hok
    have HL := Lib.hid hp
    obtain ⟨j, rfl⟩ := Int.eq_ofNat_of_zero_le (show 0 ≤ e by omega)
    rw [Int.toNat_natCast] at HL
    have HV := Lib.hid (show psV n b j = Pl.pf b j n by
      have : PcOk n b j = (inB b 2 16 && inB n 0 1000000000000 && inB j 1 5) := rfl
      rw [psV, ← this, hok, if_pos rfl, Int.toNat_natCast]; rfl)
    obtain ⟨N, q, hN, hf⟩ := Pl.pf_first (e := j) b1 b2 (by omega) n1 n2
    have HF := Lib.hid hf
    have HO := Lib.hid (Pl.pf_orb (e := j) b1 b2 (by omega) n1 n2)
    have hj5 : j ≤ 5 := by omega
    have x0 := (Pl.pf_bd (e := j) b1 b2 hj5 n1 n2).1
    clear hl hok hp hf
    generalize hx : Pl.pf b j n = x at HV x0
    clear hx
    go_enter Try.func11, Try.ntmps11
    have ⟨k1, k2, k3, k4⟩ := box2 w (.int .i64 b) (.int .i64 (j : Int))
    have HC1 := Lib.hid k1
    have HC2 := Lib.hid k2
    have HSZ := Lib.hid k3
    have HB0 := Lib.hid k4
    clear k1 k2 k3 k4
    go_wp2_with fail
    refine (as_int HV.out (iPowerSum _ _ _ _)).mono ?_
    rintro e' w1 ⟨rfl, hb1⟩
    generalize (w.alloc (.cells #[.int .i64 b] 3)).alloc (.cells #[.int .i64 (j : Int)] 3) = w2 at *
    have HB1 := Lib.hid (HB0.out.trans (hb1.mono HB0.out.size))
    have HS := Lib.hid (powStep b j ⟨w.heap.size, 0, none⟩ ⟨w.heap.size + 1, 0, none⟩ w1 b1 b2 hj5 ((hb1.cell (by rw [HSZ.out]; exact Nat.lt_succ_of_lt (Nat.lt_succ_self _))).trans HC1.out) ((hb1.cell (by rw [HSZ.out]; exact Nat.lt_succ_self _)).trans HC2.out) (by have := hb1.size; rw [HSZ.out] at this; show w.heap.size < _; omega) (by have := hb1.size; rw [HSZ.out] at this; show w.heap.size + 1 < _; omega))
    clear hb1
    go_wp2_with fail
    refine (cycleFrom_PowerCycle_1 _ _ _ n 1000000000000 _ HS.out HO.out (by omega) N q HF.out hN).mono ?_
    rintro r w3 ⟨⟨p', c, v, rfl, hc, hown⟩, hb3⟩
    obtain rfl := (hc.uniq HL.out).2
    have HO3 := Lib.hid (hown.mono HB1.out.size)
    have HB3 := Lib.hid (HB1.out.trans (hb3.mono HB1.out.size))
    clear hc hown hb3
    go_wp2
    go_ret
    exact ⟨v, rfl, HO3.out, HB3.out⟩
  | false =>
    have HV := Lib.hid (show psV n b e = -1 by rw [psV]; unfold PcOk at hok; rw [hok]; rfl)
    obtain rfl := hl.2 hok
    clear hl hok
    have HB0 := Lib.hid (box2 w (.int .i64 b) (.int .i64 e)).2.2.2
    go_enter Try.func11, Try.ntmps11
    go_wp2_with fail
    refine (as_int HV.out (iPowerSum _ _ _ _)).mono ?_
    rintro e' w1 ⟨rfl, hb1⟩
    have HB1 := Lib.hid (HB0.out.trans (hb1.mono HB0.out.size))
    clear hb1
    go_wp2
    go_ret
    exact ⟨_, rfl, own_nil _ _, HB1.out⟩
theorem sPowStep (n b : Int) (e : Nat) (w : World) (b1 : 2 ≤ b) (b2 : b ≤ 16) (he : e ≤ 5) (n1 : 0 ≤ n) (n2 : n ≤ 1000000000000) :
    Calls Try.prog 62 #[.int .i64 n, .int .i64 b, .int .i64 e, .int .i64 0] w fun r w' => r = .returned (.int .i64 (Pl.pf b e n)) ∧ Below w.heap.size w w' := by
  go_enter Try.func62, Try.ntmps62
  go_wp2_with fail
  refine (l22Sum _ _ _ _ b1 b2 n1 n2 he).mono ?_
  rintro e' w2 ⟨rfl, hb2⟩
  go_wp2
  go_ret
  exact ⟨rfl, hb2⟩
theorem sPC (n b e : Int) (l : List Int) (hl : PcV n b e l) (w : World) : Calls Try.prog 10 #[.int .i64 n, .int .i64 b, .int .i64 e] w fun r w' => ∃ v, r = .returned v ∧ Own w' w.heap.size v l ∧ Below w.heap.size w w' := by
  cases hok : PcOk n b e with
  | true =>
    have ⟨⟨b1, b2⟩, ⟨n1, n2⟩, e1, e2⟩ := pcOk_t hok
    obtain ⟨p, hp⟩ := hl.1 hok
    have HL := Lib.hid hp
    have HV := Lib.hid hok
    obtain ⟨j, rfl⟩ := Int.eq_ofNat_of_zero_le (show 0 ≤ e by omega)
    rw [Int.toNat_natCast] at HL
    obtain ⟨N, q, hN, hf⟩ := Pl.pf_first (e := j) b1 b2 (by omega) n1 n2
    have HF := Lib.hid hf
    have HO := Lib.hid (Pl.pf_orb (e := j) b1 b2 (by omega) n1 n2)
    have hj5 : j ≤ 5 := by omega
    clear hl hok hp hf
    go_enter Try.func10, Try.ntmps10
    go_wp2_with fail
    refine (as_bool HV.out (l22Ok_any _ _ _ _)).mono ?_
    rintro e' w1 ⟨rfl, rfl⟩
    go_wp2_with fail
    refine (l22Cycle n b j 0 _ 1000000000000 _ (fun m w1 m0 m1 => sPowStep m b j w1 b1 b2 hj5 m0 m1) HO.out N q HF.out hN).mono ?_
    rintro r w3 ⟨⟨p', c, v, rfl, hc, hown⟩, hb3⟩
    obtain rfl := (hc.uniq HL.out).2
    have HO3 := Lib.hid hown
    have HB3 := Lib.hid hb3
    clear hc hown hb3
    go_wp2
    go_ret
    exact ⟨v, rfl, HO3.out, HB3.out⟩
  | false =>
    have HV := Lib.hid hok
    obtain rfl := hl.2 hok
    clear hl hok
    go_enter Try.func10, Try.ntmps10
    go_wp2_with fail
    refine (as_bool HV.out (l22Ok_any _ _ _ _)).mono ?_
    rintro e' w1 ⟨rfl, rfl⟩
    go_wp2
    go_ret
    exact ⟨_, rfl, own_nil _ _, Below.refl _ _⟩
end Cy
end Go.Proofs.Ytidjnbnhkgobnaa
