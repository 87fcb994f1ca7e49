/-
  The contract of the sorting of a slice of the call's own that has at most twelve numbers.
  Conditions: at most twelve numbers.
-/
import Derived.Test.YtnjifahnfmifgaaSlicesE
import Derived.Deep.QuietTactic
import Derived.BigQuiet
import Derived.Test.YtnjifahnfmifgaaSortsPl
namespace Go.Proofs.Ytnjifahnfmifgaa
open Go.RowKit
namespace Srt
def LenP (e : Ending) : Prop := ∃ r : Int, e = .returned (.int .i64 r)
set_option maxRecDepth 100000 in
theorem len64 (n : Nat) (w : World) (hn : n ≤ 12) : Calls Try.prog 87 #[.int .u64 n] w fun e w' => LenP e ∧ w = w' := by
  have h : n = 0 ∨ n = 1 ∨ n = 2 ∨ n = 3 ∨ n = 4 ∨ n = 5 ∨ n = 6 ∨ n = 7 ∨ n = 8 ∨ n = 9 ∨ n = 10 ∨ n = 11 ∨ n = 12 := by omega
  clear hn
  rcases h with rfl | rfl | rfl | rfl | rfl | rfl | rfl | rfl | rfl | rfl | rfl | rfl | rfl
  all_goals
    go_enter Try.func87, Try.ntmps87
    go_wp2
    go_ret
    exact ⟨⟨_, rfl⟩, rfl⟩
theorem bitsLen (n : Nat) (w : World) (hn : n ≤ 12) : Calls Try.prog 74 #[.int .u64 n] w fun e w' => LenP e ∧ w = w' := by
  go_enter Try.func74, Try.ntmps74
  go_wp2_with fail
  refine (len64 n _ hn).mono ?_
  rintro e w' ⟨⟨r, rfl⟩, rfl⟩
  go_wp2
  go_ret
  exact ⟨⟨_, rfl⟩, rfl⟩
theorem cmpLess (x y : Int) (w : World) : Calls Try.prog 83 #[.int .i64 x, .int .i64 y] w fun e w' => e = .returned (.bool (decide (x < y))) ∧ w = w' := by
  go_enter Try.func83, Try.ntmps83
  go_wp2
  all_goals go_ret
  all_goals exact ⟨by first | rfl | simp, rfl⟩
/-- The first i numbers are in order. -/
def UpTo (xs : List Int) (i : Nat) : Prop := ∀ a b, a < b → b < i → xs.getD a 0 ≤ xs.getD b 0
/-- The first i + 1 numbers are in order but for the one at j, which no later one of them is less than. -/
def Ins (xs : List Int) (i j : Nat) : Prop := (∀ a b, a < b → b ≤ i → a ≠ j → b ≠ j → xs.getD a 0 ≤ xs.getD b 0) ∧ ∀ b, j < b → b ≤ i → xs.getD j 0 ≤ xs.getD b 0
theorem ins_start {xs : List Int} {i : Nat} (h : UpTo xs i) : Ins xs i i := ⟨fun a b h1 h2 _ h4 => h a b h1 (by omega), fun b h1 h2 => by omega⟩
theorem ins_end {xs : List Int} {i j : Nat} (hj : j ≤ i) (h : Ins xs i j) (he : 0 < j → xs.getD (j - 1) 0 ≤ xs.getD j 0) : UpTo xs (i + 1) := by
  intro a b hab hb
  by_cases h1 : b = j
  · subst h1
    have h2 := he (by omega)
    by_cases h3 : a = b - 1
    · subst h3; exact h2
    · have := h.1 a (b - 1) (by omega) (by omega) (by omega) (by omega)
      omega
  · by_cases h2 : a = j
    · subst h2; exact h.2 b hab (by omega)
    · exact h.1 a b hab (by omega) h2 h1
theorem ins_step {xs : List Int} {i j : Nat} (hj : j + 1 ≤ i) (hi : i < xs.length) (h : Ins xs i (j + 1)) (hlt : xs.getD (j + 1) 0 < xs.getD j 0) :
    Ins ((xs.set (j + 1) (xs.getD j 0)).set j (xs.getD (j + 1) 0)) i j := by
  have g : ∀ a, ((xs.set (j + 1) (xs.getD j 0)).set j (xs.getD (j + 1) 0)).getD a 0 = if a = j then xs.getD (j + 1) 0 else if a = j + 1 then xs.getD j 0 else xs.getD a 0 := by
    intro a
    by_cases h1 : a = j
    · subst h1; rw [getD_set (by simp; omega), if_pos rfl, if_pos rfl]
    · rw [if_neg h1, getD_set (by simp; omega), if_neg (by omega), getD_set (by omega)]
      by_cases h2 : a = j + 1
      · subst h2; simp
      · rw [if_neg (by omega), if_neg h2]
  constructor
  · intro a b hab hb ha hb'
    rw [g a, g b, if_neg ha, if_neg hb']
    by_cases h1 : a = j + 1
    · rw [if_pos h1, if_neg (by omega)]
      exact h.1 j b (by omega) hb (by omega) (by omega)
    · rw [if_neg h1]
      by_cases h2 : b = j + 1
      · rw [if_pos h2]; exact h.1 a j (by omega) (by omega) (by omega) (by omega)
      · rw [if_neg h2]; exact h.1 a b hab hb h1 h2
  · intro b hb hb'
    rw [g j, g b, if_pos rfl, if_neg (by omega)]
    by_cases h2 : b = j + 1
    · rw [if_pos h2]; omega
    · rw [if_neg h2]; exact h.2 b (by omega) hb'
theorem swap_perm {xs : List Int} {i j : Nat} (hi : i < xs.length) (hj : j < xs.length) : ((xs.set i (xs.getD j 0)).set j (xs.getD i 0)).Perm xs := by
  have h := @List.set_set_perm _ xs i j hi hj
  have e1 : xs.getD j 0 = xs[j] := by rw [List.getD_eq_getElem?_getD, List.getElem?_eq_getElem hj]; rfl
  have e2 : xs.getD i 0 = xs[i] := by rw [List.getD_eq_getElem?_getD, List.getElem?_eq_getElem hi]; rfl
  rw [e1, e2]; exact h
theorem upTo_srt {xs l : List Int} (hp : xs.Perm l) (h : UpTo xs xs.length) : xs = Pl.srt l := by
  refine (Pl.srt_eq hp ?_).symm
  rw [List.pairwise_iff_getElem]
  intro i j hi hj hij
  have := h i j hij hj
  rwa [List.getD_eq_getElem?_getD, List.getElem?_eq_getElem hi, List.getD_eq_getElem?_getD, List.getElem?_eq_getElem hj] at this
set_option maxHeartbeats 1000000 in
theorem insSort (l : List Int) (v : Value) (B : Nat) (w : World) (hown : Own w B v l) (hl : l.length ≤ 12) :
    Calls Try.prog 77 #[v, .int .i64 0, .int .i64 l.length] w fun e w' => e = .returned (.tuple #[]) ∧ Own w' B v (Pl.srt l) ∧ Below B w w' := by
  rcases hown.forms with ⟨rfl, rfl⟩ | ⟨g, cap, rfl, hBg, hg, hcap, hcap2⟩
  · go_enter Try.func77, Try.ntmps77
    go_wp2
    refine wp_loop_rounds 1 ?_
    rw [rounds_succ]
    go_wp2
    go_end0
    exact ⟨rfl, by simpa [Pl.srt] using hown, Below.refl _ _⟩
  · unfold maxLen at hcap2
    have HO0 := Lib.hid hown
    obtain ⟨n, hn⟩ : ∃ n, n = l.length := ⟨_, rfl⟩
    rw [← hn] at hcap hl hown ⊢
    have HN := Lib.hid hn
    clear hn
    go_enter Try.func77, Try.ntmps77
    go_wp2
    go_loopw [6] (fun vi wr => ∃ (i : Nat) (xs : List Int), 1 ≤ i ∧ (i ≤ n ∨ i = 1) ∧ vi = .int .i64 i ∧ Hid (xs.length = n) ∧ Own wr B (.slice (some ⟨g, 0, none⟩) n cap) xs ∧ Hid (xs.Perm l) ∧ Hid (UpTo xs i) ∧ Below B w wr) (fun vi _ => n + 1 - (intOf vi).toNat)
    case atStart => exact ⟨1, l, Nat.le_refl _, .inr rfl, rfl, Lib.hid HN.out.symm, hown, Lib.hid (List.Perm.refl _), Lib.hid (fun a b h1 h2 => by omega), Below.refl _ _⟩
    case round =>
      obtain ⟨i, xs, i1, i2, rfl, hxl, hown1, hp, hs, hbel⟩ := hrel
      have HO1 := Lib.hid hown1
      have HB1 := Lib.hid hbel
      clear hown hown1 hbel
      by_cases hlt : i < n
      · have hi12 : i ≤ 12 := by omega
        obtain ⟨wo, rfl⟩ : ∃ wo : World, wo = wr := ⟨_, rfl⟩
        clear i2
        go_wp2
        go_loopw [7] (fun vj wr => ∃ (j : Nat) (ys : List Int), j ≤ i ∧ vj = .int .i64 j ∧ Hid (ys.length = n) ∧ Own wr B (.slice (some ⟨g, 0, none⟩) n cap) ys ∧ Hid (ys.Perm l) ∧ Hid (Ins ys i j) ∧ Below B w wr) (fun vj _ => (intOf vj).toNat)
        case atStart => exact ⟨i, xs, Nat.le_refl _, rfl, hxl, HO1.out, hp, Lib.hid (ins_start hs.out), HB1.out⟩
        case round =>
          obtain ⟨j, ys, hj, rfl, hyl, hown2, hp2, hs2, hbel2⟩ := hrel
          have HO2 := Lib.hid hown2
          have HB2 := Lib.hid hbel2
          clear hown2 hbel2
          by_cases hj0 : 0 < j
          · obtain ⟨k, rfl⟩ : ∃ k, j = k + 1 := ⟨j - 1, by omega⟩
            have c1 := HO2.out.cellAt (show k + 1 < ys.length by rw [hyl.out]; omega)
            have c2 := HO2.out.cellAt (show k < ys.length by rw [hyl.out]; omega)
            have f1 := HO2.out.free (k + 1)
            have f2 := HO2.out.free k
            have hd0 : decide (0 < (k : Int) + 1) = true := by simp <;> omega
            have e1 : ((k + 1 : Nat) : Int) = (k : Int) + 1 := by omega
            rw [e1]
            clear e1
            have x1 : 0 ≤ (k : Int) + 1 := by omega
            have x2 : (k : Int) + 1 < (n : Int) := by omega
            have x3 : IntKind.i64.wrap ((k : Int) + 1 - 1) = (k : Int) := by rw [IntWalk.i64_in _ (by omega)]; omega
            have x4 : ((k : Int) + 1).toNat = k + 1 := by omega
            have x5 : (k : Int) < (n : Int) := by omega
            by_cases hlt2 : ys.getD (k + 1) 0 < ys.getD k 0
            · have HS := Lib.hid (ins_step hj (show i < ys.length by rw [hyl.out]; omega) hs2.out hlt2)
              have HP := Lib.hid ((swap_perm (show k + 1 < ys.length by rw [hyl.out]; omega) (show k < ys.length by rw [hyl.out]; omega)).trans hp2.out)
              have hdl : decide (ys.getD (k + 1) 0 < ys.getD k 0) = true := by simpa using hlt2
              clear hlt2
              generalize ys.getD (k + 1) 0 = d1 at *
              generalize ys.getD k 0 = d2 at *
              go_wp2
              go_quiet ((go_at_call 83; exact Calls.quiet_of_same ((cmpLess _ _ _).mono fun _ _ h => ⟨h.1, h.2.symm⟩)))
              go_wp2
              go_region
              go_wp2
              go_roundw
              case rel =>
                have hq := HO2.out.below (below_drewN (Below.refl wr.heap.size wr) (nq + 1)) (Nat.le_refl _)
                have o1 := hq.set (k + 1) d2
                have o2 := o1.1.set k d1
                exact ⟨k, (ys.set (k + 1) d2).set k d1, by omega, rfl, Lib.hid (by simp; exact hyl.out), o2.1, HP, HS, (below_drewN HB2.out (nq + 1)).trans (o1.2.trans o2.2)⟩
              case measure => simp [intOf]
            · have HS := Lib.hid (ins_end hj hs2.out (fun _ => by rw [Nat.add_sub_cancel]; omega))
              have hdl : decide (ys.getD (k + 1) 0 < ys.getD k 0) = false := by simpa using hlt2
              clear hlt2
              generalize ys.getD (k + 1) 0 = d1 at *
              generalize ys.getD k 0 = d2 at *
              go_wp2
              go_quiet ((go_at_call 83; exact Calls.quiet_of_same ((cmpLess _ _ _).mono fun _ _ h => ⟨h.1, h.2.symm⟩)))
              go_wp2
              go_roundw
              case rel => exact ⟨i + 1, ys, by omega, .inl (by omega), by go_num, hyl, HO2.out.below (below_drewN (Below.refl wr.heap.size wr) _) (Nat.le_refl _), hp2, HS, below_drewN HB2.out _⟩
              case measure => simp [intOf]; omega
          · obtain rfl : j = 0 := by omega
            have HS := Lib.hid (ins_end hj hs2.out (fun h => absurd h (by omega)))
            have hd0 : decide ((0 : Int) < 0) = false := by decide
            go_wp2
            go_quiet (fail)
            go_wp2
            go_roundw
            case rel => exact ⟨i + 1, ys, by omega, .inl (by omega), by go_num, hyl, HO2.out.below (below_drewN (Below.refl wr.heap.size wr) _) (Nat.le_refl _), hp2, HS, below_drewN HB2.out _⟩
            case measure => simp [intOf]; omega
      · have HE := Lib.hid (show xs = Pl.srt l from upTo_srt hp.out (fun a b h1 h2 => by
          have h3 := hxl.out
          exact hs.out a b h1 (by omega)))
        go_wp2
        go_end0
        exact ⟨rfl, by rw [← HE.out]; exact HO1.out, HB1.out⟩
theorem pdq (l : List Int) (v : Value) (B : Nat) (r : Int) (w : World) (hown : Own w B v l) (hl : l.length ≤ 12) :
    Calls Try.prog 73 #[v, .int .i64 0, .int .i64 l.length, .int .i64 r] w fun e w' => e = .returned (.tuple #[]) ∧ Own w' B v (Pl.srt l) ∧ Below B w w' := by
  have HO := Lib.hid hown
  clear hown
  go_enter Try.func73, Try.ntmps73
  go_wp2
  refine wp_loop_rounds 1 ?_
  rw [rounds_succ]
  go_wp2_with fail
  refine (insSort l v B _ HO.out hl).mono ?_
  rintro e w' ⟨rfl, hown1, hb1⟩
  go_wp2
  (try simp only [Exit.inBlock, Exit.then])
  refine bodyPost_ret (results_none rfl _ _ _) rfl ?_
  exact ⟨rfl, hown1, hb1⟩
theorem slSort (l : List Int) (v : Value) (B : Nat) (w : World) (hown : Own w B v l) (hl : l.length ≤ 12) :
    Calls Try.prog 62 #[v] w fun e w' => e = .returned (.tuple #[]) ∧ Own w' B v (Pl.srt l) ∧ Below B w w' := by
  obtain ⟨ao, cap, rfl, _⟩ := hown.shape
  have HO := Lib.hid hown
  clear hown
  go_enter Try.func62, Try.ntmps62
  go_wp2_with fail
  refine (bitsLen l.length _ hl).mono ?_
  rintro e w' ⟨⟨r, rfl⟩, rfl⟩
  go_wp2_with fail
  refine (pdq l _ B r _ HO.out hl).mono ?_
  rintro e w' ⟨rfl, hown1, hb1⟩
  go_wp2
  go_end0
  exact ⟨rfl, hown1, hb1⟩
end Srt
end Go.Proofs.Ytnjifahnfmifgaa
