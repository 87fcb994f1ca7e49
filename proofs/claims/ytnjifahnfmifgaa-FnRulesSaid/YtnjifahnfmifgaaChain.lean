/-
  Contracts of the chain of trimmed numbers.
  Conditions: none.
-/
import Derived.Test.YtnjifahnfmifgaaSlicesB
import Derived.Test.YtnjifahnfmifgaaSmall3
import Derived.Test.YtnjifahnfmifgaaTrim
namespace Go.Proofs.Ytnjifahnfmifgaa
open Go.RowKit
def lenV : Value → Nat | .slice _ n _ => n | _ => 0
theorem own_lit1 (w : World) (n : Int) : Own (w.alloc (.cells #[.int .i64 n] 3)) w.heap.size (.slice (some ⟨w.heap.size, 0, none⟩) 1 1) [n] :=
  World.ownsRow_lit w #[.int .i64 n] 1 (Nat.le_refl _) (by unfold maxLen; omega) rfl
/-- f numbers at most, from n on: each is trimmed while it is at least c. -/
def tch (b t c : Int) : Nat → Int → List Int
  | 0, n => [n]
  | f + 1, n => if c ≤ n then n :: tch b t c f (n / b + t * (n % b)) else [n]
theorem tch_len (b t c : Int) : ∀ (f : Nat) (n : Int), (tch b t c f n).length ≤ f + 1 := by
  intro f
  induction f with
  | zero => intro n; simp [tch]
  | succ f ih =>
    intro n
    unfold tch
    split
    · simp; exact ih _
    · simp
def tcV (n m b : Int) : List Int := if inB b 2 16 && inB m 2 1000 && decide (0 ≤ tfV m b) && inB n 0 1000000000000 then tch b (tfV m b) (m * b) 39 n else []
theorem tcV_len (n m b : Int) : (tcV n m b).length ≤ 40 := by
  unfold tcV
  split
  · exact tch_len _ _ _ 39 n
  · simp
theorem tfV_bd (m b : Int) : -1 ≤ tfV m b ∧ tfV m b ≤ 1000 := by
  unfold tfV
  split
  · rename_i h
    rw [Bool.and_eq_true] at h
    have hm := inB_t h.2
    unfold Pl.invV
    split
    · have h1 := Pl.mod_nn (a := (Pl.egc m (b % m) 0 1).2.tmod m + m) (show 0 < m by omega)
      have h2 := Pl.mod_lt (a := (Pl.egc m (b % m) 0 1).2.tmod m + m) (show 0 < m by omega)
      omega
    · omega
  · omega
theorem tfV_ok {m b : Int} (h : 0 ≤ tfV m b) : inB b 2 16 = true ∧ inB m 2 1000 = true := by
  cases hx : (inB b 2 16 && inB m 2 1000) with
  | true => rwa [Bool.and_eq_true] at hx
  | false => exfalso; rw [tfV, if_neg (by rw [hx]; simp)] at h; omega
theorem tcV_no {n m b : Int} (h : tfV m b < 0 ∨ inB n 0 1000000000000 = false) : tcV n m b = [] := by
  unfold tcV
  rw [if_neg]
  intro hx
  simp only [Bool.and_eq_true, decide_eq_true_eq] at hx
  rcases h with h | h
  · omega
  · rw [h] at hx; simp at hx
set_option maxHeartbeats 400000 in
theorem iTrimC (n m b : Int) (w : World) : Calls Try.prog 17 #[.int .i64 n, .int .i64 m, .int .i64 b] w fun e w' => ∃ v, e = .returned v ∧ Own w' w.heap.size v (tcV n m b) ∧ Below w.heap.size w w' := by
  have ⟨t1, t2⟩ := tfV_bd m b
  have HNo := Lib.hid (fun h => tcV_no (n := n) (m := m) (b := b) h)
  by_cases ht : 0 ≤ tfV m b
  · have HOK := Lib.hid (tfV_ok ht)
    rcases inB_cases n 0 1000000000000 with h | h
    · have HV := Lib.hid (show tcV n m b = tch b (tfV m b) (m * b) 39 n by rw [tcV, if_pos (by simp [HOK.out.1, HOK.out.2, ht, h])])
      have ⟨b1, b2⟩ := inB_t HOK.out.1
      have ⟨m1, m2⟩ := inB_t HOK.out.2
      have ⟨n1, n2⟩ := inB_t h
      have c0 : 2 * 2 ≤ m * b := Int.mul_le_mul m1 b1 (by omega) (by omega)
      have c1 : m * b ≤ 1000 * 16 := Int.mul_le_mul m2 b2 (by omega) (by omega)
      go_enter Try.func17, Try.ntmps17
      go_wp2_with fail
      refine (iTrimFactor _ _ _).mono ?_
      rintro e w1 ⟨rfl, hb1⟩
      have ht3 : decide (tfV m b < 0) = false := by simp; omega
      generalize tfV m b = t at *
      go_wp2_with (first | (go_at_call 50; refine (isNumber_any _ _).mono ?_; rintro e w' ⟨rfl, rfl⟩))
      go_loopw [0, 8] (fun vn vo wr => ∃ (x : Int) (xs : List Int) (f : Nat), 0 ≤ x ∧ x ≤ 1000000000000 ∧ vn = .int .i64 x ∧ Own wr w.heap.size vo (xs ++ [x]) ∧ Hid (xs.length + f = 39) ∧ Hid (xs ++ tch b t (m * b) f x = tch b t (m * b) 39 n) ∧ Below w.heap.size w wr) (fun _ vo _ => 40 - lenV vo)
      case atStart => exact ⟨n, [], 39, n1, n2, rfl, (own_lit1 w1 n).mono hb1.size, rfl, rfl, hb1.alloc hb1.size _⟩
      case round =>
        obtain ⟨x, xs, f, x0, x1, rfl, hown, hf, hg, hbel⟩ := hrel
        obtain ⟨ao, cap, rfl, _⟩ := hown.shape
        have hl : (xs ++ [x]).length = 40 - f := by have := hf.out; simp; omega
        have hf39 : f ≤ 39 := by have := hf.out; omega
        rw [hl]
        rw [hl] at hown
        by_cases hx : m * b ≤ x
        · match f, hf, hg, hl, hf39, hown with
          | 0, hf, hg, hl, hf39, hown =>
            have HE := Lib.hid (show xs ++ [x] = tcV n m b by rw [HV.out, ← hg.out]; rfl)
            rw [HE.out] at hown
            clear hl
            go_wp2
            go_ret
            exact ⟨_, rfl, hown, hbel⟩
          | f + 1, hf, hg, hl, hf39, hown =>
            have e1 := Pl.mod_nn (a := x) (show 0 < b by omega)
            have e2 := Pl.mod_lt (a := x) (show 0 < b by omega)
            have e3 := Pl.div_nn x0 (show 0 ≤ b by omega)
            have e4 : x / b * 2 ≤ x := by
              have h1 := Int.ediv_mul_le x (show b ≠ 0 by omega)
              have h2 : x / b * 2 ≤ x / b * b := Int.mul_le_mul_of_nonneg_left b1 e3
              omega
            have e5 : 0 ≤ t * (x % b) := Int.mul_nonneg ht e1
            have e6 : t * (x % b) ≤ 1000 * 16 := Int.mul_le_mul t2 (by omega) e1 (by omega)
            have HG := Lib.hid (show (xs ++ [x]) ++ tch b t (m * b) f (x / b + t * (x % b)) = tch b t (m * b) 39 n by
              rw [← hg.out]
              show _ = xs ++ (if m * b ≤ x then x :: tch b t (m * b) f (x / b + t * (x % b)) else [x])
              rw [if_pos hx]; simp)
            have HL := Lib.hid (show (xs ++ [x]).length + f = 39 by have := hf.out; simp; omega)
            have hlt : (xs ++ [x]).length < 1000000000000 := by have := HL.out; omega
            have hsz := hbel.size
            have HO := Lib.hid hown
            clear hl hown hf hg
            have h40 : 40 - (f + 1) = 39 - f := by omega
            rw [h40] at HO ⊢
            clear h40
            have HI1 := Lib.hid (inB_mk x0 x1)
            have HI2 := Lib.hid (inB_mk ht t2)
            have HT := Lib.hid (show trimV x b t = x / b + t * (x % b) by
              rw [trimV, if_pos (by rw [HOK.out.1, HI1.out, HI2.out]; rfl)]
              unfold wrap64
              omega)
            go_wp2_with fail
            refine (iTrim_any _ _ _ _).mono ?_
            rintro e wq ⟨rfl, hbq⟩
            rw [HT.out]
            have hown2 := HO.out.below hbq (Nat.le_refl _)
            have hbel2 := hbel.trans (hbq.mono hbel.size)
            have hsz2 := hbel2.size
            clear HO hbq
            go_wp2_with (at_builtin; refine wp_push wq _ _ (xs ++ [x]) (x / b + t * (x % b)) hown2 rfl _ _ rfl rfl rfl hlt hsz2 ?_; intro v1 w2 hown1 hb1')
            go_roundw
            case rel => exact ⟨x / b + t * (x % b), xs ++ [x], f, by omega, by omega, rfl, hown1, HL, HG.out, hbel2.trans hb1'⟩
            case measure =>
              obtain ⟨_, _, e, _⟩ := hown1.shape
              have := HL.out
              rw [e]; simp [lenV] at *; omega
        · have HE := Lib.hid (show xs ++ [x] = tcV n m b by
            rw [HV.out, ← hg.out]
            cases f with
            | zero => rfl
            | succ f => show _ = xs ++ (if m * b ≤ x then _ else [x]); rw [if_neg hx])
          rw [HE.out] at hown
          clear hl
          go_wp2
          go_ret
          exact ⟨_, rfl, hown, hbel⟩
    · have HE := Lib.hid (HNo.out (.inr h))
      go_enter Try.func17, Try.ntmps17
      go_wp2_with fail
      refine (iTrimFactor _ _ _).mono ?_
      rintro e w1 ⟨rfl, hb1⟩
      generalize tfV m b = t at *
      go_wp2_with (first | (go_at_call 50; refine (isNumber_any _ _).mono ?_; rintro e w' ⟨rfl, rfl⟩))
      go_ret
      exact ⟨_, rfl, by rw [HE.out]; exact own_nil _ _, hb1⟩
  · have HE := Lib.hid (HNo.out (.inl (by omega)))
    go_enter Try.func17, Try.ntmps17
    go_wp2_with fail
    refine (iTrimFactor _ _ _).mono ?_
    rintro e w1 ⟨rfl, hb1⟩
    generalize tfV m b = t at *
    go_wp2_with fail
    go_ret
    exact ⟨_, rfl, by rw [HE.out]; exact own_nil _ _, hb1⟩
end Go.Proofs.Ytnjifahnfmifgaa
