/-
  Contracts of the sequences.
  Conditions: the ranges that each names.
-/
import Derived.Test.YtkddmngbfncocaaDoorBits
import Derived.Test.YtkddmngbfncocaaDoorSlicesB
namespace Go.Proofs.YtkddmngbfncocaaDoor
open Go.RowKit
namespace Sq
def iB : Nat → Nat → Nat
  | 0, _ => 1
  | f + 1, n => if n = 0 then 1 else if Lib.ctz 64 n % 2 = 1 then 0 else iB f (n / 2 ^ (Lib.ctz 64 n + 1))
/-- What the program's sequences hold. -/
def seqI (kind n : Nat) : Nat :=
  if kind = 1 then swN n % 2
  else if kind = 2 then swN (n &&& (n / 2)) % 2
  else if kind = 3 then (if 0 < n ∧ (n / 2 ^ Lib.ctz 64 n) &&& 3 = 3 then 1 else 0)
  else if kind = 4 then iB 64 n
  else if n = 0 then 0 else min 9 (Lib.ctz 64 n)
def pc : Nat → Nat → Nat
  | 0, _ => 0
  | f + 1, n => n % 2 + pc f (n / 2)
def ix : Nat → Nat → Nat
  | 0, _ => 0
  | f + 1, n => if n % 2 = 0 then ix f (n / 2) + 1 else 0
def sB : Nat → Nat → Nat → Nat
  | 0, _, _ => 1
  | f + 1, n, run => if n = 0 then 1 else if n % 2 = 0 then sB f (n / 2) (run + 1) else if run % 2 = 1 then 0 else sB f (n / 2) 0
/-- What the reference's sequences hold. -/
def seqS (kind n : Nat) : Nat :=
  if kind = 1 then pc 64 n % 2
  else if kind = 2 then pc 64 (n &&& (n / 2)) % 2
  else if kind = 3 then (if 0 < n ∧ (n / 2 ^ ix 64 n) % 4 = 3 then 1 else 0)
  else if kind = 4 then sB 64 n 0
  else if n = 0 then 0 else min 9 (ix 64 n)
def seqAll : Bool := (List.range 1024).all fun n => (List.range 5).all fun k => seqI (k + 1) n == seqS (k + 1) n && decide (seqI (k + 1) n ≤ 9)
theorem seqAll_t : seqAll = true := by kernel_rfl
theorem seq_same {kind n : Nat} (k1 : 1 ≤ kind) (k2 : kind ≤ 5) (hn : n < 1024) : seqS kind n = seqI kind n ∧ seqI kind n ≤ 9 := by
  have h := seqAll_t
  unfold seqAll at h
  rw [List.all_eq_true] at h
  have h := h n (List.mem_range.2 hn)
  rw [List.all_eq_true] at h
  have h := h (kind - 1) (List.mem_range.2 (by omega))
  rw [show kind - 1 + 1 = kind by omega, Bool.and_eq_true, beq_iff_eq, decide_eq_true_eq] at h
  exact ⟨h.1.symm, h.2⟩
theorem swN_lt (n : Nat) : swN n < 128 := Nat.mod_lt _ (by omega)
theorem ctz_le (n : Nat) (hn : n < 18446744073709551616) : Lib.ctz 64 n ≤ 64 := by
  by_cases h : n = 0
  · subst h; decide
  · have := (Lib.lowest_bit 64 n h hn).2; omega
theorem div_pow (n z : Nat) : (n : Int) / 2 ^ z = ((n / 2 ^ z : Nat) : Int) := by
  rw [Int.natCast_ediv]; simp
set_option maxHeartbeats 1000000 in
theorem iAt (kind n : Nat) (k1 : 1 ≤ kind) (k2 : kind ≤ 5) (n2 : n < 4611686018427387904) (w : World) (hT : TabAt 1 Lib.deBruijn64tab w) :
    Calls Tryd.prog 29 #[.int .i64 kind, .int .i64 n] w fun e w' => e = .returned (.int .i64 (seqI kind n)) ∧ w = w' := by
  have hw : IntKind.u64.wrap (n : Int) = (n : Int) := by rw [IntKind.wrap_u64]; omega
  have HT := Lib.hid hT
  have hz64 := ctz_le n (by omega)
  clear hT
  have hk : kind = 1 ∨ kind = 2 ∨ kind = 3 ∨ kind = 4 ∨ kind = 5 := by omega
  clear k1 k2
  rcases hk with rfl | rfl | rfl | rfl | rfl
  · have hl := swN_lt n
    have HV := Lib.hid (show ((swN n % 2 : Nat) : Int) = (seqI 1 n : Int) from rfl)
    go_enter Tryd.func29, Tryd.ntmps29
    go_wp2_with fail
    refine (ones n (by omega) _).mono ?_
    rintro e w1 ⟨rfl, rfl⟩
    generalize swN n = s at *
    go_wp2
    go_ret
    exact ⟨ret_int (by rw [← HV.out]; omega), rfl⟩
  · have ha := and_i64 n (n / 2) n2 (by omega)
    have hd : (n : Int) / 2 = ((n / 2 : Nat) : Int) := by omega
    have ha2 := ha.2
    have ha1 := ha.1
    have hl := swN_lt (n &&& (n / 2))
    have HV := Lib.hid (show ((swN (n &&& (n / 2)) % 2 : Nat) : Int) = (seqI 2 n : Int) from rfl)
    have hw2 : IntKind.u64.wrap ((n &&& (n / 2) : Nat) : Int) = ((n &&& (n / 2) : Nat) : Int) := by rw [IntKind.wrap_u64]; omega
    clear ha
    generalize hq : n &&& (n / 2) = q at *
    generalize n / 2 = h at *
    clear hq
    go_enter Tryd.func29, Tryd.ntmps29
    go_wp2_with fail
    refine (ones q (by omega) _).mono ?_
    rintro e w1 ⟨rfl, rfl⟩
    generalize swN q = s at *
    go_wp2
    go_ret
    exact ⟨ret_int (by rw [← HV.out]; omega), rfl⟩
  · have HV := Lib.hid (show ((if 0 < n ∧ (n / 2 ^ Lib.ctz 64 n) &&& 3 = 3 then 1 else 0 : Nat) : Int) = (seqI 3 n : Int) from rfl)
    by_cases h0 : 0 < n
    · have hd := div_pow n (Lib.ctz 64 n)
      have hm : n / 2 ^ Lib.ctz 64 n ≤ n := Nat.div_le_self _ _
      have ha := (and_i64 (n / 2 ^ Lib.ctz 64 n) 3 (by omega) (by omega)).1
      have ha' : bits BinOp.and IntKind.i64 ((n / 2 ^ Lib.ctz 64 n : Nat) : Int) 3 = ((n / 2 ^ Lib.ctz 64 n &&& 3 : Nat) : Int) := ha
      clear ha
      by_cases hb : n / 2 ^ Lib.ctz 64 n &&& 3 = 3
      · have HV2 := Lib.hid (show (1 : Int) = (seqI 3 n : Int) by rw [← HV.out, if_pos ⟨h0, hb⟩]; rfl)
        rw [hb] at ha'
        go_enter Tryd.func29, Tryd.ntmps29
        go_wp2_with fail
        refine (tz n (by omega) _ HT.out).mono ?_
        rintro e w1 ⟨rfl, rfl⟩
        generalize Lib.ctz 64 n = z at *
        generalize n / 2 ^ z = m at *
        go_wp2
        go_ret
        exact ⟨ret_int HV2.out, rfl⟩
      · have HV2 := Lib.hid (show (0 : Int) = (seqI 3 n : Int) by rw [← HV.out, if_neg (fun h => hb h.2)]; rfl)
        have hb2 : (((n / 2 ^ Lib.ctz 64 n &&& 3 : Nat) : Int) == 3) = false := by rw [beq_eq_false_iff_ne]; omega
        go_enter Tryd.func29, Tryd.ntmps29
        go_wp2_with fail
        refine (tz n (by omega) _ HT.out).mono ?_
        rintro e w1 ⟨rfl, rfl⟩
        clear hb
        generalize Lib.ctz 64 n = z at *
        generalize (n / 2 ^ z &&& 3) = q at *
        generalize n / 2 ^ z = m at *
        go_wp2
        go_ret
        exact ⟨ret_int HV2.out, rfl⟩
    · have HV2 := Lib.hid (show (0 : Int) = (seqI 3 n : Int) by rw [← HV.out, if_neg (fun h => h0 h.1)]; rfl)
      obtain rfl : n = 0 := by omega
      go_enter Tryd.func29, Tryd.ntmps29
      go_wp2
      go_ret
      exact ⟨ret_int HV2.out, rfl⟩
  · have HV := Lib.hid (show ((iB 64 n : Nat) : Int) = (seqI 4 n : Int) from rfl)
    show Calls Tryd.prog 29 #[.int .i64 4, .int .i64 n] w _
    go_enter Tryd.func29, Tryd.ntmps29
    go_wp2_with fail
    go_loop [1] (fun vn => ∃ (m f : Nat), vn = .int .i64 m ∧ m ≤ n ∧ Hid (m < 2 ^ f) ∧ Hid (iB f m = iB 64 n)) (fun vn => (intOf vn).toNat)
    case atStart => exact ⟨n, 64, rfl, Nat.le_refl _, Lib.hid (by omega), Lib.hid rfl⟩
    case round =>
      obtain ⟨m, f, rfl, hm, hf, hib⟩ := hrel
      by_cases h0 : m = 0
      · subst h0
        have HE := Lib.hid (show (1 : Int) = (seqI 4 n : Int) by rw [← HV.out, ← hib.out]; cases f <;> rfl)
        go_wp2
        go_ret
        exact ⟨ret_int HE.out, rfl⟩
      · have hw2 : IntKind.u64.wrap (m : Int) = (m : Int) := by rw [IntKind.wrap_u64]; omega
        obtain ⟨g, rfl⟩ : ∃ g, f = g + 1 := ⟨f - 1, by
          rcases Nat.eq_zero_or_pos f with e | e
          · have := hf.out; rw [e] at this; omega
          · omega⟩
        have hz := (Lib.lowest_bit 64 m h0 (by omega)).2
        have HI := Lib.hid (show (if Lib.ctz 64 m % 2 = 1 then 0 else iB g (m / 2 ^ (Lib.ctz 64 m + 1))) = iB 64 n by rw [← hib.out]; show _ = (if m = 0 then 1 else _); rw [if_neg h0])
        have hd := div_pow m (Lib.ctz 64 m + 1)
        have hq1 : m / 2 ^ (Lib.ctz 64 m + 1) ≤ m / 2 := by
          refine Nat.div_le_div_left ?_ (by omega)
          have := Nat.one_le_two_pow (n := Lib.ctz 64 m)
          rw [Nat.pow_succ]; omega
        have hq2 : m / 2 ^ (Lib.ctz 64 m + 1) < m := by omega
        have HQ3 := Lib.hid (show m / 2 ^ (Lib.ctz 64 m + 1) < 2 ^ g by have := hf.out; rw [Nat.pow_succ] at this; omega)
        have h0' : (0 : Int) < (m : Int) := by omega
        clear hf hib
        go_wp2_with fail
        refine (tz m (by omega) _ HT.out).mono ?_
        rintro e w1 ⟨rfl, rfl⟩
        generalize Lib.ctz 64 m = z at *
        generalize m / 2 ^ (z + 1) = q at *
        by_cases ho : z % 2 = 1
        · have ho2 : ((z : Int) % 2 == 1) = true := by rw [beq_iff_eq]; omega
          have HE := Lib.hid (show (0 : Int) = (seqI 4 n : Int) by rw [← HV.out, ← HI.out, if_pos ho]; rfl)
          clear ho
          go_wp2
          go_ret
          exact ⟨ret_int HE.out, rfl⟩
        · have ho2 : ((z : Int) % 2 == 1) = false := by rw [beq_eq_false_iff_ne]; omega
          have HE := Lib.hid (show iB g q = iB 64 n by rw [← HI.out, if_neg ho])
          clear ho
          go_wp2
          go_round
          case rel => exact ⟨q, g, by first | rfl | (congr 1; omega), by omega, HQ3, HE⟩
          case measure => simp [intOf]; omega
  · have HV := Lib.hid (show ((if n = 0 then 0 else min 9 (Lib.ctz 64 n) : Nat) : Int) = (seqI 5 n : Int) from rfl)
    by_cases h0 : n = 0
    · have HV2 := Lib.hid (show (0 : Int) = (seqI 5 n : Int) by rw [← HV.out, if_pos h0]; rfl)
      subst h0
      go_enter Tryd.func29, Tryd.ntmps29
      go_wp2
      go_ret
      exact ⟨ret_int HV2.out, rfl⟩
    · have HV2 := Lib.hid (show ((min 9 (Lib.ctz 64 n) : Nat) : Int) = (seqI 5 n : Int) by rw [← HV.out, if_neg h0])
      have h0' : ((n : Int) == 0) = false := by rw [beq_eq_false_iff_ne]; omega
      go_enter Tryd.func29, Tryd.ntmps29
      go_wp2_with fail
      refine (tz n (by omega) _ HT.out).mono ?_
      rintro e w1 ⟨rfl, rfl⟩
      generalize Lib.ctz 64 n = z at *
      by_cases hz : 9 ≤ z
      · have hz2 : ((min 9 z : Nat) : Int) = 9 := by omega
        rw [hz2] at HV2
        go_wp2
        all_goals
          go_ret
          exact ⟨ret_int (by first | exact HV2.out | omega), rfl⟩
      · have hz2 : ((min 9 z : Nat) : Int) = z := by omega
        rw [hz2] at HV2
        go_wp2
        all_goals
          go_ret
          exact ⟨ret_int (by first | exact HV2.out | omega), rfl⟩
theorem sm_pc : ∀ (f n : Nat), n < 2 ^ f → Pl.sm (Pl.dg 2 (n : Int)) = (pc f n : Int) := by
  intro f
  induction f with
  | zero => intro n h; obtain rfl : n = 0 := by omega
            rw [show ((0 : Nat) : Int) = 0 from rfl, Pl.dg_zero]; rfl
  | succ f ih =>
    intro n h
    rw [Nat.pow_succ] at h
    by_cases h0 : n = 0
    · subst h0
      rw [show ((0 : Nat) : Int) = 0 from rfl, Pl.dg_zero]
      have : ∀ f, pc f 0 = 0 := by
        intro f
        induction f with
        | zero => rfl
        | succ f ih => show 0 % 2 + pc f (0 / 2) = 0; rw [Nat.zero_div, ih]
      rw [this]; rfl
    · rw [Pl.dg_step (by omega) (by omega)]
      have e : (n : Int) / 2 = ((n / 2 : Nat) : Int) := by omega
      rw [e]
      show (n : Int) % 2 + Pl.sm (Pl.dg 2 ((n / 2 : Nat) : Int)) = ((n % 2 + pc f (n / 2) : Nat) : Int)
      rw [ih _ (by omega)]; omega
theorem sIdx (n : Nat) (h0 : 0 < n) (hn : n < 1024) (w : World) : Calls Tryd.prog 39 #[.int .i64 n] w fun e w' => e = .returned (.int .i64 (ix 64 n)) ∧ w = w' := by
  go_enter Tryd.func39, Tryd.ntmps39
  go_wp2
  go_loop [0, 3] (fun vn vk => ∃ (m i f : Nat), vn = .int .i64 m ∧ vk = .int .i64 i ∧ 0 < m ∧ m ≤ n ∧ i + f ≤ 64 ∧ Hid (m < 2 ^ f) ∧ Hid (ix f m + i = ix 64 n)) (fun vn _ => (intOf vn).toNat)
  case atStart => exact ⟨n, 0, 64, rfl, rfl, h0, Nat.le_refl _, by omega, Lib.hid (by omega), Lib.hid rfl⟩
  case round =>
    obtain ⟨m, i, f, rfl, rfl, m0, m1, hif, hf, hx⟩ := hrel
    obtain ⟨g, rfl⟩ : ∃ g, f = g + 1 := ⟨f - 1, by
      rcases Nat.eq_zero_or_pos f with e | e
      · have := hf.out; rw [e] at this; omega
      · omega⟩
    by_cases he : m % 2 = 0
    · have he2 : ((m : Int) % 2 == 0) = true := by rw [beq_iff_eq]; omega
      have HX := Lib.hid (show ix g (m / 2) + (i + 1) = ix 64 n by rw [← hx.out]; show _ = (if m % 2 = 0 then ix g (m / 2) + 1 else 0) + i; rw [if_pos he]; omega)
      have HQ := Lib.hid (show m / 2 < 2 ^ g by have := hf.out; rw [Nat.pow_succ] at this; omega)
      have hd : (m : Int) / 2 = ((m / 2 : Nat) : Int) := by omega
      have hq1 : 0 < m / 2 := by omega
      have hq2 : m / 2 < m := by omega
      clear he hf hx
      generalize m / 2 = q at *
      go_wp2
      go_round
      case rel => exact ⟨q, i + 1, g, by first | rfl | (congr 1; omega), by first | rfl | go_num, by omega, by omega, by omega, HQ, HX⟩
      case measure => simp [intOf]; omega
    · have he2 : ((m : Int) % 2 == 0) = false := by rw [beq_eq_false_iff_ne]; omega
      have HE := Lib.hid (show (i : Int) = (ix 64 n : Int) by rw [← hx.out]; show _ = (((if m % 2 = 0 then ix g (m / 2) + 1 else 0) + i : Nat) : Int); rw [if_neg he]; omega)
      clear he hf hx
      go_wp2
      go_ret
      exact ⟨ret_int HE.out, rfl⟩
theorem sBlk (n : Nat) (hn : n < 1024) (w : World) : Calls Tryd.prog 40 #[.int .i64 n] w fun e w' => e = .returned (.int .i64 (sB 64 n 0)) ∧ w = w' := by
  go_enter Tryd.func40, Tryd.ntmps40
  go_wp2
  go_loop [0, 3] (fun vn vk => ∃ (m r f : Nat), vn = .int .i64 m ∧ vk = .int .i64 r ∧ m ≤ n ∧ r + f ≤ 64 ∧ Hid (m < 2 ^ f) ∧ Hid (sB f m r = sB 64 n 0)) (fun vn _ => (intOf vn).toNat)
  case atStart => exact ⟨n, 0, 64, rfl, rfl, Nat.le_refl _, by omega, Lib.hid (by omega), Lib.hid rfl⟩
  case round =>
    obtain ⟨m, r, f, rfl, rfl, m1, hrf, hf, hx⟩ := hrel
    by_cases h0 : m = 0
    · subst h0
      have HE := Lib.hid (show (1 : Int) = (sB 64 n 0 : Int) by rw [← hx.out]; cases f <;> rfl)
      go_wp2
      go_ret
      exact ⟨ret_int HE.out, rfl⟩
    · obtain ⟨g, rfl⟩ : ∃ g, f = g + 1 := ⟨f - 1, by
        rcases Nat.eq_zero_or_pos f with e | e
        · have := hf.out; rw [e] at this; omega
        · omega⟩
      have HX := Lib.hid (show (if m % 2 = 0 then sB g (m / 2) (r + 1) else if r % 2 = 1 then 0 else sB g (m / 2) 0) = sB 64 n 0 by rw [← hx.out]; show _ = (if m = 0 then 1 else _); rw [if_neg h0])
      have HQ := Lib.hid (show m / 2 < 2 ^ g by have := hf.out; rw [Nat.pow_succ] at this; omega)
      have hd : (m : Int) / 2 = ((m / 2 : Nat) : Int) := by omega
      have hq2 : m / 2 < m := by omega
      have h0' : (0 : Int) < (m : Int) := by omega
      clear hf hx
      by_cases he : m % 2 = 0
      · have he2 : ((m : Int) % 2 == 0) = true := by rw [beq_iff_eq]; omega
        have HE := Lib.hid (show sB g (m / 2) (r + 1) = sB 64 n 0 by rw [← HX.out, if_pos he])
        clear he HX
        generalize m / 2 = q at *
        go_wp2
        go_round
        case rel => exact ⟨q, r + 1, g, by first | rfl | (congr 1; omega), by first | rfl | go_num, by omega, by omega, HQ, HE⟩
        case measure => simp [intOf]; omega
      · have he2 : ((m : Int) % 2 == 0) = false := by rw [beq_eq_false_iff_ne]; omega
        by_cases ho : r % 2 = 1
        · have ho2 : ((r : Int) % 2 == 1) = true := by rw [beq_iff_eq]; omega
          have HE := Lib.hid (show (0 : Int) = (sB 64 n 0 : Int) by rw [← HX.out, if_neg he, if_pos ho]; rfl)
          clear he HX ho
          go_wp2
          go_ret
          exact ⟨ret_int HE.out, rfl⟩
        · have ho2 : ((r : Int) % 2 == 1) = false := by rw [beq_eq_false_iff_ne]; omega
          have HE := Lib.hid (show sB g (m / 2) 0 = sB 64 n 0 by rw [← HX.out, if_neg he, if_neg ho])
          clear he HX ho
          generalize m / 2 = q at *
          go_wp2
          go_round
          case rel => exact ⟨q, 0, g, by first | rfl | (congr 1; omega), rfl, by omega, by omega, HQ, HE⟩
          case measure => simp [intOf]; omega
theorem ix_le : ∀ f n : Nat, ix f n ≤ f := by
  intro f
  induction f with
  | zero => intro n; exact Nat.le_refl _
  | succ f ih =>
    intro n
    show (if n % 2 = 0 then ix f (n / 2) + 1 else 0) ≤ f + 1
    have := ih (n / 2)
    split <;> omega
theorem pc_le (n : Nat) (hn : n < 1024) : pc 64 n ≤ 600 ∧ (Pl.dg 2 (n : Int)).length ≤ 1000 := by
  have h1 := sm_pc 64 n (by omega)
  have h2 := Pl.dg_len40 (b := 2) (n := (n : Int)) (by omega) (by omega) (by omega)
  have h3 := Pl.sm_le 15 (Pl.dg 2 (n : Int)) (fun d hd => by have := Pl.dg_mem (b := 2) (by omega) (show (0 : Int) ≤ (n : Int) by omega) d hd; omega)
  omega
set_option maxHeartbeats 1000000 in
theorem sAt (kind n : Nat) (k1 : 1 ≤ kind) (k2 : kind ≤ 5) (hn : n < 1024) (w : World) :
    Calls Tryd.prog 33 #[.int .i64 kind, .int .i64 n] w fun e w' => e = .returned (.int .i64 (seqI kind n)) ∧ Below w.heap.size w w' := by
  rw [← (seq_same k1 k2 hn).1]
  have hk : kind = 1 ∨ kind = 2 ∨ kind = 3 ∨ kind = 4 ∨ kind = 5 := by omega
  clear k1 k2
  rcases hk with rfl | rfl | rfl | rfl | rfl
  · have ⟨hp, hlen⟩ := pc_le n hn
    have HV := Lib.hid (show ((pc 64 n % 2 : Nat) : Int) = (seqS 1 n : Int) from rfl)
    have HP := Lib.hid (sm_pc 64 n (by omega))
    have HM := Lib.hid (fun d hd => show (0 : Int) ≤ d ∧ d ≤ 1 by have := Pl.dg_mem (b := 2) (by omega) (show (0 : Int) ≤ (n : Int) by omega) d hd; omega)
    go_enter Tryd.func33, Tryd.ntmps33
    go_wp2_with fail
    refine (Go.Proofs.YtkddmngbfncocaaDoor.l02Digits (n : Int) 2 _ (by omega) (by omega) (by omega) (by omega)).mono ?_
    rintro e w1 ⟨v, rfl, hown, hb1⟩
    obtain ⟨ao, cap, rfl, hrd⟩ := hown.shape
    have HRD := Lib.hid hrd
    have HB1 := Lib.hid hb1
    clear hown hb1 hrd
    go_wp2_with fail
    refine (as_int HP.out (Go.Proofs.YtkddmngbfncocaaDoor.l02Sum _ _ rfl _ _ 1 _ HRD.out hlen HM.out (by omega))).mono ?_
    rintro e w2 ⟨rfl, rfl⟩
    generalize pc 64 n = s at *
    go_wp2
    go_ret
    exact ⟨ret_int (by rw [← HV.out]; omega), HB1.out⟩
  · have ha := and_i64 n (n / 2) (by omega) (by omega)
    have hd : (n : Int) / 2 = ((n / 2 : Nat) : Int) := by omega
    have ha2 := ha.2
    have ha1 := ha.1
    have HV := Lib.hid (show ((pc 64 (n &&& (n / 2)) % 2 : Nat) : Int) = (seqS 2 n : Int) from rfl)
    clear ha
    generalize hq : n &&& (n / 2) = q at *
    generalize n / 2 = h at *
    clear hq
    have ⟨hp, hlen⟩ := pc_le q (by omega)
    have HP := Lib.hid (sm_pc 64 q (by omega))
    have HM := Lib.hid (fun d hd => show (0 : Int) ≤ d ∧ d ≤ 1 by have := Pl.dg_mem (b := 2) (by omega) (show (0 : Int) ≤ (q : Int) by omega) d hd; omega)
    go_enter Tryd.func33, Tryd.ntmps33
    go_wp2_with fail
    refine (Go.Proofs.YtkddmngbfncocaaDoor.l02Digits (q : Int) 2 _ (by omega) (by omega) (by omega) (by omega)).mono ?_
    rintro e w1 ⟨v, rfl, hown, hb1⟩
    obtain ⟨ao, cap, rfl, hrd⟩ := hown.shape
    have HRD := Lib.hid hrd
    have HB1 := Lib.hid hb1
    clear hown hb1 hrd
    go_wp2_with fail
    refine (as_int HP.out (Go.Proofs.YtkddmngbfncocaaDoor.l02Sum _ _ rfl _ _ 1 _ HRD.out hlen HM.out (by omega))).mono ?_
    rintro e w2 ⟨rfl, rfl⟩
    generalize pc 64 q = s at *
    go_wp2
    go_ret
    exact ⟨ret_int (by rw [← HV.out]; omega), HB1.out⟩
  · have HV := Lib.hid (show ((if 0 < n ∧ (n / 2 ^ ix 64 n) % 4 = 3 then 1 else 0 : Nat) : Int) = (seqS 3 n : Int) from rfl)
    by_cases h0 : 0 < n
    · have hd := div_pow n (ix 64 n)
      have hm : n / 2 ^ ix 64 n ≤ n := Nat.div_le_self _ _
      have hix : ix 64 n ≤ 64 := ix_le 64 n
      have hc0 : (0 : Int) < (n : Int) := by omega
      by_cases hb : (n / 2 ^ ix 64 n) % 4 = 3
      · have HV2 := Lib.hid (show (1 : Int) = (seqS 3 n : Int) by rw [← HV.out, if_pos ⟨h0, hb⟩]; rfl)
        have hb2 : (((n / 2 ^ ix 64 n : Nat) : Int) % 4 == 3) = true := by rw [beq_iff_eq]; omega
        go_enter Tryd.func33, Tryd.ntmps33
        go_wp2_with fail
        refine (sIdx n h0 hn _).mono ?_
        rintro e w1 ⟨rfl, rfl⟩
        clear hb
        generalize ix 64 n = z at *
        generalize n / 2 ^ z = m at *
        go_wp2
        go_ret
        exact ⟨ret_int HV2.out, Below.refl _ _⟩
      · have HV2 := Lib.hid (show (0 : Int) = (seqS 3 n : Int) by rw [← HV.out, if_neg (fun h => hb h.2)]; rfl)
        have hb2 : (((n / 2 ^ ix 64 n : Nat) : Int) % 4 == 3) = false := by rw [beq_eq_false_iff_ne]; omega
        go_enter Tryd.func33, Tryd.ntmps33
        go_wp2_with fail
        refine (sIdx n h0 hn _).mono ?_
        rintro e w1 ⟨rfl, rfl⟩
        clear hb
        generalize ix 64 n = z at *
        generalize n / 2 ^ z = m at *
        go_wp2
        go_ret
        exact ⟨ret_int HV2.out, Below.refl _ _⟩
    · have HV2 := Lib.hid (show (0 : Int) = (seqS 3 n : Int) by rw [← HV.out, if_neg (fun h => h0 h.1)]; rfl)
      obtain rfl : n = 0 := by omega
      go_enter Tryd.func33, Tryd.ntmps33
      go_wp2
      go_ret
      exact ⟨ret_int HV2.out, Below.refl _ _⟩
  · go_enter Tryd.func33, Tryd.ntmps33
    go_wp2_with fail
    refine (sBlk n hn _).mono ?_
    rintro e w1 ⟨rfl, rfl⟩
    go_wp2
    go_ret
    exact ⟨rfl, Below.refl _ _⟩
  · have HV := Lib.hid (show ((if n = 0 then 0 else min 9 (ix 64 n) : Nat) : Int) = (seqS 5 n : Int) from rfl)
    by_cases h0 : n = 0
    · have HV2 := Lib.hid (show (0 : Int) = (seqS 5 n : Int) by rw [← HV.out, if_pos h0]; rfl)
      subst h0
      go_enter Tryd.func33, Tryd.ntmps33
      go_wp2
      go_ret
      exact ⟨ret_int HV2.out, Below.refl _ _⟩
    · have HV2 := Lib.hid (show ((min 9 (ix 64 n) : Nat) : Int) = (seqS 5 n : Int) by rw [← HV.out, if_neg h0])
      have h0' : ((n : Int) == 0) = false := by rw [beq_eq_false_iff_ne]; omega
      go_enter Tryd.func33, Tryd.ntmps33
      go_wp2_with fail
      refine (sIdx n (by omega) hn _).mono ?_
      rintro e w1 ⟨rfl, rfl⟩
      generalize ix 64 n = z at *
      by_cases hz : 9 ≤ z
      · have hz2 : ((min 9 z : Nat) : Int) = 9 := by omega
        rw [hz2] at HV2
        go_wp2
        all_goals
          go_ret
          exact ⟨ret_int (by first | exact HV2.out | omega), Below.refl _ _⟩
      · have hz2 : ((min 9 z : Nat) : Int) = z := by omega
        rw [hz2] at HV2
        go_wp2
        all_goals
          go_ret
          exact ⟨ret_int (by first | exact HV2.out | omega), Below.refl _ _⟩
end Sq
end Go.Proofs.YtkddmngbfncocaaDoor
