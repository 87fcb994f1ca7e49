/-
  The plain law of the sequences: what their numbers obey.
  Conditions: the ranges that each names.
-/
import Derived.Test.YtkddmngbfncocaaDoorSeq
namespace Go.Proofs.YtkddmngbfncocaaDoor
open Go.RowKit
namespace Sq
theorem and_split (k a m h M : Nat) (ha : a < 2 ^ k) (hm : m < 2 ^ k) : (a + 2 ^ k * h) &&& (m + 2 ^ k * M) = (a &&& m) + 2 ^ k * (h &&& M) := by
  have hx : a &&& m < 2 ^ k := Nat.lt_of_le_of_lt Nat.and_le_left ha
  rw [Nat.add_comm a, Nat.add_comm m, Nat.add_comm (a &&& m)]
  apply Nat.eq_of_testBit_eq
  intro i
  rw [Nat.testBit_and, Nat.testBit_two_pow_mul_add _ ha, Nat.testBit_two_pow_mul_add _ hm, Nat.testBit_two_pow_mul_add _ hx]
  by_cases hi : i < k
  · simp [hi, Nat.testBit_and]
  · simp [hi, Nat.testBit_and]
theorem and_split8 (a m h M : Nat) (ha : a < 256) (hm : m < 256) : (a + 256 * h) &&& (m + 256 * M) = (a &&& m) + 256 * (h &&& M) := and_split 8 a m h M ha hm
theorem and_half (a b : Nat) : a &&& b = 2 * (a / 2 &&& b / 2) + (a % 2 &&& b % 2) := by
  have h := and_split 1 (a % 2) (b % 2) (a / 2) (b / 2) (by omega) (by omega)
  rw [show a % 2 + 2 ^ 1 * (a / 2) = a by omega, show b % 2 + 2 ^ 1 * (b / 2) = b by omega] at h
  rw [h]; omega
def S1 (M x : Nat) : Nat := (x / 2 &&& M) + (x &&& M)
def S2 (M x : Nat) : Nat := (x / 4 &&& M) + (x &&& M)
def S3 (M x : Nat) : Nat := (x / 16 + x) &&& M
def tab1 : Bool := (List.range 256).all fun b => (List.range 2).all fun c => (b / 2 + 128 * c) &&& 85 == b / 2 &&& 85
def tab2 : Bool := (List.range 256).all fun b => (List.range 4).all fun c => (b / 4 + 64 * c) &&& 51 == b / 4 &&& 51
def tab3 : Bool := (List.range 69).all fun b => (List.range 5).all fun c => (b / 16 + b + 16 * c) &&& 15 == (b / 16 + b) &&& 15
def tab4 : Bool := (List.range 256).all fun b => decide (S1 85 b < 256) && decide (S2 51 (S1 85 b) ≤ 68) && decide (S2 51 (S1 85 b) % 16 ≤ 4) && S3 15 (S2 51 (S1 85 b)) == pc 8 b && decide (pc 8 b ≤ 8)
theorem tab1_t : tab1 = true := by kernel_rfl
theorem tab2_t : tab2 = true := by kernel_rfl
theorem tab3_t : tab3 = true := by kernel_rfl
theorem tab4_t : tab4 = true := by kernel_rfl
theorem t1 {b c : Nat} (hb : b < 256) (hc : c < 2) : (b / 2 + 128 * c) &&& 85 = b / 2 &&& 85 := by
  have h := tab1_t
  unfold tab1 at h
  rw [List.all_eq_true] at h
  have h := h b (List.mem_range.2 hb)
  rw [List.all_eq_true] at h
  have h := h c (List.mem_range.2 hc)
  rwa [beq_iff_eq] at h
theorem t2 {b c : Nat} (hb : b < 256) (hc : c < 4) : (b / 4 + 64 * c) &&& 51 = b / 4 &&& 51 := by
  have h := tab2_t
  unfold tab2 at h
  rw [List.all_eq_true] at h
  have h := h b (List.mem_range.2 hb)
  rw [List.all_eq_true] at h
  have h := h c (List.mem_range.2 hc)
  rwa [beq_iff_eq] at h
theorem t3 {b c : Nat} (hb : b ≤ 68) (hc : c ≤ 4) : (b / 16 + b + 16 * c) &&& 15 = (b / 16 + b) &&& 15 := by
  have h := tab3_t
  unfold tab3 at h
  rw [List.all_eq_true] at h
  have h := h b (List.mem_range.2 (by omega))
  rw [List.all_eq_true] at h
  have h := h c (List.mem_range.2 (by omega))
  rwa [beq_iff_eq] at h
theorem t4 {b : Nat} (hb : b < 256) : S1 85 b < 256 ∧ S2 51 (S1 85 b) ≤ 68 ∧ S2 51 (S1 85 b) % 16 ≤ 4 ∧ S3 15 (S2 51 (S1 85 b)) = pc 8 b ∧ pc 8 b ≤ 8 := by
  have h := tab4_t
  unfold tab4 at h
  rw [List.all_eq_true] at h
  have h := h b (List.mem_range.2 hb)
  simp only [Bool.and_eq_true, decide_eq_true_eq, beq_iff_eq] at h
  exact ⟨h.1.1.1.1, h.1.1.1.2, h.1.1.2, h.1.2, h.2⟩
theorem s1_step (b h M : Nat) (hb : b < 256) : S1 (85 + 256 * M) (b + 256 * h) = S1 85 b + 256 * S1 M h := by
  unfold S1
  rw [show (b + 256 * h) / 2 = (b / 2 + 128 * (h % 2)) + 256 * (h / 2) by omega, and_split8 _ 85 _ M (by omega) (by omega), and_split8 b 85 h M hb (by omega), t1 hb (by omega)]
  omega
theorem s2_step (b h M : Nat) (hb : b < 256) : S2 (51 + 256 * M) (b + 256 * h) = S2 51 b + 256 * S2 M h := by
  unfold S2
  rw [show (b + 256 * h) / 4 = (b / 4 + 64 * (h % 4)) + 256 * (h / 4) by omega, and_split8 _ 51 _ M (by omega) (by omega), and_split8 b 51 h M hb (by omega), t2 hb (by omega)]
  omega
theorem s3_step (b h M : Nat) (hb : b ≤ 68) (hh : h % 16 ≤ 4) : S3 (15 + 256 * M) (b + 256 * h) = S3 15 b + 256 * S3 M h := by
  unfold S3
  rw [show (b + 256 * h) / 16 + (b + 256 * h) = (b / 16 + b + 16 * (h % 16)) + 256 * (h / 16 + h) by omega, and_split8 _ 15 _ M (by omega) (by omega), t3 hb hh]
def T2 (M1 M2 x : Nat) : Nat := S2 M2 (S1 M1 x)
theorem t_step (b h M1 M2 M3 : Nat) (hb : b < 256) (hh : T2 M1 M2 h % 16 ≤ 4) :
    S3 (15 + 256 * M3) (T2 (85 + 256 * M1) (51 + 256 * M2) (b + 256 * h)) = pc 8 b + 256 * S3 M3 (T2 M1 M2 h) ∧ T2 (85 + 256 * M1) (51 + 256 * M2) (b + 256 * h) % 16 ≤ 4 := by
  obtain ⟨a1, a2, a3, a4, a5⟩ := t4 hb
  have e : T2 (85 + 256 * M1) (51 + 256 * M2) (b + 256 * h) = S2 51 (S1 85 b) + 256 * T2 M1 M2 h := by
    unfold T2
    rw [s1_step b h M1 hb, s2_step _ _ M2 a1]
  rw [e, s3_step _ _ _ a2 hh, a4]
  exact ⟨rfl, by omega⟩
theorem pc_split : ∀ (a f n : Nat), pc (a + f) n = pc a n + pc f (n / 2 ^ a) := by
  intro a
  induction a with
  | zero => intro f n; simp [pc]
  | succ a ih =>
    intro f n
    rw [show a + 1 + f = (a + f) + 1 by omega]
    show n % 2 + pc (a + f) (n / 2) = n % 2 + pc a (n / 2) + pc f (n / 2 ^ (a + 1))
    rw [ih, Nat.div_div_eq_div_mul, ← Nat.pow_succ', Nat.add_assoc]
theorem pc8 (b h : Nat) : pc 8 (b + 256 * h) = pc 8 b := by
  simp only [pc]
  omega
theorem pc_byte (f b h : Nat) (hb : b < 256) : pc (8 + f) (b + 256 * h) = pc 8 b + pc f h := by
  rw [pc_split, pc8 b h, show (b + 256 * h) / 2 ^ 8 = h by omega]
theorem sum4 (p0 y0 y1 : Nat) (h0 : p0 ≤ 8) (e0 : y0 = p0 + 256 * y1) : sw4 y0 = y0 + y1 := by
  unfold sw4; omega
theorem sum5 (p0 p1 p2 y0 y1 y2 y3 : Nat) (h0 : p0 ≤ 8) (h1 : p1 ≤ 8) (h2 : p2 ≤ 8) (e0 : y0 = p0 + 256 * y1) (e1 : y1 = p1 + 256 * y2) (e2 : y2 = p2 + 256 * y3) : sw5 (y0 + y1) = y0 + y1 + (y2 + y3) := by
  unfold sw5
  have : (y0 + y1) / 65536 = y2 + y3 := by
    rw [show y0 + y1 = (p0 + p1 + 256 * (p1 + p2)) + 65536 * (y2 + y3) by omega]
    omega
  rw [this]
theorem sum6 (c a b : Nat) (h : c < 4294967296) (e : a = c + 4294967296 * b) : sw6 a = a + b := by
  unfold sw6
  rw [show a / 4294967296 = b by omega]
theorem sum8 (p0 p1 p2 p3 p4 p5 p6 p7 : Nat) (h0 : p0 ≤ 8) (h1 : p1 ≤ 8) (h2 : p2 ≤ 8) (h3 : p3 ≤ 8) (h4 : p4 ≤ 8) (h5 : p5 ≤ 8) (h6 : p6 ≤ 8) (h7 : p7 ≤ 8) :
    sw6 (sw5 (sw4 (p0 + 256 * (p1 + 256 * (p2 + 256 * (p3 + 256 * (p4 + 256 * (p5 + 256 * (p6 + 256 * p7))))))))) % 128 = p0 + (p1 + (p2 + (p3 + (p4 + (p5 + (p6 + p7)))))) := by
  obtain ⟨y6, e6⟩ : ∃ y, y = p6 + 256 * p7 := ⟨_, rfl⟩
  rw [← e6]
  obtain ⟨y5, e5⟩ : ∃ y, y = p5 + 256 * y6 := ⟨_, rfl⟩
  rw [← e5]
  obtain ⟨y4, e4⟩ : ∃ y, y = p4 + 256 * y5 := ⟨_, rfl⟩
  rw [← e4]
  obtain ⟨y3, e3⟩ : ∃ y, y = p3 + 256 * y4 := ⟨_, rfl⟩
  rw [← e3]
  obtain ⟨y2, e2⟩ : ∃ y, y = p2 + 256 * y3 := ⟨_, rfl⟩
  rw [← e2]
  obtain ⟨y1, e1⟩ : ∃ y, y = p1 + 256 * y2 := ⟨_, rfl⟩
  rw [← e1]
  obtain ⟨y0, e0⟩ : ∃ y, y = p0 + 256 * y1 := ⟨_, rfl⟩
  rw [← e0, sum4 p0 y0 y1 h0 e0, sum5 p0 p1 p2 y0 y1 y2 y3 h0 h1 h2 e0 e1 e2]
  have f0 : y0 = p0 + 256 * p1 + 65536 * p2 + 16777216 * p3 + 4294967296 * y4 := by
    rw [e0, e1, e2, e3]; clear e0 e1 e2 e3 e4 e5 e6; omega
  have f1 : y1 = p1 + 256 * p2 + 65536 * p3 + 16777216 * p4 + 4294967296 * y5 := by
    rw [e1, e2, e3, e4]; clear e0 e1 e2 e3 e4 e5 e6 f0; omega
  have f2 : y2 = p2 + 256 * p3 + 65536 * p4 + 16777216 * p5 + 4294967296 * y6 := by
    rw [e2, e3, e4, e5]; clear e0 e1 e2 e3 e4 e5 e6 f0 f1; omega
  have f3 : y3 = p3 + 256 * p4 + 65536 * p5 + 16777216 * p6 + 4294967296 * p7 := by
    rw [e3, e4, e5, e6]; clear e0 e1 e2 e3 e4 e5 e6 f0 f1 f2; omega
  clear e0 e1 e2 e3
  rw [sum6 ((p0 + 256 * p1 + 65536 * p2 + 16777216 * p3) + (p1 + 256 * p2 + 65536 * p3 + 16777216 * p4) + (p2 + 256 * p3 + 65536 * p4 + 16777216 * p5) + (p3 + 256 * p4 + 65536 * p5 + 16777216 * p6)) _ (y4 + y5 + y6 + p7) (by clear f0 f1 f2 f3 e4 e5 e6; omega) (by rw [f0, f1, f2, f3]; clear f0 f1 f2 f3 e4 e5 e6; omega)]
  have g0 : y0 + y1 + (y2 + y3) + (y4 + y5 + y6 + p7) = (p0 + p1 + p2 + p3 + p4 + p5 + p6 + p7) + 128 * (2 * (p1 + 256 * p2 + 65536 * p3 + 16777216 * y4) + 2 * (p2 + 256 * p3 + 65536 * p4 + 16777216 * y5) + 2 * (p3 + 256 * p4 + 65536 * p5 + 16777216 * y6) + 2 * (p4 + 256 * p5 + 65536 * p6 + 16777216 * p7) + 2 * (y5 + y6 + p7)) := by
    rw [f0, f1, f2, f3]
    generalize hy4 : y4 = z4 at *
    clear f0 f1 f2 f3
    omega
  rw [g0, Nat.add_mul_mod_self_left]
  clear g0 f0 f1 f2 f3 e4 e5 e6
  omega
theorem sw_pc (x : Nat) (hx : x < 18446744073709551616) : swN x = pc 64 x := by
  obtain ⟨b0, h0, x0, e0⟩ : ∃ b h, b < 256 ∧ x = b + 256 * h := ⟨x % 256, x / 256, by omega, by omega⟩
  obtain ⟨b1, h1, x1, e1⟩ : ∃ b h, b < 256 ∧ h0 = b + 256 * h := ⟨h0 % 256, h0 / 256, by omega, by omega⟩
  obtain ⟨b2, h2, x2, e2⟩ : ∃ b h, b < 256 ∧ h1 = b + 256 * h := ⟨h1 % 256, h1 / 256, by omega, by omega⟩
  obtain ⟨b3, h3, x3, e3⟩ : ∃ b h, b < 256 ∧ h2 = b + 256 * h := ⟨h2 % 256, h2 / 256, by omega, by omega⟩
  obtain ⟨b4, h4, x4, e4⟩ : ∃ b h, b < 256 ∧ h3 = b + 256 * h := ⟨h3 % 256, h3 / 256, by omega, by omega⟩
  obtain ⟨b5, h5, x5, e5⟩ : ∃ b h, b < 256 ∧ h4 = b + 256 * h := ⟨h4 % 256, h4 / 256, by omega, by omega⟩
  obtain ⟨b6, h6, x6, e6⟩ : ∃ b h, b < 256 ∧ h5 = b + 256 * h := ⟨h5 % 256, h5 / 256, by omega, by omega⟩
  obtain ⟨b7, h7, x7, e7⟩ : ∃ b h, b < 256 ∧ h6 = b + 256 * h := ⟨h6 % 256, h6 / 256, by omega, by omega⟩
  obtain rfl : h7 = 0 := by omega
  have q8 : T2 0 0 0 % 16 ≤ 4 := by decide
  have q7 := t_step b7 0 0 0 0 x7 q8
  have q6 := t_step b6 (b7 + 256 * 0) 85 51 15 x6 q7.2
  have q5 := t_step b5 (b6 + 256 * (b7 + 256 * 0)) (85 + 256 * 85) (51 + 256 * 51) (15 + 256 * 15) x5 q6.2
  have q4 := t_step b4 _ _ _ (15 + 256 * (15 + 256 * 15)) x4 q5.2
  have q3 := t_step b3 _ _ _ (15 + 256 * (15 + 256 * (15 + 256 * 15))) x3 q4.2
  have q2 := t_step b2 _ _ _ (15 + 256 * (15 + 256 * (15 + 256 * (15 + 256 * 15)))) x2 q3.2
  have q1 := t_step b1 _ _ _ (15 + 256 * (15 + 256 * (15 + 256 * (15 + 256 * (15 + 256 * 15))))) x1 q2.2
  have q0 := t_step b0 _ _ _ (15 + 256 * (15 + 256 * (15 + 256 * (15 + 256 * (15 + 256 * (15 + 256 * 15)))))) x0 q1.2
  have r0 : sw3 (sw2 (sw1 x)) = pc 8 b0 + 256 * (pc 8 b1 + 256 * (pc 8 b2 + 256 * (pc 8 b3 + 256 * (pc 8 b4 + 256 * (pc 8 b5 + 256 * (pc 8 b6 + 256 * pc 8 b7)))))) := by
    have z : S3 0 (T2 0 0 0) = 0 := by decide
    have q0' := q0.1
    rw [q1.1, q2.1, q3.1, q4.1, q5.1, q6.1, q7.1, z] at q0'
    rw [e0, e1, e2, e3, e4, e5, e6, e7]
    exact q0'
  unfold swN
  rw [r0, sum8 _ _ _ _ _ _ _ _ (t4 x0).2.2.2.2 (t4 x1).2.2.2.2 (t4 x2).2.2.2.2 (t4 x3).2.2.2.2 (t4 x4).2.2.2.2 (t4 x5).2.2.2.2 (t4 x6).2.2.2.2 (t4 x7).2.2.2.2]
  rw [e0, e1, e2, e3, e4, e5, e6, e7]
  rw [show (64 : Nat) = 8 + (8 + (8 + (8 + (8 + (8 + (8 + (8 + 0))))))) from rfl]
  rw [pc_byte _ _ _ x0, pc_byte _ _ _ x1, pc_byte _ _ _ x2, pc_byte _ _ _ x3, pc_byte _ _ _ x4, pc_byte _ _ _ x5, pc_byte _ _ _ x6, pc_byte _ _ _ x7]
  rfl
theorem pc_succ : ∀ (f n : Nat), n < 2 ^ f → pc (f + 1) n = pc f n := by
  intro f
  induction f with
  | zero => intro n h; obtain rfl : n = 0 := by omega
            rfl
  | succ f ih =>
    intro n h
    rw [Nat.pow_succ] at h
    show n % 2 + pc (f + 1) (n / 2) = n % 2 + pc f (n / 2)
    rw [ih _ (by omega)]
theorem pc_bit (n b : Nat) (hb : b < 2) (hn : n < 9223372036854775808) : pc 64 (2 * n + b) = pc 64 n + b := by
  show (2 * n + b) % 2 + pc 63 ((2 * n + b) / 2) = _
  have h : pc 64 n = pc 63 n := pc_succ 63 n (by omega)
  rw [show (2 * n + b) / 2 = n by omega, show (2 * n + b) % 2 = b by omega, h]
  omega
theorem sw_bit (n b : Nat) (hb : b < 2) (hn : n < 9223372036854775808) : swN (2 * n + b) = swN n + b := by
  rw [sw_pc _ (by omega), sw_pc _ (by omega), pc_bit n b hb hn]
theorem ctz_succ : ∀ (f n : Nat), 0 < n → n < 2 ^ f → Lib.ctzFrom (f + 1) n = Lib.ctzFrom f n := by
  intro f
  induction f with
  | zero => intro n h0 h; omega
  | succ f ih =>
    intro n h0 h
    rw [Nat.pow_succ] at h
    show (if n % 2 = 1 then 0 else 1 + Lib.ctzFrom (f + 1) (n / 2)) = (if n % 2 = 1 then 0 else 1 + Lib.ctzFrom f (n / 2))
    by_cases h1 : n % 2 = 1
    · rw [if_pos h1, if_pos h1]
    · rw [if_neg h1, if_neg h1, ih _ (by omega) (by omega)]
theorem ctz_even (n : Nat) (h0 : 0 < n) (hn : n < 9223372036854775808) : Lib.ctz 64 (2 * n) = Lib.ctz 64 n + 1 := by
  unfold Lib.ctz
  rw [if_neg (by omega), if_neg (by omega)]
  show (if 2 * n % 2 = 1 then 0 else 1 + Lib.ctzFrom 63 (2 * n / 2)) = _
  have h : Lib.ctzFrom 64 n = Lib.ctzFrom 63 n := ctz_succ 63 n h0 (by omega)
  rw [if_neg (by omega), show 2 * n / 2 = n by omega, h]
  omega
theorem ctz_odd (n : Nat) (h : n % 2 = 1) : Lib.ctz 64 n = 0 := by
  unfold Lib.ctz
  rw [if_neg (by omega)]
  show (if n % 2 = 1 then 0 else _) = 0
  rw [if_pos h]
theorem iB_step (f n : Nat) (h : n ≠ 0) : iB (f + 1) n = if Lib.ctz 64 n % 2 = 1 then 0 else iB f (n / 2 ^ (Lib.ctz 64 n + 1)) := by
  show (if n = 0 then 1 else _) = _
  rw [if_neg h]
theorem iB_le : ∀ f n : Nat, iB f n ≤ 1 := by
  intro f
  induction f with
  | zero => intro n; exact Nat.le_refl _
  | succ f ih =>
    intro n
    show (if n = 0 then 1 else if Lib.ctz 64 n % 2 = 1 then 0 else iB f _) ≤ 1
    have := ih (n / 2 ^ (Lib.ctz 64 n + 1))
    split
    · omega
    · split <;> omega
theorem iB_succ : ∀ (f n : Nat), n < 2 ^ f → iB (f + 1) n = iB f n := by
  intro f
  induction f with
  | zero => intro n h; obtain rfl : n = 0 := by omega
            rfl
  | succ f ih =>
    intro n h
    by_cases h0 : n = 0
    · subst h0; rfl
    · rw [iB_step _ _ h0, iB_step _ _ h0]
      by_cases h1 : Lib.ctz 64 n % 2 = 1
      · rw [if_pos h1, if_pos h1]
      · rw [if_neg h1, if_neg h1, ih]
        rw [Nat.pow_succ] at h
        have hq : n / 2 ^ (Lib.ctz 64 n + 1) ≤ n / 2 := by
          refine Nat.div_le_div_left ?_ (by omega)
          have := Nat.one_le_two_pow (n := Lib.ctz 64 n)
          rw [Nat.pow_succ]; omega
        omega
theorem seq_le (kind n : Nat) : seqI kind n ≤ 9 := by
  unfold seqI
  have h1 := iB_le 64 n
  have h2 : swN n % 2 < 2 := Nat.mod_lt _ (by omega)
  have h3 : swN (n &&& (n / 2)) % 2 < 2 := Nat.mod_lt _ (by omega)
  split
  · omega
  · split
    · omega
    · split
      · split <;> omega
      · split
        · omega
        · split <;> omega
theorem seq1 (n : Nat) (hn : n < 1000000000000) : seqI 1 (2 * n) = seqI 1 n ∧ seqI 1 (2 * n + 1) = 1 - seqI 1 n ∧ seqI 1 n ≤ 1 := by
  have h0 := sw_bit n 0 (by omega) (by omega)
  have h1 := sw_bit n 1 (by omega) (by omega)
  show swN (2 * n + 0) % 2 = swN n % 2 ∧ swN (2 * n + 1) % 2 = 1 - swN n % 2 ∧ swN n % 2 ≤ 1
  rw [h0, h1]; omega
theorem seq2 (n : Nat) (hn : n < 1000000000000) : seqI 2 (2 * n) = seqI 2 n ∧ seqI 2 (4 * n + 1) = seqI 2 n ∧ seqI 2 (4 * n + 3) = 1 - seqI 2 (2 * n + 1) ∧ seqI 2 (2 * n + 1) ≤ 1 := by
  have z0 : ∀ b : Nat, b < 2 → 0 &&& b = 0 := fun b _ => Nat.zero_and b
  have a1 : (2 * n) &&& (2 * n / 2) = 2 * (n &&& (n / 2)) + 0 := by
    rw [and_half, show 2 * n / 2 = n by omega, show 2 * n % 2 = 0 by omega, z0 _ (by omega)]
  have a2 : (4 * n + 1) &&& ((4 * n + 1) / 2) = 2 * (2 * (n &&& (n / 2)) + 0) + 0 := by
    rw [and_half, show (4 * n + 1) / 2 = 2 * n by omega, show (4 * n + 1) % 2 = 1 by omega, show 2 * n % 2 = 0 by omega, a1, Nat.and_zero]
  have a3 : (4 * n + 3) &&& ((4 * n + 3) / 2) = 2 * ((2 * n + 1) &&& ((2 * n + 1) / 2)) + 1 := by
    rw [and_half, show (4 * n + 3) / 2 = 2 * n + 1 by omega, show (4 * n + 3) % 2 = 1 by omega, show (2 * n + 1) % 2 = 1 by omega, show 1 &&& 1 = 1 from rfl]
  have b1 : n &&& (n / 2) ≤ n := Nat.and_le_left
  have b2 : (2 * n + 1) &&& ((2 * n + 1) / 2) ≤ 2 * n + 1 := Nat.and_le_left
  show swN ((2 * n) &&& (2 * n / 2)) % 2 = swN (n &&& (n / 2)) % 2 ∧ swN ((4 * n + 1) &&& ((4 * n + 1) / 2)) % 2 = swN (n &&& (n / 2)) % 2 ∧ swN ((4 * n + 3) &&& ((4 * n + 3) / 2)) % 2 = 1 - swN ((2 * n + 1) &&& ((2 * n + 1) / 2)) % 2 ∧ swN ((2 * n + 1) &&& ((2 * n + 1) / 2)) % 2 ≤ 1
  rw [a1, a2, a3]
  generalize n &&& (n / 2) = q at *
  generalize (2 * n + 1) &&& ((2 * n + 1) / 2) = r at *
  rw [sw_bit q 0 (by omega) (by omega), sw_bit (2 * q + 0) 0 (by omega) (by omega), sw_bit q 0 (by omega) (by omega), sw_bit r 1 (by omega) (by omega)]
  omega
theorem and3 (x : Nat) : x &&& 3 = x % 4 := Nat.and_two_pow_sub_one_eq_mod x 2
theorem seq3 (n : Nat) (hn : n < 1000000000000) : seqI 3 (2 * n) = seqI 3 n ∧ seqI 3 (4 * n + 1) = 0 ∧ seqI 3 (4 * n + 3) = 1 := by
  show (if 0 < 2 * n ∧ (2 * n / 2 ^ Lib.ctz 64 (2 * n)) &&& 3 = 3 then 1 else 0) = (if 0 < n ∧ (n / 2 ^ Lib.ctz 64 n) &&& 3 = 3 then 1 else 0) ∧ (if 0 < 4 * n + 1 ∧ ((4 * n + 1) / 2 ^ Lib.ctz 64 (4 * n + 1)) &&& 3 = 3 then 1 else 0) = 0 ∧ (if 0 < 4 * n + 3 ∧ ((4 * n + 3) / 2 ^ Lib.ctz 64 (4 * n + 3)) &&& 3 = 3 then 1 else 0) = 1
  rw [ctz_odd (4 * n + 1) (by omega), ctz_odd (4 * n + 3) (by omega), and3, and3, and3, and3]
  refine ⟨?_, if_neg (by simp <;> omega), if_pos (by simp <;> omega)⟩
  by_cases h0 : n = 0
  · subst h0; rfl
  · rw [ctz_even n (by omega) (by omega), Nat.pow_succ', ← Nat.div_div_eq_div_mul, show 2 * n / 2 = n by omega]
    generalize n / 2 ^ Lib.ctz 64 n = q
    by_cases hq : q % 4 = 3
    · rw [if_pos ⟨by omega, hq⟩, if_pos ⟨by omega, hq⟩]
    · rw [if_neg (fun h => hq h.2), if_neg (fun h => hq h.2)]
theorem seq4 (n : Nat) (hn : n < 1000000000000) : seqI 4 (2 * n + 1) = seqI 4 n ∧ seqI 4 (4 * n + 2) = 0 ∧ (0 < n → seqI 4 (4 * n) = seqI 4 n) := by
  show iB (63 + 1) (2 * n + 1) = iB (63 + 1) n ∧ iB (63 + 1) (4 * n + 2) = 0 ∧ (0 < n → iB (63 + 1) (4 * n) = iB (63 + 1) n)
  refine ⟨?_, ?_, fun h0 => ?_⟩
  · rw [iB_step _ _ (by omega), ctz_odd _ (by omega), if_neg (by omega), show (2 * n + 1) / 2 ^ (0 + 1) = n by omega, iB_succ 63 n (by omega)]
  · rw [iB_step _ _ (by omega), show 4 * n + 2 = 2 * (2 * n + 1) by omega, ctz_even _ (by omega) (by omega), ctz_odd (2 * n + 1) (by omega), if_pos (by omega)]
  · rw [iB_step _ _ (by omega), iB_step _ n (by omega), show 4 * n = 2 * (2 * n) by omega, ctz_even _ (by omega) (by omega), ctz_even _ (by omega) (by omega)]
    have e : 2 * (2 * n) / 2 ^ (Lib.ctz 64 n + 1 + 1 + 1) = n / 2 ^ (Lib.ctz 64 n + 1) := by
      rw [Nat.pow_succ', ← Nat.div_div_eq_div_mul, show 2 * (2 * n) / 2 = 2 * n by omega, Nat.pow_succ', ← Nat.div_div_eq_div_mul, show 2 * n / 2 = n by omega]
    rw [e]
    generalize Lib.ctz 64 n = c
    by_cases hc : c % 2 = 1
    · rw [if_pos (by omega), if_pos hc]
    · rw [if_neg (by omega), if_neg hc]
theorem seq5 (n : Nat) (hn : n < 1000000000000) : seqI 5 (2 * n + 1) = 0 ∧ (0 < n → seqI 5 (2 * n) = min 9 (seqI 5 n + 1)) := by
  show (if 2 * n + 1 = 0 then 0 else min 9 (Lib.ctz 64 (2 * n + 1))) = 0 ∧ (0 < n → (if 2 * n = 0 then 0 else min 9 (Lib.ctz 64 (2 * n))) = min 9 ((if n = 0 then 0 else min 9 (Lib.ctz 64 n)) + 1))
  rw [ctz_odd _ (by omega), if_neg (by omega)]
  refine ⟨by omega, fun h0 => ?_⟩
  rw [if_neg (by omega), if_neg (by omega), ctz_even _ h0 (by omega)]
  omega
end Sq
end Go.Proofs.YtkddmngbfncocaaDoor
