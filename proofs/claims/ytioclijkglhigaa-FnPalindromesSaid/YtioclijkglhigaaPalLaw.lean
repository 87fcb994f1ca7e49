/-
  What the law of palindromes asks of numbers, as plain facts.
  Conditions: none, or the ranges that a lemma names.
-/
import Derived.Test.YtioclijkglhigaaNext
import Derived.Test.YtioclijkglhigaaRevAdd
import Derived.Test.YtioclijkglhigaaHelps
import Derived.Test.YtioclijkglhigaaDig2
namespace Go.Proofs.Ytioclijkglhigaa
namespace PalLaw
open Rev
theorem rvN_le {b n : Int} (b1 : 2 ≤ b) (b2 : b ≤ 16) (n1 : 0 ≤ n) : 0 ≤ Pl.rvN b n ∧ Pl.rvN b n ≤ 16 * n := by
  refine ⟨Pl.val_nn (by omega) _ fun d hd => (rev_mem b1 n1 d hd).1, ?_⟩
  have h1 := Pl.val_lt (b := b) (by omega) _ (rev_mem b1 n1)
  rw [List.length_reverse] at h1
  by_cases h0 : n = 0
  · subst h0; simp [Pl.rvN, Pl.dg_zero, Pl.val]
  · have hne : Pl.dg b n ≠ [] := fun e => h0 ((Pl.dg_pos_iff b1 n1).1 e)
    have hl := List.length_pos_iff.2 hne
    obtain ⟨k, hk⟩ : ∃ k, (Pl.dg b n).length = k + 1 := ⟨(Pl.dg b n).length - 1, by omega⟩
    have h2 := ((Pl.dg_len_eq b1 n1 (k := k + 1) (by omega)).1 hk).1
    rw [Nat.add_sub_cancel] at h2
    rw [hk, Int.pow_succ] at h1
    have h3 : b ^ k * b ≤ n * 16 := Int.mul_le_mul h2 b2 (by omega) (by omega)
    show Pl.val b _ ≤ _
    omega
structure PF (n b X R rv s : Int) (q : Bool) : Prop where
  ex : nxV n b = X
  er : rkV n b = R
  xn : n < X
  x12 : X ≤ 1000000000000
  px : palV X b = true
  r0 : 0 ≤ R ∧ R ≤ 1000000000
  pn : palV n b = q
  rx : X ≤ 1000000 → rkV X b = R + btI q
  ra : raV n b = (n + rv, true)
  rr : rvV n b = (rv, true)
  rb : 0 ≤ rv ∧ rv ≤ 8000000
  st : stV n b 8 = s
  sb : -1 ≤ s ∧ s ≤ 8
  sq : (s == 0) = q
  s1 : 0 < s → stV (n + rv) b 7 = s - 1
  p0 : palV 0 b = true
theorem rank_bd {n b : Int} (b1 : 2 ≤ b) (b2 : b ≤ 16) (n1 : 0 ≤ n) (n2 : n ≤ 1000000) : 0 ≤ Pl.rank b n ∧ Pl.rank b n ≤ 1000000000 := by
  by_cases h0 : n = 0
  · subst h0; rw [rank_zero]; omega
  · have B := rk_b b1 b2 (show 1 ≤ n by omega) n2 rfl
    have h1 := Pl.half_of b1 n1 B.kk.1 rfl
    have h2 := B.un _ (Nat.le_refl _)
    have h3 := B.kk
    have h4 := B.h
    have h5 := B.l
    rw [Pl.rank_of rfl B.kk.1]
    have h6 : 0 ≤ Pl.b2i (decide (Pl.mir (n / b ^ ((Pl.dg b n).length / 2)) (Pl.dg b n).length b < n)) ∧ Pl.b2i (decide (Pl.mir (n / b ^ ((Pl.dg b n).length / 2)) (Pl.dg b n).length b < n)) ≤ 1 := by
      unfold Pl.b2i; split <;> omega
    have h7 := h1.2.1
    omega
theorem next_bd {n b : Int} (b1 : 2 ≤ b) (b2 : b ≤ 16) (n1 : 0 ≤ n) (n2 : n ≤ 1000000000) : Pl.nextP b n ≤ 16000000017 := by
  have B := nx_b b1 b2 (show 1 ≤ n + 1 by omega) (by omega) rfl
  simp only [Pl.nextP]
  split
  · have := (B.mir _ B.hl.1 B.hl.2).2
    rw [mirN] at this; omega
  · split
    · rename_i h
      have := (B.mir ((n + 1) / b ^ ((Pl.dg b (n + 1)).length / 2) + 1) (by have := B.hl.1; omega) h).2
      rw [mirN] at this; omega
    · have := B.top.2; omega
theorem pf {n b : Int} (b1 : 2 ≤ b) (b2 : b ≤ 16) (n1 : 0 ≤ n) (n2 : n ≤ 499999) : ∃ X R rv s q, PF n b X R rv s q := by
  have hb := inB_mk b1 b2
  have hn := inB_mk n1 (show n ≤ 1000000000000 by omega)
  have ⟨f1, f2, f3⟩ := Pl.next_facts b1 n1
  have f4 := next_bd b1 b2 n1 (show n ≤ 1000000000 by omega)
  have ⟨v0, v1⟩ := rvN_le b1 b2 n1
  have hra : Pl.raB b n = true := by simp [Pl.raB]; omega
  have st := Pl.stp_bd b 8 n
  refine ⟨Pl.nextP b n, Pl.rank b n, Pl.rvN b n, Pl.stp b 8 n, Pl.pal b n, ⟨?_, ?_, f1, by omega, ?_, rank_bd b1 b2 n1 (by omega), ?_, ?_, ?_, ?_, ⟨v0, by omega⟩, ?_, by omega, ?_, ?_, ?_⟩⟩
  · rw [nxV, hb, inB_mk n1 (by omega)]; rfl
  · rw [rkV, hb, inB_mk n1 (by omega)]; rfl
  · rw [palV, hb, inB_mk (by omega) (by omega), f2]; rfl
  · rw [palV, hb, hn]; rfl
  · intro hx
    rw [rkV, hb, inB_mk (by omega) hx]
    exact f3
  · rw [raV, hb, hn, hra]; rfl
  · exact (rvV_yes hb hn (by omega)).symm
  · rw [stV, hb, hn, inB_mk (by omega) (by omega)]; rfl
  · rw [Bool.eq_iff_iff, beq_iff_eq]
    exact Pl.stp_zero_iff 8
  · intro h
    rw [stV, hb, inB_mk (by omega) (by omega), inB_mk (by omega) (by omega)]
    exact (Pl.stp_less 7 h).2
  · rw [palV, hb, inB_mk (by omega) (by omega), Pl.pal, Pl.dg_zero]; rfl
structure PG (b k i Y : Int) : Prop where
  ep : palAt i k b = (Y, true)
  yb : 0 ≤ Y ∧ Y ≤ 1000000
  py : palV Y b = true
  cd : cdV Y b = k
  rk : rkV Y b = Pl.under b k.toNat + i
  ev : k % 2 = 0 → (b + 1) ∣ Y
theorem pc {b k : Int} (b1 : 2 ≤ b) (b2 : b ≤ 16) (k1 : 0 ≤ k) (k2 : k ≤ 4) : cpV k b = Pl.cp k.toNat b ∧ 1 ≤ Pl.cp k.toNat b ∧ Pl.cp k.toNat b ≤ 1000 := by
  have e : cpV k b = Pl.cp k.toNat b := by
    have := cpZ_cp k.toNat b
    rw [Int.toNat_of_nonneg k1] at this
    rw [cpV, inB_mk b1 b2, inB_mk k1 (by omega)]; exact this
  refine ⟨e, ?_⟩
  unfold Pl.cp Pl.lh
  split
  · omega
  · have h1 := Pl.pow_pos (show 0 < b by omega) ((k.toNat + 1) / 2 - 1)
    have h2 : b ^ ((k.toNat + 1) / 2 - 1) ≤ b ^ 1 := Pl.pow_up (by omega) (by omega)
    rw [Int.pow_one] at h2
    have h3 : (b - 1) * b ^ ((k.toNat + 1) / 2 - 1) ≤ 15 * 16 := Int.mul_le_mul (by omega) (by omega) (by omega) (by omega)
    have h4 : 1 * 1 ≤ (b - 1) * b ^ ((k.toNat + 1) / 2 - 1) := Int.mul_le_mul (by omega) (by omega) (by omega) (by omega)
    omega
theorem under_bd {b : Int} (b1 : 2 ≤ b) (b2 : b ≤ 16) : ∀ j : Nat, j ≤ 4 → 0 ≤ Pl.under b j ∧ Pl.under b j ≤ 1000 * j := by
  intro j
  induction j with
  | zero => intro _; simp [Pl.under]
  | succ j ih =>
    intro hj
    have h1 := ih (by omega)
    have h2 := (pc (k := (j : Int)) b1 b2 (by omega) (by omega)).2
    rw [Int.toNat_natCast] at h2
    show 0 ≤ Pl.under b j + Pl.cp j b ∧ Pl.under b j + Pl.cp j b ≤ _
    omega
theorem pg {b k i : Int} (b1 : 2 ≤ b) (b2 : b ≤ 16) (k1 : 1 ≤ k) (k2 : k ≤ 4) (i1 : 0 ≤ i) (i2 : i < Pl.cp k.toNat b) : ∃ Y, PG b k i Y := by
  have hb := inB_mk b1 b2
  have hk := inB_mk k1 (show k ≤ 9 by omega)
  have C := pc b1 b2 (show 0 ≤ k by omega) k2
  have hi : inB i 0 (cpV k b - 1) = true := inB_mk i1 (by omega)
  obtain ⟨_, ⟨p1, p2⟩, p3, p4, p5, p6⟩ := palAt_in hk hi
  have m := Pl.mir_facts b1 p4
  have e := mirZ_eq (h := b ^ ((k - 1) / 2).toNat + i) (b := b) (show 0 ≤ k by omega)
  have m2 := (Pl.dg_len b1 k.toNat (Pl.mir (b ^ ((k - 1) / 2).toNat + i) k.toNat b) (by omega)).1 (by omega)
  have m3 : b ^ k.toNat ≤ 65536 := by
    have h1 := Pl.pow_mono (show 0 ≤ b by omega) b2 k.toNat
    have h2 : (16 : Int) ^ k.toNat ≤ 16 ^ 4 := Pl.pow_up (by omega) (by omega)
    have h3 : (16 : Int) ^ 4 = 65536 := by decide
    omega
  have hp := Pl.pal_mir b1 p4
  refine ⟨Pl.mir (b ^ ((k - 1) / 2).toNat + i) k.toNat b, ⟨?_, by omega, ?_, ?_, ?_, ?_⟩⟩
  · rw [palAt, hk, hi, e]; rfl
  · rw [palV, hb, inB_mk (by omega) (by omega), hp]; rfl
  · rw [cdV, hb, inB_mk (by omega) (by omega), m.2.1]
    show ((k.toNat : Nat) : Int) = k
    omega
  · rw [rkV, hb, inB_mk (by omega) (by omega)]
    show Pl.rank b _ = _
    rw [Pl.rank_mir b1 p4, Pl.lh, show (k.toNat + 1) / 2 - 1 = ((k - 1) / 2).toNat by omega]
    omega
  · intro hev
    exact Pl.pal_even_dvd b1 (by omega) hp (by rw [m.2.1]; omega)
end PalLaw
end Go.Proofs.Ytioclijkglhigaa
