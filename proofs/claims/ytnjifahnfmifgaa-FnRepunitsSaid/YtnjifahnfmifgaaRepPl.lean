/-
  Plain facts on repunits, rotations, cyclic and parasitic numbers.
  Conditions: the ranges that a lemma names.
-/
import Derived.Test.YtnjifahnfmifgaaExpan
import Derived.Test.YtnjifahnfmifgaaRots2
import Derived.Test.YtnjifahnfmifgaaParas
import Derived.Test.YtnjifahnfmifgaaSmall
import Derived.Test.YtnjifahnfmifgaaSmall2
import Derived.Test.YtnjifahnfmifgaaDig2
namespace Go.Proofs.Ytnjifahnfmifgaa
namespace Rep
/-! Repunits. -/
theorem rep_add (b : Int) (i : Nat) : ∀ j : Nat, Pl.rep b (i + j) = Pl.rep b i * b ^ j + Pl.rep b j := by
  intro j
  induction j with
  | zero => simp [Pl.rep]
  | succ j ih =>
    show Pl.rep b (i + j) * b + 1 = _
    rw [ih, Int.pow_succ]
    show _ = Pl.rep b i * (b ^ j * b) + (Pl.rep b j * b + 1)
    rw [Int.add_mul, Int.mul_assoc]; omega
theorem xr_rep (m b : Int) : ∀ k, Pl.xr m b k = Pl.rep b k % m := by
  intro k
  induction k with
  | zero => simp [Pl.xr, Pl.rep]
  | succ k ih =>
    show (Pl.xr m b k * b + 1) % m = (Pl.rep b k * b + 1) % m
    rw [ih, Int.add_emod, Int.mul_emod, Int.emod_emod_of_dvd _ (Int.dvd_refl m), ← Int.mul_emod, ← Int.add_emod]
theorem xr_iff (m b : Int) (k : Nat) : Pl.xr m b k = 0 ↔ m ∣ Pl.rep b k := by rw [xr_rep, Int.dvd_iff_emod_eq_zero]
theorem rep_dvd {m b : Int} {l : Nat} (hl : Pl.IsLeast m b l) (hx : ∀ k, Pl.xr m b k = 0 ↔ m ∣ Pl.rep b k) (k : Nat) : m ∣ Pl.rep b k ↔ k % l = 0 := by
  have hm : ∀ q : Nat, m ∣ Pl.rep b (q * l) := by
    intro q
    induction q with
    | zero => simp [Pl.rep]
    | succ q ih =>
      rw [Nat.add_mul, Nat.one_mul, rep_add]
      exact Int.dvd_add (Int.dvd_mul_of_dvd_left ih) ((hx l).1 hl.2.1)
  have e : k = k / l * l + k % l := by rw [Nat.mul_comm]; exact (Nat.div_add_mod k l).symm
  have h1 : m ∣ Pl.rep b k ↔ m ∣ Pl.rep b (k % l) := by
    conv => lhs; rw [e]
    rw [rep_add]
    exact Int.dvd_add_right (Int.dvd_mul_of_dvd_left (hm _))
  rw [h1]
  constructor
  · intro h
    rcases Nat.eq_zero_or_pos (k % l) with h0 | h0
    · exact h0
    · exact absurd ((hx _).2 h) (hl.2.2 _ h0 (Nat.mod_lt _ hl.1))
  · intro h; rw [h]; simp [Pl.rep]
/-! Rotations. -/
section
variable {f : Int → Int} {n : Int} {q : Nat}
theorem per (h : Pl.orb f n q = n) : ∀ i, Pl.orb f n (i + q) = Pl.orb f n i := by
  intro i
  induction i with
  | zero => rw [Nat.zero_add]; exact h
  | succ i ih => rw [show i + 1 + q = i + q + 1 by omega]; show f (Pl.orb f n (i + q)) = f (Pl.orb f n i); rw [ih]
theorem first0 (hq : 0 < q) (h : Pl.orb f n q = n) : ∃ N, Pl.IsFirst f n N 0 ∧ N ∣ q := by
  obtain ⟨N, p, h1, h2⟩ := Pl.first_of_rep (f := f) (n := n) q 0 hq h.symm
  have hp : p = 0 := by
    rcases Nat.eq_zero_or_pos p with h0 | h0
    · exact h0
    · have e : ∀ j, Pl.orb f n (N + j) = Pl.orb f n (p + j) := by
        intro j
        induction j with
        | zero => exact h2.2.1
        | succ j ih => show f (Pl.orb f n (N + j)) = f (Pl.orb f n (p + j)); rw [ih]
      have e1 := e (q - p)
      rw [show p + (q - p) = 0 + q by have := h2.1; omega, show N + (q - p) = (N - p) + q by have := h2.1; omega, per h, per h] at e1
      exact absurd e1.symm (h2.2.2 0 (N - p) (by have := h2.1; omega) (by have := h2.1; omega))
  subst hp
  refine ⟨N, h2, Nat.dvd_of_mod_eq_zero ?_⟩
  have hN : Pl.orb f n N = n := h2.2.1
  have e : ∀ k, Pl.orb f n (q % N + k * N) = Pl.orb f n (q % N) := by
    intro k
    induction k with
    | zero => simp
    | succ k ih => rw [Nat.add_mul, Nat.one_mul, ← Nat.add_assoc, per hN, ih]
  have e1 := e (q / N)
  rw [show q % N + q / N * N = q by rw [Nat.mul_comm, Nat.add_comm]; exact Nat.div_add_mod q N, h] at e1
  rcases Nat.eq_zero_or_pos (q % N) with h0 | h0
  · exact h0
  · exact absurd e1 (h2.2.2 0 (q % N) h0 (Nat.mod_lt _ h2.1))
theorem dd_len (hq : 0 < q) (h : Pl.orb f n q = n) : q % (Pl.ddL f n q).length = 0 ∧ 0 < (Pl.ddL f n q).length := by
  obtain ⟨N, h1, k, hk⟩ := first0 hq h
  have hN : Pl.orb f n N = n := h1.2.1
  have hk0 : 0 < k := by
    rcases Nat.eq_zero_or_pos k with e | e
    · subst e; omega
    · exact e
  have hle : N ≤ q := by rw [hk]; exact Nat.le_mul_of_pos_right _ hk0
  have hperN : ∀ i, Pl.orb f n i = Pl.orb f n (i % N) := by
    intro i
    have e : ∀ k, Pl.orb f n (i % N + k * N) = Pl.orb f n (i % N) := by
      intro k
      induction k with
      | zero => simp
      | succ k ih => rw [Nat.add_mul, Nat.one_mul, ← Nat.add_assoc, per hN, ih]
    have e1 := e (i / N)
    rwa [show i % N + i / N * N = i by rw [Nat.mul_comm, Nat.add_comm]; exact Nat.div_add_mod i N] at e1
  have hsame : Pl.srt (Pl.ddL f n q) = Pl.srt (Pl.ddL f n N) := by
    refine Pl.srt_same (Pl.ddL_nodup _ _ _) (Pl.ddL_nodup _ _ _) fun x => ?_
    rw [Pl.ddL_mem, Pl.ddL_mem]
    constructor
    · rintro ⟨i, _, rfl⟩; exact ⟨i % N, Nat.mod_lt _ h1.1, (hperN i).symm⟩
    · rintro ⟨i, hi, rfl⟩; exact ⟨i, by omega, rfl⟩
  have hl : ∀ j, j ≤ N → (Pl.ddL f n j).length = j := by
    intro j
    induction j with
    | zero => intro _; rfl
    | succ j ih =>
      intro hj
      rw [Pl.ddL_no, List.length_append, ih (by omega)]
      · rfl
      · intro hm
        obtain ⟨i, h2, h3⟩ := Pl.ddL_mem.1 hm
        exact h1.2.2 i j h2 (by omega) h3
  have e1 : (Pl.ddL f n q).length = N := by
    have := congrArg List.length hsame
    rw [(Pl.srt_perm _).length_eq, (Pl.srt_perm _).length_eq, hl N (Nat.le_refl _)] at this
    exact this
  rw [e1, hk]
  exact ⟨Nat.mul_mod_right _ _, h1.1⟩
end
theorem rot_pl {b n : Int} {j : Nat} (b1 : 2 ≤ b) (n0 : 0 ≤ n) (n1 : n < b ^ (j + 1)) : Pl.pl b (j + 1) (rotZ n b ((j + 1 : Nat) : Int)) = Pl.pl b j (n / b) ++ [n % b] := by
  rw [Int.pow_succ] at n1
  have := Pl.pl_rot b1 j (n / b) (n % b) (Pl.div_nn n0 (by omega)) ((Pl.div_lt_iff (by omega)).2 n1) (Pl.mod_nn (by omega)) (Pl.mod_lt (by omega))
  unfold rotZ
  rw [show ((j + 1 : Nat) : Int).toNat - 1 = j by omega]
  exact this
theorem rot_id {b n : Int} {q : Nat} (b1 : 2 ≤ b) (b2 : b ≤ 16) (q1 : 1 ≤ q) (q2 : q ≤ 9) (n0 : 0 ≤ n) (n1 : n < b ^ q) : Pl.orb (Rots.rf b q) n q = n := by
  have hb : ∀ i, 0 ≤ Pl.orb (Rots.rf b q) n i ∧ Pl.orb (Rots.rf b q) n i < b ^ q := by
    intro i
    induction i with
    | zero => exact ⟨n0, n1⟩
    | succ i ih =>
      have := rot_bd (k := (q : Int)) b1 b2 (by omega) (by omega) ih.1 (by rw [Int.toNat_natCast]; exact ih.2)
      rw [Int.toNat_natCast] at this
      exact ⟨this.2.2.2.2.1, this.2.2.2.2.2.1⟩
  have hp : ∀ i, i ≤ q → Pl.pl b q (Pl.orb (Rots.rf b q) n i) = (Pl.pl b q n).drop i ++ (Pl.pl b q n).take i := by
    intro i
    induction i with
    | zero => intro _; simp [Pl.orb]
    | succ i ih =>
      intro hi
      have h1 := ih (by omega)
      have hbi := hb i
      have hlen := Pl.pl_len b q n
      show Pl.pl b q (rotZ (Pl.orb (Rots.rf b q) n i) b q) = _
      generalize Pl.orb (Rots.rf b q) n i = x at *
      obtain ⟨j, rfl⟩ : ∃ j, q = j + 1 := ⟨q - 1, by omega⟩
      rw [rot_pl b1 hbi.1 hbi.2]
      have h2 : Pl.pl b (j + 1) x = x % b :: Pl.pl b j (x / b) := rfl
      rw [h2] at h1
      generalize Pl.pl b (j + 1) n = l at *
      have h3 : l.drop i = l.getD i 0 :: l.drop (i + 1) := Pl.drop_step (by omega)
      have h4 : l.take (i + 1) = l.take i ++ [l.getD i 0] := by
        rw [List.take_add_one, List.getD_eq_getElem?_getD, List.getElem?_eq_getElem (show i < l.length by omega)]; rfl
      rw [h3, List.cons_append, List.cons.injEq] at h1
      rw [h1.1, h1.2, h4, List.append_assoc]
  have h1 := hp q (Nat.le_refl _)
  have hlen := Pl.pl_len b q n
  rw [List.drop_eq_nil_of_le (by omega), List.take_of_length_le (by omega), List.nil_append] at h1
  have h2 := congrArg (Pl.val b) h1
  rw [Pl.val_pl b1, Pl.val_pl b1, Int.emod_eq_of_lt (hb q).1 (hb q).2, Int.emod_eq_of_lt n0 n1] at h2
  exact h2
/-! Cyclic numbers: looked at one by one. -/
def distB (f : Int → Int) (n : Int) (N : Nat) : Bool := (List.range N).all fun j => (List.range j).all fun i => Pl.orb f n i != Pl.orb f n j
def sortedB : List Int → Bool
  | [] => true
  | [_] => true
  | x :: y :: l => decide (x ≤ y) && sortedB (y :: l)
theorem sortedB_le : ∀ {l : List Int}, sortedB l = true → l.Pairwise (· ≤ ·) := by
  intro l
  induction l with
  | nil => intro _; exact .nil
  | cons x l ih =>
    cases l with
    | nil => intro _; exact List.pairwise_singleton _ _
    | cons y l =>
      intro h
      simp only [sortedB, Bool.and_eq_true, decide_eq_true_eq] at h
      have h2 := ih h.2
      refine .cons (fun z hz => ?_) h2
      rcases List.mem_cons.1 hz with rfl | hz
      · exact h.1
      · exact Int.le_trans h.1 ((List.pairwise_cons.1 h2).1 z hz)
/-- The number is cyclic, as a test that can be reckoned. -/
def icB (c b : Int) (k : Nat) : Bool := decide (2 ≤ b ∧ b ≤ 16 ∧ 1 ≤ k ∧ k ≤ 9 ∧ 0 ≤ c ∧ c ≤ 1000000000000 ∧ c < b ^ k) && (Rots.mulL c k).isPerm (Rots.rotsL c b k k) && sortedB (Rots.mulL c k)
theorem icB_v {c b : Int} {k : Nat} (h : icB c b k = true) : Rots.icV c b k = true := by
  unfold icB at h
  simp only [Bool.and_eq_true, decide_eq_true_eq] at h
  obtain ⟨⟨⟨h1, h2, h3, h4, h5, h6, h7⟩, hp⟩, hs⟩ := h
  have hok : rokB c b k = true := by
    rw [rok_mk (inB_mk h1 h2) (inB_mk (by omega) (by omega)) (inB_mk h5 h6), Int.toNat_natCast]; simpa using h7
  unfold Rots.icV
  rw [hok, Rots.rotsV, if_pos hok, Int.toNat_natCast, Pl.srt_eq (List.isPerm_iff.1 hp) (sortedB_le hs)]
  simp
/-- What is looked at for one q, one base, and one place of the first repetition. -/
def chk (q b : Int) (N P : Nat) : Bool :=
  !(decide (((Xp.perL b q N P).length : Int) = q - 1) && distB (Xp.xf b q) 1 N && decide (Pl.orb (Xp.xf b q) 1 N = Pl.orb (Xp.xf b q) 1 P)) ||
    (icB (Pl.val b (Xp.perL b q N P).reverse) b (q - 1).toNat && decide (Pl.val b (Xp.perL b q N P).reverse * q = b ^ (q - 1).toNat - 1))
def chkAll : Bool := (List.range 9).all fun q => (List.range 15).all fun b => (List.range 11).all fun N => (List.range N).all fun P => chk ((q : Int) + 2) ((b : Int) + 2) N P
theorem chkAll_t : chkAll = true := by kernel_rfl
theorem chk_t {q b : Int} {N P : Nat} (q1 : 2 ≤ q) (q2 : q ≤ 10) (b1 : 2 ≤ b) (b2 : b ≤ 16) (hN : N ≤ 10) (hP : P < N) : chk q b N P = true := by
  have h := chkAll_t
  unfold chkAll at h
  rw [List.all_eq_true] at h
  have h := h (q - 2).toNat (List.mem_range.2 (by omega))
  rw [List.all_eq_true] at h
  have h := h (b - 2).toNat (List.mem_range.2 (by omega))
  rw [List.all_eq_true] at h
  have h := h N (List.mem_range.2 (by omega))
  rw [List.all_eq_true] at h
  have h := h P (List.mem_range.2 hP)
  rwa [show (((q - 2).toNat : Nat) : Int) + 2 = q by omega, show (((b - 2).toNat : Nat) : Int) + 2 = b by omega] at h
theorem cyc_ok {q b : Int} {N P : Nat} (q1 : 2 ≤ q) (q2 : q ≤ 10) (b1 : 2 ≤ b) (b2 : b ≤ 16) (hN : N ≤ 10) (hf : Pl.IsFirst (Xp.xf b q) 1 N P) (h : ((Xp.perL b q N P).length : Int) = q - 1) :
    Rots.icV (Pl.val b (Xp.perL b q N P).reverse) b (q - 1) = true ∧ Pl.val b (Xp.perL b q N P).reverse * q = b ^ (q - 1).toNat - 1 := by
  have hc := chk_t q1 q2 b1 b2 hN hf.1
  have hd : distB (Xp.xf b q) 1 N = true := by
    unfold distB
    rw [List.all_eq_true]
    intro j hj
    rw [List.all_eq_true]
    intro i hi
    rw [List.mem_range] at hj hi
    rw [bne_iff_ne]
    exact hf.2.2 i j hi hj
  unfold chk at hc
  rw [hd, decide_eq_true h, decide_eq_true hf.2.1] at hc
  simp only [Bool.and_self, Bool.not_true, Bool.false_or, Bool.and_eq_true, decide_eq_true_eq] at hc
  have := icB_v hc.1
  rw [show (((q - 1).toNat : Nat) : Int) = q - 1 by omega] at this
  exact ⟨this, hc.2⟩
theorem ic_142857 : Rots.icV 142857 10 6 = true := icB_v (k := 6) (by kernel_rfl)
/-! Parasitic numbers. -/
theorem parF_some {m d b : Int} : ∀ (f k : Nat), (parF m d b f k).2.2 = true → ∃ j, k ≤ j ∧ j < k + f ∧ parOk m d b j = true ∧ parF m d b f k = (parN m d b j, (j : Int), true) := by
  intro f
  induction f with
  | zero => intro k h; simp [parF] at h
  | succ f ih =>
    intro k h
    by_cases hk : parOk m d b k = true
    · exact ⟨k, Nat.le_refl _, by omega, hk, by rw [parF, if_pos hk]⟩
    · rw [parF, if_neg hk] at h ⊢
      obtain ⟨j, h1, h2, h3, h4⟩ := ih (k + 1) h
      exact ⟨j, by omega, by omega, h3, h4⟩
theorem par_facts {m d b : Int} (b1 : 2 ≤ b) (b2 : b ≤ 16) (m1 : 1 ≤ m) (m2 : m ≤ b - 1) (d1 : 1 ≤ d) (d2 : d ≤ b - 1) (h : (parV m d b).2.2 = true) :
    ∃ (y : Int) (k : Nat), parV m d b = (y, (k : Int), true) ∧ 1 ≤ k ∧ k ≤ 9 ∧ 0 ≤ y ∧ y ≤ 68719476736 ∧ rotV y b k = m * y ∧ y % b = d ∧ cdV y b = k := by
  have e : parV m d b = parF m d b 9 1 := by unfold parV; rw [inB_mk b1 b2, inB_mk m1 m2, inB_mk d1 d2]; rfl
  rw [e] at h ⊢
  obtain ⟨k, k1, k2, hk, hv⟩ := parF_some 9 1 h
  have hB := par_b b1 b2 m1 m2 d1 d2 k1 (show k ≤ 9 by omega)
  unfold parOk at hk
  rw [decide_eq_true_eq] at hk
  obtain ⟨h1, h2, h3⟩ := hk
  refine ⟨_, k, hv, k1, by omega, hB.n.1, hB.n.2, ?_, h3, ?_⟩
  · have hlt : parN m d b k < b ^ k := by
      have := Pl.val_lt (show 1 ≤ b by omega) (Pl.dg b (parN m d b k)) (Pl.dg_mem b1 hB.n.1)
      rwa [Pl.val_dg b1 hB.n.1, h2] at this
    have hrok : rokB (parN m d b k) b k = true := by
      have := hB.n
      rw [rok_mk (inB_mk b1 b2) (inB_mk (by omega) (by omega)) (inB_mk this.1 (by omega)), Int.toNat_natCast]; simpa using hlt
    unfold rotV
    rw [if_pos hrok]
    unfold rotZ
    rw [Int.toNat_natCast, h3]
    generalize parN m d b k = N at *
    have hq := Int.mul_ediv_add_emod N b
    rw [h3] at hq
    have hbk := hB.bk
    have hz : (N / b + d * b ^ (k - 1)) * b = m * N * b := by
      rw [Int.add_mul, Int.mul_assoc d, ← hbk, Int.mul_comm (N / b)]
      have e1 : N * (m * b - 1) = m * N * b - N := by rw [Int.mul_sub, Int.mul_one, ← Int.mul_assoc, Int.mul_comm N m]
      have e2 : d * (b ^ k - 1) = d * b ^ k - d := by rw [Int.mul_sub, Int.mul_one]
      omega
    exact Int.eq_of_mul_eq_mul_right (by omega) hz
  · have := hB.n
    unfold cdV
    rw [inB_mk b1 b2, inB_mk this.1 (by omega), h2]; rfl
end Rep
end Go.Proofs.Ytnjifahnfmifgaa
