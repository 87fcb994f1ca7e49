/-
  Plain facts on rules of divisibility: weights, inverses, trimming and blocks keep remainders.
  Conditions: none, or the ranges that a lemma names.
-/
import Derived.Test.YtnjifahnfmifgaaApply
import Derived.Test.YtnjifahnfmifgaaIsRule
import Derived.Test.YtnjifahnfmifgaaChain
import Derived.Test.YtnjifahnfmifgaaBlock
import Derived.Test.YtnjifahnfmifgaaSmall
namespace Go.Proofs.Ytnjifahnfmifgaa
namespace Rule
theorem dvdL {m a : Int} (h : m ∣ a) (c : Int) : m ∣ a * c := Int.dvd_mul_of_dvd_left h
theorem dvdR {m a : Int} (h : m ∣ a) (c : Int) : m ∣ c * a := Int.dvd_mul_of_dvd_right h
theorem dvd_mod (m x : Int) : m ∣ x - x % m := ⟨x / m, by have := Int.mul_ediv_add_emod x m; omega⟩
theorem dot_rw (m b : Int) : ∀ (l : List Int) (j : Nat) (x : Int), l.length ≤ j → m ∣ dot l (rwL m b j x) - x * Pl.val b l := by
  intro l
  induction l with
  | nil => intro j x _; simp [dot, Pl.val]
  | cons d l ih =>
    intro j x hj
    cases j with
    | zero => simp at hj
    | succ j =>
      have h1 := ih j (x * b % m) (by simpa using hj)
      have h2 := dvdL (dvd_mod m (x * b)) (Pl.val b l)
      have e : dot (d :: l) (rwL m b (j + 1) x) - x * Pl.val b (d :: l) = (dot l (rwL m b j (x * b % m)) - x * b % m * Pl.val b l) - (x * b - x * b % m) * Pl.val b l := by
        show d * x + dot l (rwL m b j (x * b % m)) - x * (Pl.val b l * b + d) = _
        generalize dot l (rwL m b j (x * b % m)) = D
        generalize x * b % m = r
        generalize Pl.val b l = V
        grind
      rw [e]
      exact Int.dvd_sub h1 h2
theorem dot_small (m : Int) : ∀ (l w : List Int), m ∣ dot l (w.map (small m)) - dot l w := by
  intro l
  induction l with
  | nil => intro w; simp [dot]
  | cons d l ih =>
    intro w
    cases w with
    | nil => simp [dot]
    | cons x w =>
      have h := ih w
      have h2 : m ∣ d * small m x - d * x := by
        unfold small
        split
        · rw [← Int.mul_sub, show x - m - x = m * -1 by omega, ← Int.mul_assoc, Int.mul_comm d m, Int.mul_assoc]
          exact Int.dvd_mul_right _ _
        · simp
      have e : dot (d :: l) ((x :: w).map (small m)) - dot (d :: l) (x :: w) = (d * small m x - d * x) + (dot l (w.map (small m)) - dot l w) := by
        show d * small m x + dot l (w.map (small m)) - (d * x + dot l w) = _
        omega
      rw [e]
      exact Int.dvd_add h2 h
/-- What the law asks of the weights. -/
structure Facts (n m b : Int) : Prop where
  rw : rwV m b 40 = rwL m b 40 1
  rlen : (rwV m b 40).length = 40
  slen : (swV m b 40).length = 40
  arB1 : arB n b (rwV m b 40) = true
  arB2 : arB n b (swV m b 40) = true
  ir1 : irV (rwV m b 40) m b = true
  ir2 : irV (swV m b 40) m b = true
  d1 : m ∣ arV n b (rwV m b 40) - n
  d2 : m ∣ arV n b (swV m b 40) - n
  rbd : ∀ d ∈ rwV m b 40, -1000 ≤ d ∧ d ≤ 1000
  sbd : ∀ d ∈ swV m b 40, -1000 ≤ d ∧ d ≤ 1000 ∧ 2 * d ≤ m ∧ -m < 2 * d
theorem allB_of {l : List Int} {lo hi : Int} (h : ∀ d ∈ l, lo ≤ d ∧ d ≤ hi) : allB l lo hi = true := by
  unfold allB
  rw [List.all_eq_true]
  exact fun d hd => inB_mk (h d hd).1 (h d hd).2
theorem eqMod_self (m : Int) : ∀ l : List Int, eqMod m l l = true := by
  intro l
  induction l with
  | nil => rfl
  | cons x l ih => show ((x - x).tmod m == 0 && eqMod m l l) = true; rw [ih]; simp
theorem eqMod_small (m : Int) : ∀ l : List Int, eqMod m (l.map (small m)) l = true := by
  intro l
  induction l with
  | nil => rfl
  | cons x l ih =>
    show ((small m x - x).tmod m == 0 && eqMod m (l.map (small m)) l) = true
    rw [ih, Bool.and_true, beq_iff_eq]
    unfold small
    split
    · rw [show x - m - x = -m by omega]; simp
    · simp
theorem facts {n m b : Int} (b1 : 2 ≤ b) (b2 : b ≤ 16) (m1 : 2 ≤ m) (m2 : m ≤ 1000) (n1 : 0 ≤ n) (n2 : n ≤ 1000000000000) : Facts n m b := by
  have hb := inB_mk b1 b2
  have hm := inB_mk m1 m2
  have hn := inB_mk n1 n2
  have hrw : rwV m b 40 = rwL m b 40 1 := by
    rw [rwV, hb, hm]; rfl
  have hsw : swV m b 40 = (rwV m b 40).map (small m) := rfl
  have rl : (rwV m b 40).length = 40 := by rw [hrw, rwL_len]
  have sl : (swV m b 40).length = 40 := by rw [hsw, List.length_map, rl]
  have rb : ∀ d ∈ rwV m b 40, 0 ≤ d ∧ d < m := fun d hd => by have := rwV_bd d hd; omega
  have sb : ∀ d ∈ swV m b 40, -1000 ≤ d ∧ d ≤ 1000 ∧ 2 * d ≤ m ∧ -m < 2 * d := by
    intro d hd
    rw [hsw, List.mem_map] at hd
    obtain ⟨x, hx, rfl⟩ := hd
    have := rb x hx
    unfold small
    split <;> omega
  have rb' : ∀ d ∈ rwV m b 40, -1000 ≤ d ∧ d ≤ 1000 := fun d hd => by have := rb d hd; omega
  have dl := Pl.dg_len40 b1 n1 n2
  have a1 : arB n b (rwV m b 40) = true := by
    unfold arB
    rw [hb, hn, allB_of rb', rl]; simpa using dl
  have a2 : arB n b (swV m b 40) = true := by
    unfold arB
    rw [hb, hn, allB_of (fun d hd => ⟨(sb d hd).1, (sb d hd).2.1⟩), sl]; simpa using dl
  have e1 : m ∣ dot (Pl.dg b n) (rwV m b 40) - n := by
    have := dot_rw m b (Pl.dg b n) 40 1 dl
    rwa [Int.one_mul, Pl.val_dg b1 n1, ← hrw] at this
  refine ⟨hrw, rl, sl, a1, a2, ?_, ?_, ?_, ?_, rb', sb⟩
  · unfold irV
    rw [hb, hm, allB_of rb', rl, ← hrw, eqMod_self]; rfl
  · unfold irV
    rw [hb, hm, allB_of (fun d hd => ⟨(sb d hd).1, (sb d hd).2.1⟩), sl, hsw, ← hrw, eqMod_small]; rfl
  · rw [arV, if_pos a1]; exact e1
  · rw [arV, if_pos a2, hsw]
    have := Int.dvd_add (dot_small m (Pl.dg b n) (rwV m b 40)) e1
    rwa [show dot (Pl.dg b n) ((rwV m b 40).map (small m)) - dot (Pl.dg b n) (rwV m b 40) + (dot (Pl.dg b n) (rwV m b 40) - n) = dot (Pl.dg b n) ((rwV m b 40).map (small m)) - n by omega] at this
/-! The inverse. -/
theorem egc_facts {a m : Int} : ∀ (N : Nat) (r s x y : Int), s.toNat ≤ N → 0 < r → 0 ≤ s → m ∣ r - x * a → m ∣ s - y * a →
    (Pl.egc r s x y).1 = Int.gcd r s ∧ m ∣ (Pl.egc r s x y).1 - (Pl.egc r s x y).2 * a := by
  intro N
  induction N with
  | zero =>
    intro r s x y hN hr hs h1 h2
    obtain rfl : s = 0 := by omega
    rw [Pl.egc_end]
    refine ⟨?_, h1⟩
    simp
    omega
  | succ N ih =>
    intro r s x y hN hr hs h1 h2
    by_cases h : 0 < s
    · rw [Pl.egc_step h]
      have e : r - r / s * s = r % s := by rw [Int.emod_def, Int.mul_comm]
      have l1 := Pl.mod_nn (a := r) h
      have l2 := Pl.mod_lt (a := r) h
      have h3 : m ∣ (r - r / s * s) - (x - r / s * y) * a := by
        have := Int.dvd_sub h1 (dvdR h2 (r / s))
        rwa [show r - x * a - r / s * (s - y * a) = (r - r / s * s) - (x - r / s * y) * a by generalize r / s = q; grind] at this
      have h4 := ih s (r - r / s * s) y (x - r / s * y) (by omega) h (by omega) h2 h3
      rw [e, Pl.gcd_step (by omega) h] at h4
      rw [e]
      exact h4
    · obtain rfl : s = 0 := by omega
      rw [Pl.egc_end]
      refine ⟨?_, h1⟩
      simp
      omega
theorem tmod_dvd (m x : Int) : m ∣ x - x.tmod m := ⟨x.tdiv m, by have := Int.tmod_add_mul_tdiv x m; omega⟩
theorem inv_facts {a m : Int} (hm : 2 ≤ m) (ha : 0 ≤ a) : (0 ≤ Pl.invV a m ↔ Int.gcd m a = 1) ∧ (0 ≤ Pl.invV a m → Pl.invV a m < m ∧ Pl.invV a m * a % m = 1) := by
  have m0 := Pl.mod_nn (a := a) (show 0 < m by omega)
  obtain ⟨g1, g2⟩ := egc_facts (a := a) (m := m) _ m (a % m) 0 1 (Nat.le_refl _) (by omega) m0 (by simp) (by
    rw [Int.one_mul, show a % m - a = -(a - a % m) by omega]; exact Int.dvd_neg.2 (dvd_mod m a))
  have hg : Int.gcd m (a % m) = Int.gcd m a := by rw [Pl.gcd_step ha (by omega), Int.gcd_comm]
  rw [hg] at g1
  unfold Pl.invV
  generalize (Pl.egc m (a % m) 0 1) = p at *
  by_cases h : p.1 = 1
  · rw [if_pos h]
    rw [h] at g1 g2
    have t0 := Pl.mod_nn (a := p.2.tmod m + m) (show 0 < m by omega)
    have t1 := Pl.mod_lt (a := p.2.tmod m + m) (show 0 < m by omega)
    refine ⟨⟨fun _ => by omega, fun _ => t0⟩, fun _ => ⟨t1, ?_⟩⟩
    have d1 := dvd_mod m (p.2.tmod m + m)
    have d2 := tmod_dvd m p.2
    have d3 : m ∣ p.2 - (p.2.tmod m + m) % m := by
      have := Int.dvd_add d2 (Int.dvd_sub d1 (Int.dvd_refl m))
      rwa [show p.2 - p.2.tmod m + (p.2.tmod m + m - (p.2.tmod m + m) % m - m) = p.2 - (p.2.tmod m + m) % m by omega] at this
    have d4 : m ∣ 1 - (p.2.tmod m + m) % m * a := by
      have := Int.dvd_add g2 (dvdL d3 a)
      rwa [show 1 - p.2 * a + (p.2 - (p.2.tmod m + m) % m) * a = 1 - (p.2.tmod m + m) % m * a by generalize (p.2.tmod m + m) % m = t; grind] at this
    have := Pl.mod_eq_of_dvd d4
    rw [← this]
    exact Int.emod_eq_of_lt (by omega) (by omega)
  · rw [if_neg h]
    refine ⟨⟨fun h0 => by omega, fun h0 => ?_⟩, fun h0 => by omega⟩
    rw [h0] at g1
    exact absurd g1 h
/-! Trimming. -/
theorem trim_dvd {m b t z : Int} (hg : Int.gcd m b = 1) (ht : t * b % m = 1) (hm : 2 ≤ m) : m ∣ z / b + t * (z % b) ↔ m ∣ z := by
  have e : b * (z / b + t * (z % b)) = z + (t * b - 1) * (z % b) := by
    have := Int.mul_ediv_add_emod z b
    rw [Int.mul_add, Int.sub_mul]
    grind
  have d : m ∣ (t * b - 1) * (z % b) := by
    refine dvdL ?_ _
    have := dvd_mod m (t * b)
    rwa [ht] at this
  have hm0 : 0 < m := by omega
  constructor
  · intro h
    have h1 := dvdR h b
    rw [e] at h1
    have := Int.dvd_sub h1 d
    rwa [show z + (t * b - 1) * (z % b) - (t * b - 1) * (z % b) = z by omega] at this
  · intro h
    refine Pl.dvd_of_cop hg ?_
    rw [Int.mul_comm, e]
    exact Int.dvd_add h d
def ChOk (m b t n : Int) (l : List Int) : Prop := ∀ i, i < l.length → (0 ≤ l.getD i 0 ∧ l.getD i 0 ≤ 1000000000000) ∧ (m ∣ l.getD i 0 ↔ m ∣ n) ∧ (0 < i → l.getD i 0 = l.getD (i - 1) 0 / b + t * (l.getD (i - 1) 0 % b))
theorem tch_pos (b t c : Int) : ∀ (f : Nat) (n : Int), (tch b t c f n).getD 0 0 = n ∧ 0 < (tch b t c f n).length := by
  intro f n
  cases f with
  | zero => simp [tch]
  | succ f => unfold tch; split <;> simp
theorem tch_ok {m b t c : Int} (hg : Int.gcd m b = 1) (ht : t * b % m = 1) (hm : 2 ≤ m) (b1 : 2 ≤ b) (b2 : b ≤ 16) (t0 : 0 ≤ t) (t1 : t ≤ 1000) : ∀ (f : Nat) (n : Int), 0 ≤ n → n ≤ 1000000000000 → ChOk m b t n (tch b t c f n) := by
  intro f
  induction f with
  | zero =>
    intro n n0 n1 i hi
    have : i = 0 := by simp [tch] at hi; omega
    subst this
    refine ⟨?_, ?_, fun h => by omega⟩
    · simp [tch, n0, n1]
    · simp [tch]
  | succ f ih =>
    intro n n0 n1
    unfold tch
    by_cases h : c ≤ n
    · rw [if_pos h]
      have e1 := Pl.mod_nn (a := n) (show 0 < b by omega)
      have e2 := Pl.mod_lt (a := n) (show 0 < b by omega)
      have e3 := Pl.div_nn n0 (show 0 ≤ b by omega)
      have e4 : n / b * 2 ≤ n := by
        have h1 := Int.ediv_mul_le n (show b ≠ 0 by omega)
        have h2 : n / b * 2 ≤ n / b * b := Int.mul_le_mul_of_nonneg_left b1 e3
        omega
      have e5 : 0 ≤ t * (n % b) := Int.mul_nonneg t0 e1
      have e6 : t * (n % b) ≤ 1000 * 16 := Int.mul_le_mul t1 (by omega) e1 (by omega)
      have IH := ih (n / b + t * (n % b)) (by omega) (by omega)
      intro i hi
      cases i with
      | zero =>
        refine ⟨⟨n0, n1⟩, Iff.rfl, fun h => by omega⟩
      | succ i =>
        have := IH i (by simpa using hi)
        refine ⟨by simpa using this.1, by have h2 := this.2.1.trans (trim_dvd hg ht hm); simpa using h2, fun _ => ?_⟩
        cases i with
        | zero => simpa using (tch_pos b t c f (n / b + t * (n % b))).1
        | succ i => simpa using this.2.2 (by omega)
    · rw [if_neg h]
      intro i hi
      have : i = 0 := by simp at hi; omega
      subst this
      exact ⟨⟨n0, n1⟩, Iff.rfl, fun h => by omega⟩
theorem trimV_in {n b t : Int} (b1 : 2 ≤ b) (b2 : b ≤ 16) (t0 : 0 ≤ t) (t1 : t ≤ 1000) (n0 : 0 ≤ n) (n1 : n ≤ 1000000000000) : trimV n b t = n / b + t * (n % b) := by
  have e1 := Pl.mod_nn (a := n) (show 0 < b by omega)
  have e2 := Pl.mod_lt (a := n) (show 0 < b by omega)
  have e3 := Pl.div_nn n0 (show 0 ≤ b by omega)
  have e4 := Pl.div_le n0 b1
  have e5 : 0 ≤ t * (n % b) := Int.mul_nonneg t0 e1
  have e6 : t * (n % b) ≤ 1000 * 16 := Int.mul_le_mul t1 (by omega) e1 (by omega)
  rw [trimV, inB_mk b1 b2, inB_mk n0 n1, inB_mk t0 t1]
  unfold Go.RowKit.wrap64
  simp
  omega
theorem chain {n m b : Int} (b1 : 2 ≤ b) (b2 : b ≤ 16) (m1 : 2 ≤ m) (m2 : m ≤ 1000) (n1 : 0 ≤ n) (n2 : n ≤ 1000000000000) (h : 0 ≤ tfV m b) :
    tfV m b * b % m = 1 ∧ tfV m b ≤ 1000 ∧ (tcV n m b).getD 0 0 = n ∧ 0 < (tcV n m b).length ∧ (tcV n m b).length ≤ 40 ∧ ChOk m b (tfV m b) n (tcV n m b) := by
  have hb := inB_mk b1 b2
  have hm := inB_mk m1 m2
  have e : tfV m b = Pl.invV b m := by rw [tfV, hb, hm]; rfl
  rw [e] at h
  obtain ⟨q1, q2⟩ := inv_facts m1 (show 0 ≤ b by omega)
  have ⟨q3, q4⟩ := q2 h
  have et : tcV n m b = tch b (tfV m b) (m * b) 39 n := by rw [tcV, if_pos (by rw [hb, hm, inB_mk n1 n2, e]; simpa using h)]
  refine ⟨by rw [e]; exact q4, by rw [e]; omega, by rw [et]; exact (tch_pos ..).1, by rw [et]; exact (tch_pos ..).2, tcV_len n m b, ?_⟩
  rw [et, e]
  exact tch_ok (q1.1 h) q4 m1 b1 b2 h (by omega) 39 n n1 n2
theorem tf_gcd {m b : Int} (b1 : 2 ≤ b) (b2 : b ≤ 16) (m1 : 2 ≤ m) (m2 : m ≤ 1000) : 0 ≤ tfV m b ↔ Int.gcd m b = 1 := by
  rw [tfV, inB_mk b1 b2, inB_mk m1 m2]
  exact (inv_facts m1 (show 0 ≤ b by omega)).1
/-! Blocks. -/
theorem blk_facts {m b : Int} (_hm : 2 ≤ m) : ∀ (f : Nat) (r : Int) (j : Nat), m ∣ r - b ^ j → f + j = 40 →
    (0 ≤ (Pl.blk m b f r).1 ∧ (Pl.blk m b f r).1 ≤ 40) ∧ (0 < (Pl.blk m b f r).1 → ((Pl.blk m b f r).2 = 1 ∨ (Pl.blk m b f r).2 = -1) ∧ m ∣ b ^ (Pl.blk m b f r).1.toNat - (Pl.blk m b f r).2) ∧ (¬ 0 < (Pl.blk m b f r).1 → (Pl.blk m b f r).2 = 0) := by
  intro f
  induction f with
  | zero => intro r j _ _; simp [Pl.blk]
  | succ f ih =>
    intro r j h hj
    have hn : m ∣ r * b % m - b ^ (j + 1) := by
      have h1 := dvdL h b
      have h2 := dvd_mod m (r * b)
      have := Int.dvd_sub h1 h2
      rwa [show (r - b ^ j) * b - (r * b - r * b % m) = r * b % m - b ^ (j + 1) by rw [Int.pow_succ, Int.sub_mul]; omega] at this
    have e40 : (40 : Int) - f = ((j + 1 : Nat) : Int) := by omega
    unfold Pl.blk
    by_cases c1 : r * b % m = 1
    · rw [if_pos c1]
      rw [c1] at hn
      refine ⟨by omega, fun _ => ⟨.inl rfl, ?_⟩, fun h => by simp at h; omega⟩
      show m ∣ b ^ ((40 : Int) - f).toNat - 1
      rw [e40, Int.toNat_natCast, show b ^ (j + 1) - 1 = -(1 - b ^ (j + 1)) by omega]
      exact Int.dvd_neg.2 hn
    · rw [if_neg c1]
      by_cases c2 : r * b % m = m - 1
      · rw [if_pos c2]
        rw [c2] at hn
        refine ⟨by omega, fun _ => ⟨.inr rfl, ?_⟩, fun h => by simp at h; omega⟩
        show m ∣ b ^ ((40 : Int) - f).toNat - -1
        rw [e40, Int.toNat_natCast, show b ^ (j + 1) - -1 = m - (m - 1 - b ^ (j + 1)) by omega]
        exact Int.dvd_sub (Int.dvd_refl m) hn
      · rw [if_neg c2]
        exact ih _ (j + 1) hn (by omega)
theorem blkV_facts {m b : Int} (b1 : 2 ≤ b) (b2 : b ≤ 16) (m1 : 2 ≤ m) (m2 : m ≤ 1000) :
    (0 ≤ (blkV m b).1 ∧ (blkV m b).1 ≤ 40) ∧ (0 < (blkV m b).1 → ((blkV m b).2 = 1 ∨ (blkV m b).2 = -1) ∧ m ∣ b ^ (blkV m b).1.toNat - (blkV m b).2) ∧ (¬ 0 < (blkV m b).1 → (blkV m b).2 = 0) := by
  have e : blkV m b = Pl.blk m b 40 1 := by rw [blkV, inB_mk b1 b2, inB_mk m1 m2]; rfl
  rw [e]
  exact blk_facts m1 40 1 0 (by simp) (by omega)
theorem bs_dvd {m b sign : Int} {k : Nat} (hk : 0 < k) (h : m ∣ b ^ k - sign) : ∀ (N : Nat) (l : List Int) (own : Int), l.length ≤ N → m ∣ bs b sign k own l - own * Pl.val b l := by
  intro N
  induction N with
  | zero =>
    intro l own hl
    rw [bs_end (by omega), List.eq_nil_of_length_eq_zero (show l.length = 0 by omega)]
    simp [Pl.val]
  | succ N ih =>
    intro l own hl
    by_cases h0 : 0 < l.length
    · rw [bs_step h0 hk]
      have IH := ih (l.drop k) (own * sign) (by rw [List.length_drop]; omega)
      have hv : m ∣ Pl.val b l - (Pl.val b (l.take k) + sign * Pl.val b (l.drop k)) := by
        have hv := Pl.val_append b (l.take k) (l.drop k)
        rw [List.take_append_drop] at hv
        rw [hv]
        by_cases hlk : k ≤ l.length
        · rw [List.length_take, Nat.min_eq_left hlk]
          have := dvdL h (Pl.val b (l.drop k))
          rwa [show Pl.val b (l.take k) + b ^ k * Pl.val b (l.drop k) - (Pl.val b (l.take k) + sign * Pl.val b (l.drop k)) = (b ^ k - sign) * Pl.val b (l.drop k) by rw [Int.sub_mul]; omega]
        · rw [List.drop_eq_nil_of_le (by omega)]; simp [Pl.val]
      have := Int.dvd_sub IH (dvdR hv own)
      rwa [show bs b sign k (own * sign) (l.drop k) - own * sign * Pl.val b (l.drop k) - own * (Pl.val b l - (Pl.val b (l.take k) + sign * Pl.val b (l.drop k))) = own * Pl.val b (l.take k) + bs b sign k (own * sign) (l.drop k) - own * Pl.val b l by
        generalize bs b sign k (own * sign) (l.drop k) = X
        generalize Pl.val b (l.drop k) = Y
        generalize Pl.val b (l.take k) = Z
        generalize Pl.val b l = V
        grind] at this
    · rw [bs_end (by omega), List.eq_nil_of_length_eq_zero (show l.length = 0 by omega)]
      simp [Pl.val]
theorem bs_sm (b : Int) : ∀ l : List Int, bs b 1 1 1 l = Pl.sm l := by
  intro l
  induction l with
  | nil => rw [bs_end rfl]; rfl
  | cons d l ih =>
    rw [bs_step (by simp) (by omega)]
    show 1 * Pl.val b [d] + bs b 1 1 (1 * 1) l = d + Pl.sm l
    rw [Int.mul_one, ih]; simp [Pl.val]
theorem bs_alt (b : Int) : ∀ (l : List Int) (own : Int), bs b (-1) 1 own l = own * Pl.alt 0 l := by
  intro l
  induction l with
  | nil => intro own; rw [bs_end rfl]; simp [Pl.alt]
  | cons d l ih =>
    intro own
    rw [bs_step (by simp) (by omega)]
    show own * Pl.val b [d] + bs b (-1) 1 (own * -1) l = own * (d + Pl.alt 1 l)
    rw [ih, Pl.alt_flip]
    simp [Pl.val]
    grind
end Rule
end Go.Proofs.Ytnjifahnfmifgaa
