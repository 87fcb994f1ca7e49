/-
  The program's law FnSums returns true for every input, and its arguments read afterwards as before.
  Conditions: none.
-/
import Derived.Test.YtioclijkglhigaaRows
import Derived.WalkKit
import Derived.ProofKit
import Derived.OpenShut
import Derived.ShutString
import Derived.ChangeOld
import Derived.Below
import Derived.Test.YtioclijkglhigaaSlicesA
import Derived.Test.YtioclijkglhigaaMake
import Derived.Test.YtioclijkglhigaaSumUp
import Derived.Test.YtioclijkglhigaaDig1
import Derived.Test.YtioclijkglhigaaAlt1
import Derived.Test.YtioclijkglhigaaSmall3
import Derived.Test.YtioclijkglhigaaSums
namespace Go.Proofs.Ytioclijkglhigaa.fnSums
open Go.ChangeShapes Go.WideShapes Go.ChangeAt Go.RowKit
set_option linter.unusedVariables false

theorem own : ownKnob Try.prog.godebug = none := by kernel_rfl
theorem laidOut : laidOutB Try.prog = true := by kernel_rfl
theorem sumTo_bd {b : Int} (hb : 2 ≤ b) (hb2 : b ≤ 16) : ∀ k : Nat, (k : Int) ≤ 1000000000000 → 0 ≤ Pl.sumTo k b 1 ∧ Pl.sumTo k b 1 ≤ 600 * (k : Int) := by
  intro k
  induction k with
  | zero => intro _; rw [Pl.sumTo_end (by simp)]; simp
  | succ k ih =>
    intro hk
    have h := Pl.sumTo_one (n := (k : Int)) hb (by omega)
    have e : ((k + 1 : Nat) : Int) = (k : Int) + 1 := by omega
    rw [e, h]
    have h1 := ih (by omega)
    have h2 := (Pl.sm_dg_le (n := (k : Int)) hb (by omega)).1
    have h3 := Pl.sm_le 15 _ (fun d hd => (dg_mem16 (n := (k : Int)) hb hb2 (by omega) d hd).2)
    have h4 := Pl.dg_len40 (n := (k : Int)) hb (by omega) (by omega)
    omega
theorem alt_bd : ∀ (l : List Int) (k : Nat), (∀ d ∈ l, 0 ≤ d ∧ d ≤ 15) → -(15 * (l.length : Int)) ≤ Pl.alt k l ∧ Pl.alt k l ≤ 15 * (l.length : Int) := by
  intro l
  induction l with
  | nil => intro k _; simp [Pl.alt]
  | cons d l ih =>
    intro k h
    have h1 := ih (k + 1) fun x hx => h x (by simp [hx])
    have h2 := h d (by simp)
    show _ ≤ (if k % 2 = 0 then d else -d) + Pl.alt (k + 1) l ∧ (if k % 2 = 0 then d else -d) + Pl.alt (k + 1) l ≤ _
    rw [List.length_cons]
    split <;> omega
theorem castOut (n b : Int) (w : World) (b1 : 2 ≤ b) (b2 : b ≤ 16) (n1 : 0 ≤ n) (n2 : n ≤ 1000000000000) :
    Calls Try.prog 51 #[.int .i64 n, .int .i64 b] w fun e w' => e = .returned (.int .i64 (n % (b - 1))) ∧ w = w' := by
  have hb := inB_mk b1 b2
  have hn := inB_mk n1 n2
  go_enter Try.func51, Try.ntmps51
  go_wp2_with (first | (go_at_call 65; refine (isNumber_any _ _).mono ?_; rintro e w' ⟨rfl, rfl⟩) | (go_at_call 79; refine (iBaseOk_any _ _).mono ?_; rintro e w' ⟨rfl, rfl⟩))
  go_ret
  exact ⟨rfl, rfl⟩
/-- What the law asks of a number and a base. -/
structure SF (n b s r a : Int) (q : Bool) : Prop where
  es : Pl.sm (Pl.dg b n) = s
  er : drootV n b = r
  ea : altV n b = a
  s0 : 0 ≤ s ∧ s ≤ 600
  t3 : (s % (b - 1) != n % (b - 1)) = false
  r0 : 0 ≤ r ∧ r < b
  t4 : (r % (b - 1) != n % (b - 1)) = false
  q1 : (r == 0) = q
  q2 : (n == 0) = q
  a0 : -600 ≤ a ∧ a ≤ 600
  t6 : ((n - a).tmod (b + 1) != 0) = false
theorem sf {n b : Int} (b1 : 2 ≤ b) (b2 : b ≤ 16) (n1 : 0 ≤ n) (n2 : n ≤ 1000000000000) : ∃ s r a q, SF n b s r a q := by
  have hb := inB_mk b1 b2
  have hn := inB_mk n1 n2
  have hl := Pl.dg_len40 b1 n1 n2
  have hd := dg_mem16 b1 b2 n1
  have r := Pl.droot_facts b1 _ n n1 (Nat.le_refl _)
  refine ⟨Pl.sm (Pl.dg b n), Pl.droot b n, Pl.alt 0 (Pl.dg b n), (n == 0), ⟨rfl, by rw [drootV, hb, hn]; rfl, by rw [altV, hb, hn]; rfl, ⟨(Pl.sm_dg_le b1 n1).1, ?_⟩, ?_, ⟨r.1, r.2.1⟩, ?_, ?_, rfl, ?_, ?_⟩⟩
  · have := Pl.sm_le 15 _ (fun d h => (hd d h).2); omega
  · rw [Pl.sm_mod b1 n1]; simp
  · rw [r.2.2.1]; simp
  · rw [Bool.eq_iff_iff, beq_iff_eq, beq_iff_eq]; exact r.2.2.2
  · have := alt_bd _ 0 hd; omega
  · rw [bne_eq_false_iff_eq]
    exact Int.tmod_eq_zero_of_dvd (Pl.dvd_alt b1 n1)
/-- What it asks of two numbers. -/
structure SG (n b m s s2 s3 S0 K : Int) : Prop where
  e2 : Pl.sm (Pl.dg b m) = s2
  e3 : Pl.sm (Pl.dg b (n + m)) = s3
  eS : sumV n b = S0
  eS1 : sumV (n + 1) b = S0 + s
  eK : ccV n m b = K
  s2b : 0 ≤ s2 ∧ s2 ≤ 600
  s3b : 0 ≤ s3 ∧ s3 ≤ 600
  S0b : 0 ≤ S0 ∧ S0 ≤ 600000000000
  Kb : 0 ≤ K ∧ K ≤ 1200
  Kb1 : 0 ≤ K * (b - 1) ∧ K * (b - 1) ≤ 1200
  t : (K * (b - 1) == s + s2 - s3) = true
theorem sg {n b m : Int} (b1 : 2 ≤ b) (b2 : b ≤ 16) (n1 : 0 ≤ n) (n2 : n ≤ 999999999) (m1 : 0 ≤ m) (m2 : m ≤ 200) : ∃ s2 s3 S0 K, SG n b m (Pl.sm (Pl.dg b n)) s2 s3 S0 K := by
  have hb := inB_mk b1 b2
  have bd : ∀ x : Int, 0 ≤ x → x ≤ 1000000000000 → 0 ≤ Pl.sm (Pl.dg b x) ∧ Pl.sm (Pl.dg b x) ≤ 600 := by
    intro x x1 x2
    have hl := Pl.dg_len40 b1 x1 x2
    have := Pl.sm_le 15 _ (fun d h => (dg_mem16 b1 b2 x1 d h).2)
    exact ⟨(Pl.sm_dg_le b1 x1).1, by omega⟩
  have c := Pl.cr_sum b1 _ n m 0 n1 m1 (by omega) (by omega) (Nat.le_refl _)
  simp only [Int.add_zero] at c
  have B1 := bd n n1 (by omega)
  have B2 := bd m m1 (by omega)
  have B3 := bd (n + m) (by omega) (by omega)
  have S := sumTo_bd b1 b2 n.toNat (by omega)
  rw [Int.toNat_of_nonneg n1] at S
  have k0 := (Pl.cr_nn b1 _ n m 0 n1 m1 (by omega) (by omega) (Nat.le_refl _)).1
  have k1 : Pl.cr b n m 0 * 1 ≤ Pl.cr b n m 0 * (b - 1) := Int.mul_le_mul_of_nonneg_left (by omega) k0
  refine ⟨_, _, Pl.sumTo n b 1, Pl.cr b n m 0, ⟨rfl, rfl, ?_, ?_, ?_, B2, B3, ⟨S.1, by omega⟩, ⟨k0, by omega⟩, ⟨by omega, by omega⟩, ?_⟩⟩
  · rw [sumV, hb, inB_mk n1 (by omega)]; rfl
  · rw [sumV, hb, inB_mk (by omega) (by omega)]; exact Pl.sumTo_one b1 n1
  · rw [ccV, hb, inB_mk n1 (by omega), inB_mk m1 (by omega)]; rfl
  · rw [beq_iff_eq]; omega

theorem walk (a0 : Option Addr) (len0 cap0 : Nat) (z0 : List Int) (w : World) (w0 : IsRow .u8 w a0 len0 cap0 z0) :
    Calls Try.prog 14 #[.slice a0 len0 cap0] w fun e w' => e = .returned (.bool true) ∧ Below w.heap.size w w' := by
  by_cases hbig : 1048576 < len0
  · go_enter Try.func14, Try.ntmps14
    go_wp2
    go_ret
    exact ⟨rfl, Below.refl _ _⟩
  have HR := Lib.hid w0.brd
  clear w0
  go_enter Try.func14, Try.ntmps14
  go_wp2_with fail
  refine (makeNumber _ _ _ 0 _ HR.out (by omega) (by omega) (by omega)).mono ?_
  rintro e w1 ⟨⟨x, x0, x1, rfl⟩, hb1⟩
  have HB1 := Lib.hid hb1
  clear hb1
  have n1 := Pl.mod_nn (a := x) (show (0 : Int) < 1000000000 by omega)
  have n2 := Pl.mod_lt (a := x) (show (0 : Int) < 1000000000 by omega)
  go_wp2_with fail
  generalize x % 1000000000 = n at *
  refine (makeBase _ _ _ 10 _ (HR.out.below HB1.out (Nat.le_refl _)) (by omega) (by omega) (by omega)).mono ?_
  rintro e w2 ⟨⟨b, b1, b2, rfl⟩, hb2⟩
  have HB2 := Lib.hid (HB1.out.trans (hb2.mono HB1.out.size))
  clear hb2
  obtain ⟨s, r, a, q, F⟩ := sf b1 b2 n1 (show n ≤ 1000000000000 by omega)
  have HF := Lib.hid F
  have Hb := Lib.hid (inB_mk b1 b2)
  have Hn := Lib.hid (inB_mk n1 (show n ≤ 1000000000000 by omega))
  have ⟨s0, s1⟩ := F.s0
  have t3 := F.t3
  have ⟨r0, r1⟩ := F.r0
  have t4 := F.t4
  have q1 := F.q1
  have q2 := F.q2
  have ⟨a1, a2⟩ := F.a0
  have t6 := F.t6
  clear F
  go_wp2_with fail
  refine (as_int HF.out.es (digitSum _ _ _ Hb.out Hn.out)).mono ?_
  rintro e w3 ⟨rfl, hb3⟩
  have HB3 := Lib.hid (HB2.out.trans (hb3.mono HB2.out.size))
  clear hb3
  go_wp2_with fail
  refine (castOut _ _ _ b1 b2 n1 (by omega)).mono ?_
  rintro e w3' ⟨rfl, rfl⟩
  go_wp2_with fail
  refine (as_int HF.out.er (iDigitRoot _ _ _)).mono ?_
  rintro e w4 ⟨rfl, hb4⟩
  have HB4 := Lib.hid (HB3.out.trans (hb4.mono HB3.out.size))
  clear hb4
  go_wp2_with fail
  refine (as_int HF.out.ea (iAlt _ _ _)).mono ?_
  rintro e w5 ⟨rfl, hb5⟩
  have HB5 := Lib.hid (HB4.out.trans (hb5.mono HB4.out.size))
  clear hb5
  go_wp2_with fail
  refine (makeNum _ _ _ 12 _ (HR.out.below HB5.out (Nat.le_refl _)) (by omega) (by omega) (by omega)).mono ?_
  rintro e w6 ⟨⟨y, y0, y1, rfl⟩, hb6⟩
  have HB6 := Lib.hid (HB5.out.trans (hb6.mono HB5.out.size))
  clear hb6 t3 r0 r1 t4 q1 q2 a1 a2 t6
  have m1 := Pl.mod_nn (a := y) (show (0 : Int) < 200 by omega)
  have m2 := Pl.mod_lt (a := y) (show (0 : Int) < 200 by omega)
  go_wp2_with fail
  generalize y % 200 = m at *
  obtain ⟨M, rfl⟩ := Int.eq_ofNat_of_zero_le m1
  have M2 : M ≤ 200 := by omega
  go_loopw [10, 11] (fun vt vx wr => ∃ (k : Nat) (t : Int), k ≤ M ∧ 0 ≤ t ∧ t ≤ 600 * (k : Int) ∧ vx = .int .i64 k ∧ vt = .int .i64 t ∧ Hid (Pl.sumTo k b 1 = t) ∧ Below w.heap.size w wr) (fun _ vx _ => M - (intOf vx).toNat)
  case atStart => exact ⟨0, 0, Nat.zero_le _, by omega, by omega, rfl, rfl, Lib.hid (Pl.sumTo_end (by simp)), HB6.out⟩
  case round =>
    obtain ⟨k, t, hk, t0, t1, rfl, rfl, hg, hbel⟩ := hrel
    have HB7 := Lib.hid hbel
    clear hbel
    by_cases hlt : k < M
    · have Hk := Lib.hid (inB_mk (show (0 : Int) ≤ (k : Int) by omega) (show (k : Int) ≤ 1000000000000 by omega))
      obtain ⟨s', r', a', q', F'⟩ := sf (n := (k : Int)) b1 b2 (by omega) (by omega)
      have HF' := Lib.hid F'
      have ⟨s0', s1'⟩ := F'.s0
      have HS := Lib.hid (show Pl.sumTo ((k + 1 : Nat) : Int) b 1 = t + s' by
        have := Pl.sumTo_one (n := (k : Int)) b1 (by omega)
        rw [show ((k + 1 : Nat) : Int) = (k : Int) + 1 by omega, this, hg.out, F'.es])
      clear F'
      go_wp2_with fail
      refine (as_int HF'.out.es (digitSum _ _ _ Hb.out Hk.out)).mono ?_
      rintro e w8 ⟨rfl, hb8⟩
      have HB8 := Lib.hid (HB7.out.trans (hb8.mono HB7.out.size))
      clear hb8
      go_wp2
      go_roundw
      case rel => exact ⟨k + 1, t + s', by omega, by omega, by omega, by go_num, rfl, HS, HB8.out⟩
      case measure => simp [intOf]; omega
    · obtain rfl : k = M := by omega
      obtain ⟨s2, s3, S0, K, G⟩ := sg (n := n) (m := (k : Int)) b1 b2 n1 (by omega) (by omega) (by omega)
      have HG := Lib.hid G
      have ⟨g1, g2⟩ := G.s2b
      have ⟨g3, g4⟩ := G.s3b
      have ⟨g5, g6⟩ := G.S0b
      have ⟨g7, g8⟩ := G.Kb
      have ⟨g9, g10⟩ := G.Kb1
      have HT := Lib.hid (show sumV (k : Int) b = t by rw [sumV, Hb.out, inB_mk (by omega) (by omega)]; exact hg.out)
      have Hm := Lib.hid (inB_mk (show (0 : Int) ≤ (k : Int) by omega) (show (k : Int) ≤ 1000000000000 by omega))
      have Hnm := Lib.hid (inB_mk (show (0 : Int) ≤ n + (k : Int) by omega) (show n + (k : Int) ≤ 1000000000000 by omega))
      have HS1 := Lib.hid (show sumV (n + 1) b = S0 + s by rw [← HF.out.es]; exact G.eS1)
      have tt := G.t
      rw [HF.out.es] at tt
      clear G
      go_wp2_with fail
      refine (as_int HS1.out (iSumUp _ _ _)).mono ?_
      rintro e w8 ⟨rfl, hb8⟩
      have HB8 := Lib.hid (HB7.out.trans (hb8.mono HB7.out.size))
      clear hb8
      go_wp2_with fail
      refine (as_int HG.out.eS (iSumUp _ _ _)).mono ?_
      rintro e w9 ⟨rfl, hb9⟩
      have HB9 := Lib.hid (HB8.out.trans (hb9.mono HB8.out.size))
      clear hb9
      have hss : (S0 + s - S0 == s) = true := by rw [beq_iff_eq]; omega
      go_wp2_with fail
      refine (as_int HT.out (iSumUp _ _ _)).mono ?_
      rintro e w10 ⟨rfl, hb10⟩
      have HB10 := Lib.hid (HB9.out.trans (hb10.mono HB9.out.size))
      clear hb10
      go_wp2_with fail
      refine (as_int HG.out.eK (iCountCarries _ _ _ _)).mono ?_
      rintro e w11 ⟨rfl, hb11⟩
      have HB11 := Lib.hid (HB10.out.trans (hb11.mono HB10.out.size))
      clear hb11
      go_wp2_with fail
      refine (as_int HG.out.e2 (digitSum _ _ _ Hb.out Hm.out)).mono ?_
      rintro e w12 ⟨rfl, hb12⟩
      have HB12 := Lib.hid (HB11.out.trans (hb12.mono HB11.out.size))
      clear hb12
      go_wp2_with fail
      refine (as_int HG.out.e3 (digitSum _ _ _ Hb.out Hnm.out)).mono ?_
      rintro e w13 ⟨rfl, hb13⟩
      have HB13 := Lib.hid (HB12.out.trans (hb13.mono HB12.out.size))
      clear hb13
      go_wp2
      go_ret
      exact ⟨rfl, HB13.out⟩

set_option maxRecDepth 100000 in
theorem lifted (os : Os) (started : os.Started) (H : Type) (enc : TypeId × Value → H) :
    ReturnsInHanded {} Try.checked os 14 .any (Rows.fnSumsSpec.pre6 enc Try.prog Try.f14 Rows.fnSumsRow.domain false) (Rows.fnSumsSpec.post enc Try.prog Try.f14 false true false false) := by
  refine returnsInHanded_of_change (C := Try.checked) own started (by kernel_rfl) Try.func14
    (ChangeSpec.witness6 (enc := enc) (C := Try.checked) false ⟨#[], #[.slice none 0 0], []⟩ 8 (by kernel_rfl) (by kernel_rfl) (by kernel_rfl) (by kernel_rfl)) ?_
  intro W base args ds gs before hval0 hW hcnd _
  have hval : ∀ (j : Nat) t v, Try.f14.params[j]? = some t → args[j]? = some v → Value.okWide Try.prog W .any base t v := hval0
  have hW' := hW
  obtain ⟨p, q, hA0, hV, rfl, hfz, hnd⟩ := hW
  have hA : DataW.TrodAll enc Try.prog W 0 (fun _ => true) true Try.f14.params.toList args.toList ds p := hA0
  rw [Try.params14] at hA hval
  obtain ⟨v0, vs0, d0, ds0, p0, q0, hargs, rfl, rfl, h0, r0⟩ := trodAll_cons hA
  obtain ⟨rfl, rfl, rfl⟩ := trodAll_nil r0
  obtain rfl : args = #[v0] := by cases args; simp_all
  obtain ⟨rfl, rfl⟩ := trodVars_none hV
  obtain ⟨a0, len0, cap0, rfl⟩ := okWide_slice Try.underlying37 (hval 0 37 v0 rfl rfl)
  have k0 := h0
  have lt0 : ∀ x ∈ p0, x.block < W.heap.size := by obtain ⟨m, hm⟩ := k0; exact DataW.trod_lt m _ _ _ hm
  obtain ⟨z0, w0⟩ : ∃ zs, IsRow .u8 W a0 len0 cap0 zs := by
    obtain ⟨fuel, hf⟩ := h0
    rcases open_ints Try.underlying37 Try.underlying5 (by kernel_rfl) hf with ⟨hcs, _⟩ | ⟨x, l, c, zs, hcs, _, hl, hm, hz, _, hcell, hwz⟩
    · simp [Value.cells] at hcs
      obtain ⟨rfl, rfl, rfl⟩ := hcs
      exact ⟨[], .inl ⟨rfl, rfl, rfl, rfl⟩⟩
    · simp [Value.cells] at hcs
      obtain ⟨rfl, rfl, rfl⟩ := hcs
      exact ⟨zs, .inr ⟨_, rfl, hl, hm, by simpa using hz, hcell, hwz⟩⟩
  clear hA0 hval0
  refine (walk a0 len0 cap0 z0 W w0).mono fun e W' ⟨he, bel⟩ => ?_
  subst he
  exact ⟨_, rfl, _, _, _, [], _, [], hW', trodAll_mk1 (shut_bool Try.underlying4 _), (trodAll_cons_mk (Below.trod laidOut (by kernel_rfl) (of_decide_eq_true (by kernel_rfl)) k0 bel lt0) trodAll_mk0), rfl, bel.frame _, fun h => by cases h⟩

theorem over : Rows.fnSumsRow.holds Try.pinned (OpenSpec.ofChange Rows.fnSumsSpec) :=
  OpenClaim.holds_of_wide 14 Try.f14 rfl rfl rfl rfl rfl rfl rfl ⟨rfl, rfl, rfl, rfl, rfl⟩ rfl rfl rfl rfl rfl (by kernel_rfl) Try.func14 (by kernel_rfl)
    (of_decide_eq_true (by kernel_rfl)) (by unfold Func.isWrapper; first | (rw [if_pos (by decide +kernel)]; kernel_rfl) | (rw [if_neg (by decide +kernel)]; exact ⟨rfl, rfl⟩))
    (fun os started H enc _ => lifted os started H enc)

theorem proved : Rows.FnSumsSaid := over
#print axioms proved
end Go.Proofs.Ytioclijkglhigaa.fnSums
