/-
  Contracts of the functions that draw numbers out of a code: only their ranges.
  Conditions: none.
-/
import Derived.Test.YtkddmngbfncocaaDoorSlicesA
import Derived.Deep.DeepCutAuto
import Derived.WalkSmall
namespace Go.Proofs.YtkddmngbfncocaaDoor
open Go.RowKit
theorem and_bd (y : Int) (m : Nat) (hm : m < 4611686018427387904) : 0 ≤ bits BinOp.and .i64 y (m : Int) ∧ bits BinOp.and .i64 y (m : Int) ≤ (m : Int) := by
  have h1 : bits BinOp.and .i64 y (m : Int) = IntKind.i64.wrap (((BitVec.ofInt 64 y &&& BitVec.ofInt 64 (m : Int)).toNat : Nat) : Int) := rfl
  have h2 : (BitVec.ofInt 64 y &&& BitVec.ofInt 64 (m : Int)).toNat ≤ m := by
    rw [BitVec.toNat_and]
    refine Nat.le_trans Nat.and_le_right ?_
    rw [BitVec.toNat_ofInt]
    have e64 : ((2 ^ 64 : Nat) : Int) = 18446744073709551616 := by decide
    have : ((m : Int) % ((2 ^ 64 : Nat) : Int)) = (m : Int) := by rw [e64]; exact Int.emod_eq_of_lt (by omega) (by omega)
    rw [this]; omega
  generalize (BitVec.ofInt 64 y &&& BitVec.ofInt 64 (m : Int)).toNat = z at *
  rw [h1, IntWalk.i64_in _ (by omega)]
  omega
theorem and255 (y : Int) : 0 ≤ bits BinOp.and .i64 y 255 ∧ bits BinOp.and .i64 y 255 ≤ 255 := and_bd y 255 (by omega)
theorem and30 (y : Int) : 0 ≤ bits BinOp.and .i64 y 1073741823 ∧ bits BinOp.and .i64 y 1073741823 ≤ 1073741823 := and_bd y 1073741823 (by omega)
/-- A slice of bytes that came in. -/
def BRd (w : World) (ao : Option Addr) (n cap : Nat) : Prop :=
  n ≤ cap ∧ cap ≤ maxLen ∧ ∀ j, j < n → ∃ b off z, ao = some ⟨b, off, none⟩ ∧ b < w.heap.size ∧ w.cell? ⟨b, off + j, none⟩ = some (.int .u8 z) ∧ 0 ≤ z ∧ z ≤ 255
theorem BRd.below {w w' : World} {ao : Option Addr} {n cap : Nat} (h : BRd w ao n cap) {B : Nat} (hb : Below B w w') (hB : w.heap.size ≤ B) : BRd w' ao n cap := by
  refine ⟨h.1, h.2.1, fun j hj => ?_⟩
  obtain ⟨b, off, z, e, h1, h2, h3, h4⟩ := h.2.2 j hj
  exact ⟨b, off, z, e, Nat.lt_of_lt_of_le h1 hb.size, (hb.cell (p := ⟨b, off + j, none⟩) (by show b < B; omega)).trans h2, h3, h4⟩
/-- A cursor in block g over the slice of bytes, which lies below block B. -/
structure Cur (w : World) (g : Nat) (ao : Option Addr) (n cap : Nat) : Prop where
  code : w.cell? ⟨g, 0, none⟩ = some (.slice ao n cap)
  pos : ∃ i : Nat, i ≤ n ∧ w.cell? ⟨g, 1, none⟩ = some (.int .i64 i)
  hash : ∃ h : Int, w.cell? ⟨g, 2, none⟩ = some (.int .i64 h)
  free : ∀ j, w.frozen? ⟨g, j, none⟩ = false
  bytes : n ≤ cap ∧ cap ≤ maxLen ∧ ∀ j, j < n → ∃ b off z, ao = some ⟨b, off, none⟩ ∧ b < g ∧ w.cell? ⟨b, off + j, none⟩ = some (.int .u8 z) ∧ 0 ≤ z ∧ z ≤ 255
theorem Cur.setOne {w : World} {g n cap : Nat} {ao : Option Addr} (h : Cur w g ao n cap) (k : Nat) (hk : 1 ≤ k) (v : Value)
    (hp : k = 1 → ∃ i : Nat, i ≤ n ∧ v = .int .i64 i) (hh : k = 2 → ∃ x : Int, v = .int .i64 x) : Cur (w.setCell ⟨g, k, none⟩ v) g ao n cap := by
  obtain ⟨h1, ⟨i, hi, h2⟩, ⟨x, h3⟩, h4, h5, h6, h7⟩ := h
  refine ⟨?_, ?_, ?_, ?_, h5, h6, ?_⟩
  · rw [World.cell?_setCell_other]
    · exact h1
    · intro e; simp at e <;> omega
  · by_cases e : k = 1
    · subst e
      obtain ⟨i', hi', rfl⟩ := hp rfl
      exact ⟨i', hi', World.cell?_setCell_same _ _ _ h2⟩
    · refine ⟨i, hi, ?_⟩
      rw [World.cell?_setCell_other]
      · exact h2
      · intro e'; simp at e' <;> omega
  · by_cases e : k = 2
    · subst e
      obtain ⟨x', rfl⟩ := hh rfl
      exact ⟨x', World.cell?_setCell_same _ _ _ h3⟩
    · refine ⟨x, ?_⟩
      rw [World.cell?_setCell_other]
      · exact h3
      · intro e'; simp at e' <;> omega
  · intro j; simpa using h4 j
  · intro j hj
    obtain ⟨b, off, z, e, hb, hc, hz⟩ := h7 j hj
    refine ⟨b, off, z, e, hb, ?_, hz⟩
    rw [World.cell?_setCell_other]
    · exact hc
    · intro e'; simp at e' <;> omega
theorem Cur.drewN {w : World} {g n cap : Nat} {ao : Option Addr} (h : Cur w g ao n cap) (q : Nat) : Cur (w.drewN q) g ao n cap := ⟨h.code, h.pos, h.hash, h.free, h.bytes⟩
theorem IsRow.brd {w : World} {a : Option Addr} {len cap : Nat} {zs : List Int} (h : IsRow .u8 w a len cap zs) : BRd w a len cap := by
  rcases h with ⟨rfl, rfl, rfl, rfl⟩ | ⟨x, rfl, h1, h2, h3, h4, h5⟩
  · exact ⟨Nat.le_refl _, by unfold maxLen; omega, fun j hj => absurd hj (by omega)⟩
  · refine ⟨h1, h2, fun j hj => ?_⟩
    obtain ⟨b, off, spot⟩ := x
    have hc0 := h4 0 (by omega)
    have hspot : spot = none := by simpa [Addr.add] using World.cell?_spot hc0
    subst hspot
    have hc := h4 j (by omega)
    rw [Addr.add_lit] at hc
    have hw := h5 _ (Pl.getD_mem (show j < zs.length by omega))
    have hz : 0 ≤ zs.getD j 0 ∧ zs.getD j 0 ≤ 255 := by
      generalize zs.getD j 0 = z at *
      have e1 : IntKind.u8.min = 0 := by decide
      have e2 : IntKind.u8.max = 255 := by decide
      simp only [Lit.wf, e1, e2, Bool.and_eq_true, decide_eq_true_eq] at hw
      exact hw
    exact ⟨b, off, _, rfl, World.block_lt_of_cell? w _ hc, hc, hz.1, hz.2⟩
def NumP (lo hi : Int) (e : Ending) : Prop := ∃ x : Int, lo ≤ x ∧ x ≤ hi ∧ e = .returned (.int .i64 x)
set_option maxHeartbeats 400000 in
theorem l01Byte (g : Nat) (ao : Option Addr) (n cap : Nat) (B : Nat) (w : World) (hB : B ≤ g) (hc : Cur w g ao n cap) :
    Calls Tryd.prog 30 #[.pointer (some ⟨g, 0, none⟩)] w fun e w' => NumP 0 255 e ∧ Cur w' g ao n cap ∧ Below B w w' := by
  have HC := Lib.hid hc
  obtain ⟨x0, hx0⟩ := hc.hash
  have f2 := hc.free 2
  clear hc
  go_enter Tryd.func30, Tryd.ntmps30
  go_upto_region 1 with fail
  go_cut [2] (fun s2 wx => s2 = .int .i64 0 ∧ Cur wx g ao n cap ∧ Below B w wx)
  case first =>
    go_wp2_with fail
    go_meet
    exact ⟨rfl, HC.out.setOne 2 (by omega) _ (fun h => by omega) (fun _ => ⟨_, rfl⟩), (Below.refl _ _).setCell hB _⟩
  case rest =>
    obtain ⟨rfl, hc, hbel⟩ := hcut
    obtain ⟨x, hx⟩ := hc.hash
    obtain ⟨i, hi, hp⟩ := hc.pos
    have hcode := hc.code
    have f1 := hc.free 1
    have hcap := hc.bytes.1
    have hcap2 := hc.bytes.2.1
    unfold maxLen at hcap2
    have HC2 := Lib.hid hc
    have HB2 := Lib.hid hbel
    by_cases hlt : i < n
    · obtain ⟨b, off, z, rfl, _, hz, z0, z1⟩ := hc.bytes.2.2 i hlt
      clear hc hbel HC hx0 f2
      go_wp2
      go_quiet (fail)
      go_wp2
      go_quiet (fail)
      go_wp2
      go_quiet (fail)
      go_wp2
      go_ret
      exact ⟨⟨_, (and255 _).1, (and255 _).2, rfl⟩, (HC2.out.drewN _).setOne 1 (by omega) _ (fun _ => ⟨i + 1, by omega, by go_num⟩) (fun h => by omega), (below_drewN HB2.out _).setCell hB _⟩
    · obtain rfl : i = n := by omega
      clear hc hbel HC hx0 f2
      go_wp2
      go_quiet (fail)
      go_wp2
      go_quiet (fail)
      go_wp2
      go_ret
      exact ⟨⟨_, (and255 _).1, (and255 _).2, rfl⟩, (HC2.out.drewN _).drewN _, below_drewN (below_drewN HB2.out _) _⟩
theorem BRd.cur {w : World} {ao : Option Addr} {n cap : Nat} (h : BRd w ao n cap) (x : Int) :
    Cur (w.alloc (.cells #[.slice ao n cap, .int .i64 0, .int .i64 x] 47)) w.heap.size ao n cap := by
  refine ⟨?_, ⟨0, Nat.zero_le _, ?_⟩, ⟨x, ?_⟩, ?_, h.1, h.2.1, fun j hj => ?_⟩
  · rw [World.cell?_alloc_at _ _ _ _ rfl]; rfl
  · rw [World.cell?_alloc_at _ _ _ _ rfl]; rfl
  · rw [World.cell?_alloc_at _ _ _ _ rfl]; rfl
  · intro j; simp
  · obtain ⟨b, off, z, e, hb, hc, hz⟩ := h.2.2 j hj
    exact ⟨b, off, z, e, hb, by rw [World.cell?_alloc_past _ _ _ (by simpa using hb)]; exact hc, hz⟩
def NewP (w w' : World) (ao : Option Addr) (n cap : Nat) (e : Ending) : Prop := ∃ g : Nat, e = .returned (.pointer (some ⟨g, 0, none⟩)) ∧ w.heap.size ≤ g ∧ Cur w' g ao n cap
set_option maxRecDepth 100000 in
theorem l01New (ao : Option Addr) (n cap : Nat) (w : World) (hr : BRd w ao n cap) (hn : n ≤ 1048576) :
    Calls Tryd.prog 34 #[.slice ao n cap] w fun e w' => NewP w w' ao n cap e ∧ Below w.heap.size w w' := by
  have HR := Lib.hid hr
  have hcap := hr.1
  have hcap2 := hr.2.1
  unfold maxLen at hcap2
  clear hr
  go_enter Tryd.func34, Tryd.ntmps34
  go_wp2
  go_loop [3, 4] (fun vh vi => ∃ (x : Int) (k : Nat), 0 ≤ x ∧ x ≤ 1073741823 ∧ k ≤ n ∧ vh = .int .i64 x ∧ vi = .int .i64 k) (fun _ vi => n - (intOf vi).toNat)
  case atStart => exact ⟨2140 + (n : Int), 0, by omega, by omega, Nat.zero_le _, rfl, rfl⟩
  case round =>
    obtain ⟨x, k, x0, x1, hk, rfl, rfl⟩ := hrel
    by_cases hlt : k < n
    · obtain ⟨b, off, z, rfl, _, hz, z0, z1⟩ := HR.out.2.2 k hlt
      by_cases h4 : k < 4000
      · have ha := and30 (x * 151 + z + 7)
        go_wp2
        go_round
        case rel => exact ⟨_, k + 1, ha.1, ha.2, by omega, rfl, by go_num⟩
        case measure => simp [intOf]; omega
      · go_wp2
        go_ret
        exact ⟨⟨_, rfl, Nat.le_refl _, HR.out.cur _⟩, (Below.refl _ _).alloc (Nat.le_refl _) _⟩
    · obtain rfl : k = n := by omega
      go_wp2
      go_ret
      exact ⟨⟨_, rfl, Nat.le_refl _, HR.out.cur _⟩, (Below.refl _ _).alloc (Nat.le_refl _) _⟩
theorem l31New (ao : Option Addr) (n cap : Nat) (k : Int) (w : World) (hr : BRd w ao n cap) (hn : n ≤ 1048576) (k0 : 0 ≤ k) (k1 : k ≤ 100) :
    Calls Tryd.prog 25 #[.slice ao n cap, .int .i64 k] w fun e w' => NewP w w' ao n cap e ∧ Below w.heap.size w w' := by
  obtain ⟨m, rfl⟩ := Int.eq_ofNat_of_zero_le k0
  go_enter Tryd.func25, Tryd.ntmps25
  go_wp2_with fail
  refine (l01New _ _ _ _ hr hn).mono ?_
  rintro e w1 ⟨⟨g, rfl, hg, hc⟩, hb1⟩
  clear hr
  go_wp2
  go_loopw [6] (fun vi wr => ∃ (j : Nat), j ≤ m ∧ vi = .int .i64 j ∧ Cur wr g ao n cap ∧ Below w.heap.size w wr) (fun vi _ => m - (intOf vi).toNat)
  case atStart => exact ⟨0, Nat.zero_le _, rfl, hc, hb1⟩
  case round =>
    obtain ⟨j, hj, rfl, hc', hbel⟩ := hrel
    have HC := Lib.hid hc'
    have HB := Lib.hid hbel
    clear hc hb1 hc' hbel
    by_cases hlt : j < m
    · go_wp2_with fail
      refine (l01Byte g ao n cap w.heap.size _ hg HC.out).mono ?_
      rintro e w2 ⟨⟨x, x0, x1, rfl⟩, hc2, hb2⟩
      have HC2 := Lib.hid hc2
      have HB2 := Lib.hid (HB.out.trans hb2)
      clear hc2 hb2
      go_wp2
      go_roundw
      case rel => exact ⟨j + 1, by omega, by go_num, HC2.out, HB2.out⟩
      case measure => simp [intOf]; omega
    · go_wp2
      go_ret
      exact ⟨⟨g, rfl, hg, HC.out⟩, HB.out⟩
theorem makeNum (ao : Option Addr) (n cap : Nat) (k : Int) (w : World) (hr : BRd w ao n cap) (hn : n ≤ 1048576) (k0 : 0 ≤ k) (k1 : k ≤ 100) :
    Calls Tryd.prog 12 #[.slice ao n cap, .int .i64 k] w fun e w' => NumP 0 65535 e ∧ Below w.heap.size w w' := by
  go_enter Tryd.func12, Tryd.ntmps12
  go_wp2_with fail
  refine (l31New _ _ _ _ _ hr hn k0 k1).mono ?_
  rintro e w1 ⟨⟨g, rfl, hg, hc⟩, hb1⟩
  have HB := Lib.hid hb1
  clear hr hb1
  go_wp2_with fail
  refine (l01Byte g ao n cap w.heap.size _ hg hc).mono ?_
  rintro e w2 ⟨⟨x, x0, x1, rfl⟩, hc2, hb2⟩
  have HB2 := Lib.hid (HB.out.trans hb2)
  clear hc hb2
  go_wp2_with fail
  refine (l01Byte g ao n cap w.heap.size _ hg hc2).mono ?_
  rintro e w3 ⟨⟨y, y0, y1, rfl⟩, hc3, hb3⟩
  have HB3 := Lib.hid (HB2.out.trans hb3)
  clear hc2 hb3 hc3
  go_wp2
  go_ret
  exact ⟨⟨_, by omega, by omega, rfl⟩, HB3.out⟩
theorem l01Below (g : Nat) (ao : Option Addr) (n cap : Nat) (B : Nat) (k : Int) (w : World) (hB : B ≤ g) (hc : Cur w g ao n cap) (k0 : 1 ≤ k) (k1 : k ≤ 256) :
    Calls Tryd.prog 26 #[.pointer (some ⟨g, 0, none⟩), .int .i64 k] w fun e w' => NumP 0 (k - 1) e ∧ Cur w' g ao n cap ∧ Below B w w' := by
  go_enter Tryd.func26, Tryd.ntmps26
  go_wp2_with fail
  refine (l01Byte g ao n cap B _ hB hc).mono ?_
  rintro e w1 ⟨⟨x, x0, x1, rfl⟩, hc2, hb2⟩
  have HC := Lib.hid hc2
  have HB := Lib.hid hb2
  clear hc hc2 hb2
  have m0 := Pl.mod_nn (a := x) (show 0 < k by omega)
  have m1 := Pl.mod_lt (a := x) (show 0 < k by omega)
  go_wp2
  go_ret
  exact ⟨⟨_, m0, by omega, rfl⟩, HC.out, HB.out⟩
theorem l01BelowBig (g : Nat) (ao : Option Addr) (n cap : Nat) (B : Nat) (k : Int) (w : World) (hB : B ≤ g) (hc : Cur w g ao n cap) (k0 : 257 ≤ k) (k1 : k ≤ 1000000) :
    Calls Tryd.prog 26 #[.pointer (some ⟨g, 0, none⟩), .int .i64 k] w fun e w' => NumP 0 (k - 1) e ∧ Cur w' g ao n cap ∧ Below B w w' := by
  go_enter Tryd.func26, Tryd.ntmps26
  go_wp2_with fail
  refine (l01Byte g ao n cap B _ hB hc).mono ?_
  rintro e w1 ⟨⟨x, x0, x1, rfl⟩, hc1, hb1⟩
  have HB1 := Lib.hid hb1
  clear hc hb1
  go_wp2_with fail
  refine (l01Byte g ao n cap B _ hB hc1).mono ?_
  rintro e w2 ⟨⟨y, y0, y1, rfl⟩, hc2, hb2⟩
  have HB2 := Lib.hid (HB1.out.trans hb2)
  clear hc1 hb2
  go_wp2_with fail
  refine (l01Byte g ao n cap B _ hB hc2).mono ?_
  rintro e w3 ⟨⟨z, z0, z1, rfl⟩, hc3, hb3⟩
  have HB3 := Lib.hid (HB2.out.trans hb3)
  clear hc2 hb3
  go_wp2_with fail
  refine (l01Byte g ao n cap B _ hB hc3).mono ?_
  rintro e w4 ⟨⟨v, v0, v1, rfl⟩, hc4, hb4⟩
  have HB4 := Lib.hid (HB3.out.trans hb4)
  have HC := Lib.hid hc4
  clear hc3 hb4 hc4
  have m0 := Pl.mod_nn (a := x * 16777216 + y * 65536 + z * 256 + v) (show 0 < k by omega)
  have m1 := Pl.mod_lt (a := x * 16777216 + y * 65536 + z * 256 + v) (show 0 < k by omega)
  go_wp2
  go_ret
  exact ⟨⟨_, m0, by omega, rfl⟩, HC.out, HB4.out⟩
def BoolP (e : Ending) : Prop := ∃ q : Bool, e = .returned (.bool q)
theorem l01Once (g : Nat) (ao : Option Addr) (n cap : Nat) (B : Nat) (k : Int) (w : World) (hB : B ≤ g) (hc : Cur w g ao n cap) (k0 : 1 ≤ k) (k1 : k ≤ 256) :
    Calls Tryd.prog 27 #[.pointer (some ⟨g, 0, none⟩), .int .i64 k] w fun e w' => BoolP e ∧ Cur w' g ao n cap ∧ Below B w w' := by
  go_enter Tryd.func27, Tryd.ntmps27
  go_wp2_with fail
  refine (l01Below g ao n cap B _ _ hB hc k0 k1).mono ?_
  rintro e w1 ⟨⟨x, x0, x1, rfl⟩, hc2, hb2⟩
  have HC := Lib.hid hc2
  have HB := Lib.hid hb2
  clear hc hc2 hb2
  obtain ⟨q, hq⟩ : ∃ q, (x == 0) = q := ⟨_, rfl⟩
  go_wp2
  go_ret
  exact ⟨⟨_, rfl⟩, HC.out, HB.out⟩
theorem makeNumber (ao : Option Addr) (n cap : Nat) (k : Int) (w : World) (hr : BRd w ao n cap) (hn : n ≤ 1048576) (k0 : 0 ≤ k) (k1 : k ≤ 100) :
    Calls Tryd.prog 10 #[.slice ao n cap, .int .i64 k] w fun e w' => NumP 0 9999999999 e ∧ Below w.heap.size w w' := by
  go_enter Tryd.func10, Tryd.ntmps10
  go_wp2_with fail
  refine (l31New _ _ _ _ _ hr hn k0 k1).mono ?_
  rintro e w1 ⟨⟨g, rfl, hg, hc⟩, hb1⟩
  have HB := Lib.hid hb1
  clear hr hb1
  go_wp2_with fail
  refine (l01Below g ao n cap w.heap.size 100 _ hg hc (by omega) (by omega)).mono ?_
  rintro e w2 ⟨⟨x, x0, x1, rfl⟩, hc2, hb2⟩
  have HB2 := Lib.hid (HB.out.trans hb2)
  clear hc hb2
  go_wp2_with fail
  refine (l01Once g ao n cap w.heap.size 2 _ hg hc2 (by omega) (by omega)).mono ?_
  rintro e w3 ⟨⟨q, rfl⟩, hc3, hb3⟩
  have HB3 := Lib.hid (HB2.out.trans hb3)
  clear hc2 hb3
  cases q with
  | false =>
    go_wp2_with fail
    refine (l01Once g ao n cap w.heap.size 3 _ hg hc3 (by omega) (by omega)).mono ?_
    rintro e w4 ⟨⟨q2, rfl⟩, hc4, hb4⟩
    have HB4 := Lib.hid (HB3.out.trans hb4)
    clear hc3 hb4
    cases q2 with
    | false =>
      clear hc4
      go_wp2
      go_ret
      exact ⟨⟨_, by omega, by omega, rfl⟩, HB4.out⟩
    | true =>
      go_wp2_with fail
      refine (l01BelowBig g ao n cap w.heap.size 100000 _ hg hc4 (by omega) (by omega)).mono ?_
      rintro e w5 ⟨⟨z, z0, z1, rfl⟩, _, hb5⟩
      have HB5 := Lib.hid (HB4.out.trans hb5)
      clear hc4 hb5
      go_wp2
      go_ret
      exact ⟨⟨_, by omega, by omega, rfl⟩, HB5.out⟩
  | true =>
    go_wp2_with fail
    refine (l01BelowBig g ao n cap w.heap.size 1000 _ hg hc3 (by omega) (by omega)).mono ?_
    rintro e w3' ⟨⟨y, y0, y1, rfl⟩, hc3', hb3'⟩
    have HB3' := Lib.hid (HB3.out.trans hb3')
    clear hc3 hb3'
    go_wp2_with fail
    refine (l01Once g ao n cap w.heap.size 3 _ hg hc3' (by omega) (by omega)).mono ?_
    rintro e w4 ⟨⟨q2, rfl⟩, hc4, hb4⟩
    have HB4 := Lib.hid (HB3'.out.trans hb4)
    clear hc3' hb4
    cases q2 with
    | false =>
      clear hc4
      go_wp2
      go_ret
      exact ⟨⟨_, by omega, by omega, rfl⟩, HB4.out⟩
    | true =>
      go_wp2_with fail
      refine (l01BelowBig g ao n cap w.heap.size 100000 _ hg hc4 (by omega) (by omega)).mono ?_
      rintro e w5 ⟨⟨z, z0, z1, rfl⟩, _, hb5⟩
      have HB5 := Lib.hid (HB4.out.trans hb5)
      clear hc4 hb5
      go_wp2
      go_ret
      exact ⟨⟨_, by omega, by omega, rfl⟩, HB5.out⟩
end Go.Proofs.YtkddmngbfncocaaDoor
