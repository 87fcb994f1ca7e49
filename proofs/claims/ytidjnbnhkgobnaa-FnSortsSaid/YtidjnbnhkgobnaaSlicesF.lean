/-
  Contracts of the functions that mark slices and look at the marks.
  Conditions: the sizes that each contract names.
-/
import Derived.Test.YtidjnbnhkgobnaaSlicesC
import Derived.Test.YtidjnbnhkgobnaaSlicesE
namespace Go.Proofs.Ytidjnbnhkgobnaa
open Go.RowKit
theorem madeZ (n : Nat) : (madeCells (Value.int .i64 0).cells (n * 1)).toList = vs (List.replicate n 0) := by
  rw [Nat.mul_one]
  show (madeCells #[.int .i64 0] n).toList = _
  rw [toList_madeCells_one]; simp [vs]
theorem fill_step {xs : List Int} {n k : Nat} {f : Nat → Int} (hl : xs.length = n) (hk : k < n) (h : ∀ j, j < k → xs.getD j 0 = f j) : ∀ j, j < k + 1 → (xs.set k (f k)).getD j 0 = f j := by
  intro j hj
  rw [getD_set (by omega)]
  by_cases e : k = j
  · rw [if_pos e, e]
  · rw [if_neg e]; exact h j (by omega)
/-- The numbers from k on, n of them. -/
def cntL (k : Int) (n : Nat) : List Int := (List.range n).map fun (j : Nat) => k + (j : Int)
theorem cntL_len (k : Int) (n : Nat) : (cntL k n).length = n := by simp [cntL]
theorem cntL_get {k : Int} {n j : Nat} (h : j < n) : (cntL k n).getD j 0 = k + j := by
  simp [cntL, List.getD_eq_getElem?_getD, h]
section
variable {ops : Array Oper} {rest : List Oper} {o : Oper} {a : Act} {Q : Exit → Act → World → Prop}
theorem wp_makeZ (w : World) (n : Nat) (hn : n ≤ 1000000000000) (hgd : o.guard = none) (l c : Operand) (hop : o.op = Op.makeSlice 22 l c)
    (hl : a.eval l = .int .i64 (n : Int)) (hc : a.eval c = .int .i64 (n : Int))
    (h : ∀ w', Own w' w.heap.size (.slice (some ⟨w.heap.size, 0, none⟩) n n) (List.replicate n 0) → Below w.heap.size w w' → w.heap.size < w'.heap.size → wpList Try.prog ops Q rest (a.put o.dst (.slice (some ⟨w.heap.size, 0, none⟩) n n)) w') :
    wpList Try.prog ops Q (o :: rest) a w := by
  obtain ⟨i0, hi, hz0, hz1, hz2⟩ := info_parts Try.infoI
  refine wpList_make_full w hgd l c 22 hop w.heap.size 3 i0 (.int .i64 0) 1 Try.underlying22 hi hz0 hz1 .i64 .i64 n n n hl hc rfl rfl (by rw [hz2]; omega) (by unfold maxLen; omega) (Nat.le_refl _) ?_
  intro w' h1 h2
  rw [madeZ] at h1
  have hown : Own w' w.heap.size (.slice (some ⟨w.heap.size, 0, none⟩) n n) (List.replicate n 0) := by
    show World.ownsRow _ _ _ _ _ _ _
    rw [List.length_replicate]; exact h1
  refine h w' hown ((Below.refl _ _).grown h2 (Nat.le_refl _) (fun k hk => by cases hk)) ?_
  exact (World.ownsRow.lt h1 w.heap.size rfl).2
end
theorem Own.rd {w : World} {B n cap : Nat} {ao : Option Addr} {l : List Int} (h : Own w B (.slice ao n cap) l) : Rd w ao cap l := by
  obtain ⟨ao', cap', e, hr⟩ := h.shape
  simp only [Value.slice.injEq] at e
  obtain ⟨rfl, _, rfl⟩ := e
  exact hr
theorem grown_trans {a b c : World} {row : Option Nat} (h : a.grownBy b row) (k : b.grownBy c row) : a.grownBy c row :=
  ⟨k.os.trans h.os, k.tape.trans h.tape, k.output.trans h.output, Nat.le_trans h.size k.size, fun i hi hr => (k.block i (Nat.lt_of_lt_of_le hi h.size) hr).trans (h.block i hi hr)⟩
theorem own_grown {w : World} {B g n cap : Nat} {l : List Int} (h : Own w B (.slice (some ⟨g, 0, none⟩) n cap) l) (j : Nat) (d : Int) : w.grownBy (w.setCell ⟨g, j, none⟩ (.int .i64 d)) (some g) := by
  have hn : n = l.length := by
    obtain ⟨ao, c, e, _⟩ := h.shape
    simp at e; exact e.2.1
  subst hn
  exact (World.ownsRow.stored h j (.int .i64 d)).2
/-- What is owned in blocks beyond another slice's stays while that slice is written. -/
theorem Own.beside {w w' : World} {B C : Nat} {v u : Value} {l : List Int} (h : Own w B v l) (hg : w.grownBy w' u.ownBlock) (hu : ∀ k, u.ownBlock = some k → k < C) (hC : C ≤ B) : Own w' B v l := by
  refine World.ownsRow.kept h hg ?_
  cases hv : v.ownBlock with
  | none => exact .inl rfl
  | some k =>
    right
    intro e
    have h1 := (World.ownsRow.lt h k hv).1
    have h2 := hu k e.symm
    omega
theorem Own.lt {w : World} {B : Nat} {v : Value} {l : List Int} (h : Own w B v l) : ∀ k, v.ownBlock = some k → k < w.heap.size := fun k hk => (World.ownsRow.lt h k hk).2
theorem markIntS (l : List Int) (v : Value) (k0 : Int) (B : Nat) (w : World) (hown : Own w B v l) (hl : l.length ≤ 1000000000000) (h0 : 0 ≤ k0) (h1 : k0 ≤ 1000000000000) :
    Calls Try.prog 13 #[v, .int .i64 k0] w fun e w' => e = .returned (.int .i64 (k0 + l.length)) ∧ Own w' B v (cntL k0 l.length) ∧ Below B w w' ∧ w.grownBy w' v.ownBlock := by
  rcases hown.forms with ⟨rfl, rfl⟩ | ⟨g, cap, rfl, hBg, hg, hcap, hcap2⟩
  · go_enter Try.func13, Try.ntmps13
    go_wp2
    refine wp_loop_rounds 1 ?_
    rw [rounds_succ]
    go_wp2
    go_ret
    exact ⟨ret_int (by simp), hown, Below.refl _ _, World.grownBy.refl _ _⟩
  · unfold maxLen at hcap2
    go_enter Try.func13, Try.ntmps13
    go_wp2
    go_loopw [1, 5] (fun vk vi wr => ∃ (k : Nat) (xs : List Int), k ≤ l.length ∧ vi = .int .i64 k ∧ vk = .int .i64 (k0 + k) ∧ Hid (xs.length = l.length) ∧ Own wr B (.slice (some ⟨g, 0, none⟩) l.length cap) xs ∧ Hid (∀ j, j < k → xs.getD j 0 = k0 + j) ∧ Below B w wr ∧ w.grownBy wr (some g)) (fun _ vi _ => l.length - (intOf vi).toNat)
    case atStart => exact ⟨0, l, Nat.zero_le _, rfl, by simp, rfl, hown, (fun j hj => absurd hj (by omega)), Below.refl _ _, World.grownBy.refl _ _⟩
    case round =>
      obtain ⟨k, xs, hk, rfl, rfl, hxl, hown', hx, hbel, hgr⟩ := hrel
      by_cases hlt : k < l.length
      · have hcell := hown'.cellAt (show k < xs.length by rw [hxl.out]; exact hlt)
        have hfree := hown'.free k
        have HS := Lib.hid (fill_step (f := fun j => k0 + (j : Int)) hxl.out hlt hx.out)
        have HO := Lib.hid hown'
        clear hown' hown
        generalize xs.getD k 0 = d0 at *
        go_wp2
        go_roundw
        case rel =>
          have o1 := HO.out.set k (k0 + k)
          exact ⟨k + 1, xs.set k (k0 + k), by omega, by go_num, by congr 1; omega, by rw [Hid, List.length_set]; exact hxl.out, o1.1, HS.out, hbel.trans o1.2, grown_trans hgr (own_grown HO.out k (k0 + k))⟩
        case measure => simp [intOf]; omega
      · have HE := Lib.hid (show xs = cntL k0 l.length from eq_of_get (by rw [hxl.out, cntL_len]) (fun j hj => by rw [hx.out j (by have := hxl.out; omega), cntL_get (by have := hxl.out; omega)]))
        obtain rfl : k = l.length := by omega
        go_wp2
        go_ret
        exact ⟨rfl, by rw [← HE.out]; exact hown', hbel, hgr⟩
theorem heldIntS (n ln : Nat) (hln : ln = n) (ao : Option Addr) (cap : Nat) (k0 : Int) (w : World) (hr : Rd w ao cap (cntL k0 n)) (hl : n ≤ 1000000000000) (h0 : 0 ≤ k0) (h1 : k0 ≤ 1000000000000) :
    Calls Try.prog 14 #[.slice ao ln cap, .int .i64 k0] w fun e w' => e = .returned (.int .i64 (k0 + n)) ∧ w = w' := by
  subst hln
  have HR := Lib.hid hr
  clear hr
  go_enter Try.func14, Try.ntmps14
  go_wp2
  go_loop [1, 5] (fun vk vi => ∃ (k : Nat), k ≤ ln ∧ vi = .int .i64 k ∧ vk = .int .i64 (k0 + k)) (fun _ vi => ln - (intOf vi).toNat)
  case atStart => exact ⟨0, Nat.zero_le _, rfl, by simp⟩
  case round =>
    obtain ⟨k, hk, rfl, rfl⟩ := hrel
    by_cases hlt : k < ln
    · obtain ⟨b, off, rfl, hb, hc⟩ := HR.out.at (show k < (cntL k0 ln).length by rw [cntL_len]; exact hlt)
      rw [cntL_get hlt] at hc
      have hne : (k0 + (k : Int) != k0 + k) = false := by simp
      go_wp2
      go_round
      case rel => exact ⟨k + 1, by omega, by go_num, by congr 1; omega⟩
      case measure => simp [intOf]; omega
    · obtain rfl : k = ln := by omega
      go_wp2
      go_ret
      exact ⟨rfl, rfl⟩
end Go.Proofs.Ytidjnbnhkgobnaa
