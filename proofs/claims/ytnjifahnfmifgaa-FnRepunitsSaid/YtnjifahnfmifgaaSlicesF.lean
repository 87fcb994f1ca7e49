/-
  Contracts of the functions that mark slices and look at the marks.
  Conditions: the sizes that each contract names.
-/
import Derived.Test.YtnjifahnfmifgaaSlicesC
import Derived.Test.YtnjifahnfmifgaaSlicesE
namespace Go.Proofs.Ytnjifahnfmifgaa
open Go.RowKit
theorem madeZ (n : Nat) : (madeCells (Value.int .i64 0).cells (n * 1)).toList = vs (List.replicate n 0) := by
  rw [Nat.mul_one]
  show (madeCells #[.int .i64 0] n).toList = _
  rw [toList_madeCells_one]; simp [vs]
theorem fill_step {xs : List Int} {n k : Nat} {f : Nat → Int} (hl : xs.length = n) (hk : k < n) (h : ∀ j, j < k → xs.getD j 0 = f j) : ∀ j, j < k + 1 → (xs.set k (f k)).getD j 0 = f j := by
  intro j hj
  rw [getD_set (by omega)]
  by_cases e : k = j
  · rw [if_pos e, e]
  · rw [if_neg e]; exact h j (by omega)
/-- The numbers from k on, n of them. -/
def cntL (k : Int) (n : Nat) : List Int := (List.range n).map fun (j : Nat) => k + (j : Int)
theorem cntL_len (k : Int) (n : Nat) : (cntL k n).length = n := by simp [cntL]
theorem cntL_get {k : Int} {n j : Nat} (h : j < n) : (cntL k n).getD j 0 = k + j := by
  simp [cntL, List.getD_eq_getElem?_getD, h]
section
variable {ops : Array Oper} {rest : List Oper} {o : Oper} {a : Act} {Q : Exit → Act → World → Prop}
theorem wp_makeZ (w : World) (n : Nat) (hn : n ≤ 1000000000000) (hgd : o.guard = none) (l c : Operand) (hop : o.op = Op.makeSlice 27 l c)
    (hl : a.eval l = .int .i64 (n : Int)) (hc : a.eval c = .int .i64 (n : Int))
    (h : ∀ w', Own w' w.heap.size (.slice (some ⟨w.heap.size, 0, none⟩) n n) (List.replicate n 0) → Below w.heap.size w w' → w.heap.size < w'.heap.size → wpList Try.prog ops Q rest (a.put o.dst (.slice (some ⟨w.heap.size, 0, none⟩) n n)) w') :
    wpList Try.prog ops Q (o :: rest) a w := by
  obtain ⟨i0, hi, hz0, hz1, hz2⟩ := info_parts Try.infoI
  refine wpList_make_full w hgd l c 27 hop w.heap.size 3 i0 (.int .i64 0) 1 Try.underlying27 hi hz0 hz1 .i64 .i64 n n n hl hc rfl rfl (by rw [hz2]; omega) (by unfold maxLen; omega) (Nat.le_refl _) ?_
  intro w' h1 h2
  rw [madeZ] at h1
  have hown : Own w' w.heap.size (.slice (some ⟨w.heap.size, 0, none⟩) n n) (List.replicate n 0) := by
    show World.ownsRow _ _ _ _ _ _ _
    rw [List.length_replicate]; exact h1
  refine h w' hown ((Below.refl _ _).grown h2 (Nat.le_refl _) (fun k hk => by cases hk)) ?_
  exact (World.ownsRow.lt h1 w.heap.size rfl).2
end
theorem Own.rd {w : World} {B n cap : Nat} {ao : Option Addr} {l : List Int} (h : Own w B (.slice ao n cap) l) : Rd w ao cap l := by
  obtain ⟨ao', cap', e, hr⟩ := h.shape
  simp only [Value.slice.injEq] at e
  obtain ⟨rfl, _, rfl⟩ := e
  exact hr
theorem grown_trans {a b c : World} {row : Option Nat} (h : a.grownBy b row) (k : b.grownBy c row) : a.grownBy c row :=
  ⟨k.os.trans h.os, k.tape.trans h.tape, k.output.trans h.output, Nat.le_trans h.size k.size, fun i hi hr => (k.block i (Nat.lt_of_lt_of_le hi h.size) hr).trans (h.block i hi hr)⟩
theorem own_grown {w : World} {B g n cap : Nat} {l : List Int} (h : Own w B (.slice (some ⟨g, 0, none⟩) n cap) l) (j : Nat) (d : Int) : w.grownBy (w.setCell ⟨g, j, none⟩ (.int .i64 d)) (some g) := by
  have hn : n = l.length := by
    obtain ⟨ao, c, e, _⟩ := h.shape
    simp at e; exact e.2.1
  subst hn
  exact (World.ownsRow.stored h j (.int .i64 d)).2
/-- What is owned in blocks beyond another slice's stays while that slice is written. -/
theorem Own.beside {w w' : World} {B C : Nat} {v u : Value} {l : List Int} (h : Own w B v l) (hg : w.grownBy w' u.ownBlock) (hu : ∀ k, u.ownBlock = some k → k < C) (hC : C ≤ B) : Own w' B v l := by
  refine World.ownsRow.kept h hg ?_
  cases hv : v.ownBlock with
  | none => exact .inl rfl
  | some k =>
    right
    intro e
    have h1 := (World.ownsRow.lt h k hv).1
    have h2 := hu k e.symm
    omega
theorem Own.lt {w : World} {B : Nat} {v : Value} {l : List Int} (h : Own w B v l) : ∀ k, v.ownBlock = some k → k < w.heap.size := fun k hk => (World.ownsRow.lt h k hk).2
end Go.Proofs.Ytnjifahnfmifgaa
