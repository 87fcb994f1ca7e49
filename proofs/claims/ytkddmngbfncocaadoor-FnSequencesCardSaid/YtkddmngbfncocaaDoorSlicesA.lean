/-
  What a slice of integers reads as, and how that is carried on.
  Conditions: none.
-/
import Derived.Test.YtkddmngbfncocaaDoorDigits
import Derived.Test.YtkddmngbfncocaaDoorPow
import Derived.Laws.AppendOwnNone
namespace Go.Proofs.YtkddmngbfncocaaDoor
open Go.RowKit

/-- A slice that came in: nil, or a row of cells that hold the numbers zs. -/
def IsRow (k : IntKind) (w : World) (a : Option Addr) (len cap : Nat) (zs : List Int) : Prop :=
  (a = none ∧ len = 0 ∧ cap = 0 ∧ zs = []) ∨
  ∃ x, a = some x ∧ len ≤ cap ∧ cap ≤ maxLen ∧ zs.length = cap ∧ (∀ i, i < zs.length → w.cell? (x.add i) = some (.int k (zs.getD i 0))) ∧ ∀ n ∈ zs, (Lit.int k n).wf = true

/-- The values of a list of integers. -/
def vs (l : List Int) : List Value := l.map (Value.int .i64)
theorem vs_len (l : List Int) : (vs l).length = l.length := by simp [vs]
theorem vs_get (l : List Int) (j : Nat) (h : j < l.length) : (vs l)[j]? = some (.int .i64 (l.getD j 0)) := by
  simp [vs, List.getElem?_map, List.getElem?_eq_getElem h, List.getD_eq_getElem?_getD]
theorem vs_append (l m : List Int) : vs (l ++ m) = vs l ++ vs m := by simp [vs]
theorem vs_one (l : List Int) : ∀ u ∈ vs l, u.oneCell' = true := ints_oneCell .i64 l

/-- The slice (ao, n, cap) reads as the list l. -/
def Rd (w : World) (ao : Option Addr) (cap : Nat) (l : List Int) : Prop :=
  l.length ≤ cap ∧ cap ≤ maxLen ∧ (ao = none → cap = 0) ∧ (l = [] ∨ ∃ b off, ao = some ⟨b, off, none⟩ ∧ b < w.heap.size ∧ ∀ j, j < l.length → w.cell? ⟨b, off + j, none⟩ = some (.int .i64 (l.getD j 0)))

theorem Rd.below {w w' : World} {ao : Option Addr} {cap : Nat} {l : List Int} (h : Rd w ao cap l) {B : Nat} (hb : Below B w w') (hB : w.heap.size ≤ B) : Rd w' ao cap l := by
  obtain ⟨h1, h2, h4, h3⟩ := h
  refine ⟨h1, h2, h4, ?_⟩
  rcases h3 with h3 | ⟨b, off, e, hl, hc⟩
  · exact .inl h3
  · exact .inr ⟨b, off, e, Nat.lt_of_lt_of_le hl hb.size, fun j hj => (hb.cell (p := ⟨b, off + j, none⟩) (by show b < B; omega)).trans (hc j hj)⟩

/-- A slice value that the call itself owns from block B on, and that holds the list l. -/
def Own (w : World) (B : Nat) (v : Value) (l : List Int) : Prop := w.ownsRow B 3 1 v l.length (vs l)

theorem own_nil (w : World) (B : Nat) : Own w B (.slice none 0 0) [] := World.ownsRow_nil _ _ _ _

theorem Own.shape {w : World} {B : Nat} {v : Value} {l : List Int} (h : Own w B v l) : ∃ ao cap, v = .slice ao l.length cap ∧ Rd w ao cap l := by
  rcases h.2 with ⟨rfl, h0⟩ | ⟨g, cap, cur, rfl, _, hg, hn, hc, _, _⟩
  · refine ⟨none, 0, by rw [h0], by omega, by unfold maxLen; omega, fun _ => rfl, .inl (List.eq_nil_of_length_eq_zero h0)⟩
  · refine ⟨_, cap, rfl, hn, hc, fun h => by simp at h, .inr ⟨g, 0, rfl, (Array.getElem?_eq_some_iff.1 hg).1, fun j hj => ?_⟩⟩
    have := World.ownsRow.cellAt h j (by omega)
    rw [Nat.zero_add, this]
    exact vs_get l j hj

theorem Own.below {w w' : World} {B : Nat} {v : Value} {l : List Int} (h : Own w B v l) {C : Nat} (hb : Below C w w') (hC : w.heap.size ≤ C) : Own w' B v l := by
  refine World.ownsRow.kept h (row := none) ⟨hb.os, hb.tape, hb.output, hb.size, fun k hk _ => hb.block k (by omega)⟩ ?_
  cases hv : v.ownBlock <;> simp

theorem Own.mono {w : World} {B C : Nat} {v : Value} {l : List Int} (h : Own w B v l) (hC : C ≤ B) : Own w C v l := by
  refine ⟨h.1, ?_⟩
  rcases h.2 with h2 | ⟨g, cap, cur, rfl, h3, rest⟩
  · exact .inl h2
  · exact .inr ⟨g, cap, cur, rfl, by omega, rest⟩

theorem Tryd.infoI : (Tryd.prog.info? 3).map (fun i => (i.zero, i.size, i.bytes)) = some (some (.int .i64 0), 1, 8) := by kernel_rfl

theorem IsRow.rd {w : World} {a : Option Addr} {len cap : Nat} {zs : List Int} (h : IsRow .i64 w a len cap zs) : Rd w a cap (zs.take len) ∧ (zs.take len).length = len := by
  rcases h with ⟨rfl, rfl, rfl, rfl⟩ | ⟨x, rfl, h1, h2, h3, h4, _⟩
  · exact ⟨⟨by simp, by unfold maxLen; omega, fun _ => rfl, .inl rfl⟩, rfl⟩
  · have hl : (zs.take len).length = len := by rw [List.length_take]; omega
    refine ⟨⟨by omega, h2, fun h => by simp at h, ?_⟩, hl⟩
    by_cases h0 : len = 0
    · subst h0; exact .inl rfl
    · obtain ⟨b, off, spot⟩ := x
      have hc := h4 0 (by omega)
      have hspot : spot = none := by simpa [Addr.add] using World.cell?_spot hc
      subst hspot
      refine .inr ⟨b, off, rfl, World.block_lt_of_cell? w _ hc, fun j hj => ?_⟩
      have := h4 j (by omega)
      rw [Addr.add_lit] at this
      rw [this, List.getD_eq_getElem?_getD, List.getD_eq_getElem?_getD, List.getElem?_take, if_pos (by omega)]

theorem Own.set {w : World} {B g n cap : Nat} {l : List Int} (h : Own w B (.slice (some ⟨g, 0, none⟩) n cap) l) (j : Nat) (d : Int) :
    Own (w.setCell ⟨g, j, none⟩ (.int .i64 d)) B (.slice (some ⟨g, 0, none⟩) n cap) (l.set j d) ∧ Below B w (w.setCell ⟨g, j, none⟩ (.int .i64 d)) := by
  have hn : n = l.length := by
    obtain ⟨ao, c, e, _⟩ := h.shape
    simp at e; exact e.2.1
  subst hn
  have hs := World.ownsRow.stored h j (.int .i64 d)
  refine ⟨?_, (Below.refl _ _).setCell (World.ownsRow.lt h g rfl).1 _⟩
  have e : vs (l.set j d) = (vs l).set j (.int .i64 d) := by simp [vs, List.map_set]
  show World.ownsRow _ _ _ _ _ _ _
  rw [e, List.length_set]
  exact hs.1

section
variable {ops : Array Oper} {rest : List Oper} {o : Oper} {a : Act} {Q : Exit → Act → World → Prop}
/-- One number is appended to a slice of the call's own. -/
theorem wp_push (wr : World) (B : Nat) (v : Value) (l : List Int) (d : Int) (hown : Own wr B v l) (hgd : o.guard = none) (s x : Operand) (ho : o.op = .call { callee := .builtin .append, args := #[s, x], argTypes := #[49, 49] })
    (hs : a.eval s = v) (hx : a.eval x = .slice (some ⟨wr.heap.size, 0, none⟩) 1 1)
    (hlen : l.length < 1000000000000) (hB : B ≤ wr.heap.size)
    (h : ∀ v' w', Own w' B v' (l ++ [d]) → Below B wr w' → wpList Tryd.prog ops Q rest (a.put o.dst v') w') :
    wpList Tryd.prog ops Q (o :: rest) a (wr.alloc (.cells #[.int .i64 d] 3)) := by
  obtain ⟨i0, hi, hz0, hz1, hz2⟩ := info_parts Tryd.infoI
  refine wpList_append_own _ hgd s x 49 ho B 3 i0 (.int .i64 0) 1 8 Tryd.underlying49 hi hz0 hz1 hz2 rfl (by decide) v l.length (vs l) hs (World.ownsRow.alloc hown _) ⟨wr.heap.size, 0, none⟩ 1 1 (vs [d]) hx rfl ?_ (vs_one _) ?_ ?_ ?_ ?_
  · intro j u hu
    match j, hu with
    | 0, hu => simp [vs] at hu; subst hu; rw [Addr.add_lit]; exact (World.cell?_alloc_at _ _ _ _ rfl).trans (by simp)
    | j + 1, hu => simp [vs] at hu
  · unfold maxLen; omega
  · omega
  · simp; omega
  · intro v' w' h1 h2 _
    refine h v' w' (by simpa [Own, vs_append] using h1) ?_
    exact ((Below.refl _ _).alloc hB _).grown h2 (by simp; omega) (fun k hk => (World.ownsRow.lt hown k hk).1)
/-- What a slice reads as is appended to a slice of the call's own. -/
theorem wp_pushL (wr : World) (B : Nat) (v : Value) (l l2 : List Int) (ao : Option Addr) (m c : Nat) (hown : Own wr B v l) (hrd : Rd wr ao c l2) (hgd : o.guard = none) (s x : Operand) (ho : o.op = .call { callee := .builtin .append, args := #[s, x], argTypes := #[49, 49] })
    (hs : a.eval s = v) (hx : a.eval x = .slice ao m c) (hm : m = l2.length)
    (hlen : l.length + l2.length ≤ 17592186044416) (hB : B ≤ wr.heap.size)
    (h : ∀ v' w', Own w' B v' (l ++ l2) → Below B wr w' → wpList Tryd.prog ops Q rest (a.put o.dst v') w') :
    wpList Tryd.prog ops Q (o :: rest) a wr := by
  subst hm
  obtain ⟨i0, hi, hz0, hz1, hz2⟩ := info_parts Tryd.infoI
  obtain ⟨r1, r2, r3, r4⟩ := hrd
  cases ao with
  | none =>
    obtain rfl := r3 rfl
    have hl : l2 = [] := List.eq_nil_of_length_eq_zero (by omega)
    subst hl
    refine wpList_append_own_none hgd s x 49 ho B 3 i0 1 Tryd.underlying49 hi v l.length (vs l) hs hown hx ?_
    exact h v wr (by rw [List.append_nil]; exact hown) (Below.refl _ _)
  | some ad =>
    refine wpList_append_own _ hgd s x 49 ho B 3 i0 (.int .i64 0) 1 8 Tryd.underlying49 hi hz0 hz1 hz2 rfl (by decide) v l.length (vs l) hs hown ad l2.length c (vs l2) hx (by simp [vs]) ?_ (vs_one _) ?_ ?_ ?_ ?_
    · intro j u hu
      have hj : j < l2.length := by have := (List.getElem?_eq_some_iff.1 hu).1; simpa [vs] using this
      rcases r4 with rfl | ⟨b, off, e, _, hc⟩
      · simp at hj
      · obtain rfl := Option.some.inj e
        rw [Addr.add_lit, hc j hj]
        rw [vs_get _ _ hj] at hu
        exact hu
    · unfold maxLen; omega
    · omega
    · exact hB
    · intro v' w' h1 h2 _
      refine h v' w' (by simpa [Own, vs_append] using h1) ?_
      exact (Below.refl _ _).grown h2 hB (fun k hk => (World.ownsRow.lt hown k hk).1)
end
end Go.Proofs.YtkddmngbfncocaaDoor
