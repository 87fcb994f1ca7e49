/-
  No cube in the first sequence, and two words only.
  Conditions: none.
-/
import Derived.Test.YtkddmngbfncocaaDoorCube
import Derived.Test.YtkddmngbfncocaaDoorParts
namespace Go.Proofs.YtkddmngbfncocaaDoor
open Go.RowKit
namespace Sq
def L120 : List Nat := [0, 1, 1, 0, 1, 0, 0, 1, 1, 0, 0, 1, 0, 1, 1, 0, 1, 0, 0, 1, 0, 1, 1, 0, 0, 1, 1, 0, 1, 0, 0, 1, 1, 0, 0, 1, 0, 1, 1, 0, 0, 1, 1, 0, 1, 0, 0, 1, 0, 1, 1, 0, 1, 0, 0, 1, 1, 0, 0, 1, 0, 1, 1, 0, 1, 0, 0, 1, 0, 1, 1, 0, 0, 1, 1, 0, 1, 0, 0, 1, 0, 1, 1, 0, 1, 0, 0, 1, 1, 0, 0, 1, 0, 1, 1, 0, 0, 1, 1, 0, 1, 0, 0, 1, 1, 0, 0, 1, 0, 1, 1, 0, 1, 0, 0, 1, 0, 1, 1, 0]
theorem l120_t : (List.range 120).map (seqI 1) = L120 := by kernel_rfl
theorem l120_at {i : Nat} (h : i < 120) : seqI 1 i = L120.getD i 2 := by
  rw [← l120_t, List.getD_eq_getElem?_getD, List.getElem?_map, List.getElem?_range h]
  rfl
def freeAll : Bool := (List.range 121).all fun f => (List.range 41).all fun z => z == 0 || decide (120 < f + 3 * z) || (List.range (2 * z)).any fun j => !(L120.getD (f + j) 2 == L120.getD (f + z + j) 2)
theorem freeAll_t : freeAll = true := by kernel_rfl
theorem mk_inj {a b : Nat} (ha : a ≤ 9) (hb : b ≤ 9) (h : mk a = mk b) : a = b := by
  have := congrArg UInt8.toNat h
  rw [mk_nat ha, mk_nat hb] at this
  omega
theorem l120_le {i : Nat} (h : i < 120) : seqI 1 i ≤ 9 := (seq_same (by omega) (by omega) (by omega)).2
theorem bt120 {i : Nat} (h : i < 120) : bt (seqW 1 120) i = mk (seqI 1 i) := by
  show bt (wb 1 0 1 120) i = _
  rw [← bt_get (wb 1 0 1 120) i (by rw [wb_size]; exact h), wb_get]
  rw [show 0 + i * 1 = i by omega]
theorem noCube : ¬ HasC (seqW 1 120) := by
  rintro ⟨f, z, hz, hf, hc⟩
  have hs : (seqW 1 120).size = 120 := wb_size 1 0 1 120
  have hc' := (cu_iff hf).1 hc
  rw [hs] at hf
  have h := freeAll_t
  unfold freeAll at h
  rw [List.all_eq_true] at h
  have h := h f (List.mem_range.2 (by omega))
  rw [List.all_eq_true] at h
  have h := h z (List.mem_range.2 (by omega))
  rw [Bool.or_eq_true, Bool.or_eq_true, beq_iff_eq, decide_eq_true_eq, List.any_eq_true] at h
  rcases h with (h | h) | ⟨j, hj, h⟩
  · omega
  · omega
  · have hj := List.mem_range.1 hj
    have e := hc' j hj
    rw [bt120 (by omega), bt120 (by omega)] at e
    have e := mk_inj (l120_le (by omega)) (l120_le (by omega)) e
    rw [l120_at (by omega), l120_at (by omega)] at e
    rw [e] at h
    simp at h
theorem iNoCube (w : World) (hT : TabAt 1 Lib.deBruijn64tab w) :
    Calls Tryd.prog 9 #[.int .i64 1, .int .i64 120] w fun e w' => e = .returned (.bool false) ∧ Below w.heap.size w w' :=
  (iCube 1 120 w hT).mono fun e w' ⟨⟨r, he, hr⟩, hb⟩ => ⟨by
    cases r with
    | true => exact absurd (hr.1 rfl) noCube
    | false => exact he, hb⟩
def A16 : List UInt8 := wl 1 0 1 16
def B16 : List UInt8 := wl 1 1 2 16
def abAll : Bool := (List.range 4).all fun i => (List.range (2 ^ i)).all fun r => wl 1 r (2 ^ i) 16 == A16 || wl 1 r (2 ^ i) 16 == B16
theorem abAll_t : abAll = true := by kernel_rfl
theorem ab_ne : (A16 == B16) = false := by kernel_rfl
theorem ab_eq : (wl 1 0 2 16 == A16) = true := by kernel_rfl
theorem wb_eq {k f s f' s' n : Nat} (h : wl k f s n = wl k f' s' n) : wb k f s n = wb k f' s' n := by unfold wb; rw [h]
theorem ab_in {i r : Nat} (hi : i < 4) (hr : r < 2 ^ i) : wb 1 r (2 ^ i) 16 ∈ [wb 1 0 1 16, wb 1 1 2 16] := by
  have h := abAll_t
  unfold abAll at h
  rw [List.all_eq_true] at h
  have h := h i (List.mem_range.2 hi)
  rw [List.all_eq_true] at h
  have h := h r (List.mem_range.2 hr)
  rw [Bool.or_eq_true, beq_iff_eq, beq_iff_eq] at h
  rcases h with h | h
  · rw [wb_eq (f' := 0) (s' := 1) h]; simp
  · rw [wb_eq (f' := 1) (s' := 2) h]; simp
theorem inner_in {kind k i : Nat} {l : List ByteArray} : ∀ n, (∀ r, r < n → wb kind r (2 ^ i) k ∈ l) → inner kind k i l n = l := by
  intro n
  induction n with
  | zero => intro _; rfl
  | succ n ih =>
    intro h
    show ins (inner kind k i l n) _ = l
    rw [ih (fun r hr => h r (by omega)), ins_yes (h n (by omega))]
theorem ab_out : ¬ wb 1 1 2 16 ∈ [wb 1 0 1 16] := by
  intro h
  rw [List.mem_singleton] at h
  have h1 : B16 = A16 := congrArg (fun x : ByteArray => x.data.toList) h
  have h2 := ab_ne
  rw [h1] at h2
  simp at h2
theorem outer2 : outer 1 16 2 = [wb 1 0 1 16, wb 1 1 2 16] := by
  show ins (ins (ins [] (wb 1 0 (2 ^ 0) 16)) (wb 1 0 (2 ^ 1) 16)) (wb 1 1 (2 ^ 1) 16) = _
  have e1 : ins [] (wb 1 0 (2 ^ 0) 16) = [wb 1 0 1 16] := by rw [ins_no (by simp)]; rfl
  have e2 : wb 1 0 (2 ^ 1) 16 = wb 1 0 1 16 := wb_eq (beq_iff_eq.1 ab_eq)
  rw [e1, e2, show ins [wb 1 0 1 16] (wb 1 0 1 16) = [wb 1 0 1 16] from ins_yes (by simp)]
  exact ins_no ab_out
theorem cp2 : cpV 1 3 16 = 2 := by
  show ((inner 1 16 3 (inner 1 16 2 (outer 1 16 2) (2 ^ 2)) (2 ^ 3)).length : Int) = 2
  rw [outer2, inner_in (2 ^ 2) (fun r hr => ab_in (by omega) hr), inner_in (2 ^ 3) (fun r hr => ab_in (by omega) hr)]
  rfl
theorem iTwo (w : World) (hT : TabAt 1 Lib.deBruijn64tab w) :
    Calls Tryd.prog 7 #[.int .i64 1, .int .i64 3, .int .i64 16] w fun e w' => e = .returned (.int .i64 2) ∧ Below w.heap.size w w' := as_int cp2 (iParts 1 3 16 w hT)
end Sq
end Go.Proofs.YtkddmngbfncocaaDoor
