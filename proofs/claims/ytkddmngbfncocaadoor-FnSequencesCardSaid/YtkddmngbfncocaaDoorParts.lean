/-
  Contracts of the number of different parts of a sequence.
  Conditions: none.
-/
import Derived.Test.YtkddmngbfncocaaDoorWords
import Derived.Maps.OwnSet
import Derived.Maps.Views
import Derived.Deep.DeepCutAuto
namespace Go.Proofs.YtkddmngbfncocaaDoor
open Go.RowKit
namespace Sq
open Go.Maps Go.WideMaps
open Classical in
/-- One word more, if it is not there. -/
noncomputable def ins (l : List ByteArray) (x : ByteArray) : List ByteArray := if x ∈ l then l else l ++ [x]
theorem ins_yes {l : List ByteArray} {x : ByteArray} (h : x ∈ l) : ins l x = l := by unfold ins; rw [if_pos h]
theorem ins_no {l : List ByteArray} {x : ByteArray} (h : ¬ x ∈ l) : ins l x = l ++ [x] := by unfold ins; rw [if_neg h]
noncomputable def inner (kind k i : Nat) (l : List ByteArray) : Nat → List ByteArray
  | 0 => l
  | r + 1 => ins (inner kind k i l r) (wb kind r (2 ^ i) k)
noncomputable def outer (kind k : Nat) : Nat → List ByteArray
  | 0 => []
  | i + 1 => inner kind k i (outer kind k i) (2 ^ i)
noncomputable def cpV (kind most k : Int) : Int := if inB kind 1 5 && inB most 0 4 && inB k 0 64 then ((outer kind.toNat k.toNat (most.toNat + 1)).length : Int) else -1
theorem ins_len (l : List ByteArray) (x : ByteArray) : (ins l x).length ≤ l.length + 1 := by
  unfold ins; split
  · omega
  · simp
theorem inner_len (kind k i : Nat) (l : List ByteArray) : ∀ r, (inner kind k i l r).length ≤ l.length + r := by
  intro r
  induction r with
  | zero => exact Nat.le_refl _
  | succ r ih => have := ins_len (inner kind k i l r) (wb kind r (2 ^ i) k); show (ins _ _).length ≤ _; omega
theorem pow_le4 {i : Nat} (h : i ≤ 4) : 1 ≤ 2 ^ i ∧ 2 ^ i ≤ 16 := by
  have : i = 0 ∨ i = 1 ∨ i = 2 ∨ i = 3 ∨ i = 4 := by omega
  rcases this with rfl | rfl | rfl | rfl | rfl <;> omega
theorem outer_len (kind k : Nat) : ∀ i, i ≤ 5 → (outer kind k i).length ≤ 16 * i := by
  intro i
  induction i with
  | zero => intro _; exact Nat.le_refl _
  | succ i ih =>
    intro hi
    have h1 := inner_len kind k i (outer kind k i) (2 ^ i)
    have h2 := (pow_le4 (show i ≤ 4 by omega)).2
    have h3 := ih (by omega)
    show (inner _ _ _ _ _).length ≤ _
    omega
/-- The map holds just the words of the list. -/
structure SetL (D : DataW Unit) (l : List ByteArray) : Prop where
  tidy : Tidy D
  has : ∀ x : ByteArray, Maps.has D (.string x.data.toList) = true ↔ x ∈ l
  size : Maps.size D = l.length
theorem setL_nil : SetL (.map []) [] := ⟨tidy_empty, fun x => by simp [Maps.has_eq], rfl⟩
theorem key_inj {x y : ByteArray} (h : (Lit.string x.data.toList) = .string y.data.toList) : x = y := by
  simp only [Lit.string.injEq] at h
  apply ByteArray.ext
  exact Array.toList_inj.1 h
theorem SetL.put {D : DataW Unit} {l : List ByteArray} (h : SetL D l) (x : ByteArray) : SetL (D.put (.string x.data.toList) (.lit (.bool true))) (ins l x) := by
  have hk : WideAt.IsKeyLit (.string x.data.toList) := trivial
  refine ⟨h.tidy.put hk _, fun y => ?_, ?_⟩
  · by_cases e : y = x
    · subst e
      rw [has_put_same h.tidy.isMap hk]
      by_cases hm : y ∈ l
      · rw [ins_yes hm]; simp [hm]
      · rw [ins_no hm]; simp
    · rw [has_put_other (fun e' => e (key_inj e')), h.has]
      by_cases hm : x ∈ l
      · rw [ins_yes hm]
      · rw [ins_no hm]; simp [e]
  · rw [size_put h.tidy]
    by_cases hm : x ∈ l
    · rw [ins_yes hm, if_pos ((h.has x).2 hm), h.size]
    · rw [ins_no hm, if_neg (fun e => hm ((h.has x).1 e)), h.size]; simp
theorem lawS : Keyed Tryd.prog 9 := string_keyed Tryd.underlying9
theorem pow_w {i : Nat} (h : i ≤ 4) : wrap64 ((2 : Int) ^ i) = ((2 ^ i : Nat) : Int) := by
  have e : (2 : Int) ^ i = ((2 ^ i : Nat) : Int) := by simp
  have := pow_le4 h
  rw [e]
  unfold wrap64
  omega
theorem own_below_map {w w' : World} {k : TypeId} {R : Value → Option (DataW Unit × List MemPlace)} {b n : Nat} {D : DataW Unit} (h : w.ownsMap Tryd.prog k R b n D) {C : Nat} (hb : Below C w w') (hC : b < C) : w'.ownsMap Tryd.prog k R b n D := by
  obtain ⟨es, clock, h1, h2⟩ := h
  exact ⟨es, clock, by rw [hb.block b hC]; exact h1, h2⟩
theorem own_more {w : World} {k : TypeId} {R : Value → Option (DataW Unit × List MemPlace)} {b n m : Nat} {D : DataW Unit} (h : w.ownsMap Tryd.prog k R b n D) (hm : n ≤ m) : w.ownsMap Tryd.prog k R b m D := by
  obtain ⟨es, clock, h1, h2, h3, h4⟩ := h
  exact ⟨es, clock, h1, h2, Nat.le_trans h3 hm, h4⟩
set_option maxRecDepth 100000 in
set_option maxHeartbeats 2000000 in
theorem iParts (kind most k : Int) (w : World) (hT : TabAt 1 Lib.deBruijn64tab w) :
    Calls Tryd.prog 7 #[.int .i64 kind, .int .i64 most, .int .i64 k] w fun e w' => e = .returned (.int .i64 (cpV kind most k)) ∧ Below w.heap.size w w' := by
  rcases inB_cases kind 1 5 with h | h <;> rcases inB_cases most 0 4 with h' | h' <;> rcases inB_cases k 0 64 with h'' | h''
  case inl.inl.inl =>
    have ⟨d1, d2⟩ := inB_t h
    have ⟨m1, m2⟩ := inB_t h'
    have ⟨k1, k2⟩ := inB_t h''
    have HV := Lib.hid (show ((outer kind.toNat k.toNat (most.toNat + 1)).length : Int) = cpV kind most k by unfold cpV; rw [h, h', h'']; rfl)
    obtain ⟨M, rfl⟩ := Int.eq_ofNat_of_zero_le m1
    obtain ⟨K, rfl⟩ := Int.eq_ofNat_of_zero_le k1
    obtain ⟨D0, rfl⟩ := Int.eq_ofNat_of_zero_le (show 0 ≤ kind by omega)
    rw [Int.toNat_natCast, Int.toNat_natCast, Int.toNat_natCast] at HV
    have HT := Lib.hid hT
    have hmm := @run_makeMap Tryd.prog
    clear hT
    go_enter Tryd.func7, Tryd.ntmps7
    go_wp2_with fail
    refine (isSeq _ _).mono ?_
    rw [h]
    rintro e w1 ⟨rfl, rfl⟩
    go_wp2_with (first | (go_at_call 22; refine (within_any _ _ _ _).mono ?_; rintro e w' ⟨rfl, rfl⟩))
    go_loopw [26] (fun vi wr => ∃ (i : Nat) (D : DataW Unit), i ≤ M + 1 ∧ vi = .int .i64 i ∧ wr.ownsMap Tryd.prog 9 (plainElem Tryd.prog 4) w.heap.size (16 * i) D ∧ Hid (SetL D (outer D0 K i)) ∧ Below w.heap.size w wr) (fun vi _ => M + 1 - (intOf vi).toNat)
    case atStart => exact ⟨0, .map [], Nat.zero_le _, rfl, World.ownsMap_made _ _ _ _, Lib.hid setL_nil, (Below.refl _ _).alloc (Nat.le_refl _) _⟩
    case round =>
      obtain ⟨i, D, hi, rfl, hmap, hD, hbel⟩ := hrel
      have HM := Lib.hid hmap
      have HB := Lib.hid hbel
      clear hmap hbel
      by_cases hlt : i < M + 1
      · have ⟨p1, p2⟩ := pow_le4 (show i ≤ 4 by omega)
        have hw1 := pow_w (show i ≤ 4 by omega)
        have hl1 : (i : Int) < (M : Int) + 1 := by omega
        obtain ⟨N, hN⟩ : ∃ N : Nat, 2 ^ i = N := ⟨_, rfl⟩
        have HN := Lib.hid hN
        rw [hN] at p1 p2 hw1
        clear hN
        go_wp2_with fail
        rw [hw1]
        go_loopw [31] (fun vr wr2 => ∃ (r : Nat) (D : DataW Unit), r ≤ N ∧ vr = .int .i64 r ∧ wr2.ownsMap Tryd.prog 9 (plainElem Tryd.prog 4) w.heap.size (16 * i + r) D ∧ Hid (SetL D (inner D0 K i (outer D0 K i) r)) ∧ Below w.heap.size w wr2) (fun vr _ => N - (intOf vr).toNat)
        case atStart => exact ⟨0, D, Nat.zero_le _, rfl, HM.out, Lib.hid hD.out, HB.out⟩
        case round =>
          obtain ⟨r, E, hr, rfl, hmap, hE, hbel⟩ := hrel
          have HM2 := Lib.hid hmap
          have HB2 := Lib.hid hbel
          clear hmap hbel
          by_cases hlt2 : r < N
          · have HT2 := Lib.hid (tab_below HT.out HB2.out (Nat.le_refl _))
            have HS := Lib.hid (show SetL (E.put (.string (wb D0 r N K).data.toList) (.lit (.bool true))) (inner D0 K i (outer D0 K i) (r + 1)) by
              have := hE.out.put (wb D0 r (2 ^ i) K)
              rw [HN.out] at this
              show SetL _ (ins _ (wb D0 r (2 ^ i) K))
              rw [HN.out]; exact this)
            have HKey := Lib.hid (keyOf_string_mk (P := Tryd.prog) (s := wb D0 r N K) Tryd.underlying9 (by rw [wb_size]; unfold maxLen; omega))
            have hlt0 := HM2.out.lt
            go_wp2_with fail
            refine (iPart D0 r N K (by omega) (by omega) (by omega) (fun j hj => ?_) _ HT2.out).mono ?_
            · have : j * N ≤ 63 * 16 := Nat.mul_le_mul (by omega) p2
              omega
            rintro e w2 ⟨rfl, hb2⟩
            have HM3 := Lib.hid (own_below_map HM2.out hb2 hlt0)
            have HB3 := Lib.hid (HB2.out.trans (hb2.mono HB2.out.size))
            clear hb2
            generalize wb D0 r N K = word at *
            go_wp2_with (at_mapUpdate; refine wpList_mapUpdate_own _ rfl _ _ _ 35 rfl 9 4 lawS Tryd.underlying35 (plainElem (H := Unit) Tryd.prog 4) w.heap.size _ _ rfl HM3.out (by unfold maxLen; omega) _ _ _ rfl rfl HKey.out _ [] (plainElem_bool Tryd.underlying4 true) ?_; intro w3 hown3 hgrow3)
            have HM4 := Lib.hid hown3
            have HB4 := Lib.hid (HB3.out.grown hgrow3 HB3.out.size (fun j hj => by cases hj; exact Nat.le_refl _))
            clear hown3 hgrow3
            go_roundw
            case rel => exact ⟨r + 1, _, by omega, by go_num, HM4.out, HS, HB4.out⟩
            case measure => simp [intOf]; omega
          · obtain rfl : r = N := by omega
            have HM3 := Lib.hid (own_more HM2.out (show 16 * i + r ≤ 16 * (i + 1) by omega))
            have HS := Lib.hid (show SetL E (outer D0 K (i + 1)) by
              show SetL E (inner D0 K i (outer D0 K i) (2 ^ i))
              rw [HN.out]; exact hE.out)
            go_wp2
            go_roundw
            case rel => exact ⟨i + 1, E, by omega, by go_num, HM3.out, HS, HB2.out⟩
            case measure => simp [intOf]; omega
      · obtain rfl : i = M + 1 := by omega
        have hsz := hD.out.size
        have hol := outer_len D0 K (M + 1) (by omega)
        have HE := Lib.hid (show (Maps.size D : Int) = cpV D0 M K by rw [hsz]; exact HV.out)
        clear hsz
        go_wp2_with (at_len; refine wpList_len_own _ rfl _ 35 rfl 9 4 Tryd.underlying35 _ w.heap.size _ _ rfl HM.out ?_)
        go_ret
        exact ⟨ret_int HE.out, HB.out⟩
  all_goals
    have HV := Lib.hid (show -1 = cpV kind most k by unfold cpV; rw [h, h', h'']; rfl)
    go_enter Tryd.func7, Tryd.ntmps7
    go_wp2_with fail
    refine (isSeq _ _).mono ?_
    rw [h]
    rintro e w1 ⟨rfl, rfl⟩
    go_wp2_with (first | (go_at_call 22; refine (within_any _ _ _ _).mono ?_; rintro e w' ⟨rfl, rfl⟩))
    go_ret
    exact ⟨ret_int HV.out, Below.refl _ _⟩
/-- A slice of strings of the call's own. -/
def OwnS (w : World) (B : Nat) (v : Value) (l : List ByteArray) : Prop := w.ownsRow B 9 1 v l.length (l.map Value.string)
theorem own_madeS (w : World) : OwnS (w.alloc (.cells #[] 9)) w.heap.size (.slice (some ⟨w.heap.size, 0, none⟩) 0 0) [] :=
  World.ownsRow_lit w #[] 0 (Nat.le_refl _) (by unfold maxLen; omega) rfl
theorem OwnS.shape {w : World} {B : Nat} {v : Value} {l : List ByteArray} (h : OwnS w B v l) : ∃ ao cap, v = .slice ao l.length cap ∧ l.length ≤ cap ∧ cap ≤ maxLen ∧ (∀ j, j < l.length → ∃ g, ao = some ⟨g, 0, none⟩ ∧ g < w.heap.size ∧ w.cell? ⟨g, j, none⟩ = some (.string (l.getD j ⟨#[]⟩))) := by
  rcases h.2 with ⟨rfl, h0⟩ | ⟨g, cap, cur, rfl, _, hg, hn, hc, _, _⟩
  · exact ⟨none, 0, by rw [h0], by omega, by unfold maxLen; omega, fun j hj => by omega⟩
  · refine ⟨some ⟨g, 0, none⟩, cap, rfl, hn, hc, fun j hj => ⟨g, rfl, (Array.getElem?_eq_some_iff.1 hg).1, ?_⟩⟩
    have := World.ownsRow.cellAt h j (by omega)
    rw [this]
    simp [List.getElem?_map, List.getElem?_eq_getElem hj, List.getD_eq_getElem?_getD]
theorem OwnS.below {w w' : World} {B : Nat} {v : Value} {l : List ByteArray} (h : OwnS w B v l) {C : Nat} (hb : Below C w w') (hC : w.heap.size ≤ C) : OwnS w' B v l := by
  refine World.ownsRow.kept h (row := none) ⟨hb.os, hb.tape, hb.output, hb.size, fun k hk _ => hb.block k (by omega)⟩ ?_
  cases hv : v.ownBlock <;> simp
theorem Tryd.infoS : (Tryd.prog.info? 9).map (fun i => (i.zero, i.size, i.bytes)) = some (some (.string ⟨#[]⟩), 1, 16) := by kernel_rfl
section
variable {ops : Array Oper} {rest : List Oper} {o : Oper} {a : Act} {Q : Exit → Act → World → Prop}
theorem wp_pushS (wr : World) (B : Nat) (v : Value) (l : List ByteArray) (d : ByteArray) (hown : OwnS wr B v l) (hgd : o.guard = none) (s x : Operand) (ho : o.op = .call { callee := .builtin .append, args := #[s, x], argTypes := #[34, 34] })
    (hs : a.eval s = v) (hx : a.eval x = .slice (some ⟨wr.heap.size, 0, none⟩) 1 1)
    (hlen : l.length < 1000000) (hB : B ≤ wr.heap.size)
    (h : ∀ v' w', OwnS w' B v' (l ++ [d]) → Below B wr w' → wpList Tryd.prog ops Q rest (a.put o.dst v') w') :
    wpList Tryd.prog ops Q (o :: rest) a (wr.alloc (.cells #[.string d] 9)) := by
  obtain ⟨i0, hi, hz0, hz1, hz2⟩ := info_parts Tryd.infoS
  refine wpList_append_own _ hgd s x 34 ho B 9 i0 (.string ⟨#[]⟩) 1 16 Tryd.underlying34 hi hz0 hz1 hz2 rfl (by decide) v l.length (l.map Value.string) hs (World.ownsRow.alloc hown _) ⟨wr.heap.size, 0, none⟩ 1 1 [Value.string d] hx rfl ?_ (fun u hu => by simp at hu; subst hu; rfl) ?_ ?_ ?_ ?_
  · intro j u hu
    match j, hu with
    | 0, hu => simp at hu; subst hu; rw [Addr.add_lit]; exact (World.cell?_alloc_at _ _ _ _ rfl).trans (by simp)
    | j + 1, hu => simp at hu
  · unfold maxLen; omega
  · omega
  · simp; omega
  · intro v' w' h1 h2 _
    refine h v' w' (by simpa [OwnS] using h1) ?_
    exact ((Below.refl _ _).alloc hB _).grown h2 (by simp; omega) (fun k hk => (World.ownsRow.lt hown k hk).1)
end
theorem beq_str {x y : ByteArray} : (x.toList == y.toList) = true ↔ x = y := by
  rw [beq_iff_eq, Lib.toList_data, Lib.toList_data]
  constructor
  · intro h; apply ByteArray.ext; exact Array.toList_inj.1 h
  · rintro rfl; rfl
theorem take_mem {l : List ByteArray} {j : Nat} {x : ByteArray} (hj : j < l.length) : x ∈ l.take (j + 1) ↔ x ∈ l.take j ∨ l.getD j ⟨#[]⟩ = x := by
  rw [List.take_add_one, List.mem_append, List.getD_eq_getElem?_getD, List.getElem?_eq_getElem hj]
  simp [eq_comm]
set_option maxRecDepth 100000 in
set_option maxHeartbeats 2000000 in
theorem sParts (kind most k : Int) (w : World) :
    Calls Tryd.prog 6 #[.int .i64 kind, .int .i64 most, .int .i64 k] w fun e w' => e = .returned (.int .i64 (cpV kind most k)) ∧ Below w.heap.size w w' := by
  rcases inB_cases kind 1 5 with h | h <;> rcases inB_cases most 0 4 with h' | h' <;> rcases inB_cases k 0 64 with h'' | h''
  case inl.inl.inl =>
    have ⟨d1, d2⟩ := inB_t h
    have ⟨m1, m2⟩ := inB_t h'
    have ⟨k1, k2⟩ := inB_t h''
    have HV := Lib.hid (show ((outer kind.toNat k.toNat (most.toNat + 1)).length : Int) = cpV kind most k by unfold cpV; rw [h, h', h'']; rfl)
    obtain ⟨M, rfl⟩ := Int.eq_ofNat_of_zero_le m1
    obtain ⟨K, rfl⟩ := Int.eq_ofNat_of_zero_le k1
    obtain ⟨D0, rfl⟩ := Int.eq_ofNat_of_zero_le (show 0 ≤ kind by omega)
    rw [Int.toNat_natCast, Int.toNat_natCast, Int.toNat_natCast] at HV
    go_enter Tryd.func6, Tryd.ntmps6
    go_wp2_with fail
    refine (sKind _ _).mono ?_
    rw [h]
    rintro e w1 ⟨rfl, rfl⟩
    go_wp2_with (first | (go_at_call 19; refine (l01In_any _ _ _ _).mono ?_; rintro e w' ⟨rfl, rfl⟩))
    go_loopw [7, 8] (fun vs vi wr => ∃ (i : Nat), i ≤ M + 1 ∧ vi = .int .i64 i ∧ OwnS wr w.heap.size vs (outer D0 K i) ∧ Below w.heap.size w wr) (fun _ vi _ => M + 1 - (intOf vi).toNat)
    case atStart => exact ⟨0, Nat.zero_le _, rfl, own_madeS w, (Below.refl _ _).alloc (Nat.le_refl _) _⟩
    case round =>
      obtain ⟨i, hi, rfl, hown, hbel⟩ := hrel
      have HO := Lib.hid hown
      have HB := Lib.hid hbel
      clear hown hbel
      by_cases hlt : i < M + 1
      · have hl1 : (i : Int) ≤ (M : Int) := by omega
        have ⟨p1, p2⟩ := pow_le4 (show i ≤ 4 by omega)
        have hw1 := pow_w (show i ≤ 4 by omega)
        have hol := outer_len D0 K i (by omega)
        obtain ⟨N, hN⟩ : ∃ N : Nat, 2 ^ i = N := ⟨_, rfl⟩
        have HN := Lib.hid hN
        rw [hN] at p1 p2 hw1
        clear hN
        go_wp2_with fail
        go_loopw [7, 9] (fun vs vr wr2 => ∃ (r : Nat), r ≤ N ∧ vr = .int .i64 r ∧ OwnS wr2 w.heap.size vs (inner D0 K i (outer D0 K i) r) ∧ Below w.heap.size w wr2) (fun _ vr _ => N - (intOf vr).toNat)
        case atStart => exact ⟨0, Nat.zero_le _, rfl, HO.out, HB.out⟩
        case round =>
          obtain ⟨r, hr, rfl, hown, hbel⟩ := hrel
          have HB2 := Lib.hid hbel
          have HO2 := Lib.hid hown
          clear hown hbel
          by_cases hlt2 : r < N
          · have hl2 : (r : Int) < (N : Int) := by omega
            have hil := inner_len D0 K i (outer D0 K i) r
            have HS := Lib.hid (show inner D0 K i (outer D0 K i) (r + 1) = ins (inner D0 K i (outer D0 K i) r) (wb D0 r N K) by
              show ins _ (wb D0 r (2 ^ i) K) = _
              rw [HN.out])
            go_wp2_with fail
            refine (sWord D0 r N K (by omega) (by omega) (by omega) (fun j hj => ?_) _).mono ?_
            · have : j * N ≤ 63 * 16 := Nat.mul_le_mul (by omega) p2
              omega
            rintro e w2 ⟨rfl, hb2⟩
            have HO3 := Lib.hid (HO2.out.below hb2 (Nat.le_refl _))
            have HB3 := Lib.hid (HB2.out.trans (hb2.mono HB2.out.size))
            have hlen := hil
            clear hb2 hil
            generalize wb D0 r N K = word at *
            generalize hL : inner D0 K i (outer D0 K i) r = L at *
            obtain ⟨ao, cap, ev, hcap, hcap2, hcells⟩ := HO3.out.shape
            subst ev
            have HC := Lib.hid hcells
            unfold maxLen at hcap2
            have hL100 : L.length ≤ 100 := by omega
            clear hcells hol hlen hL
            go_wp2_with fail
            go_loop [11, 47] (fun vq vj => ∃ (j : Nat) (q : Bool), j ≤ L.length ∧ vj = .int .i64 j ∧ vq = .bool q ∧ Hid (q = true ↔ word ∈ L.take j)) (fun _ vj => L.length - (intOf vj).toNat)
            case atStart => exact ⟨0, false, Nat.zero_le _, rfl, rfl, Lib.hid (by simp)⟩
            case round =>
              obtain ⟨j, q, hj, rfl, rfl, hq⟩ := hrel
              by_cases hlt3 : j < L.length
              · have hl3 : (j : Int) < (L.length : Int) := by omega
                obtain ⟨g, rfl, hg, hc⟩ := HC.out j hlt3
                have HM := Lib.hid (take_mem (x := word) hlt3)
                generalize L.getD j ⟨#[]⟩ = x at *
                cases q with
                | true =>
                  have HQ := Lib.hid (show true = true ↔ word ∈ L.take (j + 1) from ⟨fun _ => HM.out.2 (.inl (hq.out.1 rfl)), fun _ => rfl⟩)
                  go_wp2
                  go_round
                  case rel => exact ⟨j + 1, true, by omega, by go_num, rfl, HQ.out⟩
                  case measure => simp [intOf]; omega
                | false =>
                  cases hb : (x.toList == word.toList) with
                  | true =>
                    have HQ := Lib.hid (show true = true ↔ word ∈ L.take (j + 1) from ⟨fun _ => HM.out.2 (.inr (beq_str.1 hb)), fun _ => rfl⟩)
                    go_wp2
                    go_round
                    case rel => exact ⟨j + 1, true, by omega, by go_num, rfl, HQ.out⟩
                    case measure => simp [intOf]; omega
                  | false =>
                    have HQ := Lib.hid (show false = true ↔ word ∈ L.take (j + 1) from ⟨fun h => by simp at h, fun h => by
                      rcases HM.out.1 h with h | h
                      · exact hq.out.2 h
                      · rw [beq_str.2 h] at hb; exact absurd hb (by simp)⟩)
                    go_wp2
                    go_round
                    case rel => exact ⟨j + 1, false, by omega, by go_num, rfl, HQ.out⟩
                    case measure => simp [intOf]; omega
              · have hnl : ¬ (j : Int) < (L.length : Int) := by omega
                have hj2 : j = L.length := by omega
                have HQ := Lib.hid (show q = true ↔ word ∈ L by have := hq.out; rwa [hj2, List.take_length] at this)
                have hsz := HB3.out.size
                clear hq hj2
                cases q with
                | true =>
                  have HL := Lib.hid (show L = inner D0 K i (outer D0 K i) (r + 1) by rw [HS.out, ins_yes (HQ.out.1 rfl)])
                  go_wp2
                  go_roundw
                  case rel => exact ⟨r + 1, by omega, by go_num, by rw [← HL.out]; exact HO3.out, HB3.out⟩
                  case measure => simp [intOf]; omega
                | false =>
                  have HL := Lib.hid (show L ++ [word] = inner D0 K i (outer D0 K i) (r + 1) by rw [HS.out, ins_no (fun h => by have := HQ.out.2 h; simp at this)])
                  go_wp2_with (at_builtin; refine wp_pushS _ w.heap.size _ L word HO3.out rfl _ _ rfl rfl rfl (by omega) hsz ?_; intro v4 w4 hown4 hb4)
                  have HO4 := Lib.hid hown4
                  have HB4 := Lib.hid (HB3.out.trans hb4)
                  clear hown4 hb4
                  go_wp2
                  go_roundw
                  case rel => exact ⟨r + 1, by omega, by go_num, by rw [← HL.out]; exact HO4.out, HB4.out⟩
                  case measure => simp [intOf]; omega
          · obtain rfl : r = N := by omega
            have HL := Lib.hid (show inner D0 K i (outer D0 K i) r = outer D0 K (i + 1) by
              show _ = inner D0 K i (outer D0 K i) (2 ^ i)
              rw [HN.out])
            have hl2 : ¬ (r : Int) < (r : Int) := by omega
            go_wp2
            go_roundw
            case rel => exact ⟨i + 1, by omega, by go_num, by rw [← HL.out]; exact HO2.out, HB2.out⟩
            case measure => simp [intOf]; omega
      · obtain rfl : i = M + 1 := by omega
        have hl1 : ¬ ((M + 1 : Nat) : Int) ≤ (M : Int) := by omega
        have hol := outer_len D0 K (M + 1) (by omega)
        obtain ⟨ao, cap, ev, hcap, hcap2, _⟩ := HO.out.shape
        subst ev
        unfold maxLen at hcap2
        generalize hL : (outer D0 K (M + 1)).length = L at *
        have HVL := Lib.hid (show (L : Int) = cpV D0 M K from HV.out)
        clear hL
        go_wp2
        go_ret
        exact ⟨ret_int HVL.out, HB.out⟩
  all_goals
    have HV := Lib.hid (show -1 = cpV kind most k by unfold cpV; rw [h, h', h'']; rfl)
    go_enter Tryd.func6, Tryd.ntmps6
    go_wp2_with fail
    refine (sKind _ _).mono ?_
    rw [h]
    rintro e w1 ⟨rfl, rfl⟩
    go_wp2_with (first | (go_at_call 19; refine (l01In_any _ _ _ _).mono ?_; rintro e w' ⟨rfl, rfl⟩))
    go_ret
    exact ⟨ret_int HV.out, Below.refl _ _⟩
end Sq
end Go.Proofs.YtkddmngbfncocaaDoor
