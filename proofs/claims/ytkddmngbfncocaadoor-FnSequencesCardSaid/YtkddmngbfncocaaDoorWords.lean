/-
  Contracts of the words out of sequences.
  Conditions: the numbers that are looked at are below 1024.
-/
import Derived.Test.YtkddmngbfncocaaDoorSeq
import Derived.Test.YtkddmngbfncocaaDoorSlicesE
import Derived.Lib.SlBytesRow
import Derived.Laws.Concat
import Derived.Laws.MakeOwn
namespace Go.Proofs.YtkddmngbfncocaaDoor
open Go.RowKit
namespace Sq
def mk (d : Nat) : UInt8 := UInt8.ofNat (48 + d)
theorem mk_nat {d : Nat} (h : d ≤ 9) : (mk d).toNat = 48 + d := by
  unfold mk; rw [UInt8.toNat_ofNat']; omega
/-- k characters of a sequence. -/
def wl (kind first step k : Nat) : List UInt8 := (List.range k).map fun i => mk (seqI kind (first + i * step))
def wb (kind first step k : Nat) : ByteArray := ⟨(wl kind first step k).toArray⟩
theorem wl_len (kind first step k : Nat) : (wl kind first step k).length = k := by simp [wl]
theorem wb_size (kind first step k : Nat) : (wb kind first step k).size = k := by
  show (wl kind first step k).toArray.size = k
  rw [List.size_toArray, wl_len]
theorem wb_zero (kind first step : Nat) : wb kind first step 0 = ⟨#[]⟩ := rfl
theorem wb_succ (kind first step k : Nat) : wb kind first step (k + 1) = wb kind first step k ++ ⟨#[mk (seqI kind (first + k * step))]⟩ := by
  apply ByteArray.ext
  rw [ByteArray.data_append]
  show (wl kind first step (k + 1)).toArray = (wl kind first step k).toArray ++ _
  simp [wl, List.range_succ]
theorem wb_get (kind first step k : Nat) (i : Nat) (h : i < (wb kind first step k).size) : (wb kind first step k)[i] = mk (seqI kind (first + i * step)) := by
  show (wl kind first step k).toArray[i]'(by rw [List.size_toArray, wl_len]; rwa [wb_size] at h) = _
  simp [wl]
theorem tab_below {g : Nat} {w w' : World} (h : TabAt g Lib.deBruijn64tab w) {B : Nat} (hb : Below B w w') (hB : w.heap.size ≤ B) : TabAt g Lib.deBruijn64tab w' := fun j hj => by
  have h1 := h j hj
  have h2 := World.block_lt_of_cell? w _ h1
  exact (hb.cell (p := ⟨g, j, none⟩) (by show g < B; have : g < w.heap.size := h2; omega)).trans h1
/-- A row of bytes of the call's own. -/
def OwnB (w : World) (B : Nat) (g n : Nat) (l : List Int) : Prop := l.length = n ∧ w.ownsRow B 5 1 (.slice (some ⟨g, 0, none⟩) n n) n (l.map (Value.int .u8))
theorem OwnB.cellAt {w : World} {B g n : Nat} {l : List Int} (h : OwnB w B g n l) {j : Nat} (hj : j < n) : w.cell? ⟨g, j, none⟩ = some (.int .u8 (l.getD j 0)) := by
  rw [World.ownsRow.cellAt h.2 j (by omega)]
  have := h.1
  simp [List.getElem?_map, List.getElem?_eq_getElem (show j < l.length by omega), List.getD_eq_getElem?_getD]
theorem OwnB.free {w : World} {B g n : Nat} {l : List Int} (h : OwnB w B g n l) (j : Nat) : w.frozen? ⟨g, j, none⟩ = false := World.ownsRow.frozenAt h.2 j
theorem OwnB.set {w : World} {B g n : Nat} {l : List Int} (h : OwnB w B g n l) (j : Nat) (d : Int) :
    OwnB (w.setCell ⟨g, j, none⟩ (.int .u8 d)) B g n (l.set j d) ∧ Below B w (w.setCell ⟨g, j, none⟩ (.int .u8 d)) := by
  have hs := World.ownsRow.stored h.2 j (.int .u8 d)
  refine ⟨⟨by rw [List.length_set]; exact h.1, ?_⟩, (Below.refl _ _).setCell (World.ownsRow.lt h.2 g rfl).1 _⟩
  rw [List.map_set]
  exact hs.1
theorem OwnB.below {w w' : World} {B g n : Nat} {l : List Int} (h : OwnB w B g n l) {C : Nat} (hb : Below C w w') (hC : w.heap.size ≤ C) : OwnB w' B g n l := by
  refine ⟨h.1, World.ownsRow.kept h.2 (row := none) ⟨hb.os, hb.tape, hb.output, hb.size, fun k hk _ => hb.block k (by omega)⟩ (.inr (by simp [Value.ownBlock]))⟩
theorem Tryd.infoB : (Tryd.prog.info? 5).map (fun i => (i.zero, i.size, i.bytes)) = some (some (.int .u8 0), 1, 1) := by kernel_rfl
section
variable {ops : Array Oper} {rest : List Oper} {o : Oper} {a : Act} {Q : Exit → Act → World → Prop}
theorem wp_makeB (w : World) (n : Nat) (hn : n ≤ 1000000000000) (hgd : o.guard = none) (l c : Operand) (hop : o.op = Op.makeSlice 25 l c)
    (hl : a.eval l = .int .i64 (n : Int)) (hc : a.eval c = .int .i64 (n : Int))
    (h : ∀ w', OwnB w' w.heap.size w.heap.size n (List.replicate n 0) → Below w.heap.size w w' → w.heap.size < w'.heap.size → wpList Tryd.prog ops Q rest (a.put o.dst (.slice (some ⟨w.heap.size, 0, none⟩) n n)) w') :
    wpList Tryd.prog ops Q (o :: rest) a w := by
  obtain ⟨i0, hi, hz0, hz1, hz2⟩ := info_parts Tryd.infoB
  refine wpList_make_full w hgd l c 25 hop w.heap.size 5 i0 (.int .u8 0) 1 Tryd.underlying25 hi hz0 hz1 .i64 .i64 n n n hl hc rfl rfl (by rw [hz2]; omega) (by unfold maxLen; omega) (Nat.le_refl _) ?_
  intro w' h1 h2
  have e : (madeCells (Value.int .u8 0).cells (n * 1)).toList = (List.replicate n (0 : Int)).map (Value.int .u8) := by
    rw [Nat.mul_one]
    show (madeCells #[.int .u8 0] n).toList = _
    rw [toList_madeCells_one]; simp
  rw [e] at h1
  exact h w' ⟨List.length_replicate, h1⟩ ((Below.refl _ _).grown h2 (Nat.le_refl _) (fun k hk => by cases hk)) (World.ownsRow.lt h1 w.heap.size rfl).2
end
theorem mark_val (q : Nat) (h : q < (⟨#[48, 49, 50, 51, 52, 53, 54, 55, 56, 57, 97, 98, 99, 100, 101, 102]⟩ : ByteArray).size) (hq : q ≤ 9) :
    (((⟨#[48, 49, 50, 51, 52, 53, 54, 55, 56, 57, 97, 98, 99, 100, 101, 102]⟩ : ByteArray)[q]'h).toNat : Int) = 48 + (q : Int) := by
  have : q = 0 ∨ q = 1 ∨ q = 2 ∨ q = 3 ∨ q = 4 ∨ q = 5 ∨ q = 6 ∨ q = 7 ∨ q = 8 ∨ q = 9 := by omega
  rcases this with rfl | rfl | rfl | rfl | rfl | rfl | rfl | rfl | rfl | rfl <;> rfl
theorem ret_str {a b : ByteArray} (h : a = b) : Ending.returned (.string a) = .returned (.string b) := by rw [h]
theorem isSeq (kind : Int) (w : World) : Calls Tryd.prog 21 #[.int .i64 kind] w fun e w' => e = .returned (.bool (inB kind 1 5)) ∧ w = w' := by
  rcases inB_cases kind 1 5 with h | h
  all_goals
    rw [h]
    go_enter Tryd.func21, Tryd.ntmps21
    go_wp2_with (first | (go_at_call 22; refine (within_any _ _ _ _).mono ?_; rintro e w' ⟨rfl, rfl⟩))
    go_ret
    exact ⟨rfl, rfl⟩
theorem iPart (kind first step k : Nat) (k1 : 1 ≤ kind) (k2 : kind ≤ 5) (hk : k ≤ 256) (hn : ∀ j, j < k → first + j * step < 1024) (w : World) (hT : TabAt 1 Lib.deBruijn64tab w) :
    Calls Tryd.prog 23 #[.int .i64 kind, .int .i64 first, .int .i64 step, .int .i64 k] w fun e w' => e = .returned (.string (wb kind first step k)) ∧ Below w.heap.size w w' := by
  have HT := Lib.hid hT
  have HN := Lib.hid hn
  have hkd := inB_mk (show (1 : Int) ≤ (kind : Int) by omega) (show (kind : Int) ≤ 5 by omega)
  clear hT hn
  go_enter Tryd.func23, Tryd.ntmps23
  go_wp2_with fail
  refine (isSeq _ _).mono ?_
  rw [hkd]
  rintro e w1 ⟨rfl, rfl⟩
  go_wp2_with (at_make; refine wp_makeB _ k (by omega) rfl _ _ rfl rfl rfl ?_; intro w1 hown1 hb1 hsz1)
  have HO1 := Lib.hid hown1
  have HB1 := Lib.hid hb1
  clear hown1 hb1
  go_loopw [18] (fun vi wr => ∃ (i : Nat) (xs : List Int), i ≤ k ∧ vi = .int .i64 i ∧ OwnB wr w.heap.size w.heap.size k xs ∧ Hid (∀ j, j < i → xs.getD j 0 = 48 + (seqI kind (first + j * step) : Int)) ∧ Below w.heap.size w wr) (fun vi _ => k - (intOf vi).toNat)
  case atStart => exact ⟨0, _, Nat.zero_le _, rfl, HO1.out, Lib.hid (fun j hj => absurd hj (by omega)), HB1.out⟩
  case round =>
    obtain ⟨i, xs, hi, rfl, hown, hx, hbel⟩ := hrel
    have HO := Lib.hid hown
    have HB := Lib.hid hbel
    clear hown hbel
    by_cases hlt : i < k
    · have hn1 := HN.out i hlt
      have hm : (i : Int) * (step : Int) = ((i * step : Nat) : Int) := by simp
      have hq := (seq_same k1 k2 hn1).2
      have HTr := Lib.hid (tab_below HT.out HB.out (Nat.le_refl _))
      have hcell := HO.out.cellAt hlt
      have hfree := HO.out.free i
      generalize hms : i * step = p at *
      go_wp2_with fail
      refine (iAt kind (first + p) k1 k2 (by omega) _ HTr.out).mono ?_
      rintro e w2 ⟨rfl, rfl⟩
      generalize hsq : seqI kind (first + p) = q at *
      have HX := Lib.hid (show ∀ j, j < i + 1 → (xs.set i (48 + (q : Int))).getD j 0 = 48 + (seqI kind (first + j * step) : Int) from fun j hj => by
        rw [getD_set (by rw [HO.out.1]; exact hlt)]
        by_cases e : i = j
        · subst e; rw [if_pos rfl, hms, hsq]
        · rw [if_neg e]; exact hx.out j (by omega))
      clear hsq hms
      have o1 := HO.out.set i (48 + (q : Int))
      have HO2 := Lib.hid o1.1
      have HB2 := Lib.hid (HB.out.trans o1.2)
      have HMV := Lib.hid (fun h => mark_val q h hq)
      clear o1
      go_wp2
      go_roundw
      case rel =>
        rw [HMV.out]
        exact ⟨i + 1, xs.set i (48 + (q : Int)), by omega, by go_num, HO2.out, HX, HB2.out⟩
      case measure => simp [intOf]; omega
    · have hil : ¬ i < k := hlt
      have HBy := Lib.hid (show Lib.Bytes wr w.heap.size 0 (wb kind first step k) from fun j hj => by
        rw [wb_size] at hj
        rw [Nat.zero_add, HO.out.cellAt hj, hx.out j (by omega)]
        have hq := (seq_same k1 k2 (HN.out j hj)).2
        rw [wb_get, mk_nat hq]
        congr 2)
      have hsz := wb_size kind first step k
      have hcv := Lib.run_convert_whole (P := Tryd.prog) wr 25 5 9 Tryd.underlying25 Tryd.underlying5 Tryd.underlying9 w.heap.size 0 (wb kind first step k) HBy.out k
      rw [hsz] at hcv
      clear hsz
      go_wp2
      go_ret
      exact ⟨rfl, HB.out⟩
theorem sSign (d : Nat) (hd : d ≤ 9) (w : World) : Calls Tryd.prog 32 #[.int .i64 d] w fun e w' => e = .returned (.string ⟨#[mk d]⟩) ∧ Below w.heap.size w w' := by
  have hcv := Lib.run_convert_whole (P := Tryd.prog) (w.alloc (.cells #[.int .u8 (48 + (d : Int))] 5)) 25 5 9 Tryd.underlying25 Tryd.underlying5 Tryd.underlying9 w.heap.size 0 ⟨#[mk d]⟩ (fun j hj => by
    have e : j = 0 := by have : j < 1 := hj; omega
    subst e
    have : ((mk d).toNat : Int) = 48 + (d : Int) := by rw [mk_nat hd]; omega
    show (w.alloc _).cell? ⟨w.heap.size, 0 + 0, none⟩ = some (.int .u8 ((mk d).toNat : Int))
    rw [this]
    simp [World.cell?_alloc_new]) 1
  rw [show (⟨#[mk d]⟩ : ByteArray).size = 1 from rfl] at hcv
  have hle : ¬ (9 : Int) < (d : Int) := by omega
  go_enter Tryd.func32, Tryd.ntmps32
  go_wp2
  go_ret
  exact ⟨rfl, (Below.refl _ _).alloc (Nat.le_refl _) _⟩
theorem sWord (kind first step k : Nat) (k1 : 1 ≤ kind) (k2 : kind ≤ 5) (hk : k ≤ 256) (hn : ∀ j, j < k → first + j * step < 1024) (w : World) :
    Calls Tryd.prog 20 #[.int .i64 kind, .int .i64 first, .int .i64 step, .int .i64 k] w fun e w' => e = .returned (.string (wb kind first step k)) ∧ Below w.heap.size w w' := by
  have HN := Lib.hid hn
  clear hn
  go_enter Tryd.func20, Tryd.ntmps20
  go_wp2_with fail
  go_loopw [9, 10] (fun vs vi wr => ∃ (i : Nat) (s : ByteArray), i ≤ k ∧ vi = .int .i64 i ∧ vs = .string s ∧ Hid (s = wb kind first step i) ∧ Below w.heap.size w wr) (fun _ vi _ => k - (intOf vi).toNat)
  case atStart => exact ⟨0, ⟨#[]⟩, Nat.zero_le _, rfl, rfl, Lib.hid rfl, Below.refl _ _⟩
  case round =>
    obtain ⟨i, s, hi, rfl, rfl, hs', hbel⟩ := hrel
    have HB := Lib.hid hbel
    clear hbel
    by_cases hlt : i < k
    · have hn1 := HN.out i hlt
      have hm : (i : Int) * (step : Int) = ((i * step : Nat) : Int) := by simp
      have hq := (seq_same k1 k2 hn1).2
      have hsz : s.size ≤ 256 := by rw [hs'.out, wb_size]; omega
      have HS := Lib.hid (show s ++ ⟨#[mk (seqI kind (first + i * step))]⟩ = wb kind first step (i + 1) by rw [hs'.out, wb_succ])
      have hsz2 : (⟨#[mk (seqI kind (first + i * step))]⟩ : ByteArray).size = 1 := rfl
      clear hs'
      generalize hms : i * step = p at *
      go_wp2_with fail
      refine (sAt kind (first + p) k1 k2 hn1 _).mono ?_
      rintro e w2 ⟨rfl, hb2⟩
      have HB2 := Lib.hid (HB.out.trans (hb2.mono HB.out.size))
      clear hb2
      generalize seqI kind (first + p) = q at *
      go_wp2_with fail
      refine (sSign q hq _).mono ?_
      rintro e w3 ⟨rfl, hb3⟩
      have HB3 := Lib.hid (HB2.out.trans (hb3.mono HB2.out.size))
      clear hb3
      generalize hch : (⟨#[mk q]⟩ : ByteArray) = ch at *
      clear hch
      go_wp2
      go_roundw
      case rel => exact ⟨i + 1, s ++ ch, by omega, by go_num, rfl, HS, HB3.out⟩
      case measure => simp [intOf]; omega
    · obtain rfl : i = k := by omega
      have HE := Lib.hid hs'.out
      go_wp2
      go_ret
      exact ⟨ret_str HE.out, HB.out⟩
theorem iPart_no (kind first step k : Int) (w : World) (h : inB kind 1 5 = false) :
    Calls Tryd.prog 23 #[.int .i64 kind, .int .i64 first, .int .i64 step, .int .i64 k] w fun e w' => e = .returned (.string ⟨#[]⟩) ∧ w = w' := by
  go_enter Tryd.func23, Tryd.ntmps23
  go_wp2_with fail
  refine (isSeq _ _).mono ?_
  rw [h]
  rintro e w1 ⟨rfl, rfl⟩
  go_wp2
  go_ret
  exact ⟨rfl, rfl⟩
/-- The word of a sequence, or none. -/
def seqW (kind k : Int) : ByteArray := if inB kind 1 5 && inB k 0 256 then wb kind.toNat 0 1 k.toNat else ⟨#[]⟩
theorem iSeqW (kind k : Int) (w : World) (hT : TabAt 1 Lib.deBruijn64tab w) :
    Calls Tryd.prog 14 #[.int .i64 kind, .int .i64 k] w fun e w' => e = .returned (.string (seqW kind k)) ∧ Below w.heap.size w w' := by
  rcases inB_cases k 0 256 with h | h
  · rcases inB_cases kind 1 5 with h' | h'
    · have ⟨k1, k2⟩ := inB_t h
      have ⟨d1, d2⟩ := inB_t h'
      have HV := Lib.hid (show wb kind.toNat 0 1 k.toNat = seqW kind k by unfold seqW; rw [h, h']; rfl)
      obtain ⟨K, rfl⟩ := Int.eq_ofNat_of_zero_le k1
      obtain ⟨D, rfl⟩ := Int.eq_ofNat_of_zero_le (show 0 ≤ kind by omega)
      rw [Int.toNat_natCast, Int.toNat_natCast] at HV
      have HT := Lib.hid hT
      clear hT
      go_enter Tryd.func14, Tryd.ntmps14
      go_wp2_with (first | (go_at_call 22; refine (within_any _ _ _ _).mono ?_; rintro e w' ⟨rfl, rfl⟩))
      refine (iPart D 0 1 K (by omega) (by omega) (by omega) (fun j hj => by omega) _ HT.out).mono ?_
      rintro e w1 ⟨rfl, hb1⟩
      have HB1 := Lib.hid hb1
      clear hb1
      go_wp2
      go_ret
      exact ⟨ret_str HV.out, HB1.out⟩
    · have HV := Lib.hid (show (⟨#[]⟩ : ByteArray) = seqW kind k by unfold seqW; rw [h']; rfl)
      go_enter Tryd.func14, Tryd.ntmps14
      go_wp2_with (first | (go_at_call 22; refine (within_any _ _ _ _).mono ?_; rintro e w' ⟨rfl, rfl⟩))
      refine (iPart_no kind 0 1 k _ h').mono ?_
      rintro e w1 ⟨rfl, rfl⟩
      go_wp2
      go_ret
      exact ⟨ret_str HV.out, Below.refl _ _⟩
  · have HV := Lib.hid (show (⟨#[]⟩ : ByteArray) = seqW kind k by unfold seqW; rw [h]; simp)
    go_enter Tryd.func14, Tryd.ntmps14
    go_wp2_with (first | (go_at_call 22; refine (within_any _ _ _ _).mono ?_; rintro e w' ⟨rfl, rfl⟩))
    go_ret
    exact ⟨ret_str HV.out, Below.refl _ _⟩
theorem sKind (kind : Int) (w : World) : Calls Tryd.prog 18 #[.int .i64 kind] w fun e w' => e = .returned (.bool (inB kind 1 5)) ∧ w = w' := by
  rcases inB_cases kind 1 5 with h | h
  all_goals
    rw [h]
    go_enter Tryd.func18, Tryd.ntmps18
    go_wp2_with (first | (go_at_call 19; refine (l01In_any _ _ _ _).mono ?_; rintro e w' ⟨rfl, rfl⟩))
    go_ret
    exact ⟨rfl, rfl⟩
theorem sSeqW (kind k : Int) (w : World) : Calls Tryd.prog 24 #[.int .i64 kind, .int .i64 k] w fun e w' => e = .returned (.string (seqW kind k)) ∧ Below w.heap.size w w' := by
  rcases inB_cases kind 1 5 with h' | h'
  · rcases inB_cases k 0 256 with h | h
    · have ⟨k1, k2⟩ := inB_t h
      have ⟨d1, d2⟩ := inB_t h'
      have HV := Lib.hid (show wb kind.toNat 0 1 k.toNat = seqW kind k by unfold seqW; rw [h, h']; rfl)
      obtain ⟨K, rfl⟩ := Int.eq_ofNat_of_zero_le k1
      obtain ⟨D, rfl⟩ := Int.eq_ofNat_of_zero_le (show 0 ≤ kind by omega)
      rw [Int.toNat_natCast, Int.toNat_natCast] at HV
      go_enter Tryd.func24, Tryd.ntmps24
      go_wp2_with fail
      refine (sKind _ _).mono ?_
      rw [h']
      rintro e w1 ⟨rfl, rfl⟩
      go_wp2_with (first | (go_at_call 19; refine (l01In_any _ _ _ _).mono ?_; rintro e w' ⟨rfl, rfl⟩))
      refine (sWord D 0 1 K (by omega) (by omega) (by omega) (fun j hj => by omega) _).mono ?_
      rintro e w1 ⟨rfl, hb1⟩
      have HB1 := Lib.hid hb1
      clear hb1
      go_wp2
      go_ret
      exact ⟨ret_str HV.out, HB1.out⟩
    · have HV := Lib.hid (show (⟨#[]⟩ : ByteArray) = seqW kind k by unfold seqW; rw [h]; simp)
      go_enter Tryd.func24, Tryd.ntmps24
      go_wp2_with fail
      refine (sKind _ _).mono ?_
      rw [h']
      rintro e w1 ⟨rfl, rfl⟩
      go_wp2_with (first | (go_at_call 19; refine (l01In_any _ _ _ _).mono ?_; rintro e w' ⟨rfl, rfl⟩))
      go_ret
      exact ⟨ret_str HV.out, Below.refl _ _⟩
  · have HV := Lib.hid (show (⟨#[]⟩ : ByteArray) = seqW kind k by unfold seqW; rw [h']; rfl)
    go_enter Tryd.func24, Tryd.ntmps24
    go_wp2_with fail
    refine (sKind _ _).mono ?_
    rw [h']
    rintro e w1 ⟨rfl, rfl⟩
    go_wp2_with (first | (go_at_call 19; refine (l01In_any _ _ _ _).mono ?_; rintro e w' ⟨rfl, rfl⟩))
    go_ret
    exact ⟨ret_str HV.out, Below.refl _ _⟩
end Sq
end Go.Proofs.YtkddmngbfncocaaDoor
