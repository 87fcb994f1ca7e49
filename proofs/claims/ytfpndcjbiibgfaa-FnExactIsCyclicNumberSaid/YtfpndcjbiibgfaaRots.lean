/-
  Contracts of the list of all rotations of a number, of the least one, and of cyclic numbers.
  Conditions: none.
-/
import Derived.Test.YtfpndcjbiibgfaaSlicesC
import Derived.Test.YtfpndcjbiibgfaaSlicesD
import Derived.Test.YtfpndcjbiibgfaaSortC
import Derived.Test.YtfpndcjbiibgfaaRot1
import Derived.Test.YtfpndcjbiibgfaaRotPl
import Derived.Deep.DeepCutAuto
namespace Go.Proofs.Ytfpndcjbiibgfaa
open Go.RowKit
namespace Rots
def rf (b k : Int) (x : Int) : Int := rotZ x b k
def rotsL (n b : Int) (k : Int) (j : Nat) : List Int := Pl.ddL (rf b k) n j
def rotsV (n b k : Int) : List Int := if rokB n b k then Pl.srt (rotsL n b k k.toNat) else []
theorem rok_rot {x b k : Int} (h : rokB x b k = true) : rokB (rotZ x b k) b k = true := by
  obtain ⟨h1, h2, h3, h4⟩ := rok_t h
  have ⟨b1, b2⟩ := inB_t h1
  have ⟨k1, k2⟩ := inB_t h2
  have ⟨n1, n2⟩ := inB_t h3
  obtain ⟨_, _, _, _, r5, r6, _⟩ := rot_bd b1 b2 k1 k2 n1 h4
  have := (rot_bd b1 b2 k1 k2 r5 r6).2.2.2.2.2.2
  rw [rok_mk h1 h2 (inB_mk r5 (by omega))]
  simpa using r6
theorem rok_orb {n b k : Int} (h : rokB n b k = true) : ∀ j : Nat, rokB (Pl.orb (rf b k) n j) b k = true := by
  intro j
  induction j with
  | zero => exact h
  | succ j ih => exact rok_rot ih
theorem rok_bd {x b k : Int} (h : rokB x b k = true) : (2 ≤ b ∧ b ≤ 16) ∧ (1 ≤ k ∧ k ≤ 9) ∧ 0 ≤ x ∧ x ≤ 68719476736 := by
  obtain ⟨h1, h2, h3, h4⟩ := rok_t h
  have ⟨b1, b2⟩ := inB_t h1
  have ⟨k1, k2⟩ := inB_t h2
  have ⟨n1, n2⟩ := inB_t h3
  exact ⟨⟨b1, b2⟩, ⟨k1, k2⟩, n1, (rot_bd b1 b2 k1 k2 n1 h4).2.2.2.2.2.2⟩
theorem rotsV_len (n b k : Int) : (rotsV n b k).length ≤ 9 := by
  cases h : rokB n b k with
  | true =>
    have := (rok_bd h).2.1
    rw [rotsV, if_pos h, (Pl.srt_perm _).length_eq]
    have := Pl.ddL_len (rf b k) n k.toNat
    show (Pl.ddL (rf b k) n k.toNat).length ≤ 9
    omega
  | false => rw [rotsV, h]; simp
theorem iRots (n b k : Int) (w : World) : Calls Try.prog 36 #[.int .i64 n, .int .i64 b, .int .i64 k] w fun e w' => ∃ v, e = .returned v ∧ Own w' w.heap.size v (rotsV n b k) ∧ Below w.heap.size w w' := by
  cases hok : rokB n b k with
  | true =>
    have HV := Lib.hid (show rotsV n b k = Pl.srt (Pl.ddL (rf b k) n k.toNat) by rw [rotsV, if_pos hok]; rfl)
    have ⟨⟨b1, b2⟩, ⟨k1, k2⟩, n1, n2⟩ := rok_bd hok
    have HK := Lib.hid (rok_orb hok)
    have HF := Lib.hid hok
    clear hok
    obtain ⟨K, rfl⟩ := Int.eq_ofNat_of_zero_le (show 0 ≤ k by omega)
    rw [Int.toNat_natCast] at HV
    have K9 : K ≤ 9 := by omega
    go_enter Try.func36, Try.ntmps36
    go_wp2_with fail
    refine (as_bool HF.out (isRotated _ _ _ _)).mono ?_
    rintro e w1 ⟨rfl, rfl⟩
    go_wp2
    go_loopw [0, 7, 14] (fun vn vo vi wr => ∃ (j : Nat) (x : Int), j ≤ K ∧ vi = .int .i64 j ∧ vn = .int .i64 x ∧ Hid (Pl.orb (rf b K) n j = x) ∧ Own wr w.heap.size vo (Pl.ddL (rf b K) n j) ∧ Below w.heap.size w wr) (fun _ _ vi _ => K - (intOf vi).toNat)
    case atStart => exact ⟨0, n, Nat.zero_le _, rfl, rfl, Lib.hid rfl, own_nil _ _, Below.refl _ _⟩
    case round =>
      obtain ⟨j, x, hj, rfl, rfl, hx, hown, hbel⟩ := hrel
      have HO := Lib.hid hown
      have HB := Lib.hid hbel
      clear hown hbel
      have hl := Pl.ddL_len (rf b K) n j
      have HX := Lib.hid (show (Pl.ddL (rf b K) n j).length < 1000000000000 by omega)
      have HXL := Lib.hid hl
      clear hl
      by_cases hlt : j < K
      · have HR := Lib.hid (show rokB x b K = true by rw [← hx.out]; exact HK.out j)
        have HX2 := Lib.hid (show Pl.orb (rf b K) n (j + 1) = rotZ x b K by rw [← hx.out]; rfl)
        obtain ⟨ao, cap, rfl, hrd⟩ := HO.out.shape
        have HRD := Lib.hid hrd
        clear hrd
        have hsz := HB.out.size
        by_cases hm : x ∈ Pl.ddL (rf b K) n j
        · have HC := Lib.hid (show decide (x ∈ Pl.ddL (rf b K) n j) = true by simpa using hm)
          have HD := Lib.hid (Pl.ddL_yes (f := rf b K) (n := n) (j := j) (by rw [hx.out]; exact hm))
          clear hm
          go_wp2_with fail
          refine (as_bool HC.out (slContains _ _ (by simp) _ _ _ _ HRD.out)).mono ?_
          rintro e w2 ⟨rfl, rfl⟩
          go_wp2_with fail
          refine (iRotate _ _ _ _ HR.out).mono ?_
          rintro e w2 ⟨rfl, hb2⟩
          have HO2 := Lib.hid (HO.out.below hb2 (Nat.le_refl _))
          have HB2 := Lib.hid (HB.out.trans (hb2.mono hsz))
          clear hb2 HO
          generalize rotZ x b K = y at *
          go_wp2
          go_roundw
          case rel => exact ⟨j + 1, y, by omega, by go_num, rfl, HX2, by rw [HD.out]; exact HO2.out, HB2.out⟩
          case measure => simp [intOf]; omega
        · have HC := Lib.hid (show decide (x ∈ Pl.ddL (rf b K) n j) = false by simpa using hm)
          have HD := Lib.hid (show Pl.ddL (rf b K) n (j + 1) = Pl.ddL (rf b K) n j ++ [x] by
            have := Pl.ddL_no (f := rf b K) (n := n) (j := j) (by rw [hx.out]; exact hm)
            rwa [hx.out] at this)
          clear hm
          go_wp2_with fail
          refine (as_bool HC.out (slContains _ _ (by simp) _ _ _ _ HRD.out)).mono ?_
          rintro e w2 ⟨rfl, rfl⟩
          go_wp2_with (at_builtin; refine wp_push wr _ _ (Pl.ddL (rf b K) n j) x HO.out rfl _ _ rfl rfl rfl HX.out hsz ?_; intro v1 w3 hown1 hb1')
          refine (iRotate _ _ _ _ HR.out).mono ?_
          rintro e w4 ⟨rfl, hb4⟩
          have HO2 := Lib.hid (hown1.below hb4 (Nat.le_refl _))
          have HB3 := Lib.hid (HB.out.trans hb1')
          have HB2 := Lib.hid (HB3.out.trans (hb4.mono HB3.out.size))
          clear hb4 HO hown1 hb1'
          generalize rotZ x b K = y at *
          go_wp2
          go_roundw
          case rel => exact ⟨j + 1, y, by omega, by go_num, rfl, HX2, by rw [HD.out]; exact HO2.out, HB2.out⟩
          case measure => simp [intOf]; omega
      · obtain rfl : j = K := by omega
        go_wp2_with fail
        refine (Srt.slSort _ _ _ _ HO.out (by have := HXL.out; omega)).mono ?_
        rintro e w2 ⟨rfl, hown2, hb2⟩
        have HO2 := Lib.hid hown2
        have HB2 := Lib.hid (HB.out.trans hb2)
        clear hown2 hb2
        go_wp2
        go_ret
        exact ⟨_, rfl, by rw [HV.out]; exact HO2.out, HB2.out⟩
  | false =>
    have HV := Lib.hid (show [] = rotsV n b k by rw [rotsV, hok]; rfl)
    have HF := Lib.hid hok
    clear hok
    go_enter Try.func36, Try.ntmps36
    go_wp2_with fail
    refine (as_bool HF.out (isRotated _ _ _ _)).mono ?_
    rintro e w1 ⟨rfl, rfl⟩
    go_wp2
    go_ret
    exact ⟨_, rfl, by rw [← HV.out]; exact own_nil _ _, Below.refl _ _⟩
theorem rd_take {w : World} {ao : Option Addr} {cap : Nat} {l : List Int} (h : Rd w ao cap l) (s : Nat) : Rd w ao cap (l.take s) := by
  obtain ⟨h1, h2, h3, h4⟩ := h
  refine ⟨by rw [List.length_take]; omega, h2, h3, ?_⟩
  rcases h4 with rfl | ⟨b, off, e, hl, hc⟩
  · left; simp
  · refine .inr ⟨b, off, e, hl, fun j hj => ?_⟩
    rw [List.length_take] at hj
    rw [hc j (by omega), List.getD_eq_getElem?_getD, List.getD_eq_getElem?_getD, List.getElem?_take, if_pos (by omega)]
theorem rd_drop {w : World} {b off cap : Nat} {l : List Int} (h : Rd w (some ⟨b, off, none⟩) cap l) (s : Nat) (hs : s ≤ cap) : Rd w (some ⟨b, off + s, none⟩) (cap - s) (l.drop s) := by
  obtain ⟨h1, h2, h3, h4⟩ := h
  refine ⟨by rw [List.length_drop]; omega, by omega, fun h => by simp at h, ?_⟩
  rcases h4 with rfl | ⟨b', off', e, hl, hcell⟩
  · left; simp
  · simp only [Option.some.injEq, Addr.mk.injEq, and_true] at e
    obtain ⟨rfl, rfl⟩ := e
    refine .inr ⟨b, off + s, rfl, hl, fun j hj => ?_⟩
    rw [List.length_drop] at hj
    rw [show off + s + j = off + (s + j) by omega, hcell (s + j) (by omega), List.getD_eq_getElem?_getD, List.getD_eq_getElem?_getD, List.getElem?_drop]
theorem rd_end {w : World} {b off s : Nat} {l : List Int} (h : Rd w (some ⟨b, off, none⟩) s l) : Rd w (some ⟨b, off, none⟩) 0 (l.drop s) := by
  have hl : l.drop s = [] := List.drop_eq_nil_of_le h.1
  rw [hl]
  exact ⟨by simp, by unfold maxLen; omega, fun h => by simp at h, .inl rfl⟩
theorem own_some {w : World} {B : Nat} {v : Value} {l : List Int} (h : Own w B v l) (hl : l ≠ []) : ∃ g cap, v = .slice (some ⟨g, 0, none⟩) l.length cap := by
  rcases h.forms with ⟨_, h0⟩ | ⟨g, cap, e, _⟩
  · exact absurd h0 hl
  · exact ⟨g, cap, e⟩
theorem at_step {s : List Int} {x : Int} {i : Nat} (h : ∀ j, j < i → s.getD j 0 < x) (h2 : s.getD i 0 < x) : ∀ j, j < i + 1 → s.getD j 0 < x := fun j hj => if e : j = i then (by subst e; exact h2) else h j (by omega)
set_option maxHeartbeats 1000000 in
theorem sRots (n b k : Int) (w : World) : Calls Try.prog 45 #[.int .i64 n, .int .i64 b, .int .i64 k] w fun e w' => ∃ v, e = .returned v ∧ Own w' w.heap.size v (rotsV n b k) ∧ Below w.heap.size w w' := by
  cases hok : rokB n b k with
  | true =>
    have HV := Lib.hid (show rotsV n b k = Pl.srt (Pl.ddL (rf b k) n k.toNat) by rw [rotsV, if_pos hok]; rfl)
    have ⟨⟨b1, b2⟩, ⟨k1, k2⟩, n1, n2⟩ := rok_bd hok
    have HK := Lib.hid (rok_orb hok)
    have HF := Lib.hid hok
    clear hok
    obtain ⟨K, rfl⟩ := Int.eq_ofNat_of_zero_le (show 0 ≤ k by omega)
    rw [Int.toNat_natCast] at HV
    have K9 : K ≤ 9 := by omega
    go_enter Try.func45, Try.ntmps45
    go_wp2_with fail
    refine (as_bool HF.out (l23Ok _ _ _ _)).mono ?_
    rintro e w1 ⟨rfl, hb1⟩
    go_wp2
    go_loopw [0, 7, 8] (fun vn vo vi wr => ∃ (j : Nat) (x : Int) (g q cap : Nat), j ≤ K ∧ vi = .int .i64 j ∧ vn = .int .i64 x ∧ vo = .slice (some ⟨g, 0, none⟩) q cap ∧ Hid (q = (Pl.ddL (rf b K) n j).length) ∧ Hid (Pl.orb (rf b K) n j = x) ∧ Own wr w.heap.size (.slice (some ⟨g, 0, none⟩) q cap) (Pl.srt (Pl.ddL (rf b K) n j)) ∧ Below w.heap.size w wr) (fun _ _ vi _ => K - (intOf vi).toNat)
    case atStart => exact ⟨0, n, w1.heap.size, 0, 0, Nat.zero_le _, rfl, rfl, rfl, Lib.hid rfl, Lib.hid rfl, by have := (own_made w1).mono hb1.size; simpa [Pl.ddL, Pl.srt] using this, hb1.alloc hb1.size _⟩
    case round =>
      obtain ⟨j, x, g, q, cap, hj, rfl, rfl, rfl, hq, hx, hown, hbel⟩ := hrel
      have HO := Lib.hid hown
      have HB := Lib.hid hbel
      clear hown hbel hb1
      have hrd : Rd wr (some ⟨g, 0, none⟩) cap (Pl.srt (Pl.ddL (rf b K) n j)) := by
        obtain ⟨ao', cap', e, hr⟩ := HO.out.shape
        simp only [Value.slice.injEq] at e
        obtain ⟨rfl, _, rfl⟩ := e
        exact hr
      have hl := Pl.ddL_len (rf b K) n j
      have HS := Lib.hid (Pl.srt_sorted (Pl.ddL (rf b K) n j))
      have HP := Lib.hid (Pl.srt_perm (Pl.ddL (rf b K) n j))
      have HL := Lib.hid (show q = (Pl.srt (Pl.ddL (rf b K) n j)).length by rw [HP.out.length_eq]; exact hq.out)
      have q9 : q ≤ 9 := by have := hq.out; omega
      have hcap := hrd.1
      have hcap2 := hrd.2.1
      unfold maxLen at hcap2
      have HRD := Lib.hid hrd
      rw [← HL.out] at hcap
      clear hrd hl
      by_cases hlt : j < K
      · have HR := Lib.hid (show rokB x b K = true by rw [← hx.out]; exact HK.out j)
        have HX2 := Lib.hid (show Pl.orb (rf b K) n (j + 1) = rotZ x b K by rw [← hx.out]; rfl)
        obtain ⟨wo, rfl⟩ : ∃ wo : World, wo = wr := ⟨_, rfl⟩
        go_wp2
        go_loop [9] (fun va => ∃ (i : Nat), i ≤ q ∧ va = .int .i64 i ∧ Hid (∀ j', j' < i → (Pl.srt (Pl.ddL (rf b K) n j)).getD j' 0 < x)) (fun va => q - (intOf va).toNat)
        case atStart => exact ⟨0, Nat.zero_le _, rfl, Lib.hid (fun j' h => absurd h (by omega))⟩
        case round =>
          obtain ⟨i, hi, rfl, hlow⟩ := hrel
          by_cases hless : i < q ∧ (Pl.srt (Pl.ddL (rf b K) n j)).getD i 0 < x
          · obtain ⟨hiq, hlx⟩ := hless
            obtain ⟨g', off', e', _, hc⟩ := HRD.out.at (show i < (Pl.srt (Pl.ddL (rf b K) n j)).length by rw [← HL.out]; exact hiq)
            simp only [Option.some.injEq, Addr.mk.injEq, and_true] at e'
            obtain ⟨rfl, rfl⟩ := e'
            rw [Nat.zero_add] at hc
            have HE := Lib.hid (at_step hlow.out hlx)
            generalize (Pl.srt (Pl.ddL (rf b K) n j)).getD i 0 = d at *
            go_wp2
            go_round
            case rel => exact ⟨i + 1, by omega, by go_num, HE⟩
            case measure => simp [intOf]; omega
          · have HAt := Lib.hid (show Pl.At (Pl.srt (Pl.ddL (rf b K) n j)) x i from ⟨by rw [← HL.out]; omega, hlow.out, by
              by_cases hiq : i = q
              · left; rw [hiq]; exact HL.out
              · right
                have hiq2 : i < q := by omega
                have : ¬ (Pl.srt (Pl.ddL (rf b K) n j)).getD i 0 < x := fun h => hless ⟨hiq2, h⟩
                omega⟩)
            have HMem := Lib.hid (HAt.out.mem HS.out)
            by_cases hmem : i < q ∧ (Pl.srt (Pl.ddL (rf b K) n j)).getD i 0 = x
            · obtain ⟨hiq, hdx⟩ := hmem
              have HD := Lib.hid (show Pl.ddL (rf b K) n (j + 1) = Pl.ddL (rf b K) n j from Pl.ddL_yes (by
                rw [hx.out, ← HP.out.mem_iff]
                exact HMem.out.2 ⟨by rw [← HL.out]; exact hiq, hdx⟩))
              obtain ⟨g', off', e', _, hc⟩ := HRD.out.at (show i < (Pl.srt (Pl.ddL (rf b K) n j)).length by rw [← HL.out]; exact hiq)
              simp only [Option.some.injEq, Addr.mk.injEq, and_true] at e'
              obtain ⟨rfl, rfl⟩ := e'
              rw [Nat.zero_add, hdx] at hc
              have hb1 : ((i : Int) == (q : Int)) = false := by rw [beq_eq_false_iff_ne]; omega
              clear hless hdx
              go_wp2_with fail
              refine (sRotate _ _ _ _ HR.out).mono ?_
              rintro e w5 ⟨rfl, hb5⟩
              have HO2 := Lib.hid (HO.out.below hb5 (Nat.le_refl _))
              have HB2 := Lib.hid (HB.out.trans (hb5.mono HB.out.size))
              clear hb5 HO
              generalize rotZ x b K = y at *
              go_wp2
              go_roundw
              case rel => exact ⟨j + 1, y, g, q, cap, by omega, by go_num, rfl, rfl, by rw [HD.out]; exact hq, HX2, by rw [HD.out]; exact HO2.out, HB2.out⟩
              case measure => simp [intOf]; omega
            · have HD := Lib.hid (show Pl.ddL (rf b K) n (j + 1) = Pl.ddL (rf b K) n j ++ [x] by
                have := Pl.ddL_no (f := rf b K) (n := n) (j := j) (by
                  rw [hx.out, ← HP.out.mem_iff]
                  intro hm
                  have := HMem.out.1 hm
                  exact hmem ⟨by rw [HL.out]; exact this.1, this.2⟩)
                rwa [hx.out] at this)
              have hcase : ((¬ i < q) ∧ ((i : Int) == (q : Int)) = true) ∨ (i < q ∧ ((i : Int) == (q : Int)) = false ∧ x < (Pl.srt (Pl.ddL (rf b K) n j)).getD i 0) := by
                by_cases hiq : i < q
                · right
                  refine ⟨hiq, by rw [beq_eq_false_iff_ne]; omega, ?_⟩
                  have h1 : ¬ (Pl.srt (Pl.ddL (rf b K) n j)).getD i 0 < x := fun h => hless ⟨hiq, h⟩
                  have h2 : ¬ (Pl.srt (Pl.ddL (rf b K) n j)).getD i 0 = x := fun h => hmem ⟨hiq, h⟩
                  omega
                · left; exact ⟨hiq, by rw [beq_iff_eq]; omega⟩
              clear hless hmem HMem
              rcases hcase with ⟨hiq, hb1⟩ | ⟨hiq, hb1, hlx⟩
              · skip
                have HIns := Lib.hid (show ((Pl.srt (Pl.ddL (rf b K) n j)).take i ++ [x]) ++ (Pl.srt (Pl.ddL (rf b K) n j)).drop i = Pl.srt (Pl.ddL (rf b K) n (j + 1)) by
                  rw [HD.out]; exact HAt.out.ins)
                have HT := Lib.hid (show i = ((Pl.srt (Pl.ddL (rf b K) n j)).take i).length by rw [List.length_take]; have := HL.out; omega)
                have HT2 := Lib.hid (show q - i = ((Pl.srt (Pl.ddL (rf b K) n j)).drop i).length by rw [List.length_drop]; have := HL.out; omega)
                have HLN := Lib.hid (show q + 1 = (Pl.ddL (rf b K) n (j + 1)).length by rw [HD.out]; have := hq.out; simp; exact this)
                generalize Pl.srt (Pl.ddL (rf b K) n j) = s at *
                have hRt := Lib.hid ((rd_take HRD.out i).below ((Below.refl wo.heap.size wo).alloc (Nat.le_refl _) (.cells #[] 3)) (Nat.le_refl _))
                clear HAt HP HS
                go_upto_region 12 with (at_builtin; refine wp_pushL _ wo.heap.size _ [] (s.take i) _ _ _ (own_made wo) hRt.out rfl _ _ rfl rfl rfl HT.out (by have := HT.out; simp; omega) (by simp) ?_; intro v2 w2 hown2 hb2)
                have hsz2 : wo.heap.size ≤ w2.heap.size := by have := hb2.size; simp at this; omega
                have HX2' := Lib.hid (show ([] ++ s.take i).length < 1000000000000 by have := HT.out; simp; omega)
                have HO2 := Lib.hid hown2
                have HB2 := Lib.hid ((Below.refl wo.heap.size wo).alloc (Nat.le_refl _) (.cells #[] 3) |>.trans hb2)
                clear hown2 hb2 hRt
                go_upto_region 13 with (at_builtin; refine wp_push w2 wo.heap.size _ ([] ++ s.take i) x HO2.out rfl _ _ rfl rfl rfl HX2'.out hsz2 ?_; intro v3 w3 hown3 hb3)
                have HO3 := Lib.hid hown3
                have HB3 := Lib.hid (HB2.out.trans hb3)
                have hsz3 := HB3.out.size
                clear hown3 hb3 HO2 HB2
                have HX3 := Lib.hid (show ([] ++ s.take i ++ [x]).length + (s.drop i).length ≤ 17592186044416 by have := HT.out; have := HT2.out; have := HL.out; simp; omega)
                by_cases hcc : cap = i
                · have HRd : Rd w3 (some ⟨g, 0, none⟩) 0 (s.drop i) := (rd_end (by rw [← hcc]; exact HRD.out)).below HB3.out (Nat.le_refl _)
                  have hqi : q - i = 0 := by omega
                  have HQI := Lib.hid hqi
                  have HRD0 := Lib.hid HRd
                  have HT3 := Lib.hid (show 0 = (s.drop i).length by rw [← HT2.out]; omega)
                  clear hqi HRd
                  subst hcc
                  go_wp2_with (at_builtin; refine wp_pushL w3 wo.heap.size _ ([] ++ s.take cap ++ [x]) (s.drop cap) _ _ _ HO3.out HRD0.out rfl _ _ rfl rfl rfl HT3.out HX3.out hsz3 ?_; intro v4 w4 hown4 hb4)
                  have hbw := HB3.out.trans hb4
                  have hown5 : Own w4 wo.heap.size v4 (Pl.srt (Pl.ddL (rf b K) n (j + 1))) := by rw [← HIns.out]; simpa using hown4
                  obtain ⟨g5, cap5, e5⟩ := own_some hown5 (by rw [← HIns.out]; simp)
                  rw [(Pl.srt_perm _).length_eq, ← HLN.out] at e5
                  subst e5
                  have HO5 := Lib.hid (hown5.mono HB.out.size)
                  have HB5 := Lib.hid (HB.out.trans (hbw.mono HB.out.size))
                  clear hown4 hown5 hb4 hbw HO3 HB3
                  refine (sRotate _ _ _ _ HR.out).mono ?_
                  rintro e w5 ⟨rfl, hb5⟩
                  have HO6 := Lib.hid (HO5.out.below hb5 (Nat.le_refl _))
                  have HB6 := Lib.hid (HB5.out.trans (hb5.mono HB5.out.size))
                  clear hb5 HO5
                  generalize rotZ x b K = y at *
                  go_wp2
                  go_roundw
                  case rel => exact ⟨j + 1, y, g5, q + 1, cap5, by omega, by go_num, rfl, rfl, HLN, HX2, HO6.out, HB6.out⟩
                  case measure => simp [intOf]; omega
                · have HRd := Lib.hid (show Rd w3 (some ⟨g, i, none⟩) (cap - i) (s.drop i) by have := (rd_drop HRD.out i (by omega)).below HB3.out (Nat.le_refl _); rwa [Nat.zero_add] at this)
                  go_wp2_with (at_builtin; refine wp_pushL w3 wo.heap.size _ ([] ++ s.take i ++ [x]) (s.drop i) _ _ _ HO3.out HRd.out rfl _ _ rfl rfl rfl HT2.out HX3.out hsz3 ?_; intro v4 w4 hown4 hb4)
                  have hbw := HB3.out.trans hb4
                  have hown5 : Own w4 wo.heap.size v4 (Pl.srt (Pl.ddL (rf b K) n (j + 1))) := by rw [← HIns.out]; simpa using hown4
                  obtain ⟨g5, cap5, e5⟩ := own_some hown5 (by rw [← HIns.out]; simp)
                  rw [(Pl.srt_perm _).length_eq, ← HLN.out] at e5
                  subst e5
                  have HO5 := Lib.hid (hown5.mono HB.out.size)
                  have HB5 := Lib.hid (HB.out.trans (hbw.mono HB.out.size))
                  clear hown4 hown5 hb4 hbw HO3 HB3
                  refine (sRotate _ _ _ _ HR.out).mono ?_
                  rintro e w5 ⟨rfl, hb5⟩
                  have HO6 := Lib.hid (HO5.out.below hb5 (Nat.le_refl _))
                  have HB6 := Lib.hid (HB5.out.trans (hb5.mono HB5.out.size))
                  clear hb5 HO5
                  generalize rotZ x b K = y at *
                  go_wp2
                  go_roundw
                  case rel => exact ⟨j + 1, y, g5, q + 1, cap5, by omega, by go_num, rfl, rfl, HLN, HX2, HO6.out, HB6.out⟩
                  case measure => simp [intOf]; omega
              · obtain ⟨g', off', e', _, hc⟩ := HRD.out.at (show i < (Pl.srt (Pl.ddL (rf b K) n j)).length by rw [← HL.out]; exact hiq)
                simp only [Option.some.injEq, Addr.mk.injEq, and_true] at e'
                obtain ⟨rfl, rfl⟩ := e'
                rw [Nat.zero_add] at hc
                have hbd : ((Pl.srt (Pl.ddL (rf b K) n j)).getD i 0 != x) = true := by rw [bne_iff_ne]; omega
                have hlow0 := HAt
                generalize (Pl.srt (Pl.ddL (rf b K) n j)).getD i 0 = d at hbd hc hlx
                clear hlow0
                have HIns := Lib.hid (show ((Pl.srt (Pl.ddL (rf b K) n j)).take i ++ [x]) ++ (Pl.srt (Pl.ddL (rf b K) n j)).drop i = Pl.srt (Pl.ddL (rf b K) n (j + 1)) by
                  rw [HD.out]; exact HAt.out.ins)
                have HT := Lib.hid (show i = ((Pl.srt (Pl.ddL (rf b K) n j)).take i).length by rw [List.length_take]; have := HL.out; omega)
                have HT2 := Lib.hid (show q - i = ((Pl.srt (Pl.ddL (rf b K) n j)).drop i).length by rw [List.length_drop]; have := HL.out; omega)
                have HLN := Lib.hid (show q + 1 = (Pl.ddL (rf b K) n (j + 1)).length by rw [HD.out]; have := hq.out; simp; exact this)
                generalize Pl.srt (Pl.ddL (rf b K) n j) = s at *
                have hRt := Lib.hid ((rd_take HRD.out i).below ((Below.refl wo.heap.size wo).alloc (Nat.le_refl _) (.cells #[] 3)) (Nat.le_refl _))
                clear HAt HP HS
                go_upto_region 12 with (at_builtin; refine wp_pushL _ wo.heap.size _ [] (s.take i) _ _ _ (own_made wo) hRt.out rfl _ _ rfl rfl rfl HT.out (by have := HT.out; simp; omega) (by simp) ?_; intro v2 w2 hown2 hb2)
                have hsz2 : wo.heap.size ≤ w2.heap.size := by have := hb2.size; simp at this; omega
                have HX2' := Lib.hid (show ([] ++ s.take i).length < 1000000000000 by have := HT.out; simp; omega)
                have HO2 := Lib.hid hown2
                have HB2 := Lib.hid ((Below.refl wo.heap.size wo).alloc (Nat.le_refl _) (.cells #[] 3) |>.trans hb2)
                clear hown2 hb2 hRt
                go_upto_region 13 with (at_builtin; refine wp_push w2 wo.heap.size _ ([] ++ s.take i) x HO2.out rfl _ _ rfl rfl rfl HX2'.out hsz2 ?_; intro v3 w3 hown3 hb3)
                have HO3 := Lib.hid hown3
                have HB3 := Lib.hid (HB2.out.trans hb3)
                have hsz3 := HB3.out.size
                clear hown3 hb3 HO2 HB2
                have HX3 := Lib.hid (show ([] ++ s.take i ++ [x]).length + (s.drop i).length ≤ 17592186044416 by have := HT.out; have := HT2.out; have := HL.out; simp; omega)
                by_cases hcc : cap = i
                · have HRd : Rd w3 (some ⟨g, 0, none⟩) 0 (s.drop i) := (rd_end (by rw [← hcc]; exact HRD.out)).below HB3.out (Nat.le_refl _)
                  have hqi : q - i = 0 := by omega
                  have HQI := Lib.hid hqi
                  have HRD0 := Lib.hid HRd
                  have HT3 := Lib.hid (show 0 = (s.drop i).length by rw [← HT2.out]; omega)
                  clear hqi HRd
                  subst hcc
                  go_wp2_with (at_builtin; refine wp_pushL w3 wo.heap.size _ ([] ++ s.take cap ++ [x]) (s.drop cap) _ _ _ HO3.out HRD0.out rfl _ _ rfl rfl rfl HT3.out HX3.out hsz3 ?_; intro v4 w4 hown4 hb4)
                  have hbw := HB3.out.trans hb4
                  have hown5 : Own w4 wo.heap.size v4 (Pl.srt (Pl.ddL (rf b K) n (j + 1))) := by rw [← HIns.out]; simpa using hown4
                  obtain ⟨g5, cap5, e5⟩ := own_some hown5 (by rw [← HIns.out]; simp)
                  rw [(Pl.srt_perm _).length_eq, ← HLN.out] at e5
                  subst e5
                  have HO5 := Lib.hid (hown5.mono HB.out.size)
                  have HB5 := Lib.hid (HB.out.trans (hbw.mono HB.out.size))
                  clear hown4 hown5 hb4 hbw HO3 HB3
                  refine (sRotate _ _ _ _ HR.out).mono ?_
                  rintro e w5 ⟨rfl, hb5⟩
                  have HO6 := Lib.hid (HO5.out.below hb5 (Nat.le_refl _))
                  have HB6 := Lib.hid (HB5.out.trans (hb5.mono HB5.out.size))
                  clear hb5 HO5
                  generalize rotZ x b K = y at *
                  go_wp2
                  go_roundw
                  case rel => exact ⟨j + 1, y, g5, q + 1, cap5, by omega, by go_num, rfl, rfl, HLN, HX2, HO6.out, HB6.out⟩
                  case measure => simp [intOf]; omega
                · have HRd := Lib.hid (show Rd w3 (some ⟨g, i, none⟩) (cap - i) (s.drop i) by have := (rd_drop HRD.out i (by omega)).below HB3.out (Nat.le_refl _); rwa [Nat.zero_add] at this)
                  go_wp2_with (at_builtin; refine wp_pushL w3 wo.heap.size _ ([] ++ s.take i ++ [x]) (s.drop i) _ _ _ HO3.out HRd.out rfl _ _ rfl rfl rfl HT2.out HX3.out hsz3 ?_; intro v4 w4 hown4 hb4)
                  have hbw := HB3.out.trans hb4
                  have hown5 : Own w4 wo.heap.size v4 (Pl.srt (Pl.ddL (rf b K) n (j + 1))) := by rw [← HIns.out]; simpa using hown4
                  obtain ⟨g5, cap5, e5⟩ := own_some hown5 (by rw [← HIns.out]; simp)
                  rw [(Pl.srt_perm _).length_eq, ← HLN.out] at e5
                  subst e5
                  have HO5 := Lib.hid (hown5.mono HB.out.size)
                  have HB5 := Lib.hid (HB.out.trans (hbw.mono HB.out.size))
                  clear hown4 hown5 hb4 hbw HO3 HB3
                  refine (sRotate _ _ _ _ HR.out).mono ?_
                  rintro e w5 ⟨rfl, hb5⟩
                  have HO6 := Lib.hid (HO5.out.below hb5 (Nat.le_refl _))
                  have HB6 := Lib.hid (HB5.out.trans (hb5.mono HB5.out.size))
                  clear hb5 HO5
                  generalize rotZ x b K = y at *
                  go_wp2
                  go_roundw
                  case rel => exact ⟨j + 1, y, g5, q + 1, cap5, by omega, by go_num, rfl, rfl, HLN, HX2, HO6.out, HB6.out⟩
                  case measure => simp [intOf]; omega
      · obtain rfl : j = K := by omega
        go_wp2
        go_ret
        exact ⟨_, rfl, by rw [HV.out]; exact HO.out, HB.out⟩
  | false =>
    have HV := Lib.hid (show [] = rotsV n b k by rw [rotsV, hok]; rfl)
    have HF := Lib.hid hok
    clear hok
    go_enter Try.func45, Try.ntmps45
    go_wp2_with fail
    refine (as_bool HF.out (l23Ok _ _ _ _)).mono ?_
    rintro e w1 ⟨rfl, hb1⟩
    go_wp2
    go_ret
    exact ⟨_, rfl, by rw [← HV.out]; exact own_nil _ _, hb1⟩
end Rots
end Go.Proofs.Ytfpndcjbiibgfaa
