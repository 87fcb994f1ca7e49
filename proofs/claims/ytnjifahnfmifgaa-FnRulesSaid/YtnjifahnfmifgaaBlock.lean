/-
  Contracts of the sum of blocks of digits.
  Conditions: none.
-/
import Derived.Test.YtnjifahnfmifgaaSlicesB
namespace Go.Proofs.Ytnjifahnfmifgaa
open Go.RowKit
/-- The sum of the blocks of k digits, each with its sign. -/
def bs (b sign : Int) (k : Nat) (own : Int) (l : List Int) : Int := if _h : 0 < l.length ∧ 0 < k then own * Pl.val b (l.take k) + bs b sign k (own * sign) (l.drop k) else 0
  termination_by l.length
  decreasing_by simp; omega
theorem bs_step {b sign own : Int} {k : Nat} {l : List Int} (h : 0 < l.length) (hk : 0 < k) : bs b sign k own l = own * Pl.val b (l.take k) + bs b sign k (own * sign) (l.drop k) := by rw [bs, dif_pos ⟨h, hk⟩]
theorem bs_end {b sign own : Int} {k : Nat} {l : List Int} (h : l.length = 0) : bs b sign k own l = 0 := by rw [bs, dif_neg (by omega)]
theorem Rd.take {w : World} {ao : Option Addr} {cap : Nat} {l : List Int} (h : Rd w ao cap l) (s : Nat) : Rd w ao cap (l.take s) := by
  obtain ⟨h1, h2, h3, h4⟩ := h
  refine ⟨by rw [List.length_take]; omega, h2, h3, ?_⟩
  rcases h4 with rfl | ⟨b, off, e, hl, hc⟩
  · left; simp
  · refine .inr ⟨b, off, e, hl, fun j hj => ?_⟩
    rw [List.length_take] at hj
    rw [hc j (by omega), List.getD_eq_getElem?_getD, List.getD_eq_getElem?_getD, List.getElem?_take, if_pos (by omega)]
theorem Rd.dropN {w : World} {b off cap : Nat} {l : List Int} (h : Rd w (some ⟨b, off, none⟩) cap l) (s : Nat) (hs : s ≤ cap) : Rd w (some ⟨b, off + s, none⟩) (cap - s) (l.drop s) := by
  obtain ⟨h1, h2, h3, h4⟩ := h
  refine ⟨by rw [List.length_drop]; omega, by omega, fun h => by simp at h, ?_⟩
  rcases h4 with rfl | ⟨b', off', e, hl, hcell⟩
  · left; simp
  · simp only [Option.some.injEq, Addr.mk.injEq, and_true] at e
    obtain ⟨rfl, rfl⟩ := e
    refine .inr ⟨b, off + s, rfl, hl, fun j hj => ?_⟩
    rw [List.length_drop] at hj
    rw [show off + s + j = off + (s + j) by omega, hcell (s + j) (by omega), List.getD_eq_getElem?_getD, List.getD_eq_getElem?_getD, List.getElem?_drop]
theorem Rd.dropAll {w : World} {b off s : Nat} {l : List Int} (h : Rd w (some ⟨b, off, none⟩) s l) : Rd w (some ⟨b, off, none⟩) 0 (l.drop s) := by
  have hl : l.drop s = [] := List.drop_eq_nil_of_le h.1
  rw [hl]
  exact ⟨by simp, by unfold maxLen; omega, fun h => by simp at h, .inl rfl⟩
def blkB (n b k sign : Int) : Bool := inB b 2 16 && inB n 0 1000000000000 && inB k 1 40 && decide (sign = 1 ∨ sign = -1)
def blkS (n b k sign : Int) : Int := if blkB n b k sign then bs b sign k.toNat 1 (Pl.dg b n) else 0
theorem pm_mul {o s : Int} (h : o = 1 ∨ o = -1) (h' : s = 1 ∨ s = -1) : o * s = 1 ∨ o * s = -1 := by
  rcases h with rfl | rfl <;> rcases h' with rfl | rfl <;> decide
theorem pm_bd {o v : Int} (h : o = 1 ∨ o = -1) (h0 : 0 ≤ v) (h1 : v ≤ 1000000000000) : -1000000000000 ≤ o * v ∧ o * v ≤ 1000000000000 := by
  rcases h with rfl | rfl <;> omega
def lenOf : Value → Nat | .slice _ n _ => n | _ => 0
theorem val_take_le {b : Int} (hb : 1 ≤ b) {l : List Int} (h : ∀ d ∈ l, 0 ≤ d) (k : Nat) : 0 ≤ Pl.val b (l.take k) ∧ Pl.val b (l.take k) ≤ Pl.val b l := by
  have h1 := Pl.val_append b (l.take k) (l.drop k)
  rw [List.take_append_drop] at h1
  have h2 := Pl.val_nn (show 0 ≤ b by omega) (l.take k) fun d hd => h d (List.mem_of_mem_take hd)
  have h3 := Pl.val_nn (show 0 ≤ b by omega) (l.drop k) fun d hd => h d (List.mem_of_mem_drop hd)
  have h4 : 0 < b ^ (l.take k).length := Pl.pow_pos (by omega) _
  have h5 : 0 ≤ b ^ (l.take k).length * Pl.val b (l.drop k) := Int.mul_nonneg (by omega) h3
  omega
set_option maxHeartbeats 400000 in
theorem iBlockSum (n b k sign : Int) (w : World) :
    Calls Try.prog 20 #[.int .i64 n, .int .i64 b, .int .i64 k, .int .i64 sign] w fun e w' => e = .returned (.tuple #[.int .i64 (blkS n b k sign), .bool (blkB n b k sign)]) ∧ Below w.heap.size w w' := by
  rcases inB_cases b 2 16 with h | h <;> rcases inB_cases n 0 1000000000000 with h' | h' <;> rcases inB_cases k 1 40 with h'' | h''
  case inl.inl.inl =>
    have ⟨b1, b2⟩ := inB_t h
    have ⟨n1, n2⟩ := inB_t h'
    have ⟨k1, k2⟩ := inB_t h''
    by_cases hs : sign = 1 ∨ sign = -1
    · have HV := Lib.hid (show blkB n b k sign = true by simp [blkB, h, h', h'', hs])
      have HV2 := Lib.hid (show blkS n b k sign = bs b sign k.toNat 1 (Pl.dg b n) by rw [blkS, if_pos HV.out])
      have HS := Lib.hid hs
      have hs1 : (sign != 1) = true → (sign != -1) = false := by intro h; rcases hs with rfl | rfl <;> simp_all
      have HM := Lib.hid (Pl.dg_mem b1 n1)
      have hlen := Pl.dg_len40 b1 n1 n2
      have HN := Lib.hid (Pl.val_dg b1 n1)
      have hsg : (sign != 1) = true ∧ (sign != -1) = false ∨ (sign != 1) = false := by rcases hs with rfl | rfl <;> simp
      clear hs hs1
      obtain ⟨kn, rfl⟩ := Int.eq_ofNat_of_zero_le (show 0 ≤ k by omega)
      rw [Int.toNat_natCast] at HV2
      rcases hsg with ⟨g1, g2⟩ | g1
      all_goals
        go_enter Try.func20, Try.ntmps20
        go_wp2_with (first | (go_at_call 49; refine (iBaseOk_any _ _).mono ?_; rintro e w' ⟨rfl, rfl⟩) | (go_at_call 50; refine (isNumber_any _ _).mono ?_; rintro e w' ⟨rfl, rfl⟩) | (go_at_call 40; refine (within_any _ _ _ _).mono ?_; rintro e w' ⟨rfl, rfl⟩))
        refine (digitsOf _ _ _ b1 b2 n1 n2).mono ?_
        rintro e w2 ⟨v, rfl, hown, hb2⟩
        obtain ⟨ao, cap, rfl, hrd⟩ := hown.shape
        have HR := Lib.hid hrd
        have HB := Lib.hid hb2
        clear hown hrd hb2
        generalize Pl.dg b n = l at *
        go_wp2_with fail
        go_loop [10, 11, 12] (fun vd vt vo => ∃ (d : List Int) (a0 : Option Addr) (c : Nat) (t o : Int) (j : Nat), vd = .slice a0 d.length c ∧ Hid (Rd w2 a0 c d) ∧ vt = .int .i64 t ∧ vo = .int .i64 o ∧ Hid (o = 1 ∨ o = -1) ∧ -1 ≤ o ∧ o ≤ 1 ∧ d.length + j ≤ 40 ∧ -((j : Int) * 1000000000000) ≤ t ∧ t ≤ (j : Int) * 1000000000000 ∧ Hid (∃ i, d = l.drop i) ∧ Hid (t + bs b sign kn o d = bs b sign kn 1 l)) (fun vd _ _ => lenOf vd)
        case atStart => exact ⟨l, ao, cap, 0, 1, 0, rfl, HR, rfl, rfl, .inl rfl, by omega, by omega, by omega, by omega, by omega, ⟨0, rfl⟩, (by show (0 : Int) + _ = _; omega)⟩
        case round =>
          obtain ⟨d, a0, c, t, o, j, rfl, hrd, rfl, rfl, ho, o0, o1, hj, t0, t1, hd, hg⟩ := hrel
          by_cases hpos : 0 < d.length
          · obtain ⟨bl, off, rfl, hbl, _⟩ := hrd.out.at hpos
            have hc1 := hrd.out.1
            have hc2 := hrd.out.2.1
            unfold maxLen at hc2
            have HMd := Lib.hid (show ∀ x ∈ d, 0 ≤ x from fun x hx => by obtain ⟨i, rfl⟩ := hd.out; exact (HM.out x (List.mem_of_mem_drop hx)).1)
            have HVd := Lib.hid (show Pl.val b d ≤ 1000000000000 from by
              obtain ⟨i, rfl⟩ := hd.out
              have h1 := Pl.val_drop_le (show 1 ≤ b by omega) (fun x hx => (HM.out x hx).1) i
              have h2 := HN.out
              omega)
            have HT := Lib.hid (val_take_le (show 1 ≤ b by omega) HMd.out kn)
            have HBS := Lib.hid (bs_step (b := b) (sign := sign) (own := o) hpos (show 0 < kn by omega))
            have HP := Lib.hid (pm_mul ho.out HS.out)
            have hp := pm_bd ho.out HT.out.1 (Int.le_trans HT.out.2 HVd.out)
            have hos : -1 ≤ o * sign ∧ o * sign ≤ 1 := by rcases HP.out with e | e <;> omega
            obtain ⟨os1, os2⟩ := hos
            obtain ⟨p1, p2⟩ := hp
            have HGG := Lib.hid (show t + o * Pl.val b (d.take kn) + bs b sign kn (o * sign) (d.drop kn) = bs b sign kn 1 l by rw [← hg.out, HBS.out]; omega)
            by_cases hk : kn ≤ d.length
            · have HL1 := Lib.hid (show (d.take kn).length = kn by rw [List.length_take]; omega)
              have HRt := Lib.hid (hrd.out.take kn)
              have HMt := Lib.hid (show ∀ x ∈ d.take kn, 0 ≤ x from fun x hx => HMd.out x (List.mem_of_mem_take hx))
              by_cases hck : c = kn
              · subst hck
                have HRd := Lib.hid hrd.out.dropAll
                go_wp2_with fail
                refine (valueOf (d.take c) _ HL1.out.symm _ _ _ _ HRt.out (by omega) b2 HMt.out (by have := HVd.out; have := HT.out; omega)).mono ?_
                rintro e w3 ⟨rfl, rfl⟩
                generalize Pl.val b (d.take c) = x at *
                go_wp2
                go_round
                case rel => exact ⟨d.drop c, _, _, t + o * x, o * sign, j + 1, (by congr 1 <;> simp <;> omega), HRd, rfl, rfl, HP, os1, os2, (by simp; omega), by omega, by omega, (by obtain ⟨i, hi⟩ := hd.out; exact ⟨_, by rw [hi, List.drop_drop]⟩), HGG.out⟩
                case measure => simp [lenOf]; omega
              · have HRd := Lib.hid (hrd.out.dropN kn (by omega))
                go_wp2_with fail
                refine (valueOf (d.take kn) _ HL1.out.symm _ _ _ _ HRt.out (by omega) b2 HMt.out (by have := HVd.out; have := HT.out; omega)).mono ?_
                rintro e w3 ⟨rfl, rfl⟩
                generalize Pl.val b (d.take kn) = x at *
                go_wp2
                go_round
                case rel => exact ⟨d.drop kn, _, _, t + o * x, o * sign, j + 1, (by congr 1 <;> simp <;> omega), HRd, rfl, rfl, HP, os1, os2, (by simp; omega), by omega, by omega, (by obtain ⟨i, hi⟩ := hd.out; exact ⟨_, by rw [hi, List.drop_drop]⟩), HGG.out⟩
                case measure => simp [lenOf]; omega
            · have ht : d.take kn = d := List.take_of_length_le (by omega)
              have hdr : d.drop kn = [] := List.drop_eq_nil_of_le (by omega)
              have hdr2 : d.drop d.length = [] := List.drop_eq_nil_of_le (Nat.le_refl _)
              rw [ht] at HT HGG p1 p2
              rw [hdr, ← hdr2] at HGG
              clear ht hdr hdr2
              have hkn : d.length < kn := by omega
              by_cases hck : c = d.length
              · subst hck
                have HRd := Lib.hid hrd.out.dropAll
                go_wp2_with fail
                refine (valueOf d _ rfl _ _ _ _ hrd.out (by omega) b2 HMd.out (by have := HVd.out; have := HT.out; omega)).mono ?_
                rintro e w3 ⟨rfl, rfl⟩
                generalize Pl.val b d = x at *
                go_wp2
                go_round
                case rel => exact ⟨d.drop d.length, _, _, t + o * x, o * sign, j + 1, (by congr 1 <;> simp <;> omega), HRd, rfl, rfl, HP, os1, os2, (by simp; omega), by omega, by omega, (by obtain ⟨i, hi⟩ := hd.out; exact ⟨_, by rw [hi, List.drop_drop]⟩), HGG.out⟩
                case measure => simp [lenOf]; omega
              · have HRd := Lib.hid (hrd.out.dropN d.length (by omega))
                go_wp2_with fail
                refine (valueOf d _ rfl _ _ _ _ hrd.out (by omega) b2 HMd.out (by have := HVd.out; have := HT.out; omega)).mono ?_
                rintro e w3 ⟨rfl, rfl⟩
                generalize Pl.val b d = x at *
                go_wp2
                go_round
                case rel => exact ⟨d.drop d.length, _, _, t + o * x, o * sign, j + 1, (by congr 1 <;> simp <;> omega), HRd, rfl, rfl, HP, os1, os2, (by simp; omega), by omega, by omega, (by obtain ⟨i, hi⟩ := hd.out; exact ⟨_, by rw [hi, List.drop_drop]⟩), HGG.out⟩
                case measure => simp [lenOf]; omega
          · have h0 : d.length = 0 := by omega
            have HE := Lib.hid (bs_end (b := b) (sign := sign) (own := o) (k := kn) h0)
            clear h0
            go_wp2
            go_ret2
            exact ⟨ret_ib (by have h2 := hg.out; rw [HE.out] at h2; rw [HV2.out, ← h2]; omega) HV.out.symm, HB.out⟩
    · have HV := Lib.hid (show blkB n b k sign = false by simp [blkB, hs])
      have HV2 := Lib.hid (show 0 = blkS n b k sign by rw [blkS, if_neg (by rw [HV.out]; simp)])
      have g1 : (sign != 1) = true := by rw [bne_iff_ne]; exact fun e => hs (.inl e)
      have g2 : (sign != -1) = true := by rw [bne_iff_ne]; exact fun e => hs (.inr e)
      clear hs
      go_enter Try.func20, Try.ntmps20
      go_wp2_with (first | (go_at_call 49; refine (iBaseOk_any _ _).mono ?_; rintro e w' ⟨rfl, rfl⟩) | (go_at_call 50; refine (isNumber_any _ _).mono ?_; rintro e w' ⟨rfl, rfl⟩) | (go_at_call 40; refine (within_any _ _ _ _).mono ?_; rintro e w' ⟨rfl, rfl⟩))
      go_ret2
      exact ⟨ret_ib HV2.out HV.out.symm, Below.refl _ _⟩
  all_goals
    have HV := Lib.hid (show blkB n b k sign = false by simp [blkB, h, h', h''])
    have HV2 := Lib.hid (show 0 = blkS n b k sign by rw [blkS, if_neg (by rw [HV.out]; simp)])
    go_enter Try.func20, Try.ntmps20
    go_wp2_with (first | (go_at_call 49; refine (iBaseOk_any _ _).mono ?_; rintro e w' ⟨rfl, rfl⟩) | (go_at_call 50; refine (isNumber_any _ _).mono ?_; rintro e w' ⟨rfl, rfl⟩) | (go_at_call 40; refine (within_any _ _ _ _).mono ?_; rintro e w' ⟨rfl, rfl⟩))
    go_ret2
    exact ⟨ret_ib HV2.out HV.out.symm, Below.refl _ _⟩
end Go.Proofs.Ytnjifahnfmifgaa
