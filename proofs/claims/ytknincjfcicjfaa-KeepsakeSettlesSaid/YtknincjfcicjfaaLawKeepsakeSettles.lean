/- The walk of the law KeepsakeSettles: for every allocation and rankings it returns true, and changes nothing that was there.  (Printed by wip/genksettles.py.) -/
import Derived.Test.YtknincjfcicjfaaAlive29
import Derived.Test.YtknincjfcicjfaaKeepI
namespace Go.Proofs.Ytknincjfcicjfaa
set_option linter.unusedVariables false
set_option linter.unusedSimpArgs false
open Go.ChangeShapes Go.WideShapes Go.ChangeAt Go.RowKit Go.Deep

set_option maxHeartbeats 4000000 in
set_option maxRecDepth 100000 in
theorem keepsakeSettles_early (pa : Option Addr) (ca : Nat) (a : List Int) (p : Option Addr) (c : Nat) (v : List (List Int)) (w : World) (ha : Ints w pa ca a) (hx : Mat w p c v) (hN : GreatK a v ∨ ¬ Lkd a v) :
    Calls Try.prog 7 #[.slice pa a.length ca, .slice p v.length c] w fun e w' => e = .returned (.bool true) ∧ Below w.heap.size w w' := by
  have hG := fun W h1 h2 => great29_any pa ca a p c v W (h1 : Ints W pa ca a) (h2 : Mat W p c v)
  by_cases hgr : GreatK a v
  · rw [decide_eq_true hgr] at hG
    have HG := Lib.hid hG
    clear hgr hG hN
    go_enter Try.func7, Try.ntmps7
    go_wp2_with fail
    refine (alive29_any _).mono ?_
    rintro e w1 ⟨rfl, hb⟩
    go_wp2_with fail
    refine (HG.out _ (ha.below hb (Nat.le_refl _)) (hx.below hb (Nat.le_refl _))).mono ?_
    rintro e w2 ⟨rfl, rfl⟩
    go_wp2_with fail
    go_ret
    exact ⟨rfl, hb⟩
  have hL : ¬ Lkd a v := by rcases hN with h | h; exact absurd h hgr; exact h
  rw [decide_eq_false hgr] at hG
  have HG := Lib.hid hG
  have h0 : lkdI a v ≠ 0 := fun h => hL (lkdI_zero.1 h)
  have hC := fun W h1 h2 => ref29Looked_any pa ca a p c v W (h1 : Ints W pa ca a) (h2 : Mat W p c v)
  obtain ⟨k, hk⟩ : ∃ k, lkdI a v = k := ⟨_, rfl⟩
  rw [hk] at hC h0
  have hd : (k != 0) = true := by rw [bne_iff_ne]; exact h0
  have HC := Lib.hid hC
  clear hC hgr hG hN hL h0 hk
  go_enter Try.func7, Try.ntmps7
  go_wp2_with fail
  refine (alive29_any _).mono ?_
  rintro e w1 ⟨rfl, hb⟩
  replace ha := ha.below hb (Nat.le_refl _)
  replace hx := hx.below hb (Nat.le_refl _)
  go_wp2_with fail
  refine (HG.out _ ha hx).mono ?_
  rintro e w2 ⟨rfl, rfl⟩
  go_wp2_with fail
  refine (HC.out _ ha hx).mono ?_
  rintro e w3 ⟨rfl, n, rfl⟩
  go_wp2_with fail
  go_ret
  exact ⟨rfl, hb.drewN' _⟩

set_option maxHeartbeats 4000000 in
set_option maxRecDepth 100000 in
theorem keepsakeSettles_none (pa : Option Addr) (ca : Nat) (a : List Int) (p : Option Addr) (c : Nat) (v : List (List Int)) (w : World) (ha : Ints w pa ca a) (hx : Mat w p c v) (hgr : ¬ GreatK a v) (hL : Lkd a v) (hex : exT a v = none) :
    Calls Try.prog 7 #[.slice pa a.length ca, .slice p v.length c] w fun e w' => e = .returned (.bool true) ∧ Below w.heap.size w w' := by
  have hG := fun W h1 h2 => great29_any pa ca a p c v W (h1 : Ints W pa ca a) (h2 : Mat W p c v)
  have hC := fun W h1 h2 => ref29Looked_any pa ca a p c v W (h1 : Ints W pa ca a) (h2 : Mat W p c v)
  rw [decide_eq_false hgr] at hG
  rw [lkdI_zero.2 hL] at hC
  have hrl : Hid (∀ i, i < v.length → (rget v i).length ≤ 1000000) := fun i hi => by have := (hL.2.2.2.1 i hi).1; have := hL.2.1; omega
  have hT := fun W h1 h2 => keepTrade_any pa ca a p c v W (h1 : Ints W pa ca a) (h2 : Mat W p c v) hrl
  have hS := fun W h1 h2 => keepSettle_any pa ca a p c v W (h1 : Ints W pa ca a) (h2 : Mat W p c v) hrl
  have hL2 : Lkd (stL a v) v := stTo_lkd hL _
  have hlen : (stL a v).length = a.length := stTo_len a v _
  have hLT := fun W q d h1 h2 => keepTrade_any q d (stL a v) p c v W (h1 : Ints W q d (stL a v)) (h2 : Mat W p c v) hrl
  have hLC := fun W q d h1 h2 => ref29Looked_any q d (stL a v) p c v W (h1 : Ints W q d (stL a v)) (h2 : Mat W p c v)
  have hlast : exT (stL a v) v = none := (stN_spec hL).2.1
  have e1 : trdX (stL a v) v = none := by unfold trdX; rw [if_pos hL2, hlast]
  have e2 : trdE (stL a v) v = 6 := by unfold trdE; rw [if_pos hL2, hlast]; rfl
  have e3 : trdE a v = 6 := by unfold trdE; rw [if_pos hL, hex]; rfl
  rw [e1, e2, hlen] at hLT
  rw [lkdI_zero.2 hL2, hlen] at hLC
  rw [(stl_ok hL).1, (stl_ok hL).2.1, (stl_ok hL).2.2] at hS
  rw [e3] at hT
  have hcnt := fun m (hm : m < v.length) => cntP_to hL hm (stN a v)
  have hcnt2 : ∀ m, m < v.length → (∀ k, k ≤ a.length → cntP a v m k ≤ cntP (stL a v) v m k) ∧ cntP (stL a v) v m a.length = cntP a v m a.length := hcnt
  have hn0 : stN a v < 1000 := (stN_spec hL).1
  have hN0 : stN a v = 0 := (stN_zero hL).2 hex
  have hLa : stL a v = a := stL_zero hN0
  rw [hN0] at hS
  obtain ⟨b, hbL⟩ : ∃ b, stL a v = b := ⟨_, rfl⟩
  rw [hbL] at hS hLT hLC hlen
  simp only [hbL] at hcnt2
  have hiA : ∀ i, i < v.length → IsA (rget v i) a.length := hL.2.2.2.1
  have HG := Lib.hid hG
  have HC := Lib.hid hC
  have HT := Lib.hid hT
  have HS := Lib.hid hS
  have HLT := Lib.hid hLT
  have HLC := Lib.hid hLC
  have Hcnt := Lib.hid hcnt2
  have Hlen := Lib.hid hlen
  have HiA := Lib.hid hiA
  have hn6 := hL.1
  have hn30 := hL.2.1
  obtain ⟨ti, tj, tx, ty, hV⟩ := exV_eq (trdX a v)
  have HV := Lib.hid hV
  have hla := ha.length_le
  have hlv := hx.length_le
  have hB : Below w.heap.size w w := Below.refl _ _
  rw [hbL] at hLa
  have HLa := Lib.hid hLa
  clear hLa hN0
  clear hG hC hT hS hLT hLC hcnt hcnt2 hlen hiA hL hL2 hgr hex hlast e1 e2 e3 hV hbL
  go_enter Try.func7, Try.ntmps7
  go_wp2_with fail
  refine (alive29_any _).mono ?_
  rintro e w1 ⟨rfl, hb⟩
  replace ha := ha.below hb (Nat.le_refl _)
  replace hx := hx.below hb (Nat.le_refl _)
  replace hB := hB.trans (hb.mono hB.size)
  clear hb
  go_wp2_with fail
  refine (HG.out _ ha hx).mono ?_
  rintro e w2 ⟨rfl, rfl⟩
  go_wp2_with fail
  refine (HC.out _ ha hx).mono ?_
  rintro e w3 ⟨rfl, n3, hw3⟩
  have hb : Below w2.heap.size w2 w3 := by rw [hw3]; exact below_drewN _ _ _
  replace ha := ha.below hb (Nat.le_refl _)
  replace hx := hx.below hb (Nat.le_refl _)
  replace hB := hB.trans (hb.mono hB.size)
  clear hb hw3
  go_wp2_with fail
  refine (HS.out _ ha hx).mono ?_
  rintro e w4 ⟨pb, cb, rfl, ob, hb⟩
  rw [Hlen.out]
  replace ha := ha.below hb (Nat.le_refl _)
  replace hx := hx.below hb (Nat.le_refl _)
  replace hB := hB.trans (hb.mono hB.size)
  have ib := ob.ints
  clear hb ob
  go_wp2_with fail
  refine (HLC.out _ _ _ ib hx).mono ?_
  rintro e w5 ⟨rfl, n5, hw5⟩
  have hb : Below w4.heap.size w4 w5 := by rw [hw5]; exact below_drewN _ _ _
  replace ha := ha.below hb (Nat.le_refl _)
  replace hx := hx.below hb (Nat.le_refl _)
  replace ib := ib.below hb (Nat.le_refl _)
  replace hB := hB.trans (hb.mono hB.size)
  clear hb hw5
  go_wp2_with fail
  refine (HLT.out _ _ _ ib hx).mono ?_
  rintro e w6 ⟨he, hb⟩
  have he2 : e = .returned (.tuple #[.agg #[.int .i64 0, .int .i64 0, .int .i64 0, .int .i64 0], .int .i64 6]) := he
  clear he
  subst he2
  replace ha := ha.below hb (Nat.le_refl _)
  replace hx := hx.below hb (Nat.le_refl _)
  replace ib := ib.below hb (Nat.le_refl _)
  replace hB := hB.trans (hb.mono hB.size)
  clear hb
  obtain ⟨w7, hw7⟩ : ∃ W, w6.alloc (.cells #[.int .i64 0, .int .i64 0, .int .i64 0, .int .i64 0] 37) = W := ⟨_, rfl⟩
  have hb : Below w6.heap.size w6 w7 := below_alloc hw7
  have HW7 := Lib.hid hw7
  replace ha := ha.below hb (Nat.le_refl _)
  replace hx := hx.below hb (Nat.le_refl _)
  replace ib := ib.below hb (Nat.le_refl _)
  replace hB := hB.trans (hb.mono hB.size)
  clear hb hw7
  go_wp2_with fail
  rw [HW7.out]
  refine (HT.out _ ha hx).mono ?_
  rintro e w8 ⟨he, hb⟩
  rw [HV.out] at he
  subst he
  replace ha := ha.below hb (Nat.le_refl _)
  replace hx := hx.below hb (Nat.le_refl _)
  replace ib := ib.below hb (Nat.le_refl _)
  replace hB := hB.trans (hb.mono hB.size)
  clear hb
  obtain ⟨w9, hw9⟩ : ∃ W, w8.alloc (.cells #[.int .i64 ti, .int .i64 tj, .int .i64 tx, .int .i64 ty] 37) = W := ⟨_, rfl⟩
  have hb : Below w8.heap.size w8 w9 := below_alloc hw9
  have HW9 := Lib.hid hw9
  replace ha := ha.below hb (Nat.le_refl _)
  replace hx := hx.below hb (Nat.le_refl _)
  replace ib := ib.below hb (Nat.le_refl _)
  replace hB := hB.trans (hb.mono hB.size)
  clear hb hw9
  go_upto_region 9 with (fail)
  rw [HW9.out]
  go_wp2_with fail
  have ib' := ib
  rw [HLa.out] at ib'
  refine (eq25_true ha ib').mono ?_
  rintro e wb ⟨rfl, hw⟩
  clear ib'
  have hb : Below _ _ _ := drew_below25 hw
  replace ha := ha.below hb (Nat.le_refl _)
  replace hx := hx.below hb (Nat.le_refl _)
  replace ib := ib.below hb (Nat.le_refl _)
  replace hB := hB.trans (hb.mono hB.size)
  clear hb hw
  go_wp2_with fail
  go_loop [13] (fun s => ∃ i : Nat, i ≤ v.length ∧ s = .int .i64 i) (fun s => v.length - (intOf s).toNat)
  case atStart => exact ⟨0, Nat.zero_le _, rfl⟩
  case round =>
    obtain ⟨i, hi, rfl⟩ := hrel
    by_cases hlt : i < v.length
    · have hi1 : (i : Int) < v.length := by omega
      obtain ⟨hc1, hc2⟩ := Hcnt.out i hlt
      have Hc1 := Lib.hid hc1
      have Hc2 := Lib.hid hc2
      have HA := Lib.hid (HiA.out i hlt)
      have hrl2 := (HiA.out i hlt).1
      obtain ⟨bv, ov, rfl, _, q, d, hcr, hir⟩ := hx.get hlt
      have hba := Lib.hid (fun k => cntP_bd a v i k)
      have hbb := Lib.hid (fun k => cntP_bd b v i k)
      have hsa := Lib.hid (fun k => cntP_succ a v i k)
      have hsb := Lib.hid (fun k => cntP_succ b v i k)
      have hz1 : Hid (cntP a v i 0 = 0) := rfl
      have hz2 : Hid (cntP b v i 0 = 0) := rfl
      have Hrl2 := Lib.hid hrl2
      clear hc1 hc2 hrl2
      go_wp2_with fail
      go_loop [14, 15, 16] (fun s t u => ∃ k : Nat, k ≤ a.length ∧ s = .int .i64 (cntP a v i k) ∧ t = .int .i64 (cntP b v i k) ∧ u = .int .i64 k) (fun _ _ u => a.length - (intOf u).toNat)
      case atStart => exact ⟨0, Nat.zero_le _, by rw [hz1.out], by rw [hz2.out], rfl⟩
      case round =>
        obtain ⟨k, hk, rfl, rfl, rfl⟩ := hrel
        have b1 := hba.out k
        have b2 := hbb.out k
        by_cases hlt2 : k < a.length
        · have hk1 : (k : Int) < a.length := by omega
          have hle := Hc1.out (k + 1) (by omega)
          have ea := hsa.out k
          have eb := hsb.out k
          have hkr : k < (rget v i).length := by rw [Hrl2.out]; exact hlt2
          have hkr1 : (k : Int) < (rget v i).length := by omega
          obtain ⟨x0, x1⟩ := isA_lt HA.out k hlt2
          obtain ⟨br, orr, rfl, _, hck⟩ := hir.get hkr
          obtain ⟨x, hxx⟩ : ∃ x, itm (rget v i) k = x := ⟨_, rfl⟩
          have hix : iget (rget v i) k = (x : Int) := by rw [← hxx]; unfold itm; omega
          rw [hix] at hck
          rw [hxx] at x1 ea eb
          have hx1 : (x : Int) < a.length := by omega
          obtain ⟨ba, oa, rfl, _, hca⟩ := ha.get x1
          obtain ⟨bb, obb, rfl, _, hcb⟩ := ib.get (j := x) (by rw [Hlen.out]; exact x1)
          obtain ⟨za, hza⟩ : ∃ z, iget a x = z := ⟨_, rfl⟩
          obtain ⟨zb, hzb⟩ : ∃ z, iget b x = z := ⟨_, rfl⟩
          obtain ⟨A, hA⟩ : ∃ z, cntP a v i k = z := ⟨_, rfl⟩
          obtain ⟨B, hBB⟩ : ∃ z, cntP b v i k = z := ⟨_, rfl⟩
          rw [hza] at hca ea
          rw [hzb] at hcb eb
          rw [hA] at ea b1 ⊢
          rw [hBB] at eb b2 ⊢
          rw [ea, eb] at hle
          have Ea := Lib.hid ea
          have Eb := Lib.hid eb
          clear ea eb hxx hix x0 hza hzb hA hBB
          by_cases ea : za = (i : Int)
          · have da : (za == (i : Int)) = true := by rw [beq_iff_eq]; exact ea
            have Ga : Hid (cntP a v i (k + 1) = A + 1) := by unfold Hid; rw [Ea.out, if_pos ea]
            rw [if_pos ea] at hle
            clear ea
            by_cases eb : zb = (i : Int)
            · have db : (zb == (i : Int)) = true := by rw [beq_iff_eq]; exact eb
              have Gb : Hid (cntP b v i (k + 1) = B + 1) := by unfold Hid; rw [Eb.out, if_pos eb]
              rw [if_pos eb] at hle
              have d1 : decide (B + 1 < A + 1) = false := by rw [decide_eq_false_iff_not]; omega
              have d2 : decide (B < A) = false := by rw [decide_eq_false_iff_not]; omega
              clear eb hle
              go_wp2_with fail
              go_round
              case rel => exact ⟨k + 1, by omega, by rw [Ga.out], by rw [Gb.out], by go_num⟩
              case measure => (simp [intOf] <;> omega)
            · have db : (zb == (i : Int)) = false := by rw [beq_eq_false_iff_ne]; exact eb
              have Gb : Hid (cntP b v i (k + 1) = B) := by unfold Hid; rw [Eb.out, if_neg eb]; omega
              rw [if_neg eb] at hle
              have d1 : decide (B < A + 1) = false := by rw [decide_eq_false_iff_not]; omega
              have d2 : decide (B ≤ A) = false := by rw [decide_eq_false_iff_not]; omega
              clear eb hle
              go_wp2_with fail
              go_round
              case rel => exact ⟨k + 1, by omega, by rw [Ga.out], by rw [Gb.out], by go_num⟩
              case measure => (simp [intOf] <;> omega)
          · have da : (za == (i : Int)) = false := by rw [beq_eq_false_iff_ne]; exact ea
            have Ga : Hid (cntP a v i (k + 1) = A) := by unfold Hid; rw [Ea.out, if_neg ea]; omega
            rw [if_neg ea] at hle
            clear ea
            by_cases eb : zb = (i : Int)
            · have db : (zb == (i : Int)) = true := by rw [beq_iff_eq]; exact eb
              have Gb : Hid (cntP b v i (k + 1) = B + 1) := by unfold Hid; rw [Eb.out, if_pos eb]
              rw [if_pos eb] at hle
              have d1 : decide (B + 1 < A) = false := by rw [decide_eq_false_iff_not]; omega
              clear eb hle
              go_wp2_with fail
              go_round
              case rel => exact ⟨k + 1, by omega, by rw [Ga.out], by rw [Gb.out], by go_num⟩
              case measure => (simp [intOf] <;> omega)
            · have db : (zb == (i : Int)) = false := by rw [beq_eq_false_iff_ne]; exact eb
              have Gb : Hid (cntP b v i (k + 1) = B) := by unfold Hid; rw [Eb.out, if_neg eb]; omega
              rw [if_neg eb] at hle
              have d1 : decide (B < A) = false := by rw [decide_eq_false_iff_not]; omega
              clear eb hle
              go_wp2_with fail
              go_round
              case rel => exact ⟨k + 1, by omega, by rw [Ga.out], by rw [Gb.out], by go_num⟩
              case measure => (simp [intOf] <;> omega)
        · have hk1 : ¬ (k : Int) < a.length := by omega
          obtain rfl : k = a.length := by omega
          rw [Hc2.out]
          have hne : (cntP a v i a.length != cntP a v i a.length) = false := by simp
          go_wp2_with fail
          go_round
          case rel => exact ⟨i + 1, by omega, by go_num⟩
          case measure => (simp [intOf] <;> omega)
    · have hi1 : ¬ (i : Int) < v.length := by omega
      go_wp2_with fail
      go_ret
      exact ⟨rfl, hB⟩
set_option maxHeartbeats 4000000 in
set_option maxRecDepth 100000 in
theorem keepsakeSettles_some (pa : Option Addr) (ca : Nat) (a : List Int) (p : Option Addr) (c : Nat) (v : List (List Int)) (w : World) (ha : Ints w pa ca a) (hx : Mat w p c v) (hgr : ¬ GreatK a v) (hL : Lkd a v) (hex : (exT a v).isSome = true) :
    Calls Try.prog 7 #[.slice pa a.length ca, .slice p v.length c] w fun e w' => e = .returned (.bool true) ∧ Below w.heap.size w w' := by
  have hG := fun W h1 h2 => great29_any pa ca a p c v W (h1 : Ints W pa ca a) (h2 : Mat W p c v)
  have hC := fun W h1 h2 => ref29Looked_any pa ca a p c v W (h1 : Ints W pa ca a) (h2 : Mat W p c v)
  rw [decide_eq_false hgr] at hG
  rw [lkdI_zero.2 hL] at hC
  have hrl : Hid (∀ i, i < v.length → (rget v i).length ≤ 1000000) := fun i hi => by have := (hL.2.2.2.1 i hi).1; have := hL.2.1; omega
  have hT := fun W h1 h2 => keepTrade_any pa ca a p c v W (h1 : Ints W pa ca a) (h2 : Mat W p c v) hrl
  have hS := fun W h1 h2 => keepSettle_any pa ca a p c v W (h1 : Ints W pa ca a) (h2 : Mat W p c v) hrl
  have hL2 : Lkd (stL a v) v := stTo_lkd hL _
  have hlen : (stL a v).length = a.length := stTo_len a v _
  have hLT := fun W q d h1 h2 => keepTrade_any q d (stL a v) p c v W (h1 : Ints W q d (stL a v)) (h2 : Mat W p c v) hrl
  have hLC := fun W q d h1 h2 => ref29Looked_any q d (stL a v) p c v W (h1 : Ints W q d (stL a v)) (h2 : Mat W p c v)
  have hlast : exT (stL a v) v = none := (stN_spec hL).2.1
  have e1 : trdX (stL a v) v = none := by unfold trdX; rw [if_pos hL2, hlast]
  have e2 : trdE (stL a v) v = 6 := by unfold trdE; rw [if_pos hL2, hlast]; rfl
  have e3 : trdE a v = 0 := by unfold trdE; rw [if_pos hL, hex]; rfl
  rw [e1, e2, hlen] at hLT
  rw [lkdI_zero.2 hL2, hlen] at hLC
  rw [(stl_ok hL).1, (stl_ok hL).2.1, (stl_ok hL).2.2] at hS
  rw [e3] at hT
  have hcnt := fun m (hm : m < v.length) => cntP_to hL hm (stN a v)
  have hcnt2 : ∀ m, m < v.length → (∀ k, k ≤ a.length → cntP a v m k ≤ cntP (stL a v) v m k) ∧ cntP (stL a v) v m a.length = cntP a v m a.length := hcnt
  have hn0 : stN a v < 1000 := (stN_spec hL).1
  have hN0 : 0 < stN a v := Nat.pos_of_ne_zero fun h => by rw [(stN_zero hL).1 h] at hex; cases hex
  obtain ⟨M, hM⟩ : ∃ M, stN a v = M := ⟨_, rfl⟩
  rw [hM] at hS hn0 hN0
  obtain ⟨b, hbL⟩ : ∃ b, stL a v = b := ⟨_, rfl⟩
  rw [hbL] at hS hLT hLC hlen
  simp only [hbL] at hcnt2
  have hiA : ∀ i, i < v.length → IsA (rget v i) a.length := hL.2.2.2.1
  have HG := Lib.hid hG
  have HC := Lib.hid hC
  have HT := Lib.hid hT
  have HS := Lib.hid hS
  have HLT := Lib.hid hLT
  have HLC := Lib.hid hLC
  have Hcnt := Lib.hid hcnt2
  have Hlen := Lib.hid hlen
  have HiA := Lib.hid hiA
  have hn6 := hL.1
  have hn30 := hL.2.1
  obtain ⟨ti, tj, tx, ty, hV⟩ := exV_eq (trdX a v)
  have HV := Lib.hid hV
  have hla := ha.length_le
  have hlv := hx.length_le
  have hB : Below w.heap.size w w := Below.refl _ _
  clear hM
  clear hG hC hT hS hLT hLC hcnt hcnt2 hlen hiA hL hL2 hgr hex hlast e1 e2 e3 hV hbL
  go_enter Try.func7, Try.ntmps7
  go_wp2_with fail
  refine (alive29_any _).mono ?_
  rintro e w1 ⟨rfl, hb⟩
  replace ha := ha.below hb (Nat.le_refl _)
  replace hx := hx.below hb (Nat.le_refl _)
  replace hB := hB.trans (hb.mono hB.size)
  clear hb
  go_wp2_with fail
  refine (HG.out _ ha hx).mono ?_
  rintro e w2 ⟨rfl, rfl⟩
  go_wp2_with fail
  refine (HC.out _ ha hx).mono ?_
  rintro e w3 ⟨rfl, n3, hw3⟩
  have hb : Below w2.heap.size w2 w3 := by rw [hw3]; exact below_drewN _ _ _
  replace ha := ha.below hb (Nat.le_refl _)
  replace hx := hx.below hb (Nat.le_refl _)
  replace hB := hB.trans (hb.mono hB.size)
  clear hb hw3
  go_wp2_with fail
  refine (HS.out _ ha hx).mono ?_
  rintro e w4 ⟨pb, cb, rfl, ob, hb⟩
  rw [Hlen.out]
  replace ha := ha.below hb (Nat.le_refl _)
  replace hx := hx.below hb (Nat.le_refl _)
  replace hB := hB.trans (hb.mono hB.size)
  have ib := ob.ints
  clear hb ob
  go_wp2_with fail
  refine (HLC.out _ _ _ ib hx).mono ?_
  rintro e w5 ⟨rfl, n5, hw5⟩
  have hb : Below w4.heap.size w4 w5 := by rw [hw5]; exact below_drewN _ _ _
  replace ha := ha.below hb (Nat.le_refl _)
  replace hx := hx.below hb (Nat.le_refl _)
  replace ib := ib.below hb (Nat.le_refl _)
  replace hB := hB.trans (hb.mono hB.size)
  clear hb hw5
  go_wp2_with fail
  refine (HLT.out _ _ _ ib hx).mono ?_
  rintro e w6 ⟨he, hb⟩
  have he2 : e = .returned (.tuple #[.agg #[.int .i64 0, .int .i64 0, .int .i64 0, .int .i64 0], .int .i64 6]) := he
  clear he
  subst he2
  replace ha := ha.below hb (Nat.le_refl _)
  replace hx := hx.below hb (Nat.le_refl _)
  replace ib := ib.below hb (Nat.le_refl _)
  replace hB := hB.trans (hb.mono hB.size)
  clear hb
  obtain ⟨w7, hw7⟩ : ∃ W, w6.alloc (.cells #[.int .i64 0, .int .i64 0, .int .i64 0, .int .i64 0] 37) = W := ⟨_, rfl⟩
  have hb : Below w6.heap.size w6 w7 := below_alloc hw7
  have HW7 := Lib.hid hw7
  replace ha := ha.below hb (Nat.le_refl _)
  replace hx := hx.below hb (Nat.le_refl _)
  replace ib := ib.below hb (Nat.le_refl _)
  replace hB := hB.trans (hb.mono hB.size)
  clear hb hw7
  go_wp2_with fail
  rw [HW7.out]
  refine (HT.out _ ha hx).mono ?_
  rintro e w8 ⟨he, hb⟩
  rw [HV.out] at he
  subst he
  replace ha := ha.below hb (Nat.le_refl _)
  replace hx := hx.below hb (Nat.le_refl _)
  replace ib := ib.below hb (Nat.le_refl _)
  replace hB := hB.trans (hb.mono hB.size)
  clear hb
  obtain ⟨w9, hw9⟩ : ∃ W, w8.alloc (.cells #[.int .i64 ti, .int .i64 tj, .int .i64 tx, .int .i64 ty] 37) = W := ⟨_, rfl⟩
  have hb : Below w8.heap.size w8 w9 := below_alloc hw9
  have HW9 := Lib.hid hw9
  replace ha := ha.below hb (Nat.le_refl _)
  replace hx := hx.below hb (Nat.le_refl _)
  replace ib := ib.below hb (Nat.le_refl _)
  replace hB := hB.trans (hb.mono hB.size)
  clear hb hw9
  go_upto_region 9 with (fail)
  rw [HW9.out]
  have hM0 : ((M : Int) == 0) = false := by rw [beq_eq_false_iff_ne]; omega
  have hM1 : (M == 0) = false := by rw [beq_eq_false_iff_ne]; omega
  have hM2 : decide (M = 0) = false := by rw [decide_eq_false_iff_not]; omega
  obtain ⟨wb, hwb⟩ : ∃ W : World, W = w9 := ⟨_, rfl⟩
  obtain rfl := hwb
  go_wp2_with fail
  go_loop [13] (fun s => ∃ i : Nat, i ≤ v.length ∧ s = .int .i64 i) (fun s => v.length - (intOf s).toNat)
  case atStart => exact ⟨0, Nat.zero_le _, rfl⟩
  case round =>
    obtain ⟨i, hi, rfl⟩ := hrel
    by_cases hlt : i < v.length
    · have hi1 : (i : Int) < v.length := by omega
      obtain ⟨hc1, hc2⟩ := Hcnt.out i hlt
      have Hc1 := Lib.hid hc1
      have Hc2 := Lib.hid hc2
      have HA := Lib.hid (HiA.out i hlt)
      have hrl2 := (HiA.out i hlt).1
      obtain ⟨bv, ov, rfl, _, q, d, hcr, hir⟩ := hx.get hlt
      have hba := Lib.hid (fun k => cntP_bd a v i k)
      have hbb := Lib.hid (fun k => cntP_bd b v i k)
      have hsa := Lib.hid (fun k => cntP_succ a v i k)
      have hsb := Lib.hid (fun k => cntP_succ b v i k)
      have hz1 : Hid (cntP a v i 0 = 0) := rfl
      have hz2 : Hid (cntP b v i 0 = 0) := rfl
      have Hrl2 := Lib.hid hrl2
      clear hc1 hc2 hrl2
      go_wp2_with fail
      go_loop [14, 15, 16] (fun s t u => ∃ k : Nat, k ≤ a.length ∧ s = .int .i64 (cntP a v i k) ∧ t = .int .i64 (cntP b v i k) ∧ u = .int .i64 k) (fun _ _ u => a.length - (intOf u).toNat)
      case atStart => exact ⟨0, Nat.zero_le _, by rw [hz1.out], by rw [hz2.out], rfl⟩
      case round =>
        obtain ⟨k, hk, rfl, rfl, rfl⟩ := hrel
        have b1 := hba.out k
        have b2 := hbb.out k
        by_cases hlt2 : k < a.length
        · have hk1 : (k : Int) < a.length := by omega
          have hle := Hc1.out (k + 1) (by omega)
          have ea := hsa.out k
          have eb := hsb.out k
          have hkr : k < (rget v i).length := by rw [Hrl2.out]; exact hlt2
          have hkr1 : (k : Int) < (rget v i).length := by omega
          obtain ⟨x0, x1⟩ := isA_lt HA.out k hlt2
          obtain ⟨br, orr, rfl, _, hck⟩ := hir.get hkr
          obtain ⟨x, hxx⟩ : ∃ x, itm (rget v i) k = x := ⟨_, rfl⟩
          have hix : iget (rget v i) k = (x : Int) := by rw [← hxx]; unfold itm; omega
          rw [hix] at hck
          rw [hxx] at x1 ea eb
          have hx1 : (x : Int) < a.length := by omega
          obtain ⟨ba, oa, rfl, _, hca⟩ := ha.get x1
          obtain ⟨bb, obb, rfl, _, hcb⟩ := ib.get (j := x) (by rw [Hlen.out]; exact x1)
          obtain ⟨za, hza⟩ : ∃ z, iget a x = z := ⟨_, rfl⟩
          obtain ⟨zb, hzb⟩ : ∃ z, iget b x = z := ⟨_, rfl⟩
          obtain ⟨A, hA⟩ : ∃ z, cntP a v i k = z := ⟨_, rfl⟩
          obtain ⟨B, hBB⟩ : ∃ z, cntP b v i k = z := ⟨_, rfl⟩
          rw [hza] at hca ea
          rw [hzb] at hcb eb
          rw [hA] at ea b1 ⊢
          rw [hBB] at eb b2 ⊢
          rw [ea, eb] at hle
          have Ea := Lib.hid ea
          have Eb := Lib.hid eb
          clear ea eb hxx hix x0 hza hzb hA hBB
          by_cases ea : za = (i : Int)
          · have da : (za == (i : Int)) = true := by rw [beq_iff_eq]; exact ea
            have Ga : Hid (cntP a v i (k + 1) = A + 1) := by unfold Hid; rw [Ea.out, if_pos ea]
            rw [if_pos ea] at hle
            clear ea
            by_cases eb : zb = (i : Int)
            · have db : (zb == (i : Int)) = true := by rw [beq_iff_eq]; exact eb
              have Gb : Hid (cntP b v i (k + 1) = B + 1) := by unfold Hid; rw [Eb.out, if_pos eb]
              rw [if_pos eb] at hle
              have d1 : decide (B + 1 < A + 1) = false := by rw [decide_eq_false_iff_not]; omega
              have d2 : decide (B < A) = false := by rw [decide_eq_false_iff_not]; omega
              clear eb hle
              go_wp2_with fail
              go_round
              case rel => exact ⟨k + 1, by omega, by rw [Ga.out], by rw [Gb.out], by go_num⟩
              case measure => (simp [intOf] <;> omega)
            · have db : (zb == (i : Int)) = false := by rw [beq_eq_false_iff_ne]; exact eb
              have Gb : Hid (cntP b v i (k + 1) = B) := by unfold Hid; rw [Eb.out, if_neg eb]; omega
              rw [if_neg eb] at hle
              have d1 : decide (B < A + 1) = false := by rw [decide_eq_false_iff_not]; omega
              have d2 : decide (B ≤ A) = false := by rw [decide_eq_false_iff_not]; omega
              clear eb hle
              go_wp2_with fail
              go_round
              case rel => exact ⟨k + 1, by omega, by rw [Ga.out], by rw [Gb.out], by go_num⟩
              case measure => (simp [intOf] <;> omega)
          · have da : (za == (i : Int)) = false := by rw [beq_eq_false_iff_ne]; exact ea
            have Ga : Hid (cntP a v i (k + 1) = A) := by unfold Hid; rw [Ea.out, if_neg ea]; omega
            rw [if_neg ea] at hle
            clear ea
            by_cases eb : zb = (i : Int)
            · have db : (zb == (i : Int)) = true := by rw [beq_iff_eq]; exact eb
              have Gb : Hid (cntP b v i (k + 1) = B + 1) := by unfold Hid; rw [Eb.out, if_pos eb]
              rw [if_pos eb] at hle
              have d1 : decide (B + 1 < A) = false := by rw [decide_eq_false_iff_not]; omega
              clear eb hle
              go_wp2_with fail
              go_round
              case rel => exact ⟨k + 1, by omega, by rw [Ga.out], by rw [Gb.out], by go_num⟩
              case measure => (simp [intOf] <;> omega)
            · have db : (zb == (i : Int)) = false := by rw [beq_eq_false_iff_ne]; exact eb
              have Gb : Hid (cntP b v i (k + 1) = B) := by unfold Hid; rw [Eb.out, if_neg eb]; omega
              rw [if_neg eb] at hle
              have d1 : decide (B < A) = false := by rw [decide_eq_false_iff_not]; omega
              clear eb hle
              go_wp2_with fail
              go_round
              case rel => exact ⟨k + 1, by omega, by rw [Ga.out], by rw [Gb.out], by go_num⟩
              case measure => (simp [intOf] <;> omega)
        · have hk1 : ¬ (k : Int) < a.length := by omega
          obtain rfl : k = a.length := by omega
          rw [Hc2.out]
          have hne : (cntP a v i a.length != cntP a v i a.length) = false := by simp
          go_wp2_with fail
          go_round
          case rel => exact ⟨i + 1, by omega, by go_num⟩
          case measure => (simp [intOf] <;> omega)
    · have hi1 : ¬ (i : Int) < v.length := by omega
      go_wp2_with fail
      go_ret
      exact ⟨rfl, hB⟩
theorem keepsakeSettles_walk (pa : Option Addr) (ca : Nat) (a : List Int) (p : Option Addr) (c : Nat) (v : List (List Int)) (w : World) (ha : Ints w pa ca a) (hx : Mat w p c v) : Calls Try.prog 7 #[.slice pa a.length ca, .slice p v.length c] w fun e w' => e = .returned (.bool true) ∧ Below w.heap.size w w' := by
  by_cases hgr : GreatK a v
  · exact keepsakeSettles_early pa ca a p c v w ha hx (.inl hgr)
  · by_cases hL : Lkd a v
    · cases hex : exT a v with
      | none => exact keepsakeSettles_none pa ca a p c v w ha hx hgr hL hex
      | some t => exact keepsakeSettles_some pa ca a p c v w ha hx hgr hL (by rw [hex]; rfl)
    · exact keepsakeSettles_early pa ca a p c v w ha hx (.inr hL)
end Go.Proofs.Ytknincjfcicjfaa
