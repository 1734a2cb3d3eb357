/- TopRent: for every input the law returns true, and each argument reads as it read before; no condition. -/
import Derived.Test.YtmcncflieoolmaaTopTopRentm26
import Derived.Test.YtmcncflieoolmaaTopTopRentm27
import Derived.Test.YtmcncflieoolmaaTopTopRentm24
import Derived.Deep.DeepCutAuto
import Derived.Test.YtmcncflieoolmaaTopTopRentm1
import Derived.Lib.SmallJoins
import Derived.ChangeOld
/- The walk of the law TopRent: for every flat it returns true, and changes nothing that was there.  (Printed by wip/genlawtopr.py.) -/
namespace Go.Proofs.Ytmcncflieoolmaa
set_option linter.unusedVariables false
set_option linter.unusedSimpArgs false
open Go.ChangeShapes Go.WideShapes Go.ChangeAt Go.RowKit Go.Deep

set_option maxHeartbeats 1600000 in
set_option maxRecDepth 100000 in
theorem topRent_long (p : Option Addr) (c : Nat) (v : List (List Int)) (r : Int) (w : World) (hx : Mat w p c v) (hr64 : in64 r) (h : 6 < v.length) :
    Calls Try.prog 3 #[.agg #[.slice p v.length c, .int .i64 r]] w fun e w' => e = .returned (.bool true) ∧ Below w.heap.size w w' := by
  obtain ⟨W0, hW0⟩ : ∃ W, w.alloc (.cells #[.slice p v.length c, .int .i64 r] 24) = W := ⟨_, rfl⟩
  have hB := below_alloc hW0
  have bX : BoxV W0 w.heap.size [.slice p v.length c, .int .i64 r] := BoxV.new rfl hW0
  have mX := hx.below hB (Nat.le_refl _)
  have hlx := hx.length_le
  have HW0 := Lib.hid hW0
  clear hW0 hx
  have hd : decide (6 < (v.length : Int)) = true := by rw [decide_eq_true_iff]; omega
  go_enter Try.func3, Try.ntmps3
  go_wp2_with fail
  rw [HW0.out]
  refine (aliveTop15_any _).mono ?_
  rintro e w1 ⟨rfl, hb⟩
  replace bX := bX.below hb
  replace mX := mX.below hb (Nat.le_refl _)
  replace hB := hB.trans (hb.mono hB.size)
  clear hb
  have k0 := bX.cell 0 _ rfl
  have k1 := bX.cell 1 _ rfl
  go_wp2_with fail
  go_ret
  exact ⟨rfl, hB⟩
set_option maxHeartbeats 1600000 in
set_option maxRecDepth 100000 in
theorem topRent_odd (p : Option Addr) (c : Nat) (v : List (List Int)) (r : Int) (w : World) (hx : Mat w p c v) (hr64 : in64 r) (h : ¬ 6 < v.length) (hc : chkR v r ≠ 0) :
    Calls Try.prog 3 #[.agg #[.slice p v.length c, .int .i64 r]] w fun e w' => e = .returned (.bool true) ∧ Below w.heap.size w w' := by
  obtain ⟨W0, hW0⟩ : ∃ W, w.alloc (.cells #[.slice p v.length c, .int .i64 r] 24) = W := ⟨_, rfl⟩
  have hB := below_alloc hW0
  have bX : BoxV W0 w.heap.size [.slice p v.length c, .int .i64 r] := BoxV.new rfl hW0
  have mX := hx.below hB (Nat.le_refl _)
  have hlx := hx.length_le
  have HW0 := Lib.hid hW0
  clear hW0 hx
  have hd : decide (6 < (v.length : Int)) = false := by rw [decide_eq_false_iff_not]; omega
  have hC := fun W (h : Mat W p c v) => refCheckR_any p c v r W h
  obtain ⟨E, eE⟩ : ∃ x, chkR v r = x := ⟨_, rfl⟩
  rw [eE] at hC hc
  have hd2 : (E != 0) = true := by rw [bne_iff_ne]; exact hc
  have HC := Lib.hid hC
  clear hC eE hc h
  go_enter Try.func3, Try.ntmps3
  go_wp2_with fail
  rw [HW0.out]
  refine (aliveTop15_any _).mono ?_
  rintro e w1 ⟨rfl, hb⟩
  replace bX := bX.below hb
  replace mX := mX.below hb (Nat.le_refl _)
  replace hB := hB.trans (hb.mono hB.size)
  clear hb
  have k0 := bX.cell 0 _ rfl
  have k1 := bX.cell 1 _ rfl
  go_wp2_with fail
  refine (HC.out _ mX).mono ?_
  rintro e w2 ⟨rfl, hb⟩
  go_wp2_with fail
  go_ret
  exact ⟨rfl, hB.trans (hb.mono hB.size)⟩
set_option maxHeartbeats 8000000 in
set_option maxRecDepth 100000 in
theorem topRent_main (p : Option Addr) (c : Nat) (v : List (List Int)) (r : Int) (w : World) (hx : Mat w p c v) (hr64 : in64 r) (h : ¬ 6 < v.length) (hc : chkR v r = 0) :
    Calls Try.prog 3 #[.agg #[.slice p v.length c, .int .i64 r]] w fun e w' => e = .returned (.bool true) ∧ Below w.heap.size w w' := by
  obtain ⟨W0, hW0⟩ : ∃ W, w.alloc (.cells #[.slice p v.length c, .int .i64 r] 24) = W := ⟨_, rfl⟩
  have hB := below_alloc hW0
  have bX : BoxV W0 w.heap.size [.slice p v.length c, .int .i64 r] := BoxV.new rfl hW0
  have mX := hx.below hB (Nat.le_refl _)
  have hlx := hx.length_le
  have HW0 := Lib.hid hW0
  clear hW0 hx
  have hd : decide (6 < (v.length : Int)) = false := by rw [decide_eq_false_iff_not]; omega
  have hC := fun W (h : Mat W p c v) => refCheckR_any p c v r W h
  rw [hc] at hC
  have hBd := (chkR_zero.1 hc).1
  have hE1 := fun W (h : Mat W p c v) => roomEven_any p c v r W h
  have hE2 := fun W (h : Mat W p c v) => rentFair_any p c v r W h
  have hE3 := fun W (h : Mat W p c v) => rentCalm_any p c v r W h
  obtain ⟨eX1, hv1, hf1⟩ := even_vld hc
  obtain ⟨hv2, hg2⟩ := lea_vld (g := fairG v) hc (fair_gp hBd)
  obtain ⟨hv3, hg3⟩ := lea_vld (g := calmG v) hc (calm_gp hBd)
  have hf2 := (freeB_ef hg2).2
  have hf3 := (freeB_ef hg3).2
  have eX2 : bestI v r = bestA v := (lea_parts (g := fairG v) hc).1
  obtain ⟨Z1, eZ1⟩ : ∃ x : Nat, evenZ v r = x := ⟨(evenZ v r).toNat, by have := (vld_zero.1 hv1).2.2.1; omega⟩
  obtain ⟨Z2, eZ2⟩ : ∃ x : Nat, leaZ v r (fairG v) = x := ⟨(leaZ v r (fairG v)).toNat, by have := (vld_zero.1 hv2).2.2.1; omega⟩
  obtain ⟨Z3, eZ3⟩ : ∃ x : Nat, leaZ v r (calmG v) = x := ⟨(leaZ v r (calmG v)).toNat, by have := (vld_zero.1 hv3).2.2.1; omega⟩
  rw [eZ1] at hv1 hf1 hE1
  rw [eZ2] at hv2 hf2 hE2
  rw [eZ3] at hv3 hf3 hE3
  rw [eX1, hc] at hE1
  rw [eX2, hc] at hE2 hE3
  have l1 := (best_law hv1 hf1 eZ2).1
  have l2 := (best_law hv3 hf3 eZ2).1
  have l3 := calm_law hv1 hf1 eZ3
  have l4 := calm_law hv2 hf2 eZ3
  generalize evenY v r = Y1 at *
  generalize leaY v r (fairG v) = Y2 at *
  generalize leaY v r (calmG v) = Y3 at *
  obtain ⟨X, eX⟩ : ∃ x, bestA v = x := ⟨_, rfl⟩
  rw [eX] at hE1 hE2 hE3 hv1 hv2 hv3 hf1 hf2 hf3 l1 l2 l3 l4
  have hL1 := fun W q1 d1 s1 f1 (hm : Mat W p c v) (h1 : Ints W q1 d1 X) (h2 : Ints W s1 f1 Y1) => leasedTop_any p q1 s1 c d1 f1 v r X Y1 Z1 W hm h1 h2 eX.symm hv1 hf1
  have hW1 := fun W q1 d1 s1 f1 (hm : Mat W p c v) (h1 : Ints W q1 d1 X) (h2 : Ints W s1 f1 Y1) => worst_ok p q1 s1 c d1 f1 v r X Y1 Z1 W hm h1 h2 hv1
  obtain ⟨⟨la1, lb1⟩, _, _⟩ := loG_spec hv1
  obtain ⟨⟨ha1, hb1⟩, _, _⟩ := hiG_spec hv1
  have za1 := (vld_zero.1 hv1).2.2.1
  have zb1 := (vld_zero.1 hv1).2.2.2.1
  have hL2 := fun W q1 d1 s1 f1 (hm : Mat W p c v) (h1 : Ints W q1 d1 X) (h2 : Ints W s1 f1 Y2) => leasedTop_any p q1 s1 c d1 f1 v r X Y2 Z2 W hm h1 h2 eX.symm hv2 hf2
  have hW2 := fun W q1 d1 s1 f1 (hm : Mat W p c v) (h1 : Ints W q1 d1 X) (h2 : Ints W s1 f1 Y2) => worst_ok p q1 s1 c d1 f1 v r X Y2 Z2 W hm h1 h2 hv2
  obtain ⟨⟨la2, lb2⟩, _, _⟩ := loG_spec hv2
  obtain ⟨⟨ha2, hb2⟩, _, _⟩ := hiG_spec hv2
  have za2 := (vld_zero.1 hv2).2.2.1
  have zb2 := (vld_zero.1 hv2).2.2.2.1
  have hL3 := fun W q1 d1 s1 f1 (hm : Mat W p c v) (h1 : Ints W q1 d1 X) (h2 : Ints W s1 f1 Y3) => leasedTop_any p q1 s1 c d1 f1 v r X Y3 Z3 W hm h1 h2 eX.symm hv3 hf3
  have hW3 := fun W q1 d1 s1 f1 (hm : Mat W p c v) (h1 : Ints W q1 d1 X) (h2 : Ints W s1 f1 Y3) => worst_ok p q1 s1 c d1 f1 v r X Y3 Z3 W hm h1 h2 hv3
  obtain ⟨⟨la3, lb3⟩, _, _⟩ := loG_spec hv3
  obtain ⟨⟨ha3, hb3⟩, _, _⟩ := hiG_spec hv3
  have za3 := (vld_zero.1 hv3).2.2.1
  have zb3 := (vld_zero.1 hv3).2.2.2.1
  clear hv1 hv2 hv3 hg2 hg3 hf1 hf2 hf3 eX1 eX2 eZ1 eZ2 eZ3
  generalize loG v X Y1 Z1 = x1 at *
  generalize hiG v X Y1 Z1 = y1 at *
  generalize loG v X Y2 Z2 = x2 at *
  generalize hiG v X Y2 Z2 = y2 at *
  generalize loG v X Y3 Z3 = x3 at *
  generalize hiG v X Y3 Z3 = y3 at *
  have hS1 := fun W => lessRat_any x2 x1 Z2 Z1 W (by omega) (by omega) (by omega) (by omega)
  rw [show decide (x2 * (Z1 : Int) < x1 * (Z2 : Int)) = false by rw [decide_eq_false_iff_not]; omega] at hS1
  have hS2 := fun W => lessRat_any x2 x3 Z2 Z3 W (by omega) (by omega) (by omega) (by omega)
  rw [show decide (x2 * (Z3 : Int) < x3 * (Z2 : Int)) = false by rw [decide_eq_false_iff_not]; omega] at hS2
  have hS3 := fun W => lessRat_any y1 y3 Z1 Z3 W (by omega) (by omega) (by omega) (by omega)
  rw [show decide (y1 * (Z3 : Int) < y3 * (Z1 : Int)) = false by rw [decide_eq_false_iff_not]; omega] at hS3
  have hS4 := fun W => lessRat_any y2 y3 Z2 Z3 W (by omega) (by omega) (by omega) (by omega)
  rw [show decide (y2 * (Z3 : Int) < y3 * (Z2 : Int)) = false by rw [decide_eq_false_iff_not]; omega] at hS4
  obtain ⟨An1, hAn1⟩ : ∃ x, rN x1 Z1 = x := ⟨_, rfl⟩
  obtain ⟨Ad1, hAd1⟩ : ∃ x, rD x1 Z1 = x := ⟨_, rfl⟩
  obtain ⟨Bn1, hBn1⟩ : ∃ x, rN y1 Z1 = x := ⟨_, rfl⟩
  obtain ⟨Bd1, hBd1⟩ : ∃ x, rD y1 Z1 = x := ⟨_, rfl⟩
  rw [hAn1, hAd1, hBn1, hBd1] at hW1
  obtain ⟨An2, hAn2⟩ : ∃ x, rN x2 Z2 = x := ⟨_, rfl⟩
  obtain ⟨Ad2, hAd2⟩ : ∃ x, rD x2 Z2 = x := ⟨_, rfl⟩
  obtain ⟨Bn2, hBn2⟩ : ∃ x, rN y2 Z2 = x := ⟨_, rfl⟩
  obtain ⟨Bd2, hBd2⟩ : ∃ x, rD y2 Z2 = x := ⟨_, rfl⟩
  rw [hAn2, hAd2, hBn2, hBd2] at hW2
  obtain ⟨An3, hAn3⟩ : ∃ x, rN x3 Z3 = x := ⟨_, rfl⟩
  obtain ⟨Ad3, hAd3⟩ : ∃ x, rD x3 Z3 = x := ⟨_, rfl⟩
  obtain ⟨Bn3, hBn3⟩ : ∃ x, rN y3 Z3 = x := ⟨_, rfl⟩
  obtain ⟨Bd3, hBd3⟩ : ∃ x, rD y3 Z3 = x := ⟨_, rfl⟩
  rw [hAn3, hAd3, hBn3, hBd3] at hW3
  rw [hAn2, hAd2, hAn1, hAd1] at hS1
  rw [hAn2, hAd2, hAn3, hAd3] at hS2
  rw [hBn1, hBd1, hBn3, hBd3] at hS3
  rw [hBn2, hBd2, hBn3, hBd3] at hS4
  have HC := Lib.hid hC
  have HE1 := Lib.hid hE1
  have HE2 := Lib.hid hE2
  have HE3 := Lib.hid hE3
  have HL1 := Lib.hid hL1
  have HL2 := Lib.hid hL2
  have HL3 := Lib.hid hL3
  have HW1 := Lib.hid hW1
  have HW2 := Lib.hid hW2
  have HW3 := Lib.hid hW3
  have HS1 := Lib.hid hS1
  have HS2 := Lib.hid hS2
  have HS3 := Lib.hid hS3
  have HS4 := Lib.hid hS4
  clear hC hE1 hE2 hE3 hL1 hL2 hL3 hW1 hW2 hW3 hS1 hS2 hS3 hS4 l1 l2 l3 l4 hBd hc h eX la1 lb1 ha1 hb1 za1 zb1 hAn1 hAd1 hBn1 hBd1 la2 lb2 ha2 hb2 za2 zb2 hAn2 hAd2 hBn2 hBd2 la3 lb3 ha3 hb3 za3 zb3 hAn3 hAd3 hBn3 hBd3
  go_enter Try.func3, Try.ntmps3
  go_wp2_with fail
  rw [HW0.out]
  refine (aliveTop15_any _).mono ?_
  rintro e w1 ⟨rfl, hb⟩
  replace bX := bX.below hb
  replace mX := mX.below hb (Nat.le_refl _)
  replace hB := hB.trans (hb.mono hB.size)
  clear hb
  have kbX_0 := bX.cell 0 _ rfl
  have kbX_1 := bX.cell 1 _ rfl
  have lbX := bX.lt
  go_wp2_with fail
  refine (HC.out _ mX).mono ?_
  rintro e w2 ⟨rfl, hb⟩
  clear kbX_0 kbX_1 lbX
  replace mX := mX.below hb (Nat.le_refl _)
  replace bX := bX.below hb
  replace hB := hB.trans (hb.mono hB.size)
  clear hb
  have kbX_0 := bX.cell 0 _ rfl
  have kbX_1 := bX.cell 1 _ rfl
  have lbX := bX.lt
  go_wp2_with fail
  refine (HE1.out _ mX).mono ?_
  rintro e u1 ⟨q1, d1, s1, f1, rfl, i1, j1, hb⟩
  clear kbX_0 kbX_1 lbX
  replace mX := mX.below hb (Nat.le_refl _)
  replace bX := bX.below hb
  replace hB := hB.trans (hb.mono hB.size)
  clear hb
  obtain ⟨U1, hU1⟩ : ∃ W, u1.alloc (.cells #[.slice q1 X.length d1, .slice s1 Y1.length f1, .int .i64 Z1] 29) = W := ⟨_, rfl⟩
  have hb : Below u1.heap.size u1 U1 := below_alloc hU1
  have b1 : BoxV U1 u1.heap.size [.slice q1 X.length d1, .slice s1 Y1.length f1, .int .i64 Z1] := BoxV.new rfl hU1
  have HU1 := Lib.hid hU1
  replace mX := mX.below hb (Nat.le_refl _)
  replace bX := bX.below hb
  replace i1 := i1.below hb (Nat.le_refl _)
  replace j1 := j1.below hb (Nat.le_refl _)
  replace hB := hB.trans (hb.mono hB.size)
  clear hb hU1
  go_upto_region 5 with (fail)
  rw [HU1.out]
  have kbX_0 := bX.cell 0 _ rfl
  have kbX_1 := bX.cell 1 _ rfl
  have lbX := bX.lt
  go_wp2_with fail
  refine (HE2.out _ mX).mono ?_
  rintro e u2 ⟨q2, d2, s2, f2, rfl, i2, j2, hb⟩
  clear kbX_0 kbX_1 lbX
  replace mX := mX.below hb (Nat.le_refl _)
  replace bX := bX.below hb
  replace i1 := i1.below hb (Nat.le_refl _)
  replace j1 := j1.below hb (Nat.le_refl _)
  replace b1 := b1.below hb
  replace hB := hB.trans (hb.mono hB.size)
  clear hb
  obtain ⟨U2, hU2⟩ : ∃ W, u2.alloc (.cells #[.slice q2 X.length d2, .slice s2 Y2.length f2, .int .i64 Z2] 29) = W := ⟨_, rfl⟩
  have hb : Below u2.heap.size u2 U2 := below_alloc hU2
  have b2 : BoxV U2 u2.heap.size [.slice q2 X.length d2, .slice s2 Y2.length f2, .int .i64 Z2] := BoxV.new rfl hU2
  have HU2 := Lib.hid hU2
  replace mX := mX.below hb (Nat.le_refl _)
  replace bX := bX.below hb
  replace i1 := i1.below hb (Nat.le_refl _)
  replace j1 := j1.below hb (Nat.le_refl _)
  replace b1 := b1.below hb
  replace i2 := i2.below hb (Nat.le_refl _)
  replace j2 := j2.below hb (Nat.le_refl _)
  replace hB := hB.trans (hb.mono hB.size)
  clear hb hU2
  go_upto_region 6 with (fail)
  rw [HU2.out]
  have kbX_0 := bX.cell 0 _ rfl
  have kbX_1 := bX.cell 1 _ rfl
  have lbX := bX.lt
  go_wp2_with fail
  refine (HE3.out _ mX).mono ?_
  rintro e u3 ⟨q3, d3, s3, f3, rfl, i3, j3, hb⟩
  clear kbX_0 kbX_1 lbX
  replace mX := mX.below hb (Nat.le_refl _)
  replace bX := bX.below hb
  replace i1 := i1.below hb (Nat.le_refl _)
  replace j1 := j1.below hb (Nat.le_refl _)
  replace b1 := b1.below hb
  replace i2 := i2.below hb (Nat.le_refl _)
  replace j2 := j2.below hb (Nat.le_refl _)
  replace b2 := b2.below hb
  replace hB := hB.trans (hb.mono hB.size)
  clear hb
  obtain ⟨U3, hU3⟩ : ∃ W, u3.alloc (.cells #[.slice q3 X.length d3, .slice s3 Y3.length f3, .int .i64 Z3] 29) = W := ⟨_, rfl⟩
  have hb : Below u3.heap.size u3 U3 := below_alloc hU3
  have b3 : BoxV U3 u3.heap.size [.slice q3 X.length d3, .slice s3 Y3.length f3, .int .i64 Z3] := BoxV.new rfl hU3
  have HU3 := Lib.hid hU3
  replace mX := mX.below hb (Nat.le_refl _)
  replace bX := bX.below hb
  replace i1 := i1.below hb (Nat.le_refl _)
  replace j1 := j1.below hb (Nat.le_refl _)
  replace b1 := b1.below hb
  replace i2 := i2.below hb (Nat.le_refl _)
  replace j2 := j2.below hb (Nat.le_refl _)
  replace b2 := b2.below hb
  replace i3 := i3.below hb (Nat.le_refl _)
  replace j3 := j3.below hb (Nat.le_refl _)
  replace hB := hB.trans (hb.mono hB.size)
  clear hb hU3
  go_upto_region 7 with (fail)
  rw [HU3.out]
  have kbX_0 := bX.cell 0 _ rfl
  have kbX_1 := bX.cell 1 _ rfl
  have lbX := bX.lt
  have kb1_0 := b1.cell 0 _ rfl
  have kb1_1 := b1.cell 1 _ rfl
  have kb1_2 := b1.cell 2 _ rfl
  have lb1 := b1.lt
  have kb2_0 := b2.cell 0 _ rfl
  have kb2_1 := b2.cell 1 _ rfl
  have kb2_2 := b2.cell 2 _ rfl
  have lb2 := b2.lt
  have kb3_0 := b3.cell 0 _ rfl
  have kb3_1 := b3.cell 1 _ rfl
  have kb3_2 := b3.cell 2 _ rfl
  have lb3 := b3.lt
  go_wp2_with fail
  refine (HL1.out _ _ _ _ _ mX i1 j1).mono ?_
  rintro e x4 ⟨rfl, hb⟩
  clear kbX_0 kbX_1 lbX kb1_0 kb1_1 kb1_2 lb1 kb2_0 kb2_1 kb2_2 lb2 kb3_0 kb3_1 kb3_2 lb3
  replace mX := mX.below hb (Nat.le_refl _)
  replace bX := bX.below hb
  replace i1 := i1.below hb (Nat.le_refl _)
  replace j1 := j1.below hb (Nat.le_refl _)
  replace b1 := b1.below hb
  replace i2 := i2.below hb (Nat.le_refl _)
  replace j2 := j2.below hb (Nat.le_refl _)
  replace b2 := b2.below hb
  replace i3 := i3.below hb (Nat.le_refl _)
  replace j3 := j3.below hb (Nat.le_refl _)
  replace b3 := b3.below hb
  replace hB := hB.trans (hb.mono hB.size)
  clear hb
  have kbX_0 := bX.cell 0 _ rfl
  have kbX_1 := bX.cell 1 _ rfl
  have lbX := bX.lt
  have kb1_0 := b1.cell 0 _ rfl
  have kb1_1 := b1.cell 1 _ rfl
  have kb1_2 := b1.cell 2 _ rfl
  have lb1 := b1.lt
  have kb2_0 := b2.cell 0 _ rfl
  have kb2_1 := b2.cell 1 _ rfl
  have kb2_2 := b2.cell 2 _ rfl
  have lb2 := b2.lt
  have kb3_0 := b3.cell 0 _ rfl
  have kb3_1 := b3.cell 1 _ rfl
  have kb3_2 := b3.cell 2 _ rfl
  have lb3 := b3.lt
  go_wp2_with fail
  refine (HL2.out _ _ _ _ _ mX i2 j2).mono ?_
  rintro e x5 ⟨rfl, hb⟩
  clear kbX_0 kbX_1 lbX kb1_0 kb1_1 kb1_2 lb1 kb2_0 kb2_1 kb2_2 lb2 kb3_0 kb3_1 kb3_2 lb3
  replace mX := mX.below hb (Nat.le_refl _)
  replace bX := bX.below hb
  replace i1 := i1.below hb (Nat.le_refl _)
  replace j1 := j1.below hb (Nat.le_refl _)
  replace b1 := b1.below hb
  replace i2 := i2.below hb (Nat.le_refl _)
  replace j2 := j2.below hb (Nat.le_refl _)
  replace b2 := b2.below hb
  replace i3 := i3.below hb (Nat.le_refl _)
  replace j3 := j3.below hb (Nat.le_refl _)
  replace b3 := b3.below hb
  replace hB := hB.trans (hb.mono hB.size)
  clear hb
  have kbX_0 := bX.cell 0 _ rfl
  have kbX_1 := bX.cell 1 _ rfl
  have lbX := bX.lt
  have kb1_0 := b1.cell 0 _ rfl
  have kb1_1 := b1.cell 1 _ rfl
  have kb1_2 := b1.cell 2 _ rfl
  have lb1 := b1.lt
  have kb2_0 := b2.cell 0 _ rfl
  have kb2_1 := b2.cell 1 _ rfl
  have kb2_2 := b2.cell 2 _ rfl
  have lb2 := b2.lt
  have kb3_0 := b3.cell 0 _ rfl
  have kb3_1 := b3.cell 1 _ rfl
  have kb3_2 := b3.cell 2 _ rfl
  have lb3 := b3.lt
  go_wp2_with fail
  refine (HL3.out _ _ _ _ _ mX i3 j3).mono ?_
  rintro e x6 ⟨rfl, hb⟩
  clear kbX_0 kbX_1 lbX kb1_0 kb1_1 kb1_2 lb1 kb2_0 kb2_1 kb2_2 lb2 kb3_0 kb3_1 kb3_2 lb3
  replace mX := mX.below hb (Nat.le_refl _)
  replace bX := bX.below hb
  replace i1 := i1.below hb (Nat.le_refl _)
  replace j1 := j1.below hb (Nat.le_refl _)
  replace b1 := b1.below hb
  replace i2 := i2.below hb (Nat.le_refl _)
  replace j2 := j2.below hb (Nat.le_refl _)
  replace b2 := b2.below hb
  replace i3 := i3.below hb (Nat.le_refl _)
  replace j3 := j3.below hb (Nat.le_refl _)
  replace b3 := b3.below hb
  replace hB := hB.trans (hb.mono hB.size)
  clear hb
  have kbX_0 := bX.cell 0 _ rfl
  have kbX_1 := bX.cell 1 _ rfl
  have lbX := bX.lt
  have kb1_0 := b1.cell 0 _ rfl
  have kb1_1 := b1.cell 1 _ rfl
  have kb1_2 := b1.cell 2 _ rfl
  have lb1 := b1.lt
  go_wp2_with fail
  refine (HW1.out _ _ _ _ _ mX i1 j1).mono ?_
  rintro e t1 ⟨rfl, hb⟩
  clear kbX_0 kbX_1 lbX kb1_0 kb1_1 kb1_2 lb1
  replace mX := mX.below hb (Nat.le_refl _)
  replace bX := bX.below hb
  replace i1 := i1.below hb (Nat.le_refl _)
  replace j1 := j1.below hb (Nat.le_refl _)
  replace b1 := b1.below hb
  replace i2 := i2.below hb (Nat.le_refl _)
  replace j2 := j2.below hb (Nat.le_refl _)
  replace b2 := b2.below hb
  replace i3 := i3.below hb (Nat.le_refl _)
  replace j3 := j3.below hb (Nat.le_refl _)
  replace b3 := b3.below hb
  replace hB := hB.trans (hb.mono hB.size)
  clear hb
  obtain ⟨Ta1, hTa1⟩ : ∃ W, t1.alloc (.cells #[.int .i64 An1, .int .i64 Ad1] 35) = W := ⟨_, rfl⟩
  obtain ⟨T1, hT1⟩ : ∃ W, Ta1.alloc (.cells #[.int .i64 Bn1, .int .i64 Bd1] 35) = W := ⟨_, rfl⟩
  have hb1 := below_alloc hTa1
  have hb2 := below_alloc hT1
  have hs1 : Ta1.heap.size = t1.heap.size + 1 := by rw [← hTa1]; simp
  have bA1 : BoxV T1 t1.heap.size [.int .i64 An1, .int .i64 Ad1] := (BoxV.new rfl hTa1).below hb2
  have bB1 : BoxV T1 (t1.heap.size + 1) [.int .i64 Bn1, .int .i64 Bd1] := BoxV.new hs1 hT1
  have hb : Below t1.heap.size t1 T1 := hb1.trans (hb2.mono hb1.size)
  have HTa1 := Lib.hid hTa1
  have HT1 := Lib.hid hT1
  replace mX := mX.below hb (Nat.le_refl _)
  replace bX := bX.below hb
  replace i1 := i1.below hb (Nat.le_refl _)
  replace j1 := j1.below hb (Nat.le_refl _)
  replace b1 := b1.below hb
  replace i2 := i2.below hb (Nat.le_refl _)
  replace j2 := j2.below hb (Nat.le_refl _)
  replace b2 := b2.below hb
  replace i3 := i3.below hb (Nat.le_refl _)
  replace j3 := j3.below hb (Nat.le_refl _)
  replace b3 := b3.below hb
  replace hB := hB.trans (hb.mono hB.size)
  clear hb hb1 hb2 hs1 hTa1 hT1
  go_upto_region 10 with (fail)
  rw [HTa1.out, HT1.out]
  have kbX_0 := bX.cell 0 _ rfl
  have kbX_1 := bX.cell 1 _ rfl
  have lbX := bX.lt
  have kb2_0 := b2.cell 0 _ rfl
  have kb2_1 := b2.cell 1 _ rfl
  have kb2_2 := b2.cell 2 _ rfl
  have lb2 := b2.lt
  go_wp2_with fail
  refine (HW2.out _ _ _ _ _ mX i2 j2).mono ?_
  rintro e t2 ⟨rfl, hb⟩
  clear kbX_0 kbX_1 lbX kb2_0 kb2_1 kb2_2 lb2
  replace mX := mX.below hb (Nat.le_refl _)
  replace bX := bX.below hb
  replace i1 := i1.below hb (Nat.le_refl _)
  replace j1 := j1.below hb (Nat.le_refl _)
  replace b1 := b1.below hb
  replace i2 := i2.below hb (Nat.le_refl _)
  replace j2 := j2.below hb (Nat.le_refl _)
  replace b2 := b2.below hb
  replace i3 := i3.below hb (Nat.le_refl _)
  replace j3 := j3.below hb (Nat.le_refl _)
  replace b3 := b3.below hb
  replace bA1 := bA1.below hb
  replace bB1 := bB1.below hb
  replace hB := hB.trans (hb.mono hB.size)
  clear hb
  obtain ⟨Ta2, hTa2⟩ : ∃ W, t2.alloc (.cells #[.int .i64 An2, .int .i64 Ad2] 35) = W := ⟨_, rfl⟩
  obtain ⟨T2, hT2⟩ : ∃ W, Ta2.alloc (.cells #[.int .i64 Bn2, .int .i64 Bd2] 35) = W := ⟨_, rfl⟩
  have hb1 := below_alloc hTa2
  have hb2 := below_alloc hT2
  have hs1 : Ta2.heap.size = t2.heap.size + 1 := by rw [← hTa2]; simp
  have bA2 : BoxV T2 t2.heap.size [.int .i64 An2, .int .i64 Ad2] := (BoxV.new rfl hTa2).below hb2
  have bB2 : BoxV T2 (t2.heap.size + 1) [.int .i64 Bn2, .int .i64 Bd2] := BoxV.new hs1 hT2
  have hb : Below t2.heap.size t2 T2 := hb1.trans (hb2.mono hb1.size)
  have HTa2 := Lib.hid hTa2
  have HT2 := Lib.hid hT2
  replace mX := mX.below hb (Nat.le_refl _)
  replace bX := bX.below hb
  replace i1 := i1.below hb (Nat.le_refl _)
  replace j1 := j1.below hb (Nat.le_refl _)
  replace b1 := b1.below hb
  replace i2 := i2.below hb (Nat.le_refl _)
  replace j2 := j2.below hb (Nat.le_refl _)
  replace b2 := b2.below hb
  replace i3 := i3.below hb (Nat.le_refl _)
  replace j3 := j3.below hb (Nat.le_refl _)
  replace b3 := b3.below hb
  replace bA1 := bA1.below hb
  replace bB1 := bB1.below hb
  replace hB := hB.trans (hb.mono hB.size)
  clear hb hb1 hb2 hs1 hTa2 hT2
  go_upto_region 11 with (fail)
  rw [HTa2.out, HT2.out]
  have kbX_0 := bX.cell 0 _ rfl
  have kbX_1 := bX.cell 1 _ rfl
  have lbX := bX.lt
  have kb3_0 := b3.cell 0 _ rfl
  have kb3_1 := b3.cell 1 _ rfl
  have kb3_2 := b3.cell 2 _ rfl
  have lb3 := b3.lt
  go_wp2_with fail
  refine (HW3.out _ _ _ _ _ mX i3 j3).mono ?_
  rintro e t3 ⟨rfl, hb⟩
  clear kbX_0 kbX_1 lbX kb3_0 kb3_1 kb3_2 lb3
  replace mX := mX.below hb (Nat.le_refl _)
  replace bX := bX.below hb
  replace i1 := i1.below hb (Nat.le_refl _)
  replace j1 := j1.below hb (Nat.le_refl _)
  replace b1 := b1.below hb
  replace i2 := i2.below hb (Nat.le_refl _)
  replace j2 := j2.below hb (Nat.le_refl _)
  replace b2 := b2.below hb
  replace i3 := i3.below hb (Nat.le_refl _)
  replace j3 := j3.below hb (Nat.le_refl _)
  replace b3 := b3.below hb
  replace bA1 := bA1.below hb
  replace bB1 := bB1.below hb
  replace bA2 := bA2.below hb
  replace bB2 := bB2.below hb
  replace hB := hB.trans (hb.mono hB.size)
  clear hb
  obtain ⟨Ta3, hTa3⟩ : ∃ W, t3.alloc (.cells #[.int .i64 An3, .int .i64 Ad3] 35) = W := ⟨_, rfl⟩
  obtain ⟨T3, hT3⟩ : ∃ W, Ta3.alloc (.cells #[.int .i64 Bn3, .int .i64 Bd3] 35) = W := ⟨_, rfl⟩
  have hb1 := below_alloc hTa3
  have hb2 := below_alloc hT3
  have hs1 : Ta3.heap.size = t3.heap.size + 1 := by rw [← hTa3]; simp
  have bA3 : BoxV T3 t3.heap.size [.int .i64 An3, .int .i64 Ad3] := (BoxV.new rfl hTa3).below hb2
  have bB3 : BoxV T3 (t3.heap.size + 1) [.int .i64 Bn3, .int .i64 Bd3] := BoxV.new hs1 hT3
  have hb : Below t3.heap.size t3 T3 := hb1.trans (hb2.mono hb1.size)
  have HTa3 := Lib.hid hTa3
  have HT3 := Lib.hid hT3
  replace mX := mX.below hb (Nat.le_refl _)
  replace bX := bX.below hb
  replace i1 := i1.below hb (Nat.le_refl _)
  replace j1 := j1.below hb (Nat.le_refl _)
  replace b1 := b1.below hb
  replace i2 := i2.below hb (Nat.le_refl _)
  replace j2 := j2.below hb (Nat.le_refl _)
  replace b2 := b2.below hb
  replace i3 := i3.below hb (Nat.le_refl _)
  replace j3 := j3.below hb (Nat.le_refl _)
  replace b3 := b3.below hb
  replace bA1 := bA1.below hb
  replace bB1 := bB1.below hb
  replace bA2 := bA2.below hb
  replace bB2 := bB2.below hb
  replace hB := hB.trans (hb.mono hB.size)
  clear hb hb1 hb2 hs1 hTa3 hT3
  go_upto_region 12 with (fail)
  rw [HTa3.out, HT3.out]
  have kbA1_0 := bA1.cell 0 _ rfl
  have kbA1_1 := bA1.cell 1 _ rfl
  have lbA1 := bA1.lt
  have kbB1_0 := bB1.cell 0 _ rfl
  have kbB1_1 := bB1.cell 1 _ rfl
  have lbB1 := bB1.lt
  have kbA2_0 := bA2.cell 0 _ rfl
  have kbA2_1 := bA2.cell 1 _ rfl
  have lbA2 := bA2.lt
  have kbB2_0 := bB2.cell 0 _ rfl
  have kbB2_1 := bB2.cell 1 _ rfl
  have lbB2 := bB2.lt
  have kbA3_0 := bA3.cell 0 _ rfl
  have kbA3_1 := bA3.cell 1 _ rfl
  have lbA3 := bA3.lt
  have kbB3_0 := bB3.cell 0 _ rfl
  have kbB3_1 := bB3.cell 1 _ rfl
  have lbB3 := bB3.lt
  go_wp2_with fail
  refine (HS1.out _).mono ?_
  rintro e z1 ⟨rfl, hb⟩
  clear kbA1_0 kbA1_1 lbA1 kbB1_0 kbB1_1 lbB1 kbA2_0 kbA2_1 lbA2 kbB2_0 kbB2_1 lbB2 kbA3_0 kbA3_1 lbA3 kbB3_0 kbB3_1 lbB3
  replace mX := mX.below hb (Nat.le_refl _)
  replace bX := bX.below hb
  replace i1 := i1.below hb (Nat.le_refl _)
  replace j1 := j1.below hb (Nat.le_refl _)
  replace b1 := b1.below hb
  replace i2 := i2.below hb (Nat.le_refl _)
  replace j2 := j2.below hb (Nat.le_refl _)
  replace b2 := b2.below hb
  replace i3 := i3.below hb (Nat.le_refl _)
  replace j3 := j3.below hb (Nat.le_refl _)
  replace b3 := b3.below hb
  replace bA1 := bA1.below hb
  replace bB1 := bB1.below hb
  replace bA2 := bA2.below hb
  replace bB2 := bB2.below hb
  replace bA3 := bA3.below hb
  replace bB3 := bB3.below hb
  replace hB := hB.trans (hb.mono hB.size)
  clear hb
  have kbA1_0 := bA1.cell 0 _ rfl
  have kbA1_1 := bA1.cell 1 _ rfl
  have lbA1 := bA1.lt
  have kbB1_0 := bB1.cell 0 _ rfl
  have kbB1_1 := bB1.cell 1 _ rfl
  have lbB1 := bB1.lt
  have kbA2_0 := bA2.cell 0 _ rfl
  have kbA2_1 := bA2.cell 1 _ rfl
  have lbA2 := bA2.lt
  have kbB2_0 := bB2.cell 0 _ rfl
  have kbB2_1 := bB2.cell 1 _ rfl
  have lbB2 := bB2.lt
  have kbA3_0 := bA3.cell 0 _ rfl
  have kbA3_1 := bA3.cell 1 _ rfl
  have lbA3 := bA3.lt
  have kbB3_0 := bB3.cell 0 _ rfl
  have kbB3_1 := bB3.cell 1 _ rfl
  have lbB3 := bB3.lt
  go_wp2_with fail
  refine (HS2.out _).mono ?_
  rintro e z2 ⟨rfl, hb⟩
  clear kbA1_0 kbA1_1 lbA1 kbB1_0 kbB1_1 lbB1 kbA2_0 kbA2_1 lbA2 kbB2_0 kbB2_1 lbB2 kbA3_0 kbA3_1 lbA3 kbB3_0 kbB3_1 lbB3
  replace mX := mX.below hb (Nat.le_refl _)
  replace bX := bX.below hb
  replace i1 := i1.below hb (Nat.le_refl _)
  replace j1 := j1.below hb (Nat.le_refl _)
  replace b1 := b1.below hb
  replace i2 := i2.below hb (Nat.le_refl _)
  replace j2 := j2.below hb (Nat.le_refl _)
  replace b2 := b2.below hb
  replace i3 := i3.below hb (Nat.le_refl _)
  replace j3 := j3.below hb (Nat.le_refl _)
  replace b3 := b3.below hb
  replace bA1 := bA1.below hb
  replace bB1 := bB1.below hb
  replace bA2 := bA2.below hb
  replace bB2 := bB2.below hb
  replace bA3 := bA3.below hb
  replace bB3 := bB3.below hb
  replace hB := hB.trans (hb.mono hB.size)
  clear hb
  have kbA1_0 := bA1.cell 0 _ rfl
  have kbA1_1 := bA1.cell 1 _ rfl
  have lbA1 := bA1.lt
  have kbB1_0 := bB1.cell 0 _ rfl
  have kbB1_1 := bB1.cell 1 _ rfl
  have lbB1 := bB1.lt
  have kbA2_0 := bA2.cell 0 _ rfl
  have kbA2_1 := bA2.cell 1 _ rfl
  have lbA2 := bA2.lt
  have kbB2_0 := bB2.cell 0 _ rfl
  have kbB2_1 := bB2.cell 1 _ rfl
  have lbB2 := bB2.lt
  have kbA3_0 := bA3.cell 0 _ rfl
  have kbA3_1 := bA3.cell 1 _ rfl
  have lbA3 := bA3.lt
  have kbB3_0 := bB3.cell 0 _ rfl
  have kbB3_1 := bB3.cell 1 _ rfl
  have lbB3 := bB3.lt
  go_wp2_with fail
  refine (HS3.out _).mono ?_
  rintro e z3 ⟨rfl, hb⟩
  clear kbA1_0 kbA1_1 lbA1 kbB1_0 kbB1_1 lbB1 kbA2_0 kbA2_1 lbA2 kbB2_0 kbB2_1 lbB2 kbA3_0 kbA3_1 lbA3 kbB3_0 kbB3_1 lbB3
  replace mX := mX.below hb (Nat.le_refl _)
  replace bX := bX.below hb
  replace i1 := i1.below hb (Nat.le_refl _)
  replace j1 := j1.below hb (Nat.le_refl _)
  replace b1 := b1.below hb
  replace i2 := i2.below hb (Nat.le_refl _)
  replace j2 := j2.below hb (Nat.le_refl _)
  replace b2 := b2.below hb
  replace i3 := i3.below hb (Nat.le_refl _)
  replace j3 := j3.below hb (Nat.le_refl _)
  replace b3 := b3.below hb
  replace bA1 := bA1.below hb
  replace bB1 := bB1.below hb
  replace bA2 := bA2.below hb
  replace bB2 := bB2.below hb
  replace bA3 := bA3.below hb
  replace bB3 := bB3.below hb
  replace hB := hB.trans (hb.mono hB.size)
  clear hb
  have kbA1_0 := bA1.cell 0 _ rfl
  have kbA1_1 := bA1.cell 1 _ rfl
  have lbA1 := bA1.lt
  have kbB1_0 := bB1.cell 0 _ rfl
  have kbB1_1 := bB1.cell 1 _ rfl
  have lbB1 := bB1.lt
  have kbA2_0 := bA2.cell 0 _ rfl
  have kbA2_1 := bA2.cell 1 _ rfl
  have lbA2 := bA2.lt
  have kbB2_0 := bB2.cell 0 _ rfl
  have kbB2_1 := bB2.cell 1 _ rfl
  have lbB2 := bB2.lt
  have kbA3_0 := bA3.cell 0 _ rfl
  have kbA3_1 := bA3.cell 1 _ rfl
  have lbA3 := bA3.lt
  have kbB3_0 := bB3.cell 0 _ rfl
  have kbB3_1 := bB3.cell 1 _ rfl
  have lbB3 := bB3.lt
  go_wp2_with fail
  refine (HS4.out _).mono ?_
  rintro e z4 ⟨rfl, hb⟩
  clear kbA1_0 kbA1_1 lbA1 kbB1_0 kbB1_1 lbB1 kbA2_0 kbA2_1 lbA2 kbB2_0 kbB2_1 lbB2 kbA3_0 kbA3_1 lbA3 kbB3_0 kbB3_1 lbB3
  replace mX := mX.below hb (Nat.le_refl _)
  replace bX := bX.below hb
  replace i1 := i1.below hb (Nat.le_refl _)
  replace j1 := j1.below hb (Nat.le_refl _)
  replace b1 := b1.below hb
  replace i2 := i2.below hb (Nat.le_refl _)
  replace j2 := j2.below hb (Nat.le_refl _)
  replace b2 := b2.below hb
  replace i3 := i3.below hb (Nat.le_refl _)
  replace j3 := j3.below hb (Nat.le_refl _)
  replace b3 := b3.below hb
  replace bA1 := bA1.below hb
  replace bB1 := bB1.below hb
  replace bA2 := bA2.below hb
  replace bB2 := bB2.below hb
  replace bA3 := bA3.below hb
  replace bB3 := bB3.below hb
  replace hB := hB.trans (hb.mono hB.size)
  clear hb
  go_wp2_with fail
  go_ret
  exact ⟨rfl, hB⟩
theorem topRent_walk (p : Option Addr) (c : Nat) (v : List (List Int)) (r : Int) (w : World) (hx : Mat w p c v) (hr64 : in64 r) : Calls Try.prog 3 #[.agg #[.slice p v.length c, .int .i64 r]] w fun e w' => e = .returned (.bool true) ∧ Below w.heap.size w w' := by
  by_cases h : 6 < v.length
  · exact topRent_long p c v r w hx hr64 h
  · by_cases hc : chkR v r = 0
    · exact topRent_main p c v r w hx hr64 h hc
    · exact topRent_odd p c v r w hx hr64 h hc
end Go.Proofs.Ytmcncflieoolmaa

/- The arguments of a law that are numbers, and slices in a field, as they are read; no condition. -/
namespace Go.Proofs.Ytmcncflieoolmaa
set_option linter.unusedVariables false
set_option maxRecDepth 100000
set_option linter.unusedSimpArgs false
open Go.ChangeShapes Go.WideShapes Go.ChangeAt Go.RowKit Go.Deep
variable {H : Type} {enc : TypeId × Value → H} {w : World}
theorem open_intV {v : Value} {d : DataW H} {ps : List MemPlace} {base : Nat} (hv : Value.okWide Try.prog w .any base 3 v)
    (h : DataW.Trod enc Try.prog w 0 (fun _ => true) true 3 v d ps) : ∃ x : Int, v = .int .i64 x ∧ in64 x := by
  obtain ⟨n, hn, hr⟩ := open_int Try.underlying3 hv h
  exact ⟨n, hn, in64_of_wf hr.2.2⟩
theorem open_intC {v : Value} {y : DataW H × List MemPlace} {n : Nat} (h : DataW.trod enc Try.prog w 0 (fun _ => true) true n 3 [v] = some y) : ∃ x : Int, v = .int .i64 x ∧ in64 x := by
  obtain ⟨x, hcs, _, hw⟩ := DataW.trod_int Try.underlying3 h
  simp at hcs
  exact ⟨x, hcs, in64_of_wf hw⟩
theorem open_intsC {v : Value} {y : DataW H × List MemPlace} {n : Nat} (hf : DataW.trod enc Try.prog w 0 (fun _ => true) true n 27 [v] = some y) : ∃ (p : Option Addr) (c : Nat) (xs : List Int), v = .slice p xs.length c ∧ Ints w p c xs := by
  rcases open_ints Try.underlying27 Try.underlying3 (by kernel_rfl) hf with ⟨hcs, _⟩ | ⟨x, len, cap, zs, hcs, _, hl, hm, hz, hx, hcell, hwz⟩
  · simp at hcs
    subst hcs
    exact ⟨none, 0, [], rfl, Ints.ofNil w⟩
  · simp at hcs
    subst hcs
    simp only [if_true] at hz
    have hl' : (zs.take len).length = len := by simp; omega
    refine ⟨_, cap, zs.take len, by rw [hl'], by omega, hm, fun h => (by cases h), ?_, ?_, ?_⟩
    · rintro a ⟨⟩ hc0
      have h0 := hcell 0 (by omega)
      obtain ⟨b, o, s⟩ := x
      have := World.block_lt_of_cell? _ _ h0
      exact ⟨by simpa [Addr.add] using World.cell?_spot h0, by simpa [Addr.add] using this⟩
    · rintro b o ⟨⟩ j hj
      have := hcell j (by omega)
      rw [hl'] at hj
      rw [add_plain] at this
      simpa [iget, List.getD, hj] using this
    · intro j hj
      rw [iget_of hj]
      exact in64_of_wf (hwz _ (List.mem_of_mem_take (List.getElem_mem hj)))
theorem open_matC {v : Value} {y : DataW H × List MemPlace} {n : Nat} (hf : DataW.trod enc Try.prog w 0 (fun _ => true) true n 22 [v] = some y) : ∃ (p : Option Addr) (c : Nat) (m : List (List Int)), v = .slice p m.length c ∧ Mat w p c m := by
  rcases open_int_rows Try.underlying22 Try.underlying27 Try.underlying3 (by kernel_rfl) (by kernel_rfl) hf with ⟨hcs, _⟩ | ⟨x, len, cap, A, L, C, Z, hcs, _, hl, hm, _, hrows⟩
  · simp at hcs
    subst hcs
    exact ⟨none, 0, [], rfl, Mat.ofNil w⟩
  · simp at hcs
    subst hcs
    have hl' : ((List.range len).map fun r => (Z r).take (L r)).length = len := by simp
    have hr : ∀ j, j < len → rget ((List.range len).map fun r => (Z r).take (L r)) j = (Z j).take (L j) := fun j hj => by simp [rget, hj]
    refine ⟨_, cap, _, by rw [hl'], by omega, hm, fun h => (by cases h), ?_, ?_⟩
    · rintro a ⟨⟩ hc0
      have h0 := (hrows 0 (by omega)).1
      obtain ⟨b, o, s⟩ := x
      have := World.block_lt_of_cell? _ _ h0
      exact ⟨by simpa [Addr.add] using World.cell?_spot h0, by simpa [Addr.add] using this⟩
    · rintro b o ⟨⟩ j hj
      rw [hl'] at hj
      obtain ⟨h1, h2, h3, h4, h5, h6, h7⟩ := hrows j (by omega)
      have hl2 : ((Z j).take (L j)).length = L j := by simp; omega
      refine ⟨A j, C j, by rw [hr j hj, hl2, ← add_plain]; exact h1, ?_⟩
      rw [hr j hj]
      refine ⟨by omega, h3, h6, ?_, ?_, ?_⟩
      · intro a' ha' hc0
        have h0 := (h7 a' ha').2 0 hc0
        obtain ⟨b', o', s'⟩ := a'
        have := World.block_lt_of_cell? _ _ h0
        exact ⟨by simpa [Addr.add] using World.cell?_spot h0, by simpa [Addr.add] using this⟩
      · intro b' o' hp i hi
        have := (h7 _ hp).2 i (by omega)
        rw [hl2] at hi
        rw [add_plain] at this
        simpa [iget, List.getD, hi] using this
      · intro i hi
        rw [iget_of hi]
        exact in64_of_wf (h5 _ (List.mem_of_mem_take (List.getElem_mem hi)))
end Go.Proofs.Ytmcncflieoolmaa

/- The arguments of a law that are flats and leases, as they are read; no condition. -/
namespace Go.Proofs.Ytmcncflieoolmaa
set_option linter.unusedVariables false
set_option maxRecDepth 100000
set_option linter.unusedSimpArgs false
open Go.ChangeShapes Go.WideShapes Go.ChangeAt Go.RowKit Go.Deep
variable {H : Type} {enc : TypeId × Value → H} {w : World}
theorem open_roomsV {v : Value} {d : DataW H} {ps : List MemPlace} {base : Nat} (hv : Value.okWide Try.prog w .any base 24 v)
    (h : DataW.Trod enc Try.prog w 0 (fun _ => true) true 24 v d ps) : ∃ (p : Option Addr) (c : Nat) (m : List (List Int)) (r : Int), v = .agg #[.slice p m.length c, .int .i64 r] ∧ Mat w p c m ∧ in64 r := by
  obtain ⟨v0, v1, y0, y1, n, rfl, _, _, h0, h1⟩ := Go.Joins.open_agg2 Try.underlying24 (by kernel_rfl) (by kernel_rfl) hv h
  obtain ⟨p, c, m, rfl, hm⟩ := open_matC h0
  obtain ⟨x, rfl, hx⟩ := open_intC h1
  exact ⟨p, c, m, x, rfl, hm, hx⟩
theorem open_leaseV {v : Value} {d : DataW H} {ps : List MemPlace} {base : Nat} (hv : Value.okWide Try.prog w .any base 29 v)
    (h : DataW.Trod enc Try.prog w 0 (fun _ => true) true 29 v d ps) :
    ∃ (p : Option Addr) (c : Nat) (xs : List Int) (q : Option Addr) (e : Nat) (ys : List Int) (z : Int), v = .agg #[.slice p xs.length c, .slice q ys.length e, .int .i64 z] ∧ Ints w p c xs ∧ Ints w q e ys ∧ in64 z := by
  obtain ⟨v0, v1, v2, y0, y1, y2, n, rfl, _, _, h0, h1, h2⟩ := Go.Joins.open_agg3 Try.underlying29 (by kernel_rfl) (by kernel_rfl) hv h
  obtain ⟨p, c, xs, rfl, hx⟩ := open_intsC h0
  obtain ⟨q, e, ys, rfl, hy⟩ := open_intsC h1
  obtain ⟨z, rfl, hz⟩ := open_intC h2
  exact ⟨p, c, xs, q, e, ys, z, rfl, hx, hy, hz⟩
end Go.Proofs.Ytmcncflieoolmaa

/- TopRent: for every input the law returns true, and each argument reads as it read before; no condition. -/
namespace Go.Proofs.Ytmcncflieoolmaa.TopRentTop
open Go.ChangeShapes Go.WideShapes Go.ChangeAt Go.RowKit Go.Deep
set_option linter.unusedVariables false

set_option maxRecDepth 100000 in
theorem lifted (os : Os) (started : os.Started) (H : Type) (enc : TypeId × Value → H) :
    ReturnsInHanded {} Try.checked os 3 .any (Rows.topRentSpec.pre6 enc Try.prog Try.f3 Rows.topRentRow.domain false) (Rows.topRentSpec.post enc Try.prog Try.f3 false true false false) := by
  refine returnsInHanded_of_change (C := Try.checked) own started (by kernel_rfl) Try.func3
    (ChangeSpec.witness6 (enc := enc) (C := Try.checked) false ⟨#[], #[.agg #[.slice none 0 0, .int .i64 0]], []⟩ 8 (by kernel_rfl) (by kernel_rfl) (by kernel_rfl) (by kernel_rfl)) ?_
  intro W base args ds gs before hval0 hW hcnd _
  have hval : ∀ (j : Nat) t v, Try.f3.params[j]? = some t → args[j]? = some v → Value.okWide Try.prog W .any base t v := hval0
  have hW' := hW
  obtain ⟨p, q, hA0, hV, rfl, hfz, hnd⟩ := hW
  have hA : DataW.TrodAll enc Try.prog W 0 (fun _ => true) true Try.f3.params.toList args.toList ds p := hA0
  rw [Try.params3] at hA hval
  obtain ⟨v0, vs0, d0, ds0, p0, q0, hargs, rfl, rfl, h0, r0⟩ := trodAll_cons hA
  obtain ⟨rfl, rfl, rfl⟩ := trodAll_nil r0
  obtain rfl : args = #[v0] := by cases args; simp_all
  obtain ⟨rfl, rfl⟩ := trodVars_none hV
  have k0 := h0
  have lt0 : ∀ x ∈ p0, x.block < W.heap.size := by obtain ⟨m, hm⟩ := k0; exact DataW.trod_lt m _ _ _ hm
  obtain ⟨a0, c0, x0, y0, rfl, w0, u0⟩ := open_roomsV (hval 0 24 v0 rfl rfl) h0
  clear hA0 hval0
  refine (topRent_walk a0 c0 x0 y0 W w0 u0).mono fun e W' ⟨he, bel⟩ => ?_
  subst he
  exact ⟨_, rfl, _, _, _, [], _, [], hW', trodAll_mk1 (shut_bool Try.underlying4 _), (trodAll_cons_mk (Below.trod laidOut (by kernel_rfl) (of_decide_eq_true (by kernel_rfl)) k0 bel lt0) trodAll_mk0), rfl, bel.frame _, fun h => by cases h⟩

theorem over : Rows.topRentRow.holds Try.pinned (OpenSpec.ofChange Rows.topRentSpec) :=
  OpenClaim.holds_of_wide 3 Try.f3 rfl rfl rfl rfl rfl rfl rfl ⟨rfl, rfl, rfl, rfl, rfl⟩ rfl rfl rfl rfl rfl (by kernel_rfl) Try.func3 (by kernel_rfl)
    (of_decide_eq_true (by kernel_rfl)) (by unfold Func.isWrapper; first | (rw [if_pos (by decide +kernel)]; kernel_rfl) | (rw [if_neg (by decide +kernel)]; exact ⟨rfl, rfl⟩))
    (fun os started H enc _ => lifted os started H enc)
end Go.Proofs.Ytmcncflieoolmaa.TopRentTop
namespace Go.Proofs.Ytmcncflieoolmaa
/-- The statement. -/
theorem topRent_holds : Rows.TopRentSaid := TopRentTop.over
#print axioms topRent_holds
end Go.Proofs.Ytmcncflieoolmaa
