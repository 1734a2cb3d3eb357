/- The walk of the law RentRents: for every flat and other rent it returns true, and changes nothing that was there.  (Printed by wip/genrentrents.py.) -/
import Derived.Test.YtllcbcanohdepaaTopRentBestm8
import Derived.Test.YtllcbcanohdepaaTopRentNamesm28
import Derived.Deep.DeepCutAuto
import Derived.Test.YtllcbcanohdepaaTopRentRentsm1
import Derived.Test.YtllcbcanohdepaaTopRentNamesm25
namespace Go.Proofs.Ytllcbcanohdepaa
set_option linter.unusedVariables false
set_option linter.unusedSimpArgs false
open Go.ChangeShapes Go.WideShapes Go.ChangeAt Go.RowKit Go.Deep

theorem rr62 {i : Nat} (h : i < 62) : i = 0 ∨ i = 1 ∨ i = 2 ∨ i = 3 ∨ i = 4 ∨ i = 5 ∨ i = 6 ∨ i = 7 ∨ i = 8 ∨ i = 9 ∨ i = 10 ∨ i = 11 ∨ i = 12 ∨ i = 13 ∨ i = 14 ∨ i = 15 ∨ i = 16 ∨ i = 17 ∨ i = 18 ∨ i = 19 ∨ i = 20 ∨ i = 21 ∨ i = 22 ∨ i = 23 ∨ i = 24 ∨ i = 25 ∨ i = 26 ∨ i = 27 ∨ i = 28 ∨ i = 29 ∨ i = 30 ∨ i = 31 ∨ i = 32 ∨ i = 33 ∨ i = 34 ∨ i = 35 ∨ i = 36 ∨ i = 37 ∨ i = 38 ∨ i = 39 ∨ i = 40 ∨ i = 41 ∨ i = 42 ∨ i = 43 ∨ i = 44 ∨ i = 45 ∨ i = 46 ∨ i = 47 ∨ i = 48 ∨ i = 49 ∨ i = 50 ∨ i = 51 ∨ i = 52 ∨ i = 53 ∨ i = 54 ∨ i = 55 ∨ i = 56 ∨ i = 57 ∨ i = 58 ∨ i = 59 ∨ i = 60 ∨ i = 61 := by omega
theorem mul60 {P : Int} {z : Nat} {M : Int} (h1 : -M ≤ P) (h2 : P ≤ M) (hz : z ≤ 60) (hM : 0 ≤ M) : -(60 * M) ≤ P * z ∧ P * z ≤ 60 * M := by
  have a := Int.mul_le_mul_of_nonneg_right h2 (show (0 : Int) ≤ z by omega)
  have b := Int.mul_le_mul_of_nonneg_right h1 (show (0 : Int) ≤ z by omega)
  have c := Int.mul_le_mul_of_nonneg_left (show (z : Int) ≤ 60 by omega) hM
  rw [Int.neg_mul] at b
  omega

set_option maxHeartbeats 8000000 in
set_option maxRecDepth 100000 in
theorem rentRents_early (p : Option Addr) (c : Nat) (v : List (List Int)) (r : Int) (o : Int) (w : World) (hx : Mat w p c v) (hr64 : in64 r) (ho64 : in64 o) (hc : chkR v r ≠ 0) :
    Calls Try.prog 7 #[.agg #[.slice p v.length c, .int .i64 r], .int .i64 o] w fun e w' => e = .returned (.bool true) ∧ Below w.heap.size w w' := by
  obtain ⟨W0, hW0⟩ : ∃ W, w.alloc (.cells #[.slice p v.length c, .int .i64 r] 24) = W := ⟨_, rfl⟩
  have hB := below_alloc hW0
  have bX : BoxV W0 w.heap.size [.slice p v.length c, .int .i64 r] := BoxV.new rfl hW0
  have mX := hx.below hB (Nat.le_refl _)
  have hlx := hx.length_le
  have HW0 := Lib.hid hW0
  clear hW0 hx
  have hF := fun W (h : Mat W p c v) => fit15_any p c v r W h
  have hf : fit15 v r = false := by unfold fit15; rw [decide_eq_false_iff_not]; exact hc
  rw [hf] at hF
  have HF := Lib.hid hF
  clear hF hf hc
  go_enter Try.func7, Try.ntmps7
  go_wp2_with fail
  rw [HW0.out]
  refine (alive15_any _).mono ?_
  rintro e w1 ⟨rfl, hb⟩
  replace mX := mX.below hb (Nat.le_refl _)
  replace bX := bX.below hb
  replace hB := hB.trans (hb.mono hB.size)
  clear hb
  obtain ⟨W1, hW1⟩ : ∃ W, w1.alloc (.cells #[.slice p v.length c, .int .i64 o] 24) = W := ⟨_, rfl⟩
  have hb := below_alloc hW1
  have bS : BoxV W1 w1.heap.size [.slice p v.length c, .int .i64 o] := BoxV.new rfl hW1
  have HW1 := Lib.hid hW1
  have k0 := bX.cell 0 _ rfl
  have k1 := bX.cell 1 _ rfl
  replace mX := mX.below hb (Nat.le_refl _)
  replace bX := bX.below hb
  replace hB := hB.trans (hb.mono hB.size)
  clear hb hW1
  go_upto_region 3 with (fail)
  rw [HW1.out]
  clear k0 k1
  have kbX_0 := bX.cell 0 _ rfl
  have kbX_1 := bX.cell 1 _ rfl
  have lbX := bX.lt
  have kbS_0 := bS.cell 0 _ rfl
  have kbS_1 := bS.cell 1 _ rfl
  have lbS := bS.lt
  go_wp2_with fail
  refine (HF.out _ mX).mono ?_
  rintro e w2 ⟨rfl, hb⟩
  clear kbX_0 kbX_1 lbX kbS_0 kbS_1 lbS
  replace mX := mX.below hb (Nat.le_refl _)
  replace bX := bX.below hb
  replace bS := bS.below hb
  replace hB := hB.trans (hb.mono hB.size)
  clear hb
  go_wp2_with fail
  go_ret
  exact ⟨rfl, hB⟩
set_option maxHeartbeats 8000000 in
set_option maxRecDepth 100000 in
theorem rentRents_off (p : Option Addr) (c : Nat) (v : List (List Int)) (r : Int) (o : Int) (w : World) (hx : Mat w p c v) (hr64 : in64 r) (ho64 : in64 o) (hc : chkR v r = 0) (ho : chkR v o ≠ 0) :
    Calls Try.prog 7 #[.agg #[.slice p v.length c, .int .i64 r], .int .i64 o] w fun e w' => e = .returned (.bool true) ∧ Below w.heap.size w w' := by
  obtain ⟨W0, hW0⟩ : ∃ W, w.alloc (.cells #[.slice p v.length c, .int .i64 r] 24) = W := ⟨_, rfl⟩
  have hB := below_alloc hW0
  have bX : BoxV W0 w.heap.size [.slice p v.length c, .int .i64 r] := BoxV.new rfl hW0
  have mX := hx.below hB (Nat.le_refl _)
  have hlx := hx.length_le
  have HW0 := Lib.hid hW0
  clear hW0 hx
  have hF := fun W (h : Mat W p c v) => fit15_any p c v r W h
  have hf : fit15 v r = true := by unfold fit15; rw [decide_eq_true_iff]; exact hc
  rw [hf] at hF
  have hG := fun W (h : Mat W p c v) => fit15_any p c v o W h
  have hg : fit15 v o = false := by unfold fit15; rw [decide_eq_false_iff_not]; exact ho
  rw [hg] at hG
  have HF := Lib.hid hF
  have HG := Lib.hid hG
  clear hF hf hc hG hg ho
  go_enter Try.func7, Try.ntmps7
  go_wp2_with fail
  rw [HW0.out]
  refine (alive15_any _).mono ?_
  rintro e w1 ⟨rfl, hb⟩
  replace mX := mX.below hb (Nat.le_refl _)
  replace bX := bX.below hb
  replace hB := hB.trans (hb.mono hB.size)
  clear hb
  obtain ⟨W1, hW1⟩ : ∃ W, w1.alloc (.cells #[.slice p v.length c, .int .i64 o] 24) = W := ⟨_, rfl⟩
  have hb := below_alloc hW1
  have bS : BoxV W1 w1.heap.size [.slice p v.length c, .int .i64 o] := BoxV.new rfl hW1
  have HW1 := Lib.hid hW1
  have k0 := bX.cell 0 _ rfl
  have k1 := bX.cell 1 _ rfl
  replace mX := mX.below hb (Nat.le_refl _)
  replace bX := bX.below hb
  replace hB := hB.trans (hb.mono hB.size)
  clear hb hW1
  go_upto_region 3 with (fail)
  rw [HW1.out]
  clear k0 k1
  have kbX_0 := bX.cell 0 _ rfl
  have kbX_1 := bX.cell 1 _ rfl
  have lbX := bX.lt
  have kbS_0 := bS.cell 0 _ rfl
  have kbS_1 := bS.cell 1 _ rfl
  have lbS := bS.lt
  go_wp2_with fail
  refine (HF.out _ mX).mono ?_
  rintro e w2 ⟨rfl, hb⟩
  clear kbX_0 kbX_1 lbX kbS_0 kbS_1 lbS
  replace mX := mX.below hb (Nat.le_refl _)
  replace bX := bX.below hb
  replace bS := bS.below hb
  replace hB := hB.trans (hb.mono hB.size)
  clear hb
  have kbX_0 := bX.cell 0 _ rfl
  have kbX_1 := bX.cell 1 _ rfl
  have lbX := bX.lt
  have kbS_0 := bS.cell 0 _ rfl
  have kbS_1 := bS.cell 1 _ rfl
  have lbS := bS.lt
  go_wp2_with fail
  refine (HG.out _ mX).mono ?_
  rintro e w3 ⟨rfl, hb⟩
  clear kbX_0 kbX_1 lbX kbS_0 kbS_1 lbS
  replace mX := mX.below hb (Nat.le_refl _)
  replace bX := bX.below hb
  replace bS := bS.below hb
  replace hB := hB.trans (hb.mono hB.size)
  clear hb
  go_wp2_with fail
  go_ret
  exact ⟨rfl, hB⟩
set_option maxHeartbeats 8000000 in
set_option maxRecDepth 100000 in
theorem rentRents_main (p : Option Addr) (c : Nat) (v : List (List Int)) (r : Int) (o : Int) (w : World) (hx : Mat w p c v) (hr64 : in64 r) (ho64 : in64 o) (hc : chkR v r = 0) (ho : chkR v o = 0) :
    Calls Try.prog 7 #[.agg #[.slice p v.length c, .int .i64 r], .int .i64 o] w fun e w' => e = .returned (.bool true) ∧ Below w.heap.size w w' := by
  obtain ⟨W0, hW0⟩ : ∃ W, w.alloc (.cells #[.slice p v.length c, .int .i64 r] 24) = W := ⟨_, rfl⟩
  have hB := below_alloc hW0
  have bX : BoxV W0 w.heap.size [.slice p v.length c, .int .i64 r] := BoxV.new rfl hW0
  have mX := hx.below hB (Nat.le_refl _)
  have hlx := hx.length_le
  have HW0 := Lib.hid hW0
  clear hW0 hx
  have hF := fun W (h : Mat W p c v) => fit15_any p c v r W h
  have hf : fit15 v r = true := by unfold fit15; rw [decide_eq_true_iff]; exact hc
  rw [hf] at hF
  have hG := fun W (h : Mat W p c v) => fit15_any p c v o W h
  have hg : fit15 v o = true := by unfold fit15; rw [decide_eq_true_iff]; exact ho
  rw [hg] at hG
  have HF := Lib.hid hF
  have HG := Lib.hid hG
  clear hF hf hG hg
  have hBd := (chkR_zero.1 hc).1
  have h6 := hBd.2.1
  have hv0 := hBd.1
  obtain ⟨X, eX⟩ : ∃ x, bestA v = x := ⟨_, rfl⟩
  have eX1 : bestI v r = X := by rw [← eX]; exact (lea_parts (g := []) hc).1
  have eX2 : bestI v o = X := by rw [← eX]; exact (lea_parts (g := []) ho).1
  have hva := (lea_vld (g := fairG v) hc (fair_gp hBd)).1
  have hEa := fun W (h : Mat W p c v) => rentFair_any p c v r W h
  obtain ⟨Ya, eYa⟩ : ∃ x, leaY v r (fairG v) = x := ⟨_, rfl⟩
  obtain ⟨Za, eZa⟩ : ∃ x : Nat, leaZ v r (fairG v) = x := ⟨(leaZ v r (fairG v)).toNat, by have := (vld_zero.1 hva).2.2.1; omega⟩
  rw [eX1, eYa, eZa, hc] at hEa
  rw [eX, eYa, eZa] at hva
  have hVa := fun W q1 d1 s1 f1 (h : Mat W p c v) (h1 : Ints W q1 d1 X) (h2 : Ints W s1 f1 Ya) => refValid_any p q1 s1 c d1 f1 v r X Ya Za W h h1 h2
  rw [hva] at hVa
  have HEa := Lib.hid hEa
  have HVa := Lib.hid hVa
  have Hga := Lib.hid (good_of hva)
  have hvb := (lea_vld (g := fairG v) ho (fair_gp hBd)).1
  have hEb := fun W (h : Mat W p c v) => rentFair_any p c v o W h
  obtain ⟨Yb, eYb⟩ : ∃ x, leaY v o (fairG v) = x := ⟨_, rfl⟩
  obtain ⟨Zb, eZb⟩ : ∃ x : Nat, leaZ v o (fairG v) = x := ⟨(leaZ v o (fairG v)).toNat, by have := (vld_zero.1 hvb).2.2.1; omega⟩
  rw [eX2, eYb, eZb, ho] at hEb
  rw [eX, eYb, eZb] at hvb
  have hVb := fun W q1 d1 s1 f1 (h : Mat W p c v) (h1 : Ints W q1 d1 X) (h2 : Ints W s1 f1 Yb) => refValid_any p q1 s1 c d1 f1 v o X Yb Zb W h h1 h2
  rw [hvb] at hVb
  have HEb := Lib.hid hEb
  have HVb := Lib.hid hVb
  have Hgb := Lib.hid (good_of hvb)
  have hvc := (lea_vld (g := calmG v) hc (calm_gp hBd)).1
  have hEc := fun W (h : Mat W p c v) => rentCalm_any p c v r W h
  obtain ⟨Yc, eYc⟩ : ∃ x, leaY v r (calmG v) = x := ⟨_, rfl⟩
  obtain ⟨Zc, eZc⟩ : ∃ x : Nat, leaZ v r (calmG v) = x := ⟨(leaZ v r (calmG v)).toNat, by have := (vld_zero.1 hvc).2.2.1; omega⟩
  rw [eX1, eYc, eZc, hc] at hEc
  rw [eX, eYc, eZc] at hvc
  have hVc := fun W q1 d1 s1 f1 (h : Mat W p c v) (h1 : Ints W q1 d1 X) (h2 : Ints W s1 f1 Yc) => refValid_any p q1 s1 c d1 f1 v r X Yc Zc W h h1 h2
  rw [hvc] at hVc
  have HEc := Lib.hid hEc
  have HVc := Lib.hid hVc
  have Hgc := Lib.hid (good_of hvc)
  have hvd := (lea_vld (g := calmG v) ho (calm_gp hBd)).1
  have hEd := fun W (h : Mat W p c v) => rentCalm_any p c v o W h
  obtain ⟨Yd, eYd⟩ : ∃ x, leaY v o (calmG v) = x := ⟨_, rfl⟩
  obtain ⟨Zd, eZd⟩ : ∃ x : Nat, leaZ v o (calmG v) = x := ⟨(leaZ v o (calmG v)).toNat, by have := (vld_zero.1 hvd).2.2.1; omega⟩
  rw [eX2, eYd, eZd, ho] at hEd
  rw [eX, eYd, eZd] at hvd
  have hVd := fun W q1 d1 s1 f1 (h : Mat W p c v) (h1 : Ints W q1 d1 X) (h2 : Ints W s1 f1 Yd) => refValid_any p q1 s1 c d1 f1 v o X Yd Zd W h h1 h2
  rw [hvd] at hVd
  have HEd := Lib.hid hEd
  have HVd := Lib.hid hVd
  have Hgd := Lib.hid (good_of hvd)
  have hlaw1 := fun j (hj : j < v.length) => lease_rents hc ho (fair_gp hBd) hj
  have hlaw2 := fun j (hj : j < v.length) => lease_rents hc ho (calm_gp hBd) hj
  simp only [← (lea_parts (g := fairG v) hc).2.1, ← (lea_parts (g := fairG v) hc).2.2, ← (lea_parts (g := fairG v) ho).2.1, ← (lea_parts (g := fairG v) ho).2.2] at hlaw1
  simp only [← (lea_parts (g := calmG v) hc).2.1, ← (lea_parts (g := calmG v) hc).2.2, ← (lea_parts (g := calmG v) ho).2.1, ← (lea_parts (g := calmG v) ho).2.2] at hlaw2
  simp only [eYa, eYb, eZa, eZb] at hlaw1
  simp only [eYc, eYd, eZc, eZd] at hlaw2
  have HLa := Lib.hid hlaw1
  have HLb := Lib.hid hlaw2
  obtain ⟨_, hr1, hr2⟩ := chkR_zero.1 hc
  obtain ⟨_, ho1, ho2⟩ := chkR_zero.1 ho
  have zb := fun (Z : Nat) (Y : List Int) (h : Good v X Y Z) => (⟨by have := h.z1; omega, by have := h.z2; omega⟩ : 1 ≤ Z ∧ Z ≤ 60)
  obtain ⟨za1, za2⟩ := zb _ _ Hga.out
  obtain ⟨zb1, zb2⟩ := zb _ _ Hgb.out
  obtain ⟨zc1, zc2⟩ := zb _ _ Hgc.out
  obtain ⟨zd1, zd2⟩ := zb _ _ Hgd.out
  clear hc ho hBd hlaw1 hlaw2 eX eX1 eX2 zb hva hEa hVa eYa eZa hvb hEb hVb eYb eZb hvc hEc hVc eYc eZc hvd hEd hVd eYd eZd
  go_enter Try.func7, Try.ntmps7
  go_wp2_with fail
  rw [HW0.out]
  refine (alive15_any _).mono ?_
  rintro e w1 ⟨rfl, hb⟩
  replace mX := mX.below hb (Nat.le_refl _)
  replace bX := bX.below hb
  replace hB := hB.trans (hb.mono hB.size)
  clear hb
  obtain ⟨W1, hW1⟩ : ∃ W, w1.alloc (.cells #[.slice p v.length c, .int .i64 o] 24) = W := ⟨_, rfl⟩
  have hb := below_alloc hW1
  have bS : BoxV W1 w1.heap.size [.slice p v.length c, .int .i64 o] := BoxV.new rfl hW1
  have HW1 := Lib.hid hW1
  have k0 := bX.cell 0 _ rfl
  have k1 := bX.cell 1 _ rfl
  replace mX := mX.below hb (Nat.le_refl _)
  replace bX := bX.below hb
  replace hB := hB.trans (hb.mono hB.size)
  clear hb hW1
  go_upto_region 3 with (fail)
  rw [HW1.out]
  clear k0 k1
  have kbX_0 := bX.cell 0 _ rfl
  have kbX_1 := bX.cell 1 _ rfl
  have lbX := bX.lt
  have kbS_0 := bS.cell 0 _ rfl
  have kbS_1 := bS.cell 1 _ rfl
  have lbS := bS.lt
  go_wp2_with fail
  refine (HF.out _ mX).mono ?_
  rintro e w2 ⟨rfl, hb⟩
  clear kbX_0 kbX_1 lbX kbS_0 kbS_1 lbS
  replace mX := mX.below hb (Nat.le_refl _)
  replace bX := bX.below hb
  replace bS := bS.below hb
  replace hB := hB.trans (hb.mono hB.size)
  clear hb
  have kbX_0 := bX.cell 0 _ rfl
  have kbX_1 := bX.cell 1 _ rfl
  have lbX := bX.lt
  have kbS_0 := bS.cell 0 _ rfl
  have kbS_1 := bS.cell 1 _ rfl
  have lbS := bS.lt
  go_wp2_with fail
  refine (HG.out _ mX).mono ?_
  rintro e w3 ⟨rfl, hb⟩
  clear kbX_0 kbX_1 lbX kbS_0 kbS_1 lbS
  replace mX := mX.below hb (Nat.le_refl _)
  replace bX := bX.below hb
  replace bS := bS.below hb
  replace hB := hB.trans (hb.mono hB.size)
  clear hb
  have kbX_0 := bX.cell 0 _ rfl
  have kbX_1 := bX.cell 1 _ rfl
  have lbX := bX.lt
  have kbS_0 := bS.cell 0 _ rfl
  have kbS_1 := bS.cell 1 _ rfl
  have lbS := bS.lt
  go_wp2_with fail
  refine (HEa.out _ mX).mono ?_
  rintro e w4a ⟨qa, da, sa, fa, rfl, ia, ja, hb⟩
  clear kbX_0 kbX_1 lbX kbS_0 kbS_1 lbS
  replace mX := mX.below hb (Nat.le_refl _)
  replace bX := bX.below hb
  replace bS := bS.below hb
  replace hB := hB.trans (hb.mono hB.size)
  clear hb
  obtain ⟨W5a, hW5a⟩ : ∃ W, w4a.alloc (.cells #[.slice qa X.length da, .slice sa Ya.length fa, .int .i64 Za] 27) = W := ⟨_, rfl⟩
  have hb : Below w4a.heap.size w4a W5a := below_alloc hW5a
  have ba : BoxV W5a w4a.heap.size [.slice qa X.length da, .slice sa Ya.length fa, .int .i64 Za] := BoxV.new rfl hW5a
  have HW5a := Lib.hid hW5a
  replace mX := mX.below hb (Nat.le_refl _)
  replace bX := bX.below hb
  replace bS := bS.below hb
  replace ia := ia.below hb (Nat.le_refl _)
  replace ja := ja.below hb (Nat.le_refl _)
  replace hB := hB.trans (hb.mono hB.size)
  clear hb hW5a
  go_upto_region 6 with (fail)
  rw [HW5a.out]
  have kbX_0 := bX.cell 0 _ rfl
  have kbX_1 := bX.cell 1 _ rfl
  have lbX := bX.lt
  have kbS_0 := bS.cell 0 _ rfl
  have kbS_1 := bS.cell 1 _ rfl
  have lbS := bS.lt
  go_wp2_with fail
  refine (HEb.out _ mX).mono ?_
  rintro e w4b ⟨qb, db, sb, fb, rfl, ib, jb, hb⟩
  clear kbX_0 kbX_1 lbX kbS_0 kbS_1 lbS
  replace mX := mX.below hb (Nat.le_refl _)
  replace bX := bX.below hb
  replace bS := bS.below hb
  replace ia := ia.below hb (Nat.le_refl _)
  replace ja := ja.below hb (Nat.le_refl _)
  replace ba := ba.below hb
  replace hB := hB.trans (hb.mono hB.size)
  clear hb
  obtain ⟨W5b, hW5b⟩ : ∃ W, w4b.alloc (.cells #[.slice qb X.length db, .slice sb Yb.length fb, .int .i64 Zb] 27) = W := ⟨_, rfl⟩
  have hb : Below w4b.heap.size w4b W5b := below_alloc hW5b
  have bb : BoxV W5b w4b.heap.size [.slice qb X.length db, .slice sb Yb.length fb, .int .i64 Zb] := BoxV.new rfl hW5b
  have HW5b := Lib.hid hW5b
  replace mX := mX.below hb (Nat.le_refl _)
  replace bX := bX.below hb
  replace bS := bS.below hb
  replace ia := ia.below hb (Nat.le_refl _)
  replace ja := ja.below hb (Nat.le_refl _)
  replace ba := ba.below hb
  replace ib := ib.below hb (Nat.le_refl _)
  replace jb := jb.below hb (Nat.le_refl _)
  replace hB := hB.trans (hb.mono hB.size)
  clear hb hW5b
  go_upto_region 7 with (fail)
  rw [HW5b.out]
  have kbX_0 := bX.cell 0 _ rfl
  have kbX_1 := bX.cell 1 _ rfl
  have lbX := bX.lt
  have kbS_0 := bS.cell 0 _ rfl
  have kbS_1 := bS.cell 1 _ rfl
  have lbS := bS.lt
  go_wp2_with fail
  refine (HEc.out _ mX).mono ?_
  rintro e w4c ⟨qc, dc, sc, fc, rfl, ic, jc, hb⟩
  clear kbX_0 kbX_1 lbX kbS_0 kbS_1 lbS
  replace mX := mX.below hb (Nat.le_refl _)
  replace bX := bX.below hb
  replace bS := bS.below hb
  replace ia := ia.below hb (Nat.le_refl _)
  replace ja := ja.below hb (Nat.le_refl _)
  replace ba := ba.below hb
  replace ib := ib.below hb (Nat.le_refl _)
  replace jb := jb.below hb (Nat.le_refl _)
  replace bb := bb.below hb
  replace hB := hB.trans (hb.mono hB.size)
  clear hb
  obtain ⟨W5c, hW5c⟩ : ∃ W, w4c.alloc (.cells #[.slice qc X.length dc, .slice sc Yc.length fc, .int .i64 Zc] 27) = W := ⟨_, rfl⟩
  have hb : Below w4c.heap.size w4c W5c := below_alloc hW5c
  have bc : BoxV W5c w4c.heap.size [.slice qc X.length dc, .slice sc Yc.length fc, .int .i64 Zc] := BoxV.new rfl hW5c
  have HW5c := Lib.hid hW5c
  replace mX := mX.below hb (Nat.le_refl _)
  replace bX := bX.below hb
  replace bS := bS.below hb
  replace ia := ia.below hb (Nat.le_refl _)
  replace ja := ja.below hb (Nat.le_refl _)
  replace ba := ba.below hb
  replace ib := ib.below hb (Nat.le_refl _)
  replace jb := jb.below hb (Nat.le_refl _)
  replace bb := bb.below hb
  replace ic := ic.below hb (Nat.le_refl _)
  replace jc := jc.below hb (Nat.le_refl _)
  replace hB := hB.trans (hb.mono hB.size)
  clear hb hW5c
  go_upto_region 8 with (fail)
  rw [HW5c.out]
  have kbX_0 := bX.cell 0 _ rfl
  have kbX_1 := bX.cell 1 _ rfl
  have lbX := bX.lt
  have kbS_0 := bS.cell 0 _ rfl
  have kbS_1 := bS.cell 1 _ rfl
  have lbS := bS.lt
  go_wp2_with fail
  refine (HEd.out _ mX).mono ?_
  rintro e w4d ⟨qd, dd, sd, fd, rfl, id, jd, hb⟩
  clear kbX_0 kbX_1 lbX kbS_0 kbS_1 lbS
  replace mX := mX.below hb (Nat.le_refl _)
  replace bX := bX.below hb
  replace bS := bS.below hb
  replace ia := ia.below hb (Nat.le_refl _)
  replace ja := ja.below hb (Nat.le_refl _)
  replace ba := ba.below hb
  replace ib := ib.below hb (Nat.le_refl _)
  replace jb := jb.below hb (Nat.le_refl _)
  replace bb := bb.below hb
  replace ic := ic.below hb (Nat.le_refl _)
  replace jc := jc.below hb (Nat.le_refl _)
  replace bc := bc.below hb
  replace hB := hB.trans (hb.mono hB.size)
  clear hb
  obtain ⟨W5d, hW5d⟩ : ∃ W, w4d.alloc (.cells #[.slice qd X.length dd, .slice sd Yd.length fd, .int .i64 Zd] 27) = W := ⟨_, rfl⟩
  have hb : Below w4d.heap.size w4d W5d := below_alloc hW5d
  have bd : BoxV W5d w4d.heap.size [.slice qd X.length dd, .slice sd Yd.length fd, .int .i64 Zd] := BoxV.new rfl hW5d
  have HW5d := Lib.hid hW5d
  replace mX := mX.below hb (Nat.le_refl _)
  replace bX := bX.below hb
  replace bS := bS.below hb
  replace ia := ia.below hb (Nat.le_refl _)
  replace ja := ja.below hb (Nat.le_refl _)
  replace ba := ba.below hb
  replace ib := ib.below hb (Nat.le_refl _)
  replace jb := jb.below hb (Nat.le_refl _)
  replace bb := bb.below hb
  replace ic := ic.below hb (Nat.le_refl _)
  replace jc := jc.below hb (Nat.le_refl _)
  replace bc := bc.below hb
  replace id := id.below hb (Nat.le_refl _)
  replace jd := jd.below hb (Nat.le_refl _)
  replace hB := hB.trans (hb.mono hB.size)
  clear hb hW5d
  go_upto_region 9 with (fail)
  rw [HW5d.out]
  have kbX_0 := bX.cell 0 _ rfl
  have kbX_1 := bX.cell 1 _ rfl
  have lbX := bX.lt
  have kbS_0 := bS.cell 0 _ rfl
  have kbS_1 := bS.cell 1 _ rfl
  have lbS := bS.lt
  have kba_0 := ba.cell 0 _ rfl
  have kba_1 := ba.cell 1 _ rfl
  have kba_2 := ba.cell 2 _ rfl
  have lba := ba.lt
  have kbb_0 := bb.cell 0 _ rfl
  have kbb_1 := bb.cell 1 _ rfl
  have kbb_2 := bb.cell 2 _ rfl
  have lbb := bb.lt
  have kbc_0 := bc.cell 0 _ rfl
  have kbc_1 := bc.cell 1 _ rfl
  have kbc_2 := bc.cell 2 _ rfl
  have lbc := bc.lt
  have kbd_0 := bd.cell 0 _ rfl
  have kbd_1 := bd.cell 1 _ rfl
  have kbd_2 := bd.cell 2 _ rfl
  have lbd := bd.lt
  go_wp2_with fail
  refine (HVa.out _ _ _ _ _ mX ia ja).mono ?_
  rintro e w6a ⟨rfl, hb⟩
  clear kbX_0 kbX_1 lbX kbS_0 kbS_1 lbS kba_0 kba_1 kba_2 lba kbb_0 kbb_1 kbb_2 lbb kbc_0 kbc_1 kbc_2 lbc kbd_0 kbd_1 kbd_2 lbd
  replace mX := mX.below hb (Nat.le_refl _)
  replace bX := bX.below hb
  replace bS := bS.below hb
  replace ia := ia.below hb (Nat.le_refl _)
  replace ja := ja.below hb (Nat.le_refl _)
  replace ba := ba.below hb
  replace ib := ib.below hb (Nat.le_refl _)
  replace jb := jb.below hb (Nat.le_refl _)
  replace bb := bb.below hb
  replace ic := ic.below hb (Nat.le_refl _)
  replace jc := jc.below hb (Nat.le_refl _)
  replace bc := bc.below hb
  replace id := id.below hb (Nat.le_refl _)
  replace jd := jd.below hb (Nat.le_refl _)
  replace bd := bd.below hb
  replace hB := hB.trans (hb.mono hB.size)
  clear hb
  have kbX_0 := bX.cell 0 _ rfl
  have kbX_1 := bX.cell 1 _ rfl
  have lbX := bX.lt
  have kbS_0 := bS.cell 0 _ rfl
  have kbS_1 := bS.cell 1 _ rfl
  have lbS := bS.lt
  have kba_0 := ba.cell 0 _ rfl
  have kba_1 := ba.cell 1 _ rfl
  have kba_2 := ba.cell 2 _ rfl
  have lba := ba.lt
  have kbb_0 := bb.cell 0 _ rfl
  have kbb_1 := bb.cell 1 _ rfl
  have kbb_2 := bb.cell 2 _ rfl
  have lbb := bb.lt
  have kbc_0 := bc.cell 0 _ rfl
  have kbc_1 := bc.cell 1 _ rfl
  have kbc_2 := bc.cell 2 _ rfl
  have lbc := bc.lt
  have kbd_0 := bd.cell 0 _ rfl
  have kbd_1 := bd.cell 1 _ rfl
  have kbd_2 := bd.cell 2 _ rfl
  have lbd := bd.lt
  go_wp2_with fail
  refine (HVb.out _ _ _ _ _ mX ib jb).mono ?_
  rintro e w6b ⟨rfl, hb⟩
  clear kbX_0 kbX_1 lbX kbS_0 kbS_1 lbS kba_0 kba_1 kba_2 lba kbb_0 kbb_1 kbb_2 lbb kbc_0 kbc_1 kbc_2 lbc kbd_0 kbd_1 kbd_2 lbd
  replace mX := mX.below hb (Nat.le_refl _)
  replace bX := bX.below hb
  replace bS := bS.below hb
  replace ia := ia.below hb (Nat.le_refl _)
  replace ja := ja.below hb (Nat.le_refl _)
  replace ba := ba.below hb
  replace ib := ib.below hb (Nat.le_refl _)
  replace jb := jb.below hb (Nat.le_refl _)
  replace bb := bb.below hb
  replace ic := ic.below hb (Nat.le_refl _)
  replace jc := jc.below hb (Nat.le_refl _)
  replace bc := bc.below hb
  replace id := id.below hb (Nat.le_refl _)
  replace jd := jd.below hb (Nat.le_refl _)
  replace bd := bd.below hb
  replace hB := hB.trans (hb.mono hB.size)
  clear hb
  have kbX_0 := bX.cell 0 _ rfl
  have kbX_1 := bX.cell 1 _ rfl
  have lbX := bX.lt
  have kbS_0 := bS.cell 0 _ rfl
  have kbS_1 := bS.cell 1 _ rfl
  have lbS := bS.lt
  have kba_0 := ba.cell 0 _ rfl
  have kba_1 := ba.cell 1 _ rfl
  have kba_2 := ba.cell 2 _ rfl
  have lba := ba.lt
  have kbb_0 := bb.cell 0 _ rfl
  have kbb_1 := bb.cell 1 _ rfl
  have kbb_2 := bb.cell 2 _ rfl
  have lbb := bb.lt
  have kbc_0 := bc.cell 0 _ rfl
  have kbc_1 := bc.cell 1 _ rfl
  have kbc_2 := bc.cell 2 _ rfl
  have lbc := bc.lt
  have kbd_0 := bd.cell 0 _ rfl
  have kbd_1 := bd.cell 1 _ rfl
  have kbd_2 := bd.cell 2 _ rfl
  have lbd := bd.lt
  go_wp2_with fail
  refine (HVc.out _ _ _ _ _ mX ic jc).mono ?_
  rintro e w6c ⟨rfl, hb⟩
  clear kbX_0 kbX_1 lbX kbS_0 kbS_1 lbS kba_0 kba_1 kba_2 lba kbb_0 kbb_1 kbb_2 lbb kbc_0 kbc_1 kbc_2 lbc kbd_0 kbd_1 kbd_2 lbd
  replace mX := mX.below hb (Nat.le_refl _)
  replace bX := bX.below hb
  replace bS := bS.below hb
  replace ia := ia.below hb (Nat.le_refl _)
  replace ja := ja.below hb (Nat.le_refl _)
  replace ba := ba.below hb
  replace ib := ib.below hb (Nat.le_refl _)
  replace jb := jb.below hb (Nat.le_refl _)
  replace bb := bb.below hb
  replace ic := ic.below hb (Nat.le_refl _)
  replace jc := jc.below hb (Nat.le_refl _)
  replace bc := bc.below hb
  replace id := id.below hb (Nat.le_refl _)
  replace jd := jd.below hb (Nat.le_refl _)
  replace bd := bd.below hb
  replace hB := hB.trans (hb.mono hB.size)
  clear hb
  have kbX_0 := bX.cell 0 _ rfl
  have kbX_1 := bX.cell 1 _ rfl
  have lbX := bX.lt
  have kbS_0 := bS.cell 0 _ rfl
  have kbS_1 := bS.cell 1 _ rfl
  have lbS := bS.lt
  have kba_0 := ba.cell 0 _ rfl
  have kba_1 := ba.cell 1 _ rfl
  have kba_2 := ba.cell 2 _ rfl
  have lba := ba.lt
  have kbb_0 := bb.cell 0 _ rfl
  have kbb_1 := bb.cell 1 _ rfl
  have kbb_2 := bb.cell 2 _ rfl
  have lbb := bb.lt
  have kbc_0 := bc.cell 0 _ rfl
  have kbc_1 := bc.cell 1 _ rfl
  have kbc_2 := bc.cell 2 _ rfl
  have lbc := bc.lt
  have kbd_0 := bd.cell 0 _ rfl
  have kbd_1 := bd.cell 1 _ rfl
  have kbd_2 := bd.cell 2 _ rfl
  have lbd := bd.lt
  go_wp2_with fail
  refine (HVd.out _ _ _ _ _ mX id jd).mono ?_
  rintro e w6d ⟨rfl, hb⟩
  clear kbX_0 kbX_1 lbX kbS_0 kbS_1 lbS kba_0 kba_1 kba_2 lba kbb_0 kbb_1 kbb_2 lbb kbc_0 kbc_1 kbc_2 lbc kbd_0 kbd_1 kbd_2 lbd
  replace mX := mX.below hb (Nat.le_refl _)
  replace bX := bX.below hb
  replace bS := bS.below hb
  replace ia := ia.below hb (Nat.le_refl _)
  replace ja := ja.below hb (Nat.le_refl _)
  replace ba := ba.below hb
  replace ib := ib.below hb (Nat.le_refl _)
  replace jb := jb.below hb (Nat.le_refl _)
  replace bb := bb.below hb
  replace ic := ic.below hb (Nat.le_refl _)
  replace jc := jc.below hb (Nat.le_refl _)
  replace bc := bc.below hb
  replace id := id.below hb (Nat.le_refl _)
  replace jd := jd.below hb (Nat.le_refl _)
  replace bd := bd.below hb
  replace hB := hB.trans (hb.mono hB.size)
  clear hb
  have kbX_0 := bX.cell 0 _ rfl
  have kbX_1 := bX.cell 1 _ rfl
  have lbX := bX.lt
  have kbS_0 := bS.cell 0 _ rfl
  have kbS_1 := bS.cell 1 _ rfl
  have lbS := bS.lt
  have kba_0 := ba.cell 0 _ rfl
  have kba_1 := ba.cell 1 _ rfl
  have kba_2 := ba.cell 2 _ rfl
  have lba := ba.lt
  have kbb_0 := bb.cell 0 _ rfl
  have kbb_1 := bb.cell 1 _ rfl
  have kbb_2 := bb.cell 2 _ rfl
  have lbb := bb.lt
  have kbc_0 := bc.cell 0 _ rfl
  have kbc_1 := bc.cell 1 _ rfl
  have kbc_2 := bc.cell 2 _ rfl
  have lbc := bc.lt
  have kbd_0 := bd.cell 0 _ rfl
  have kbd_1 := bd.cell 1 _ rfl
  have kbd_2 := bd.cell 2 _ rfl
  have lbd := bd.lt
  go_wp2_with fail
  clear kbX_0 kbX_1 lbX kbS_0 kbS_1 lbS kba_0 kba_1 kba_2 lba kbb_0 kbb_1 kbb_2 lbb kbc_0 kbc_1 kbc_2 lbc kbd_0 kbd_1 kbd_2 lbd
  go_loopw [16] (fun t wr => ∃ j : Nat, j ≤ v.length ∧ t = .int .i64 j ∧ Below w6d.heap.size w6d wr) (fun t _ => v.length - (intOf t).toNat)
  case atStart => exact ⟨0, Nat.zero_le _, rfl, Below.refl _ _⟩
  case round =>
    obtain ⟨j, hj, rfl, hbr⟩ := hrel
    by_cases hlt : j < v.length
    · have hj1 : (j : Int) < v.length := by omega
      obtain ⟨Ba, Oa, rfl, _, ha⟩ := ja.get (j := j) (by rw [Hga.out.plen]; exact hlt)
      have la : (j : Int) < Ya.length := by rw [Hga.out.plen]; omega
      have pa := Hga.out.price j hlt
      obtain ⟨Bb, Ob, rfl, _, hb⟩ := jb.get (j := j) (by rw [Hgb.out.plen]; exact hlt)
      have lb : (j : Int) < Yb.length := by rw [Hgb.out.plen]; omega
      have pb := Hgb.out.price j hlt
      obtain ⟨Bc, Oc, rfl, _, hc⟩ := jc.get (j := j) (by rw [Hgc.out.plen]; exact hlt)
      have lc : (j : Int) < Yc.length := by rw [Hgc.out.plen]; omega
      have pc := Hgc.out.price j hlt
      obtain ⟨Bd, Od, rfl, _, hd⟩ := jd.get (j := j) (by rw [Hgd.out.plen]; exact hlt)
      have ld : (j : Int) < Yd.length := by rw [Hgd.out.plen]; omega
      have pd := Hgd.out.price j hlt
      have q1 := HLa.out j hlt
      have q2 := HLb.out j hlt
      generalize iget Ya j = Pa at *
      generalize iget Yb j = Pb at *
      generalize iget Yc j = Pc at *
      generalize iget Yd j = Pd at *
      have m1x := mul60 (P := Pb) (z := Za) (M := 600000000) (by omega) (by omega) (by omega) (by decide)
      have m2x := mul60 (P := Pa) (z := Zb) (M := 600000000) (by omega) (by omega) (by omega) (by decide)
      have m3x := mul60 (P := Pb * Za - Pa * Zb) (z := v.length) (M := 72000000000) (by omega) (by omega) (by omega) (by decide)
      have m4x := mul60 (P := o - r) (z := Za) (M := 10000000) (by omega) (by omega) (by omega) (by decide)
      have m5x := mul60 (P := (o - r) * Za) (z := Zb) (M := 600000000) (by omega) (by omega) (by omega) (by decide)
      have w1x : IntKind.i64.wrap (Pb * (Za : Int)) = Pb * Za := IntWalk.i64_in _ (by omega)
      have w2x : IntKind.i64.wrap (Pa * (Zb : Int)) = Pa * Zb := IntWalk.i64_in _ (by omega)
      have w3x : IntKind.i64.wrap (Pb * (Za : Int) - Pa * (Zb : Int)) = Pb * Za - Pa * Zb := IntWalk.i64_in _ (by omega)
      have w4x : IntKind.i64.wrap ((Pb * (Za : Int) - Pa * (Zb : Int)) * (v.length : Int)) = (Pb * Za - Pa * Zb) * v.length := IntWalk.i64_in _ (by omega)
      have w5x : IntKind.i64.wrap ((o - r) * (Za : Int)) = (o - r) * Za := IntWalk.i64_in _ (by omega)
      have w6x : IntKind.i64.wrap ((o - r) * (Za : Int) * (Zb : Int)) = (o - r) * Za * Zb := IntWalk.i64_in _ (by omega)
      have e1x : ((Pb * (Za : Int) - Pa * (Zb : Int)) * (v.length : Int) != (o - r) * (Za : Int) * (Zb : Int)) = false := by rw [bne_eq_false_iff_eq]; exact q1
      have m1y := mul60 (P := Pd) (z := Zc) (M := 600000000) (by omega) (by omega) (by omega) (by decide)
      have m2y := mul60 (P := Pc) (z := Zd) (M := 600000000) (by omega) (by omega) (by omega) (by decide)
      have m3y := mul60 (P := Pd * Zc - Pc * Zd) (z := v.length) (M := 72000000000) (by omega) (by omega) (by omega) (by decide)
      have m4y := mul60 (P := o - r) (z := Zc) (M := 10000000) (by omega) (by omega) (by omega) (by decide)
      have m5y := mul60 (P := (o - r) * Zc) (z := Zd) (M := 600000000) (by omega) (by omega) (by omega) (by decide)
      have w1y : IntKind.i64.wrap (Pd * (Zc : Int)) = Pd * Zc := IntWalk.i64_in _ (by omega)
      have w2y : IntKind.i64.wrap (Pc * (Zd : Int)) = Pc * Zd := IntWalk.i64_in _ (by omega)
      have w3y : IntKind.i64.wrap (Pd * (Zc : Int) - Pc * (Zd : Int)) = Pd * Zc - Pc * Zd := IntWalk.i64_in _ (by omega)
      have w4y : IntKind.i64.wrap ((Pd * (Zc : Int) - Pc * (Zd : Int)) * (v.length : Int)) = (Pd * Zc - Pc * Zd) * v.length := IntWalk.i64_in _ (by omega)
      have w5y : IntKind.i64.wrap ((o - r) * (Zc : Int)) = (o - r) * Zc := IntWalk.i64_in _ (by omega)
      have w6y : IntKind.i64.wrap ((o - r) * (Zc : Int) * (Zd : Int)) = (o - r) * Zc * Zd := IntWalk.i64_in _ (by omega)
      have e1y : ((Pd * (Zc : Int) - Pc * (Zd : Int)) * (v.length : Int) != (o - r) * (Zc : Int) * (Zd : Int)) = false := by rw [bne_eq_false_iff_eq]; exact q2
      have w0 : IntKind.i64.wrap (o - r) = o - r := IntWalk.i64_in _ (by omega)
      clear q1 q2 m1x m2x m3x m4x m5x m1y m2y m3y m4y m5y pa pb pc pd
      obtain ⟨wo, rfl⟩ : ∃ W, W = wr := ⟨_, rfl⟩
      have hbo := hbr
      have bX := bX.below hbo
      have cX0 := bX.cell 0 _ rfl
      have cX1 := bX.cell 1 _ rfl
      have lX := bX.lt
      have ba := ba.below hbo
      have ca1 := ba.cell 1 _ rfl
      have ca2 := ba.cell 2 _ rfl
      have la' := ba.lt
      have ha := (hbo.cell (World.block_lt_of_cell? _ _ ha)).trans ha
      have bb := bb.below hbo
      have cb1 := bb.cell 1 _ rfl
      have cb2 := bb.cell 2 _ rfl
      have lb' := bb.lt
      have hb := (hbo.cell (World.block_lt_of_cell? _ _ hb)).trans hb
      have bc := bc.below hbo
      have cc1 := bc.cell 1 _ rfl
      have cc2 := bc.cell 2 _ rfl
      have lc' := bc.lt
      have hc := (hbo.cell (World.block_lt_of_cell? _ _ hc)).trans hc
      have bd := bd.below hbo
      have cd1 := bd.cell 1 _ rfl
      have cd2 := bd.cell 2 _ rfl
      have ld' := bd.lt
      have hd := (hbo.cell (World.block_lt_of_cell? _ _ hd)).trans hd
      have Hmk : Hid (∀ W, Below wo.heap.size wo W → W.cell? ⟨w.heap.size, 0, none⟩ = some (.slice p v.length c) ∧ W.cell? ⟨w.heap.size, 1, none⟩ = some (.int .i64 r) ∧ W.cell? ⟨w4a.heap.size, 1, none⟩ = some (.slice (some ⟨Ba, Oa, none⟩) Ya.length fa) ∧ W.cell? ⟨w4a.heap.size, 2, none⟩ = some (.int .i64 (Za : Int)) ∧ W.cell? ⟨Ba, Oa + j, none⟩ = some (.int .i64 Pa) ∧ W.cell? ⟨w4b.heap.size, 1, none⟩ = some (.slice (some ⟨Bb, Ob, none⟩) Yb.length fb) ∧ W.cell? ⟨w4b.heap.size, 2, none⟩ = some (.int .i64 (Zb : Int)) ∧ W.cell? ⟨Bb, Ob + j, none⟩ = some (.int .i64 Pb) ∧ W.cell? ⟨w4c.heap.size, 1, none⟩ = some (.slice (some ⟨Bc, Oc, none⟩) Yc.length fc) ∧ W.cell? ⟨w4c.heap.size, 2, none⟩ = some (.int .i64 (Zc : Int)) ∧ W.cell? ⟨Bc, Oc + j, none⟩ = some (.int .i64 Pc) ∧ W.cell? ⟨w4d.heap.size, 1, none⟩ = some (.slice (some ⟨Bd, Od, none⟩) Yd.length fd) ∧ W.cell? ⟨w4d.heap.size, 2, none⟩ = some (.int .i64 (Zd : Int)) ∧ W.cell? ⟨Bd, Od + j, none⟩ = some (.int .i64 Pd)) := fun W hG => ⟨(hG.cell (p := ⟨w.heap.size, 0, none⟩) lX).trans cX0, (hG.cell (p := ⟨w.heap.size, 1, none⟩) lX).trans cX1, (hG.cell (p := ⟨w4a.heap.size, 1, none⟩) la').trans ca1, (hG.cell (p := ⟨w4a.heap.size, 2, none⟩) la').trans ca2, (hG.cell (World.block_lt_of_cell? _ _ ha)).trans ha, (hG.cell (p := ⟨w4b.heap.size, 1, none⟩) lb').trans cb1, (hG.cell (p := ⟨w4b.heap.size, 2, none⟩) lb').trans cb2, (hG.cell (World.block_lt_of_cell? _ _ hb)).trans hb, (hG.cell (p := ⟨w4c.heap.size, 1, none⟩) lc').trans cc1, (hG.cell (p := ⟨w4c.heap.size, 2, none⟩) lc').trans cc2, (hG.cell (World.block_lt_of_cell? _ _ hc)).trans hc, (hG.cell (p := ⟨w4d.heap.size, 1, none⟩) ld').trans cd1, (hG.cell (p := ⟨w4d.heap.size, 2, none⟩) ld').trans cd2, (hG.cell (World.block_lt_of_cell? _ _ hd)).trans hd⟩
      clear cX0 cX1 lX bX ba bb bc bd ca1 ca2 la' ha cb1 cb2 lb' hb cc1 cc2 lc' hc cd1 cd2 ld' hd
      skip
      go_wp2_with fail
      refine wp_region_invG (by kernel_rfl) (by decide +kernel) (by decide +kernel) _ _ (ManyJ wo [] (fun kk => match kk with | 0 => (.pointer (some ⟨w4b.heap.size, 1, none⟩)) | 1 => (.slice (some ⟨Bb, Ob, none⟩) Yb.length fb) | 2 => (.int .i64 (j : Int)) | 3 => (.pointer (some ⟨Bb, Ob + j, none⟩)) | 4 => (.int .i64 Pb) | 5 => (.pointer (some ⟨w4a.heap.size, 2, none⟩)) | 6 => (.int .i64 (Za : Int)) | 7 => (.int .i64 (Pb * (Za : Int))) | 8 => (.pointer (some ⟨w4a.heap.size, 1, none⟩)) | 9 => (.slice (some ⟨Ba, Oa, none⟩) Ya.length fa) | 10 => (.int .i64 (j : Int)) | 11 => (.pointer (some ⟨Ba, Oa + j, none⟩)) | 12 => (.int .i64 Pa) | 13 => (.pointer (some ⟨w4b.heap.size, 2, none⟩)) | 14 => (.int .i64 (Zb : Int)) | 15 => (.int .i64 (Pa * (Zb : Int))) | 16 => (.int .i64 ((Pb * (Za : Int)) - (Pa * (Zb : Int)))) | 17 => (.int .i64 (v.length : Int)) | 18 => (.int .i64 (((Pb * (Za : Int)) - (Pa * (Zb : Int))) * (v.length : Int))) | 19 => (.int .i64 o) | 20 => (.pointer (some ⟨w.heap.size, 1, none⟩)) | 21 => (.int .i64 r) | 22 => (.int .i64 (o - r)) | 23 => (.pointer (some ⟨w4a.heap.size, 2, none⟩)) | 24 => (.int .i64 (Za : Int)) | 25 => (.int .i64 ((o - r) * (Za : Int))) | 26 => (.pointer (some ⟨w4b.heap.size, 2, none⟩)) | 27 => (.int .i64 (Zb : Int)) | 28 => (.int .i64 (((o - r) * (Za : Int)) * (Zb : Int))) | 29 => (.bool false) | 30 => (.bool false) | 31 => (.pointer (some ⟨w4d.heap.size, 1, none⟩)) | 32 => (.slice (some ⟨Bd, Od, none⟩) Yd.length fd) | 33 => (.int .i64 (j : Int)) | 34 => (.pointer (some ⟨Bd, Od + j, none⟩)) | 35 => (.int .i64 Pd) | 36 => (.pointer (some ⟨w4c.heap.size, 2, none⟩)) | 37 => (.int .i64 (Zc : Int)) | 38 => (.int .i64 (Pd * (Zc : Int))) | 39 => (.pointer (some ⟨w4c.heap.size, 1, none⟩)) | 40 => (.slice (some ⟨Bc, Oc, none⟩) Yc.length fc) | 41 => (.int .i64 (j : Int)) | 42 => (.pointer (some ⟨Bc, Oc + j, none⟩)) | 43 => (.int .i64 Pc) | 44 => (.pointer (some ⟨w4d.heap.size, 2, none⟩)) | 45 => (.int .i64 (Zd : Int)) | 46 => (.int .i64 (Pc * (Zd : Int))) | 47 => (.int .i64 ((Pd * (Zc : Int)) - (Pc * (Zd : Int)))) | 48 => (.int .i64 (v.length : Int)) | 49 => (.int .i64 (((Pd * (Zc : Int)) - (Pc * (Zd : Int))) * (v.length : Int))) | 50 => (.int .i64 o) | 51 => (.pointer (some ⟨w.heap.size, 1, none⟩)) | 52 => (.int .i64 r) | 53 => (.int .i64 (o - r)) | 54 => (.pointer (some ⟨w4c.heap.size, 2, none⟩)) | 55 => (.int .i64 (Zc : Int)) | 56 => (.int .i64 ((o - r) * (Zc : Int))) | 57 => (.pointer (some ⟨w4d.heap.size, 2, none⟩)) | 58 => (.int .i64 (Zd : Int)) | 59 => (.int .i64 (((o - r) * (Zc : Int)) * (Zd : Int))) | 60 => (.bool false) | 61 => (.bool false) | _ => undef) (fun kk => match kk with  | _ => undef) (fun kk => match kk with  | _ => undef)) ?_ ?_ ?_
      · exact fun us => ManyJ.start us
      · intro us D W i o A hA hi hJ hnD hon K hK
        have hlt : i < 62 := (Array.getElem?_eq_some_iff.1 hi).1
        rcases rr62 hlt with rfl | rfl | rfl | rfl | rfl | rfl | rfl | rfl | rfl | rfl | rfl | rfl | rfl | rfl | rfl | rfl | rfl | rfl | rfl | rfl | rfl | rfl | rfl | rfl | rfl | rfl | rfl | rfl | rfl | rfl | rfl | rfl | rfl | rfl | rfl | rfl | rfl | rfl | rfl | rfl | rfl | rfl | rfl | rfl | rfl | rfl | rfl | rfl | rfl | rfl | rfl | rfl | rfl | rfl | rfl | rfl | rfl | rfl | rfl | rfl | rfl | rfl
        · have hi' := Option.some.inj hi
          subst hi'
          refine want_yes (wanted_none rfl) ?_
          refine wp_val (v := (.pointer (some ⟨w4b.heap.size, 1, none⟩))) (w' := W) ?_ (hK _ _ (hJ.pure (i := 0) (by decide) (Below.refl _ _)))
          · skip
            have e9 : A.tmps[9]?.getD undef = (.pointer (some ⟨w4b.heap.size, 0, none⟩)) := by rw [hA]; kernel_rfl
            clear hA hK hon hJ
            go_simp
        · have hi' := Option.some.inj hi
          subst hi'
          refine want_yes (wanted_none rfl) ?_
          refine wp_val (v := (.slice (some ⟨Bb, Ob, none⟩) Yb.length fb)) (w' := W) ?_ (hK _ _ (hJ.pure (i := 1) (by decide) (Below.refl _ _)))
          · skip
            have e101 : A.tmps[101]?.getD undef = (.pointer (some ⟨w4b.heap.size, 1, none⟩)) := (by rw [hA]; kernel_rfl : A.tmps[101]?.getD undef = us 0).trans (hJ.val 0 (by decide) (hon 0 (by decide +kernel)))
            obtain ⟨cc0, cc1, cc2, cc3, cc4, cc5, cc6, cc7, cc8, cc9, cc10, cc11, cc12, cc13⟩ := Hmk.out W hJ.bel
            clear hA hK hon hJ
            go_simp
        · have hi' := Option.some.inj hi
          subst hi'
          refine want_yes (wanted_none rfl) ?_
          refine wp_val (v := (.int .i64 (j : Int))) (w' := W) ?_ (hK _ _ (hJ.pure (i := 2) (by decide) (Below.refl _ _)))
          · skip
            have e16 : A.tmps[16]?.getD undef = (.int .i64 (j : Int)) := by rw [hA]; kernel_rfl
            clear hA hK hon hJ
            go_simp
        · have hi' := Option.some.inj hi
          subst hi'
          refine want_yes (wanted_none rfl) ?_
          refine wp_val (v := (.pointer (some ⟨Bb, Ob + j, none⟩))) (w' := W) ?_ (hK _ _ (hJ.pure (i := 3) (by decide) (Below.refl _ _)))
          · skip
            have e102 : A.tmps[102]?.getD undef = (.slice (some ⟨Bb, Ob, none⟩) Yb.length fb) := (by rw [hA]; kernel_rfl : A.tmps[102]?.getD undef = us 1).trans (hJ.val 1 (by decide) (hon 1 (by decide +kernel)))
            have e103 : A.tmps[103]?.getD undef = (.int .i64 (j : Int)) := (by rw [hA]; kernel_rfl : A.tmps[103]?.getD undef = us 2).trans (hJ.val 2 (by decide) (hon 2 (by decide +kernel)))
            clear hA hK hon hJ
            go_simp
        · have hi' := Option.some.inj hi
          subst hi'
          refine want_yes (wanted_none rfl) ?_
          refine wp_val (v := (.int .i64 Pb)) (w' := W) ?_ (hK _ _ (hJ.pure (i := 4) (by decide) (Below.refl _ _)))
          · skip
            have e104 : A.tmps[104]?.getD undef = (.pointer (some ⟨Bb, Ob + j, none⟩)) := (by rw [hA]; kernel_rfl : A.tmps[104]?.getD undef = us 3).trans (hJ.val 3 (by decide) (hon 3 (by decide +kernel)))
            obtain ⟨cc0, cc1, cc2, cc3, cc4, cc5, cc6, cc7, cc8, cc9, cc10, cc11, cc12, cc13⟩ := Hmk.out W hJ.bel
            clear hA hK hon hJ
            go_simp
        · have hi' := Option.some.inj hi
          subst hi'
          refine want_yes (wanted_none rfl) ?_
          refine wp_val (v := (.pointer (some ⟨w4a.heap.size, 2, none⟩))) (w' := W) ?_ (hK _ _ (hJ.pure (i := 5) (by decide) (Below.refl _ _)))
          · skip
            have e7 : A.tmps[7]?.getD undef = (.pointer (some ⟨w4a.heap.size, 0, none⟩)) := by rw [hA]; kernel_rfl
            clear hA hK hon hJ
            go_simp
        · have hi' := Option.some.inj hi
          subst hi'
          refine want_yes (wanted_none rfl) ?_
          refine wp_val (v := (.int .i64 (Za : Int))) (w' := W) ?_ (hK _ _ (hJ.pure (i := 6) (by decide) (Below.refl _ _)))
          · skip
            have e106 : A.tmps[106]?.getD undef = (.pointer (some ⟨w4a.heap.size, 2, none⟩)) := (by rw [hA]; kernel_rfl : A.tmps[106]?.getD undef = us 5).trans (hJ.val 5 (by decide) (hon 5 (by decide +kernel)))
            obtain ⟨cc0, cc1, cc2, cc3, cc4, cc5, cc6, cc7, cc8, cc9, cc10, cc11, cc12, cc13⟩ := Hmk.out W hJ.bel
            clear hA hK hon hJ
            go_simp
        · have hi' := Option.some.inj hi
          subst hi'
          refine want_yes (wanted_none rfl) ?_
          refine wp_val (v := (.int .i64 (Pb * (Za : Int)))) (w' := W) ?_ (hK _ _ (hJ.pure (i := 7) (by decide) (Below.refl _ _)))
          · skip
            have e105 : A.tmps[105]?.getD undef = (.int .i64 Pb) := (by rw [hA]; kernel_rfl : A.tmps[105]?.getD undef = us 4).trans (hJ.val 4 (by decide) (hon 4 (by decide +kernel)))
            have e107 : A.tmps[107]?.getD undef = (.int .i64 (Za : Int)) := (by rw [hA]; kernel_rfl : A.tmps[107]?.getD undef = us 6).trans (hJ.val 6 (by decide) (hon 6 (by decide +kernel)))
            clear hA hK hon hJ
            go_simp
        · have hi' := Option.some.inj hi
          subst hi'
          refine want_yes (wanted_none rfl) ?_
          refine wp_val (v := (.pointer (some ⟨w4a.heap.size, 1, none⟩))) (w' := W) ?_ (hK _ _ (hJ.pure (i := 8) (by decide) (Below.refl _ _)))
          · skip
            have e7 : A.tmps[7]?.getD undef = (.pointer (some ⟨w4a.heap.size, 0, none⟩)) := by rw [hA]; kernel_rfl
            clear hA hK hon hJ
            go_simp
        · have hi' := Option.some.inj hi
          subst hi'
          refine want_yes (wanted_none rfl) ?_
          refine wp_val (v := (.slice (some ⟨Ba, Oa, none⟩) Ya.length fa)) (w' := W) ?_ (hK _ _ (hJ.pure (i := 9) (by decide) (Below.refl _ _)))
          · skip
            have e109 : A.tmps[109]?.getD undef = (.pointer (some ⟨w4a.heap.size, 1, none⟩)) := (by rw [hA]; kernel_rfl : A.tmps[109]?.getD undef = us 8).trans (hJ.val 8 (by decide) (hon 8 (by decide +kernel)))
            obtain ⟨cc0, cc1, cc2, cc3, cc4, cc5, cc6, cc7, cc8, cc9, cc10, cc11, cc12, cc13⟩ := Hmk.out W hJ.bel
            clear hA hK hon hJ
            go_simp
        · have hi' := Option.some.inj hi
          subst hi'
          refine want_yes (wanted_none rfl) ?_
          refine wp_val (v := (.int .i64 (j : Int))) (w' := W) ?_ (hK _ _ (hJ.pure (i := 10) (by decide) (Below.refl _ _)))
          · skip
            have e16 : A.tmps[16]?.getD undef = (.int .i64 (j : Int)) := by rw [hA]; kernel_rfl
            clear hA hK hon hJ
            go_simp
        · have hi' := Option.some.inj hi
          subst hi'
          refine want_yes (wanted_none rfl) ?_
          refine wp_val (v := (.pointer (some ⟨Ba, Oa + j, none⟩))) (w' := W) ?_ (hK _ _ (hJ.pure (i := 11) (by decide) (Below.refl _ _)))
          · skip
            have e110 : A.tmps[110]?.getD undef = (.slice (some ⟨Ba, Oa, none⟩) Ya.length fa) := (by rw [hA]; kernel_rfl : A.tmps[110]?.getD undef = us 9).trans (hJ.val 9 (by decide) (hon 9 (by decide +kernel)))
            have e111 : A.tmps[111]?.getD undef = (.int .i64 (j : Int)) := (by rw [hA]; kernel_rfl : A.tmps[111]?.getD undef = us 10).trans (hJ.val 10 (by decide) (hon 10 (by decide +kernel)))
            clear hA hK hon hJ
            go_simp
        · have hi' := Option.some.inj hi
          subst hi'
          refine want_yes (wanted_none rfl) ?_
          refine wp_val (v := (.int .i64 Pa)) (w' := W) ?_ (hK _ _ (hJ.pure (i := 12) (by decide) (Below.refl _ _)))
          · skip
            have e112 : A.tmps[112]?.getD undef = (.pointer (some ⟨Ba, Oa + j, none⟩)) := (by rw [hA]; kernel_rfl : A.tmps[112]?.getD undef = us 11).trans (hJ.val 11 (by decide) (hon 11 (by decide +kernel)))
            obtain ⟨cc0, cc1, cc2, cc3, cc4, cc5, cc6, cc7, cc8, cc9, cc10, cc11, cc12, cc13⟩ := Hmk.out W hJ.bel
            clear hA hK hon hJ
            go_simp
        · have hi' := Option.some.inj hi
          subst hi'
          refine want_yes (wanted_none rfl) ?_
          refine wp_val (v := (.pointer (some ⟨w4b.heap.size, 2, none⟩))) (w' := W) ?_ (hK _ _ (hJ.pure (i := 13) (by decide) (Below.refl _ _)))
          · skip
            have e9 : A.tmps[9]?.getD undef = (.pointer (some ⟨w4b.heap.size, 0, none⟩)) := by rw [hA]; kernel_rfl
            clear hA hK hon hJ
            go_simp
        · have hi' := Option.some.inj hi
          subst hi'
          refine want_yes (wanted_none rfl) ?_
          refine wp_val (v := (.int .i64 (Zb : Int))) (w' := W) ?_ (hK _ _ (hJ.pure (i := 14) (by decide) (Below.refl _ _)))
          · skip
            have e114 : A.tmps[114]?.getD undef = (.pointer (some ⟨w4b.heap.size, 2, none⟩)) := (by rw [hA]; kernel_rfl : A.tmps[114]?.getD undef = us 13).trans (hJ.val 13 (by decide) (hon 13 (by decide +kernel)))
            obtain ⟨cc0, cc1, cc2, cc3, cc4, cc5, cc6, cc7, cc8, cc9, cc10, cc11, cc12, cc13⟩ := Hmk.out W hJ.bel
            clear hA hK hon hJ
            go_simp
        · have hi' := Option.some.inj hi
          subst hi'
          refine want_yes (wanted_none rfl) ?_
          refine wp_val (v := (.int .i64 (Pa * (Zb : Int)))) (w' := W) ?_ (hK _ _ (hJ.pure (i := 15) (by decide) (Below.refl _ _)))
          · skip
            have e113 : A.tmps[113]?.getD undef = (.int .i64 Pa) := (by rw [hA]; kernel_rfl : A.tmps[113]?.getD undef = us 12).trans (hJ.val 12 (by decide) (hon 12 (by decide +kernel)))
            have e115 : A.tmps[115]?.getD undef = (.int .i64 (Zb : Int)) := (by rw [hA]; kernel_rfl : A.tmps[115]?.getD undef = us 14).trans (hJ.val 14 (by decide) (hon 14 (by decide +kernel)))
            clear hA hK hon hJ
            go_simp
        · have hi' := Option.some.inj hi
          subst hi'
          refine want_yes (wanted_none rfl) ?_
          refine wp_val (v := (.int .i64 ((Pb * (Za : Int)) - (Pa * (Zb : Int))))) (w' := W) ?_ (hK _ _ (hJ.pure (i := 16) (by decide) (Below.refl _ _)))
          · skip
            have e108 : A.tmps[108]?.getD undef = (.int .i64 (Pb * (Za : Int))) := (by rw [hA]; kernel_rfl : A.tmps[108]?.getD undef = us 7).trans (hJ.val 7 (by decide) (hon 7 (by decide +kernel)))
            have e116 : A.tmps[116]?.getD undef = (.int .i64 (Pa * (Zb : Int))) := (by rw [hA]; kernel_rfl : A.tmps[116]?.getD undef = us 15).trans (hJ.val 15 (by decide) (hon 15 (by decide +kernel)))
            clear hA hK hon hJ
            go_simp
        · have hi' := Option.some.inj hi
          subst hi'
          refine want_yes (wanted_none rfl) ?_
          refine wp_val (v := (.int .i64 (v.length : Int))) (w' := W) ?_ (hK _ _ (hJ.pure (i := 17) (by decide) (Below.refl _ _)))
          · skip
            have e15 : A.tmps[15]?.getD undef = (.int .i64 (v.length : Int)) := by rw [hA]; kernel_rfl
            clear hA hK hon hJ
            go_simp
        · have hi' := Option.some.inj hi
          subst hi'
          refine want_yes (wanted_none rfl) ?_
          refine wp_val (v := (.int .i64 (((Pb * (Za : Int)) - (Pa * (Zb : Int))) * (v.length : Int)))) (w' := W) ?_ (hK _ _ (hJ.pure (i := 18) (by decide) (Below.refl _ _)))
          · skip
            have e117 : A.tmps[117]?.getD undef = (.int .i64 ((Pb * (Za : Int)) - (Pa * (Zb : Int)))) := (by rw [hA]; kernel_rfl : A.tmps[117]?.getD undef = us 16).trans (hJ.val 16 (by decide) (hon 16 (by decide +kernel)))
            have e118 : A.tmps[118]?.getD undef = (.int .i64 (v.length : Int)) := (by rw [hA]; kernel_rfl : A.tmps[118]?.getD undef = us 17).trans (hJ.val 17 (by decide) (hon 17 (by decide +kernel)))
            clear hA hK hon hJ
            go_simp
        · have hi' := Option.some.inj hi
          subst hi'
          refine want_yes (wanted_none rfl) ?_
          refine wp_val (v := (.int .i64 o)) (w' := W) ?_ (hK _ _ (hJ.pure (i := 19) (by decide) (Below.refl _ _)))
          · skip
            have e1 : A.tmps[1]?.getD undef = (.int .i64 o) := by rw [hA]; kernel_rfl
            clear hA hK hon hJ
            go_simp
        · have hi' := Option.some.inj hi
          subst hi'
          refine want_yes (wanted_none rfl) ?_
          refine wp_val (v := (.pointer (some ⟨w.heap.size, 1, none⟩))) (w' := W) ?_ (hK _ _ (hJ.pure (i := 20) (by decide) (Below.refl _ _)))
          · skip
            have e2 : A.tmps[2]?.getD undef = (.pointer (some ⟨w.heap.size, 0, none⟩)) := by rw [hA]; kernel_rfl
            clear hA hK hon hJ
            go_simp
        · have hi' := Option.some.inj hi
          subst hi'
          refine want_yes (wanted_none rfl) ?_
          refine wp_val (v := (.int .i64 r)) (w' := W) ?_ (hK _ _ (hJ.pure (i := 21) (by decide) (Below.refl _ _)))
          · skip
            have e121 : A.tmps[121]?.getD undef = (.pointer (some ⟨w.heap.size, 1, none⟩)) := (by rw [hA]; kernel_rfl : A.tmps[121]?.getD undef = us 20).trans (hJ.val 20 (by decide) (hon 20 (by decide +kernel)))
            obtain ⟨cc0, cc1, cc2, cc3, cc4, cc5, cc6, cc7, cc8, cc9, cc10, cc11, cc12, cc13⟩ := Hmk.out W hJ.bel
            clear hA hK hon hJ
            go_simp
        · have hi' := Option.some.inj hi
          subst hi'
          refine want_yes (wanted_none rfl) ?_
          refine wp_val (v := (.int .i64 (o - r))) (w' := W) ?_ (hK _ _ (hJ.pure (i := 22) (by decide) (Below.refl _ _)))
          · skip
            have e120 : A.tmps[120]?.getD undef = (.int .i64 o) := (by rw [hA]; kernel_rfl : A.tmps[120]?.getD undef = us 19).trans (hJ.val 19 (by decide) (hon 19 (by decide +kernel)))
            have e122 : A.tmps[122]?.getD undef = (.int .i64 r) := (by rw [hA]; kernel_rfl : A.tmps[122]?.getD undef = us 21).trans (hJ.val 21 (by decide) (hon 21 (by decide +kernel)))
            clear hA hK hon hJ
            go_simp
        · have hi' := Option.some.inj hi
          subst hi'
          refine want_yes (wanted_none rfl) ?_
          refine wp_val (v := (.pointer (some ⟨w4a.heap.size, 2, none⟩))) (w' := W) ?_ (hK _ _ (hJ.pure (i := 23) (by decide) (Below.refl _ _)))
          · skip
            have e7 : A.tmps[7]?.getD undef = (.pointer (some ⟨w4a.heap.size, 0, none⟩)) := by rw [hA]; kernel_rfl
            clear hA hK hon hJ
            go_simp
        · have hi' := Option.some.inj hi
          subst hi'
          refine want_yes (wanted_none rfl) ?_
          refine wp_val (v := (.int .i64 (Za : Int))) (w' := W) ?_ (hK _ _ (hJ.pure (i := 24) (by decide) (Below.refl _ _)))
          · skip
            have e124 : A.tmps[124]?.getD undef = (.pointer (some ⟨w4a.heap.size, 2, none⟩)) := (by rw [hA]; kernel_rfl : A.tmps[124]?.getD undef = us 23).trans (hJ.val 23 (by decide) (hon 23 (by decide +kernel)))
            obtain ⟨cc0, cc1, cc2, cc3, cc4, cc5, cc6, cc7, cc8, cc9, cc10, cc11, cc12, cc13⟩ := Hmk.out W hJ.bel
            clear hA hK hon hJ
            go_simp
        · have hi' := Option.some.inj hi
          subst hi'
          refine want_yes (wanted_none rfl) ?_
          refine wp_val (v := (.int .i64 ((o - r) * (Za : Int)))) (w' := W) ?_ (hK _ _ (hJ.pure (i := 25) (by decide) (Below.refl _ _)))
          · skip
            have e123 : A.tmps[123]?.getD undef = (.int .i64 (o - r)) := (by rw [hA]; kernel_rfl : A.tmps[123]?.getD undef = us 22).trans (hJ.val 22 (by decide) (hon 22 (by decide +kernel)))
            have e125 : A.tmps[125]?.getD undef = (.int .i64 (Za : Int)) := (by rw [hA]; kernel_rfl : A.tmps[125]?.getD undef = us 24).trans (hJ.val 24 (by decide) (hon 24 (by decide +kernel)))
            clear hA hK hon hJ
            go_simp
        · have hi' := Option.some.inj hi
          subst hi'
          refine want_yes (wanted_none rfl) ?_
          refine wp_val (v := (.pointer (some ⟨w4b.heap.size, 2, none⟩))) (w' := W) ?_ (hK _ _ (hJ.pure (i := 26) (by decide) (Below.refl _ _)))
          · skip
            have e9 : A.tmps[9]?.getD undef = (.pointer (some ⟨w4b.heap.size, 0, none⟩)) := by rw [hA]; kernel_rfl
            clear hA hK hon hJ
            go_simp
        · have hi' := Option.some.inj hi
          subst hi'
          refine want_yes (wanted_none rfl) ?_
          refine wp_val (v := (.int .i64 (Zb : Int))) (w' := W) ?_ (hK _ _ (hJ.pure (i := 27) (by decide) (Below.refl _ _)))
          · skip
            have e127 : A.tmps[127]?.getD undef = (.pointer (some ⟨w4b.heap.size, 2, none⟩)) := (by rw [hA]; kernel_rfl : A.tmps[127]?.getD undef = us 26).trans (hJ.val 26 (by decide) (hon 26 (by decide +kernel)))
            obtain ⟨cc0, cc1, cc2, cc3, cc4, cc5, cc6, cc7, cc8, cc9, cc10, cc11, cc12, cc13⟩ := Hmk.out W hJ.bel
            clear hA hK hon hJ
            go_simp
        · have hi' := Option.some.inj hi
          subst hi'
          refine want_yes (wanted_none rfl) ?_
          refine wp_val (v := (.int .i64 (((o - r) * (Za : Int)) * (Zb : Int)))) (w' := W) ?_ (hK _ _ (hJ.pure (i := 28) (by decide) (Below.refl _ _)))
          · skip
            have e126 : A.tmps[126]?.getD undef = (.int .i64 ((o - r) * (Za : Int))) := (by rw [hA]; kernel_rfl : A.tmps[126]?.getD undef = us 25).trans (hJ.val 25 (by decide) (hon 25 (by decide +kernel)))
            have e128 : A.tmps[128]?.getD undef = (.int .i64 (Zb : Int)) := (by rw [hA]; kernel_rfl : A.tmps[128]?.getD undef = us 27).trans (hJ.val 27 (by decide) (hon 27 (by decide +kernel)))
            clear hA hK hon hJ
            go_simp
        · have hi' := Option.some.inj hi
          subst hi'
          refine want_yes (wanted_none rfl) ?_
          refine wp_val (v := (.bool false)) (w' := W) ?_ (hK _ _ (hJ.pure (i := 29) (by decide) (Below.refl _ _)))
          · skip
            have e119 : A.tmps[119]?.getD undef = (.int .i64 (((Pb * (Za : Int)) - (Pa * (Zb : Int))) * (v.length : Int))) := (by rw [hA]; kernel_rfl : A.tmps[119]?.getD undef = us 18).trans (hJ.val 18 (by decide) (hon 18 (by decide +kernel)))
            have e129 : A.tmps[129]?.getD undef = (.int .i64 (((o - r) * (Za : Int)) * (Zb : Int))) := (by rw [hA]; kernel_rfl : A.tmps[129]?.getD undef = us 28).trans (hJ.val 28 (by decide) (hon 28 (by decide +kernel)))
            clear hA hK hon hJ
            go_simp
        · have hi' := Option.some.inj hi
          subst hi'
          refine want_yes (wanted_none rfl) ?_
          refine wp_val (v := (.bool false)) (w' := W) ?_ (hK _ _ (hJ.pure (i := 30) (by decide) (Below.refl _ _)))
          · skip
            have e130 : A.tmps[130]?.getD undef = (.bool false) := (by rw [hA]; kernel_rfl : A.tmps[130]?.getD undef = us 29).trans (hJ.val 29 (by decide) (hon 29 (by decide +kernel)))
            clear hA hK hon hJ
            go_simp
        · have hi' := Option.some.inj hi
          subst hi'
          refine want_yes (wanted_of (t := false) rfl rfl ((by rw [hA]; kernel_rfl : A.tmps[131]?.getD undef = us 30).trans (hJ.val 30 (by decide) (hon 30 (by decide +kernel)))) : _ = (false == false)) ?_
          refine wp_val (v := (.pointer (some ⟨w4d.heap.size, 1, none⟩))) (w' := W) ?_ (hK _ _ (hJ.pure (i := 31) (by decide) (Below.refl _ _)))
          · skip
            have e13 : A.tmps[13]?.getD undef = (.pointer (some ⟨w4d.heap.size, 0, none⟩)) := by rw [hA]; kernel_rfl
            clear hA hK hon hJ
            go_simp
        · have hi' := Option.some.inj hi
          subst hi'
          refine want_yes (wanted_of (t := false) rfl rfl ((by rw [hA]; kernel_rfl : A.tmps[131]?.getD undef = us 30).trans (hJ.val 30 (by decide) (hon 30 (by decide +kernel)))) : _ = (false == false)) ?_
          refine wp_val (v := (.slice (some ⟨Bd, Od, none⟩) Yd.length fd)) (w' := W) ?_ (hK _ _ (hJ.pure (i := 32) (by decide) (Below.refl _ _)))
          · skip
            have e132 : A.tmps[132]?.getD undef = (.pointer (some ⟨w4d.heap.size, 1, none⟩)) := (by rw [hA]; kernel_rfl : A.tmps[132]?.getD undef = us 31).trans (hJ.val 31 (by decide) (hon 31 (by decide +kernel)))
            obtain ⟨cc0, cc1, cc2, cc3, cc4, cc5, cc6, cc7, cc8, cc9, cc10, cc11, cc12, cc13⟩ := Hmk.out W hJ.bel
            clear hA hK hon hJ
            go_simp
        · have hi' := Option.some.inj hi
          subst hi'
          refine want_yes (wanted_of (t := false) rfl rfl ((by rw [hA]; kernel_rfl : A.tmps[131]?.getD undef = us 30).trans (hJ.val 30 (by decide) (hon 30 (by decide +kernel)))) : _ = (false == false)) ?_
          refine wp_val (v := (.int .i64 (j : Int))) (w' := W) ?_ (hK _ _ (hJ.pure (i := 33) (by decide) (Below.refl _ _)))
          · skip
            have e16 : A.tmps[16]?.getD undef = (.int .i64 (j : Int)) := by rw [hA]; kernel_rfl
            clear hA hK hon hJ
            go_simp
        · have hi' := Option.some.inj hi
          subst hi'
          refine want_yes (wanted_of (t := false) rfl rfl ((by rw [hA]; kernel_rfl : A.tmps[131]?.getD undef = us 30).trans (hJ.val 30 (by decide) (hon 30 (by decide +kernel)))) : _ = (false == false)) ?_
          refine wp_val (v := (.pointer (some ⟨Bd, Od + j, none⟩))) (w' := W) ?_ (hK _ _ (hJ.pure (i := 34) (by decide) (Below.refl _ _)))
          · skip
            have e133 : A.tmps[133]?.getD undef = (.slice (some ⟨Bd, Od, none⟩) Yd.length fd) := (by rw [hA]; kernel_rfl : A.tmps[133]?.getD undef = us 32).trans (hJ.val 32 (by decide) (hon 32 (by decide +kernel)))
            have e134 : A.tmps[134]?.getD undef = (.int .i64 (j : Int)) := (by rw [hA]; kernel_rfl : A.tmps[134]?.getD undef = us 33).trans (hJ.val 33 (by decide) (hon 33 (by decide +kernel)))
            clear hA hK hon hJ
            go_simp
        · have hi' := Option.some.inj hi
          subst hi'
          refine want_yes (wanted_of (t := false) rfl rfl ((by rw [hA]; kernel_rfl : A.tmps[131]?.getD undef = us 30).trans (hJ.val 30 (by decide) (hon 30 (by decide +kernel)))) : _ = (false == false)) ?_
          refine wp_val (v := (.int .i64 Pd)) (w' := W) ?_ (hK _ _ (hJ.pure (i := 35) (by decide) (Below.refl _ _)))
          · skip
            have e135 : A.tmps[135]?.getD undef = (.pointer (some ⟨Bd, Od + j, none⟩)) := (by rw [hA]; kernel_rfl : A.tmps[135]?.getD undef = us 34).trans (hJ.val 34 (by decide) (hon 34 (by decide +kernel)))
            obtain ⟨cc0, cc1, cc2, cc3, cc4, cc5, cc6, cc7, cc8, cc9, cc10, cc11, cc12, cc13⟩ := Hmk.out W hJ.bel
            clear hA hK hon hJ
            go_simp
        · have hi' := Option.some.inj hi
          subst hi'
          refine want_yes (wanted_of (t := false) rfl rfl ((by rw [hA]; kernel_rfl : A.tmps[131]?.getD undef = us 30).trans (hJ.val 30 (by decide) (hon 30 (by decide +kernel)))) : _ = (false == false)) ?_
          refine wp_val (v := (.pointer (some ⟨w4c.heap.size, 2, none⟩))) (w' := W) ?_ (hK _ _ (hJ.pure (i := 36) (by decide) (Below.refl _ _)))
          · skip
            have e11 : A.tmps[11]?.getD undef = (.pointer (some ⟨w4c.heap.size, 0, none⟩)) := by rw [hA]; kernel_rfl
            clear hA hK hon hJ
            go_simp
        · have hi' := Option.some.inj hi
          subst hi'
          refine want_yes (wanted_of (t := false) rfl rfl ((by rw [hA]; kernel_rfl : A.tmps[131]?.getD undef = us 30).trans (hJ.val 30 (by decide) (hon 30 (by decide +kernel)))) : _ = (false == false)) ?_
          refine wp_val (v := (.int .i64 (Zc : Int))) (w' := W) ?_ (hK _ _ (hJ.pure (i := 37) (by decide) (Below.refl _ _)))
          · skip
            have e137 : A.tmps[137]?.getD undef = (.pointer (some ⟨w4c.heap.size, 2, none⟩)) := (by rw [hA]; kernel_rfl : A.tmps[137]?.getD undef = us 36).trans (hJ.val 36 (by decide) (hon 36 (by decide +kernel)))
            obtain ⟨cc0, cc1, cc2, cc3, cc4, cc5, cc6, cc7, cc8, cc9, cc10, cc11, cc12, cc13⟩ := Hmk.out W hJ.bel
            clear hA hK hon hJ
            go_simp
        · have hi' := Option.some.inj hi
          subst hi'
          refine want_yes (wanted_of (t := false) rfl rfl ((by rw [hA]; kernel_rfl : A.tmps[131]?.getD undef = us 30).trans (hJ.val 30 (by decide) (hon 30 (by decide +kernel)))) : _ = (false == false)) ?_
          refine wp_val (v := (.int .i64 (Pd * (Zc : Int)))) (w' := W) ?_ (hK _ _ (hJ.pure (i := 38) (by decide) (Below.refl _ _)))
          · skip
            have e136 : A.tmps[136]?.getD undef = (.int .i64 Pd) := (by rw [hA]; kernel_rfl : A.tmps[136]?.getD undef = us 35).trans (hJ.val 35 (by decide) (hon 35 (by decide +kernel)))
            have e138 : A.tmps[138]?.getD undef = (.int .i64 (Zc : Int)) := (by rw [hA]; kernel_rfl : A.tmps[138]?.getD undef = us 37).trans (hJ.val 37 (by decide) (hon 37 (by decide +kernel)))
            clear hA hK hon hJ
            go_simp
        · have hi' := Option.some.inj hi
          subst hi'
          refine want_yes (wanted_of (t := false) rfl rfl ((by rw [hA]; kernel_rfl : A.tmps[131]?.getD undef = us 30).trans (hJ.val 30 (by decide) (hon 30 (by decide +kernel)))) : _ = (false == false)) ?_
          refine wp_val (v := (.pointer (some ⟨w4c.heap.size, 1, none⟩))) (w' := W) ?_ (hK _ _ (hJ.pure (i := 39) (by decide) (Below.refl _ _)))
          · skip
            have e11 : A.tmps[11]?.getD undef = (.pointer (some ⟨w4c.heap.size, 0, none⟩)) := by rw [hA]; kernel_rfl
            clear hA hK hon hJ
            go_simp
        · have hi' := Option.some.inj hi
          subst hi'
          refine want_yes (wanted_of (t := false) rfl rfl ((by rw [hA]; kernel_rfl : A.tmps[131]?.getD undef = us 30).trans (hJ.val 30 (by decide) (hon 30 (by decide +kernel)))) : _ = (false == false)) ?_
          refine wp_val (v := (.slice (some ⟨Bc, Oc, none⟩) Yc.length fc)) (w' := W) ?_ (hK _ _ (hJ.pure (i := 40) (by decide) (Below.refl _ _)))
          · skip
            have e140 : A.tmps[140]?.getD undef = (.pointer (some ⟨w4c.heap.size, 1, none⟩)) := (by rw [hA]; kernel_rfl : A.tmps[140]?.getD undef = us 39).trans (hJ.val 39 (by decide) (hon 39 (by decide +kernel)))
            obtain ⟨cc0, cc1, cc2, cc3, cc4, cc5, cc6, cc7, cc8, cc9, cc10, cc11, cc12, cc13⟩ := Hmk.out W hJ.bel
            clear hA hK hon hJ
            go_simp
        · have hi' := Option.some.inj hi
          subst hi'
          refine want_yes (wanted_of (t := false) rfl rfl ((by rw [hA]; kernel_rfl : A.tmps[131]?.getD undef = us 30).trans (hJ.val 30 (by decide) (hon 30 (by decide +kernel)))) : _ = (false == false)) ?_
          refine wp_val (v := (.int .i64 (j : Int))) (w' := W) ?_ (hK _ _ (hJ.pure (i := 41) (by decide) (Below.refl _ _)))
          · skip
            have e16 : A.tmps[16]?.getD undef = (.int .i64 (j : Int)) := by rw [hA]; kernel_rfl
            clear hA hK hon hJ
            go_simp
        · have hi' := Option.some.inj hi
          subst hi'
          refine want_yes (wanted_of (t := false) rfl rfl ((by rw [hA]; kernel_rfl : A.tmps[131]?.getD undef = us 30).trans (hJ.val 30 (by decide) (hon 30 (by decide +kernel)))) : _ = (false == false)) ?_
          refine wp_val (v := (.pointer (some ⟨Bc, Oc + j, none⟩))) (w' := W) ?_ (hK _ _ (hJ.pure (i := 42) (by decide) (Below.refl _ _)))
          · skip
            have e141 : A.tmps[141]?.getD undef = (.slice (some ⟨Bc, Oc, none⟩) Yc.length fc) := (by rw [hA]; kernel_rfl : A.tmps[141]?.getD undef = us 40).trans (hJ.val 40 (by decide) (hon 40 (by decide +kernel)))
            have e142 : A.tmps[142]?.getD undef = (.int .i64 (j : Int)) := (by rw [hA]; kernel_rfl : A.tmps[142]?.getD undef = us 41).trans (hJ.val 41 (by decide) (hon 41 (by decide +kernel)))
            clear hA hK hon hJ
            go_simp
        · have hi' := Option.some.inj hi
          subst hi'
          refine want_yes (wanted_of (t := false) rfl rfl ((by rw [hA]; kernel_rfl : A.tmps[131]?.getD undef = us 30).trans (hJ.val 30 (by decide) (hon 30 (by decide +kernel)))) : _ = (false == false)) ?_
          refine wp_val (v := (.int .i64 Pc)) (w' := W) ?_ (hK _ _ (hJ.pure (i := 43) (by decide) (Below.refl _ _)))
          · skip
            have e143 : A.tmps[143]?.getD undef = (.pointer (some ⟨Bc, Oc + j, none⟩)) := (by rw [hA]; kernel_rfl : A.tmps[143]?.getD undef = us 42).trans (hJ.val 42 (by decide) (hon 42 (by decide +kernel)))
            obtain ⟨cc0, cc1, cc2, cc3, cc4, cc5, cc6, cc7, cc8, cc9, cc10, cc11, cc12, cc13⟩ := Hmk.out W hJ.bel
            clear hA hK hon hJ
            go_simp
        · have hi' := Option.some.inj hi
          subst hi'
          refine want_yes (wanted_of (t := false) rfl rfl ((by rw [hA]; kernel_rfl : A.tmps[131]?.getD undef = us 30).trans (hJ.val 30 (by decide) (hon 30 (by decide +kernel)))) : _ = (false == false)) ?_
          refine wp_val (v := (.pointer (some ⟨w4d.heap.size, 2, none⟩))) (w' := W) ?_ (hK _ _ (hJ.pure (i := 44) (by decide) (Below.refl _ _)))
          · skip
            have e13 : A.tmps[13]?.getD undef = (.pointer (some ⟨w4d.heap.size, 0, none⟩)) := by rw [hA]; kernel_rfl
            clear hA hK hon hJ
            go_simp
        · have hi' := Option.some.inj hi
          subst hi'
          refine want_yes (wanted_of (t := false) rfl rfl ((by rw [hA]; kernel_rfl : A.tmps[131]?.getD undef = us 30).trans (hJ.val 30 (by decide) (hon 30 (by decide +kernel)))) : _ = (false == false)) ?_
          refine wp_val (v := (.int .i64 (Zd : Int))) (w' := W) ?_ (hK _ _ (hJ.pure (i := 45) (by decide) (Below.refl _ _)))
          · skip
            have e145 : A.tmps[145]?.getD undef = (.pointer (some ⟨w4d.heap.size, 2, none⟩)) := (by rw [hA]; kernel_rfl : A.tmps[145]?.getD undef = us 44).trans (hJ.val 44 (by decide) (hon 44 (by decide +kernel)))
            obtain ⟨cc0, cc1, cc2, cc3, cc4, cc5, cc6, cc7, cc8, cc9, cc10, cc11, cc12, cc13⟩ := Hmk.out W hJ.bel
            clear hA hK hon hJ
            go_simp
        · have hi' := Option.some.inj hi
          subst hi'
          refine want_yes (wanted_of (t := false) rfl rfl ((by rw [hA]; kernel_rfl : A.tmps[131]?.getD undef = us 30).trans (hJ.val 30 (by decide) (hon 30 (by decide +kernel)))) : _ = (false == false)) ?_
          refine wp_val (v := (.int .i64 (Pc * (Zd : Int)))) (w' := W) ?_ (hK _ _ (hJ.pure (i := 46) (by decide) (Below.refl _ _)))
          · skip
            have e144 : A.tmps[144]?.getD undef = (.int .i64 Pc) := (by rw [hA]; kernel_rfl : A.tmps[144]?.getD undef = us 43).trans (hJ.val 43 (by decide) (hon 43 (by decide +kernel)))
            have e146 : A.tmps[146]?.getD undef = (.int .i64 (Zd : Int)) := (by rw [hA]; kernel_rfl : A.tmps[146]?.getD undef = us 45).trans (hJ.val 45 (by decide) (hon 45 (by decide +kernel)))
            clear hA hK hon hJ
            go_simp
        · have hi' := Option.some.inj hi
          subst hi'
          refine want_yes (wanted_of (t := false) rfl rfl ((by rw [hA]; kernel_rfl : A.tmps[131]?.getD undef = us 30).trans (hJ.val 30 (by decide) (hon 30 (by decide +kernel)))) : _ = (false == false)) ?_
          refine wp_val (v := (.int .i64 ((Pd * (Zc : Int)) - (Pc * (Zd : Int))))) (w' := W) ?_ (hK _ _ (hJ.pure (i := 47) (by decide) (Below.refl _ _)))
          · skip
            have e139 : A.tmps[139]?.getD undef = (.int .i64 (Pd * (Zc : Int))) := (by rw [hA]; kernel_rfl : A.tmps[139]?.getD undef = us 38).trans (hJ.val 38 (by decide) (hon 38 (by decide +kernel)))
            have e147 : A.tmps[147]?.getD undef = (.int .i64 (Pc * (Zd : Int))) := (by rw [hA]; kernel_rfl : A.tmps[147]?.getD undef = us 46).trans (hJ.val 46 (by decide) (hon 46 (by decide +kernel)))
            clear hA hK hon hJ
            go_simp
        · have hi' := Option.some.inj hi
          subst hi'
          refine want_yes (wanted_of (t := false) rfl rfl ((by rw [hA]; kernel_rfl : A.tmps[131]?.getD undef = us 30).trans (hJ.val 30 (by decide) (hon 30 (by decide +kernel)))) : _ = (false == false)) ?_
          refine wp_val (v := (.int .i64 (v.length : Int))) (w' := W) ?_ (hK _ _ (hJ.pure (i := 48) (by decide) (Below.refl _ _)))
          · skip
            have e15 : A.tmps[15]?.getD undef = (.int .i64 (v.length : Int)) := by rw [hA]; kernel_rfl
            clear hA hK hon hJ
            go_simp
        · have hi' := Option.some.inj hi
          subst hi'
          refine want_yes (wanted_of (t := false) rfl rfl ((by rw [hA]; kernel_rfl : A.tmps[131]?.getD undef = us 30).trans (hJ.val 30 (by decide) (hon 30 (by decide +kernel)))) : _ = (false == false)) ?_
          refine wp_val (v := (.int .i64 (((Pd * (Zc : Int)) - (Pc * (Zd : Int))) * (v.length : Int)))) (w' := W) ?_ (hK _ _ (hJ.pure (i := 49) (by decide) (Below.refl _ _)))
          · skip
            have e148 : A.tmps[148]?.getD undef = (.int .i64 ((Pd * (Zc : Int)) - (Pc * (Zd : Int)))) := (by rw [hA]; kernel_rfl : A.tmps[148]?.getD undef = us 47).trans (hJ.val 47 (by decide) (hon 47 (by decide +kernel)))
            have e149 : A.tmps[149]?.getD undef = (.int .i64 (v.length : Int)) := (by rw [hA]; kernel_rfl : A.tmps[149]?.getD undef = us 48).trans (hJ.val 48 (by decide) (hon 48 (by decide +kernel)))
            clear hA hK hon hJ
            go_simp
        · have hi' := Option.some.inj hi
          subst hi'
          refine want_yes (wanted_of (t := false) rfl rfl ((by rw [hA]; kernel_rfl : A.tmps[131]?.getD undef = us 30).trans (hJ.val 30 (by decide) (hon 30 (by decide +kernel)))) : _ = (false == false)) ?_
          refine wp_val (v := (.int .i64 o)) (w' := W) ?_ (hK _ _ (hJ.pure (i := 50) (by decide) (Below.refl _ _)))
          · skip
            have e1 : A.tmps[1]?.getD undef = (.int .i64 o) := by rw [hA]; kernel_rfl
            clear hA hK hon hJ
            go_simp
        · have hi' := Option.some.inj hi
          subst hi'
          refine want_yes (wanted_of (t := false) rfl rfl ((by rw [hA]; kernel_rfl : A.tmps[131]?.getD undef = us 30).trans (hJ.val 30 (by decide) (hon 30 (by decide +kernel)))) : _ = (false == false)) ?_
          refine wp_val (v := (.pointer (some ⟨w.heap.size, 1, none⟩))) (w' := W) ?_ (hK _ _ (hJ.pure (i := 51) (by decide) (Below.refl _ _)))
          · skip
            have e2 : A.tmps[2]?.getD undef = (.pointer (some ⟨w.heap.size, 0, none⟩)) := by rw [hA]; kernel_rfl
            clear hA hK hon hJ
            go_simp
        · have hi' := Option.some.inj hi
          subst hi'
          refine want_yes (wanted_of (t := false) rfl rfl ((by rw [hA]; kernel_rfl : A.tmps[131]?.getD undef = us 30).trans (hJ.val 30 (by decide) (hon 30 (by decide +kernel)))) : _ = (false == false)) ?_
          refine wp_val (v := (.int .i64 r)) (w' := W) ?_ (hK _ _ (hJ.pure (i := 52) (by decide) (Below.refl _ _)))
          · skip
            have e152 : A.tmps[152]?.getD undef = (.pointer (some ⟨w.heap.size, 1, none⟩)) := (by rw [hA]; kernel_rfl : A.tmps[152]?.getD undef = us 51).trans (hJ.val 51 (by decide) (hon 51 (by decide +kernel)))
            obtain ⟨cc0, cc1, cc2, cc3, cc4, cc5, cc6, cc7, cc8, cc9, cc10, cc11, cc12, cc13⟩ := Hmk.out W hJ.bel
            clear hA hK hon hJ
            go_simp
        · have hi' := Option.some.inj hi
          subst hi'
          refine want_yes (wanted_of (t := false) rfl rfl ((by rw [hA]; kernel_rfl : A.tmps[131]?.getD undef = us 30).trans (hJ.val 30 (by decide) (hon 30 (by decide +kernel)))) : _ = (false == false)) ?_
          refine wp_val (v := (.int .i64 (o - r))) (w' := W) ?_ (hK _ _ (hJ.pure (i := 53) (by decide) (Below.refl _ _)))
          · skip
            have e151 : A.tmps[151]?.getD undef = (.int .i64 o) := (by rw [hA]; kernel_rfl : A.tmps[151]?.getD undef = us 50).trans (hJ.val 50 (by decide) (hon 50 (by decide +kernel)))
            have e153 : A.tmps[153]?.getD undef = (.int .i64 r) := (by rw [hA]; kernel_rfl : A.tmps[153]?.getD undef = us 52).trans (hJ.val 52 (by decide) (hon 52 (by decide +kernel)))
            clear hA hK hon hJ
            go_simp
        · have hi' := Option.some.inj hi
          subst hi'
          refine want_yes (wanted_of (t := false) rfl rfl ((by rw [hA]; kernel_rfl : A.tmps[131]?.getD undef = us 30).trans (hJ.val 30 (by decide) (hon 30 (by decide +kernel)))) : _ = (false == false)) ?_
          refine wp_val (v := (.pointer (some ⟨w4c.heap.size, 2, none⟩))) (w' := W) ?_ (hK _ _ (hJ.pure (i := 54) (by decide) (Below.refl _ _)))
          · skip
            have e11 : A.tmps[11]?.getD undef = (.pointer (some ⟨w4c.heap.size, 0, none⟩)) := by rw [hA]; kernel_rfl
            clear hA hK hon hJ
            go_simp
        · have hi' := Option.some.inj hi
          subst hi'
          refine want_yes (wanted_of (t := false) rfl rfl ((by rw [hA]; kernel_rfl : A.tmps[131]?.getD undef = us 30).trans (hJ.val 30 (by decide) (hon 30 (by decide +kernel)))) : _ = (false == false)) ?_
          refine wp_val (v := (.int .i64 (Zc : Int))) (w' := W) ?_ (hK _ _ (hJ.pure (i := 55) (by decide) (Below.refl _ _)))
          · skip
            have e155 : A.tmps[155]?.getD undef = (.pointer (some ⟨w4c.heap.size, 2, none⟩)) := (by rw [hA]; kernel_rfl : A.tmps[155]?.getD undef = us 54).trans (hJ.val 54 (by decide) (hon 54 (by decide +kernel)))
            obtain ⟨cc0, cc1, cc2, cc3, cc4, cc5, cc6, cc7, cc8, cc9, cc10, cc11, cc12, cc13⟩ := Hmk.out W hJ.bel
            clear hA hK hon hJ
            go_simp
        · have hi' := Option.some.inj hi
          subst hi'
          refine want_yes (wanted_of (t := false) rfl rfl ((by rw [hA]; kernel_rfl : A.tmps[131]?.getD undef = us 30).trans (hJ.val 30 (by decide) (hon 30 (by decide +kernel)))) : _ = (false == false)) ?_
          refine wp_val (v := (.int .i64 ((o - r) * (Zc : Int)))) (w' := W) ?_ (hK _ _ (hJ.pure (i := 56) (by decide) (Below.refl _ _)))
          · skip
            have e154 : A.tmps[154]?.getD undef = (.int .i64 (o - r)) := (by rw [hA]; kernel_rfl : A.tmps[154]?.getD undef = us 53).trans (hJ.val 53 (by decide) (hon 53 (by decide +kernel)))
            have e156 : A.tmps[156]?.getD undef = (.int .i64 (Zc : Int)) := (by rw [hA]; kernel_rfl : A.tmps[156]?.getD undef = us 55).trans (hJ.val 55 (by decide) (hon 55 (by decide +kernel)))
            clear hA hK hon hJ
            go_simp
        · have hi' := Option.some.inj hi
          subst hi'
          refine want_yes (wanted_of (t := false) rfl rfl ((by rw [hA]; kernel_rfl : A.tmps[131]?.getD undef = us 30).trans (hJ.val 30 (by decide) (hon 30 (by decide +kernel)))) : _ = (false == false)) ?_
          refine wp_val (v := (.pointer (some ⟨w4d.heap.size, 2, none⟩))) (w' := W) ?_ (hK _ _ (hJ.pure (i := 57) (by decide) (Below.refl _ _)))
          · skip
            have e13 : A.tmps[13]?.getD undef = (.pointer (some ⟨w4d.heap.size, 0, none⟩)) := by rw [hA]; kernel_rfl
            clear hA hK hon hJ
            go_simp
        · have hi' := Option.some.inj hi
          subst hi'
          refine want_yes (wanted_of (t := false) rfl rfl ((by rw [hA]; kernel_rfl : A.tmps[131]?.getD undef = us 30).trans (hJ.val 30 (by decide) (hon 30 (by decide +kernel)))) : _ = (false == false)) ?_
          refine wp_val (v := (.int .i64 (Zd : Int))) (w' := W) ?_ (hK _ _ (hJ.pure (i := 58) (by decide) (Below.refl _ _)))
          · skip
            have e158 : A.tmps[158]?.getD undef = (.pointer (some ⟨w4d.heap.size, 2, none⟩)) := (by rw [hA]; kernel_rfl : A.tmps[158]?.getD undef = us 57).trans (hJ.val 57 (by decide) (hon 57 (by decide +kernel)))
            obtain ⟨cc0, cc1, cc2, cc3, cc4, cc5, cc6, cc7, cc8, cc9, cc10, cc11, cc12, cc13⟩ := Hmk.out W hJ.bel
            clear hA hK hon hJ
            go_simp
        · have hi' := Option.some.inj hi
          subst hi'
          refine want_yes (wanted_of (t := false) rfl rfl ((by rw [hA]; kernel_rfl : A.tmps[131]?.getD undef = us 30).trans (hJ.val 30 (by decide) (hon 30 (by decide +kernel)))) : _ = (false == false)) ?_
          refine wp_val (v := (.int .i64 (((o - r) * (Zc : Int)) * (Zd : Int)))) (w' := W) ?_ (hK _ _ (hJ.pure (i := 59) (by decide) (Below.refl _ _)))
          · skip
            have e157 : A.tmps[157]?.getD undef = (.int .i64 ((o - r) * (Zc : Int))) := (by rw [hA]; kernel_rfl : A.tmps[157]?.getD undef = us 56).trans (hJ.val 56 (by decide) (hon 56 (by decide +kernel)))
            have e159 : A.tmps[159]?.getD undef = (.int .i64 (Zd : Int)) := (by rw [hA]; kernel_rfl : A.tmps[159]?.getD undef = us 58).trans (hJ.val 58 (by decide) (hon 58 (by decide +kernel)))
            clear hA hK hon hJ
            go_simp
        · have hi' := Option.some.inj hi
          subst hi'
          refine want_yes (wanted_of (t := false) rfl rfl ((by rw [hA]; kernel_rfl : A.tmps[131]?.getD undef = us 30).trans (hJ.val 30 (by decide) (hon 30 (by decide +kernel)))) : _ = (false == false)) ?_
          refine wp_val (v := (.bool false)) (w' := W) ?_ (hK _ _ (hJ.pure (i := 60) (by decide) (Below.refl _ _)))
          · skip
            have e150 : A.tmps[150]?.getD undef = (.int .i64 (((Pd * (Zc : Int)) - (Pc * (Zd : Int))) * (v.length : Int))) := (by rw [hA]; kernel_rfl : A.tmps[150]?.getD undef = us 49).trans (hJ.val 49 (by decide) (hon 49 (by decide +kernel)))
            have e160 : A.tmps[160]?.getD undef = (.int .i64 (((o - r) * (Zc : Int)) * (Zd : Int))) := (by rw [hA]; kernel_rfl : A.tmps[160]?.getD undef = us 59).trans (hJ.val 59 (by decide) (hon 59 (by decide +kernel)))
            clear hA hK hon hJ
            go_simp
        · have hi' := Option.some.inj hi
          subst hi'
          refine want_yes (wanted_none rfl) ?_
          refine wp_val (v := (.bool false)) (w' := W) ?_ (hK _ _ (hJ.pure (i := 61) (by decide) (Below.refl _ _)))
          · skip
            have e131 : A.tmps[131]?.getD undef = (.bool false) := (by rw [hA]; kernel_rfl : A.tmps[131]?.getD undef = us 30).trans (hJ.val 30 (by decide) (hon 30 (by decide +kernel)))
            have e161 : A.tmps[161]?.getD undef = (.bool false) := (by rw [hA]; kernel_rfl : A.tmps[161]?.getD undef = us 60).trans (hJ.val 60 (by decide) (hon 60 (by decide +kernel)))
            clear hA hK hon hJ
            go_simp
      · intro us D wd hJ hall
        have u61 : us 61 = (.bool false) := hJ.val 61 (by decide) (hall 61 (by decide))
        have hb := hJ.bel
        clear hJ hall Hmk
        simp only [actL, slotL, putL, List.setIfInBounds_toArray, List.set_cons_zero, List.set_cons_succ, Nat.zero_add, Nat.reduceAdd, u61]
        clear u61
        go_wp2_with fail
        go_roundw
        case rel => exact ⟨j + 1, by omega, by go_num, hbr.trans (hb.mono hbr.size)⟩
        case measure => (simp [intOf] <;> omega)
    · have hj1 : ¬ (j : Int) < v.length := by omega
      go_wp2_with fail
      go_ret
      exact ⟨rfl, hB.trans (hbr.mono hB.size)⟩

theorem rentRents_walk (p : Option Addr) (c : Nat) (v : List (List Int)) (r : Int) (o : Int) (w : World) (hx : Mat w p c v) (hr64 : in64 r) (ho64 : in64 o) : Calls Try.prog 7 #[.agg #[.slice p v.length c, .int .i64 r], .int .i64 o] w fun e w' => e = .returned (.bool true) ∧ Below w.heap.size w w' := by
  by_cases hc : chkR v r = 0
  · by_cases ho : chkR v o = 0
    · exact rentRents_main p c v r o w hx hr64 ho64 hc ho
    · exact rentRents_off p c v r o w hx hr64 ho64 hc ho
  · exact rentRents_early p c v r o w hx hr64 ho64 hc
end Go.Proofs.Ytllcbcanohdepaa
