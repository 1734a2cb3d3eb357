/- The walk of the law RentBest: for every flat and lease it returns true, and changes nothing that was there.  (Printed by wip/genrentbest.py.) -/
import Derived.Test.YtllcbcanohdepaaTopRentBestm8
import Derived.Test.YtllcbcanohdepaaTopRentNamesm28
import Derived.Test.YtllcbcanohdepaaTopRentNamesm25
import Derived.Deep.DeepCutAuto
/- The walk of the law RentBest: for every flat and lease it returns true, and changes nothing that was there.  (Printed by wip/genrentbest.py.) -/
namespace Go.Proofs.Ytllcbcanohdepaa
set_option linter.unusedVariables false
set_option linter.unusedSimpArgs false
open Go.ChangeShapes Go.WideShapes Go.ChangeAt Go.RowKit Go.Deep

theorem r25 {i : Nat} (h : i < 25) : i = 0 ∨ i = 1 ∨ i = 2 ∨ i = 3 ∨ i = 4 ∨ i = 5 ∨ i = 6 ∨ i = 7 ∨ i = 8 ∨ i = 9 ∨ i = 10 ∨ i = 11 ∨ i = 12 ∨ i = 13 ∨ i = 14 ∨ i = 15 ∨ i = 16 ∨ i = 17 ∨ i = 18 ∨ i = 19 ∨ i = 20 ∨ i = 21 ∨ i = 22 ∨ i = 23 ∨ i = 24 := by omega
theorem bz_bd60 {G : Int} {z : Nat} (h : -1000000000 ≤ G ∧ G ≤ 1000000000) (h1 : (1 : Int) ≤ z) (h2 : (z : Int) ≤ 60) : -60000000000 ≤ G * z ∧ G * z ≤ 60000000000 := by
  have a := Int.mul_le_mul_of_nonneg_right h.2 (show (0 : Int) ≤ z by omega)
  have b := Int.mul_le_mul_of_nonneg_right h.1 (show (0 : Int) ≤ z by omega)
  omega
set_option maxHeartbeats 1600000 in
set_option maxRecDepth 100000 in
theorem rentBest_early (p : Option Addr) (c : Nat) (v : List (List Int)) (r : Int) (q : Option Addr) (d : Nat) (al : List Int) (s : Option Addr) (f : Nat) (ps : List Int) (z : Int) (w : World) (hx : Mat w p c v) (hr64 : in64 r) (hy : Ints w q d al) (hz : Ints w s f ps) (hz64 : in64 z) (hc : chkR v r ≠ 0) :
    Calls Try.prog 4 #[.agg #[.slice p v.length c, .int .i64 r], .agg #[.slice q al.length d, .slice s ps.length f, .int .i64 z]] w fun e w' => e = .returned (.bool true) ∧ Below w.heap.size w w' := by
  obtain ⟨Wx, hWx⟩ : ∃ W, w.alloc (.cells #[.slice p v.length c, .int .i64 r] 24) = W := ⟨_, rfl⟩
  obtain ⟨W0, hW0⟩ : ∃ W, Wx.alloc (.cells #[.slice q al.length d, .slice s ps.length f, .int .i64 z] 27) = W := ⟨_, rfl⟩
  have hB1 := below_alloc hWx
  have hB2 := below_alloc hW0
  have bX : BoxV W0 w.heap.size [.slice p v.length c, .int .i64 r] := (BoxV.new rfl hWx).below hB2
  have hs : Wx.heap.size = w.heap.size + 1 := by rw [← hWx]; simp
  have bL : BoxV W0 (w.heap.size + 1) [.slice q al.length d, .slice s ps.length f, .int .i64 z] := BoxV.new hs hW0
  have hB : Below w.heap.size w W0 := hB1.trans (hB2.mono hB1.size)
  have mX := hx.below hB (Nat.le_refl _)
  have mA := hy.below hB (Nat.le_refl _)
  have mP := hz.below hB (Nat.le_refl _)
  have hlx := hx.length_le
  have hly := hy.length_le
  have hlz := hz.length_le
  have HWx := Lib.hid hWx
  have HW0 := Lib.hid hW0
  clear hWx hW0 hB1 hB2 hs hx hy hz
  have hf : fit15 v r = false := by unfold fit15; rw [decide_eq_false_iff_not]; exact hc
  have hF := fun W (h : Mat W p c v) => fit15_any p c v r W h
  rw [hf] at hF
  have HF := Lib.hid hF
  clear hF hf hc
  go_enter Try.func4, Try.ntmps4
  go_wp2_with fail
  rw [HWx.out, HW0.out]
  refine (alive15_any _).mono ?_
  rintro e w1 ⟨rfl, hb⟩
  replace bX := bX.below hb
  have k0 := bX.cell 0 _ rfl
  have k1 := bX.cell 1 _ rfl
  replace mX := mX.below hb (Nat.le_refl _)
  replace hB := hB.trans (hb.mono hB.size)
  clear hb
  go_wp2_with fail
  refine (HF.out _ mX).mono ?_
  rintro e w2 ⟨rfl, hb⟩
  go_wp2_with fail
  go_ret
  exact ⟨rfl, hB.trans (hb.mono hB.size)⟩

set_option maxHeartbeats 8000000 in
set_option maxRecDepth 100000 in
theorem rentBest_big1 (p : Option Addr) (c : Nat) (v : List (List Int)) (r : Int) (q : Option Addr) (d : Nat) (al : List Int) (s : Option Addr) (f : Nat) (ps : List Int) (z : Int) (w : World) (hx : Mat w p c v) (hr64 : in64 r) (hy : Ints w q d al) (hz : Ints w s f ps) (hz64 : in64 z) (hc : chkR v r = 0) (h : 50 < al.length) :
    Calls Try.prog 4 #[.agg #[.slice p v.length c, .int .i64 r], .agg #[.slice q al.length d, .slice s ps.length f, .int .i64 z]] w fun e w' => e = .returned (.bool true) ∧ Below w.heap.size w w' := by
  obtain ⟨Wx, hWx⟩ : ∃ W, w.alloc (.cells #[.slice p v.length c, .int .i64 r] 24) = W := ⟨_, rfl⟩
  obtain ⟨W0, hW0⟩ : ∃ W, Wx.alloc (.cells #[.slice q al.length d, .slice s ps.length f, .int .i64 z] 27) = W := ⟨_, rfl⟩
  have hB1 := below_alloc hWx
  have hB2 := below_alloc hW0
  have bX : BoxV W0 w.heap.size [.slice p v.length c, .int .i64 r] := (BoxV.new rfl hWx).below hB2
  have hs : Wx.heap.size = w.heap.size + 1 := by rw [← hWx]; simp
  have bL : BoxV W0 (w.heap.size + 1) [.slice q al.length d, .slice s ps.length f, .int .i64 z] := BoxV.new hs hW0
  have hB : Below w.heap.size w W0 := hB1.trans (hB2.mono hB1.size)
  have mX := hx.below hB (Nat.le_refl _)
  have mA := hy.below hB (Nat.le_refl _)
  have mP := hz.below hB (Nat.le_refl _)
  have hlx := hx.length_le
  have hly := hy.length_le
  have hlz := hz.length_le
  have HWx := Lib.hid hWx
  have HW0 := Lib.hid hW0
  clear hWx hW0 hB1 hB2 hs hx hy hz
  have hf : fit15 v r = true := by unfold fit15; rw [decide_eq_true_iff]; exact hc
  have hF := fun W (h : Mat W p c v) => fit15_any p c v r W h
  rw [hf] at hF
  have hE := fun W (h : Mat W p c v) => rentFair_any p c v r W h
  have hBd := (chkR_zero.1 hc).1
  obtain ⟨hev, hfr⟩ := lea_vld (g := fairG v) hc (fair_gp hBd)
  have eX0 : bestI v r = bestA v := (lea_parts (g := fairG v) hc).1
  obtain ⟨X, eX⟩ : ∃ x, bestA v = x := ⟨_, rfl⟩
  obtain ⟨Y, eY⟩ : ∃ x, leaY v r (fairG v) = x := ⟨_, rfl⟩
  obtain ⟨Z, eZ⟩ : ∃ x : Nat, leaZ v r (fairG v) = x := ⟨(leaZ v r (fairG v)).toNat, by have := (vld_zero.1 hev).2.2.1; omega⟩
  rw [eX0, eX, eY, eZ, hc] at hE
  rw [eX, eY, eZ] at hev hfr
  have hV1 := fun W q1 d1 s1 f1 (h : Mat W p c v) (h1 : Ints W q1 d1 X) (h2 : Ints W s1 f1 Y) => refValid_any p q1 s1 c d1 f1 v r X Y Z W h h1 h2
  have hV2 := fun W q1 d1 s1 f1 (h : Mat W p c v) (h1 : Ints W q1 d1 X) (h2 : Ints W s1 f1 Y) => free14_any p q1 s1 c d1 f1 v r X Y Z W h h1 h2
  rw [hev] at hV1
  rw [hfr] at hV2
  have hV := fun W (h : Mat W p c v) (h1 : Ints W q d al) (h2 : Ints W s f ps) => refValid_any p q s c d f v r al ps z W h h1 h2
  have hVF := fun W (h : Mat W p c v) (h1 : Ints W q d al) (h2 : Ints W s f ps) => free14_any p q s c d f v r al ps z W h h1 h2
  have HF := Lib.hid hF
  have HE := Lib.hid hE
  have HV1 := Lib.hid hV1
  have HV2 := Lib.hid hV2
  have HBd := Lib.hid hBd
  have Hev := Lib.hid hev
  have HeX := Lib.hid eX
  have HeY := Lib.hid eY
  have HeZ := Lib.hid eZ
  have d1 : decide (50 < (al.length : Int)) = true := by rw [decide_eq_true_iff]; omega
  clear h hV hVF hc
  clear hF hE hV1 hV2 hf hev hfr hBd eX eY eZ eX0
  go_enter Try.func4, Try.ntmps4
  go_wp2_with fail
  rw [HWx.out, HW0.out]
  refine (alive15_any _).mono ?_
  rintro e w1 ⟨rfl, hb⟩
  replace mX := mX.below hb (Nat.le_refl _)
  replace mA := mA.below hb (Nat.le_refl _)
  replace mP := mP.below hb (Nat.le_refl _)
  replace bX := bX.below hb
  replace bL := bL.below hb
  replace hB := hB.trans (hb.mono hB.size)
  clear hb
  have kbX_0 := bX.cell 0 _ rfl
  have kbX_1 := bX.cell 1 _ rfl
  have lbX := bX.lt
  have kbL_0 := bL.cell 0 _ rfl
  have kbL_1 := bL.cell 1 _ rfl
  have kbL_2 := bL.cell 2 _ rfl
  have lbL := bL.lt
  go_wp2_with fail
  refine (HF.out _ mX).mono ?_
  rintro e w2 ⟨rfl, hb⟩
  clear kbX_0 kbX_1 lbX kbL_0 kbL_1 kbL_2 lbL
  replace mX := mX.below hb (Nat.le_refl _)
  replace mA := mA.below hb (Nat.le_refl _)
  replace mP := mP.below hb (Nat.le_refl _)
  replace bX := bX.below hb
  replace bL := bL.below hb
  replace hB := hB.trans (hb.mono hB.size)
  clear hb
  have kbX_0 := bX.cell 0 _ rfl
  have kbX_1 := bX.cell 1 _ rfl
  have lbX := bX.lt
  have kbL_0 := bL.cell 0 _ rfl
  have kbL_1 := bL.cell 1 _ rfl
  have kbL_2 := bL.cell 2 _ rfl
  have lbL := bL.lt
  go_wp2_with fail
  refine (HE.out _ mX).mono ?_
  rintro e w3 ⟨q1, d1, s1, f1, rfl, i1, i2, hb⟩
  clear kbX_0 kbX_1 lbX kbL_0 kbL_1 kbL_2 lbL
  replace mX := mX.below hb (Nat.le_refl _)
  replace mA := mA.below hb (Nat.le_refl _)
  replace mP := mP.below hb (Nat.le_refl _)
  replace bX := bX.below hb
  replace bL := bL.below hb
  replace hB := hB.trans (hb.mono hB.size)
  clear hb
  obtain ⟨W4, hW4⟩ : ∃ W, w3.alloc (.cells #[.slice q1 X.length d1, .slice s1 Y.length f1, .int .i64 Z] 27) = W := ⟨_, rfl⟩
  have hb : Below w3.heap.size w3 W4 := below_alloc hW4
  have bM : BoxV W4 w3.heap.size [.slice q1 X.length d1, .slice s1 Y.length f1, .int .i64 Z] := BoxV.new rfl hW4
  have HW4 := Lib.hid hW4
  replace mX := mX.below hb (Nat.le_refl _)
  replace mA := mA.below hb (Nat.le_refl _)
  replace mP := mP.below hb (Nat.le_refl _)
  replace bX := bX.below hb
  replace bL := bL.below hb
  replace i1 := i1.below hb (Nat.le_refl _)
  replace i2 := i2.below hb (Nat.le_refl _)
  replace hB := hB.trans (hb.mono hB.size)
  clear hb hW4
  go_upto_region 5 with (fail)
  rw [HW4.out]
  have kbX_0 := bX.cell 0 _ rfl
  have kbX_1 := bX.cell 1 _ rfl
  have lbX := bX.lt
  have kbL_0 := bL.cell 0 _ rfl
  have kbL_1 := bL.cell 1 _ rfl
  have kbL_2 := bL.cell 2 _ rfl
  have lbL := bL.lt
  have kbM_0 := bM.cell 0 _ rfl
  have kbM_1 := bM.cell 1 _ rfl
  have kbM_2 := bM.cell 2 _ rfl
  have lbM := bM.lt
  go_wp2_with fail
  refine (HV1.out _ _ _ _ _ mX i1 i2).mono ?_
  rintro e w5 ⟨rfl, hb⟩
  clear kbX_0 kbX_1 lbX kbL_0 kbL_1 kbL_2 lbL kbM_0 kbM_1 kbM_2 lbM
  replace mX := mX.below hb (Nat.le_refl _)
  replace mA := mA.below hb (Nat.le_refl _)
  replace mP := mP.below hb (Nat.le_refl _)
  replace bX := bX.below hb
  replace bL := bL.below hb
  replace i1 := i1.below hb (Nat.le_refl _)
  replace i2 := i2.below hb (Nat.le_refl _)
  replace bM := bM.below hb
  replace hB := hB.trans (hb.mono hB.size)
  clear hb
  have kbX_0 := bX.cell 0 _ rfl
  have kbX_1 := bX.cell 1 _ rfl
  have lbX := bX.lt
  have kbL_0 := bL.cell 0 _ rfl
  have kbL_1 := bL.cell 1 _ rfl
  have kbL_2 := bL.cell 2 _ rfl
  have lbL := bL.lt
  have kbM_0 := bM.cell 0 _ rfl
  have kbM_1 := bM.cell 1 _ rfl
  have kbM_2 := bM.cell 2 _ rfl
  have lbM := bM.lt
  go_wp2_with fail
  refine (HV2.out _ _ _ _ _ mX i1 i2).mono ?_
  rintro e w6 ⟨rfl, hb⟩
  clear kbX_0 kbX_1 lbX kbL_0 kbL_1 kbL_2 lbL kbM_0 kbM_1 kbM_2 lbM
  replace mX := mX.below hb (Nat.le_refl _)
  replace mA := mA.below hb (Nat.le_refl _)
  replace mP := mP.below hb (Nat.le_refl _)
  replace bX := bX.below hb
  replace bL := bL.below hb
  replace i1 := i1.below hb (Nat.le_refl _)
  replace i2 := i2.below hb (Nat.le_refl _)
  replace bM := bM.below hb
  replace hB := hB.trans (hb.mono hB.size)
  clear hb
  have kbX_0 := bX.cell 0 _ rfl
  have kbX_1 := bX.cell 1 _ rfl
  have lbX := bX.lt
  have kbL_0 := bL.cell 0 _ rfl
  have kbL_1 := bL.cell 1 _ rfl
  have kbL_2 := bL.cell 2 _ rfl
  have lbL := bL.lt
  go_wp2_with fail
  go_ret
  exact ⟨rfl, hB⟩
set_option maxHeartbeats 8000000 in
set_option maxRecDepth 100000 in
theorem rentBest_big2 (p : Option Addr) (c : Nat) (v : List (List Int)) (r : Int) (q : Option Addr) (d : Nat) (al : List Int) (s : Option Addr) (f : Nat) (ps : List Int) (z : Int) (w : World) (hx : Mat w p c v) (hr64 : in64 r) (hy : Ints w q d al) (hz : Ints w s f ps) (hz64 : in64 z) (hc : chkR v r = 0) (h0 : ¬ 50 < al.length) (h : 50 < ps.length) :
    Calls Try.prog 4 #[.agg #[.slice p v.length c, .int .i64 r], .agg #[.slice q al.length d, .slice s ps.length f, .int .i64 z]] w fun e w' => e = .returned (.bool true) ∧ Below w.heap.size w w' := by
  obtain ⟨Wx, hWx⟩ : ∃ W, w.alloc (.cells #[.slice p v.length c, .int .i64 r] 24) = W := ⟨_, rfl⟩
  obtain ⟨W0, hW0⟩ : ∃ W, Wx.alloc (.cells #[.slice q al.length d, .slice s ps.length f, .int .i64 z] 27) = W := ⟨_, rfl⟩
  have hB1 := below_alloc hWx
  have hB2 := below_alloc hW0
  have bX : BoxV W0 w.heap.size [.slice p v.length c, .int .i64 r] := (BoxV.new rfl hWx).below hB2
  have hs : Wx.heap.size = w.heap.size + 1 := by rw [← hWx]; simp
  have bL : BoxV W0 (w.heap.size + 1) [.slice q al.length d, .slice s ps.length f, .int .i64 z] := BoxV.new hs hW0
  have hB : Below w.heap.size w W0 := hB1.trans (hB2.mono hB1.size)
  have mX := hx.below hB (Nat.le_refl _)
  have mA := hy.below hB (Nat.le_refl _)
  have mP := hz.below hB (Nat.le_refl _)
  have hlx := hx.length_le
  have hly := hy.length_le
  have hlz := hz.length_le
  have HWx := Lib.hid hWx
  have HW0 := Lib.hid hW0
  clear hWx hW0 hB1 hB2 hs hx hy hz
  have hf : fit15 v r = true := by unfold fit15; rw [decide_eq_true_iff]; exact hc
  have hF := fun W (h : Mat W p c v) => fit15_any p c v r W h
  rw [hf] at hF
  have hE := fun W (h : Mat W p c v) => rentFair_any p c v r W h
  have hBd := (chkR_zero.1 hc).1
  obtain ⟨hev, hfr⟩ := lea_vld (g := fairG v) hc (fair_gp hBd)
  have eX0 : bestI v r = bestA v := (lea_parts (g := fairG v) hc).1
  obtain ⟨X, eX⟩ : ∃ x, bestA v = x := ⟨_, rfl⟩
  obtain ⟨Y, eY⟩ : ∃ x, leaY v r (fairG v) = x := ⟨_, rfl⟩
  obtain ⟨Z, eZ⟩ : ∃ x : Nat, leaZ v r (fairG v) = x := ⟨(leaZ v r (fairG v)).toNat, by have := (vld_zero.1 hev).2.2.1; omega⟩
  rw [eX0, eX, eY, eZ, hc] at hE
  rw [eX, eY, eZ] at hev hfr
  have hV1 := fun W q1 d1 s1 f1 (h : Mat W p c v) (h1 : Ints W q1 d1 X) (h2 : Ints W s1 f1 Y) => refValid_any p q1 s1 c d1 f1 v r X Y Z W h h1 h2
  have hV2 := fun W q1 d1 s1 f1 (h : Mat W p c v) (h1 : Ints W q1 d1 X) (h2 : Ints W s1 f1 Y) => free14_any p q1 s1 c d1 f1 v r X Y Z W h h1 h2
  rw [hev] at hV1
  rw [hfr] at hV2
  have hV := fun W (h : Mat W p c v) (h1 : Ints W q d al) (h2 : Ints W s f ps) => refValid_any p q s c d f v r al ps z W h h1 h2
  have hVF := fun W (h : Mat W p c v) (h1 : Ints W q d al) (h2 : Ints W s f ps) => free14_any p q s c d f v r al ps z W h h1 h2
  have HF := Lib.hid hF
  have HE := Lib.hid hE
  have HV1 := Lib.hid hV1
  have HV2 := Lib.hid hV2
  have HBd := Lib.hid hBd
  have Hev := Lib.hid hev
  have HeX := Lib.hid eX
  have HeY := Lib.hid eY
  have HeZ := Lib.hid eZ
  have d0 : decide (50 < (al.length : Int)) = false := by rw [decide_eq_false_iff_not]; omega
  have d1 : decide (50 < (ps.length : Int)) = true := by rw [decide_eq_true_iff]; omega
  clear h hV hVF hc
  clear hF hE hV1 hV2 hf hev hfr hBd eX eY eZ eX0
  go_enter Try.func4, Try.ntmps4
  go_wp2_with fail
  rw [HWx.out, HW0.out]
  refine (alive15_any _).mono ?_
  rintro e w1 ⟨rfl, hb⟩
  replace mX := mX.below hb (Nat.le_refl _)
  replace mA := mA.below hb (Nat.le_refl _)
  replace mP := mP.below hb (Nat.le_refl _)
  replace bX := bX.below hb
  replace bL := bL.below hb
  replace hB := hB.trans (hb.mono hB.size)
  clear hb
  have kbX_0 := bX.cell 0 _ rfl
  have kbX_1 := bX.cell 1 _ rfl
  have lbX := bX.lt
  have kbL_0 := bL.cell 0 _ rfl
  have kbL_1 := bL.cell 1 _ rfl
  have kbL_2 := bL.cell 2 _ rfl
  have lbL := bL.lt
  go_wp2_with fail
  refine (HF.out _ mX).mono ?_
  rintro e w2 ⟨rfl, hb⟩
  clear kbX_0 kbX_1 lbX kbL_0 kbL_1 kbL_2 lbL
  replace mX := mX.below hb (Nat.le_refl _)
  replace mA := mA.below hb (Nat.le_refl _)
  replace mP := mP.below hb (Nat.le_refl _)
  replace bX := bX.below hb
  replace bL := bL.below hb
  replace hB := hB.trans (hb.mono hB.size)
  clear hb
  have kbX_0 := bX.cell 0 _ rfl
  have kbX_1 := bX.cell 1 _ rfl
  have lbX := bX.lt
  have kbL_0 := bL.cell 0 _ rfl
  have kbL_1 := bL.cell 1 _ rfl
  have kbL_2 := bL.cell 2 _ rfl
  have lbL := bL.lt
  go_wp2_with fail
  refine (HE.out _ mX).mono ?_
  rintro e w3 ⟨q1, d1, s1, f1, rfl, i1, i2, hb⟩
  clear kbX_0 kbX_1 lbX kbL_0 kbL_1 kbL_2 lbL
  replace mX := mX.below hb (Nat.le_refl _)
  replace mA := mA.below hb (Nat.le_refl _)
  replace mP := mP.below hb (Nat.le_refl _)
  replace bX := bX.below hb
  replace bL := bL.below hb
  replace hB := hB.trans (hb.mono hB.size)
  clear hb
  obtain ⟨W4, hW4⟩ : ∃ W, w3.alloc (.cells #[.slice q1 X.length d1, .slice s1 Y.length f1, .int .i64 Z] 27) = W := ⟨_, rfl⟩
  have hb : Below w3.heap.size w3 W4 := below_alloc hW4
  have bM : BoxV W4 w3.heap.size [.slice q1 X.length d1, .slice s1 Y.length f1, .int .i64 Z] := BoxV.new rfl hW4
  have HW4 := Lib.hid hW4
  replace mX := mX.below hb (Nat.le_refl _)
  replace mA := mA.below hb (Nat.le_refl _)
  replace mP := mP.below hb (Nat.le_refl _)
  replace bX := bX.below hb
  replace bL := bL.below hb
  replace i1 := i1.below hb (Nat.le_refl _)
  replace i2 := i2.below hb (Nat.le_refl _)
  replace hB := hB.trans (hb.mono hB.size)
  clear hb hW4
  go_upto_region 5 with (fail)
  rw [HW4.out]
  have kbX_0 := bX.cell 0 _ rfl
  have kbX_1 := bX.cell 1 _ rfl
  have lbX := bX.lt
  have kbL_0 := bL.cell 0 _ rfl
  have kbL_1 := bL.cell 1 _ rfl
  have kbL_2 := bL.cell 2 _ rfl
  have lbL := bL.lt
  have kbM_0 := bM.cell 0 _ rfl
  have kbM_1 := bM.cell 1 _ rfl
  have kbM_2 := bM.cell 2 _ rfl
  have lbM := bM.lt
  go_wp2_with fail
  refine (HV1.out _ _ _ _ _ mX i1 i2).mono ?_
  rintro e w5 ⟨rfl, hb⟩
  clear kbX_0 kbX_1 lbX kbL_0 kbL_1 kbL_2 lbL kbM_0 kbM_1 kbM_2 lbM
  replace mX := mX.below hb (Nat.le_refl _)
  replace mA := mA.below hb (Nat.le_refl _)
  replace mP := mP.below hb (Nat.le_refl _)
  replace bX := bX.below hb
  replace bL := bL.below hb
  replace i1 := i1.below hb (Nat.le_refl _)
  replace i2 := i2.below hb (Nat.le_refl _)
  replace bM := bM.below hb
  replace hB := hB.trans (hb.mono hB.size)
  clear hb
  have kbX_0 := bX.cell 0 _ rfl
  have kbX_1 := bX.cell 1 _ rfl
  have lbX := bX.lt
  have kbL_0 := bL.cell 0 _ rfl
  have kbL_1 := bL.cell 1 _ rfl
  have kbL_2 := bL.cell 2 _ rfl
  have lbL := bL.lt
  have kbM_0 := bM.cell 0 _ rfl
  have kbM_1 := bM.cell 1 _ rfl
  have kbM_2 := bM.cell 2 _ rfl
  have lbM := bM.lt
  go_wp2_with fail
  refine (HV2.out _ _ _ _ _ mX i1 i2).mono ?_
  rintro e w6 ⟨rfl, hb⟩
  clear kbX_0 kbX_1 lbX kbL_0 kbL_1 kbL_2 lbL kbM_0 kbM_1 kbM_2 lbM
  replace mX := mX.below hb (Nat.le_refl _)
  replace mA := mA.below hb (Nat.le_refl _)
  replace mP := mP.below hb (Nat.le_refl _)
  replace bX := bX.below hb
  replace bL := bL.below hb
  replace i1 := i1.below hb (Nat.le_refl _)
  replace i2 := i2.below hb (Nat.le_refl _)
  replace bM := bM.below hb
  replace hB := hB.trans (hb.mono hB.size)
  clear hb
  have kbX_0 := bX.cell 0 _ rfl
  have kbX_1 := bX.cell 1 _ rfl
  have lbX := bX.lt
  have kbL_0 := bL.cell 0 _ rfl
  have kbL_1 := bL.cell 1 _ rfl
  have kbL_2 := bL.cell 2 _ rfl
  have lbL := bL.lt
  go_wp2_with fail
  go_ret
  exact ⟨rfl, hB⟩
set_option maxHeartbeats 8000000 in
set_option maxRecDepth 100000 in
theorem rentBest_bad (p : Option Addr) (c : Nat) (v : List (List Int)) (r : Int) (q : Option Addr) (d : Nat) (al : List Int) (s : Option Addr) (f : Nat) (ps : List Int) (z : Int) (w : World) (hx : Mat w p c v) (hr64 : in64 r) (hy : Ints w q d al) (hz : Ints w s f ps) (hz64 : in64 z) (hc : chkR v r = 0) (h0 : ¬ 50 < ps.length) (h1 : ¬ 50 < al.length) (h : vldR v r al ps z ≠ 0) :
    Calls Try.prog 4 #[.agg #[.slice p v.length c, .int .i64 r], .agg #[.slice q al.length d, .slice s ps.length f, .int .i64 z]] w fun e w' => e = .returned (.bool true) ∧ Below w.heap.size w w' := by
  obtain ⟨Wx, hWx⟩ : ∃ W, w.alloc (.cells #[.slice p v.length c, .int .i64 r] 24) = W := ⟨_, rfl⟩
  obtain ⟨W0, hW0⟩ : ∃ W, Wx.alloc (.cells #[.slice q al.length d, .slice s ps.length f, .int .i64 z] 27) = W := ⟨_, rfl⟩
  have hB1 := below_alloc hWx
  have hB2 := below_alloc hW0
  have bX : BoxV W0 w.heap.size [.slice p v.length c, .int .i64 r] := (BoxV.new rfl hWx).below hB2
  have hs : Wx.heap.size = w.heap.size + 1 := by rw [← hWx]; simp
  have bL : BoxV W0 (w.heap.size + 1) [.slice q al.length d, .slice s ps.length f, .int .i64 z] := BoxV.new hs hW0
  have hB : Below w.heap.size w W0 := hB1.trans (hB2.mono hB1.size)
  have mX := hx.below hB (Nat.le_refl _)
  have mA := hy.below hB (Nat.le_refl _)
  have mP := hz.below hB (Nat.le_refl _)
  have hlx := hx.length_le
  have hly := hy.length_le
  have hlz := hz.length_le
  have HWx := Lib.hid hWx
  have HW0 := Lib.hid hW0
  clear hWx hW0 hB1 hB2 hs hx hy hz
  have hf : fit15 v r = true := by unfold fit15; rw [decide_eq_true_iff]; exact hc
  have hF := fun W (h : Mat W p c v) => fit15_any p c v r W h
  rw [hf] at hF
  have hE := fun W (h : Mat W p c v) => rentFair_any p c v r W h
  have hBd := (chkR_zero.1 hc).1
  obtain ⟨hev, hfr⟩ := lea_vld (g := fairG v) hc (fair_gp hBd)
  have eX0 : bestI v r = bestA v := (lea_parts (g := fairG v) hc).1
  obtain ⟨X, eX⟩ : ∃ x, bestA v = x := ⟨_, rfl⟩
  obtain ⟨Y, eY⟩ : ∃ x, leaY v r (fairG v) = x := ⟨_, rfl⟩
  obtain ⟨Z, eZ⟩ : ∃ x : Nat, leaZ v r (fairG v) = x := ⟨(leaZ v r (fairG v)).toNat, by have := (vld_zero.1 hev).2.2.1; omega⟩
  rw [eX0, eX, eY, eZ, hc] at hE
  rw [eX, eY, eZ] at hev hfr
  have hV1 := fun W q1 d1 s1 f1 (h : Mat W p c v) (h1 : Ints W q1 d1 X) (h2 : Ints W s1 f1 Y) => refValid_any p q1 s1 c d1 f1 v r X Y Z W h h1 h2
  have hV2 := fun W q1 d1 s1 f1 (h : Mat W p c v) (h1 : Ints W q1 d1 X) (h2 : Ints W s1 f1 Y) => free14_any p q1 s1 c d1 f1 v r X Y Z W h h1 h2
  rw [hev] at hV1
  rw [hfr] at hV2
  have hV := fun W (h : Mat W p c v) (h1 : Ints W q d al) (h2 : Ints W s f ps) => refValid_any p q s c d f v r al ps z W h h1 h2
  have hVF := fun W (h : Mat W p c v) (h1 : Ints W q d al) (h2 : Ints W s f ps) => free14_any p q s c d f v r al ps z W h h1 h2
  have HF := Lib.hid hF
  have HE := Lib.hid hE
  have HV1 := Lib.hid hV1
  have HV2 := Lib.hid hV2
  have HBd := Lib.hid hBd
  have Hev := Lib.hid hev
  have HeX := Lib.hid eX
  have HeY := Lib.hid eY
  have HeZ := Lib.hid eZ
  have d0 : decide (50 < (ps.length : Int)) = false := by rw [decide_eq_false_iff_not]; omega
  have d1 : decide (50 < (al.length : Int)) = false := by rw [decide_eq_false_iff_not]; omega
  obtain ⟨E, eE⟩ : ∃ x, vldR v r al ps z = x := ⟨_, rfl⟩
  rw [eE] at hV h
  have hd : (E != 0) = true := by rw [bne_iff_ne]; exact h
  have HV := Lib.hid hV
  clear h hV hc eE hVF
  clear hF hE hV1 hV2 hf hev hfr hBd eX eY eZ eX0
  go_enter Try.func4, Try.ntmps4
  go_wp2_with fail
  rw [HWx.out, HW0.out]
  refine (alive15_any _).mono ?_
  rintro e w1 ⟨rfl, hb⟩
  replace mX := mX.below hb (Nat.le_refl _)
  replace mA := mA.below hb (Nat.le_refl _)
  replace mP := mP.below hb (Nat.le_refl _)
  replace bX := bX.below hb
  replace bL := bL.below hb
  replace hB := hB.trans (hb.mono hB.size)
  clear hb
  have kbX_0 := bX.cell 0 _ rfl
  have kbX_1 := bX.cell 1 _ rfl
  have lbX := bX.lt
  have kbL_0 := bL.cell 0 _ rfl
  have kbL_1 := bL.cell 1 _ rfl
  have kbL_2 := bL.cell 2 _ rfl
  have lbL := bL.lt
  go_wp2_with fail
  refine (HF.out _ mX).mono ?_
  rintro e w2 ⟨rfl, hb⟩
  clear kbX_0 kbX_1 lbX kbL_0 kbL_1 kbL_2 lbL
  replace mX := mX.below hb (Nat.le_refl _)
  replace mA := mA.below hb (Nat.le_refl _)
  replace mP := mP.below hb (Nat.le_refl _)
  replace bX := bX.below hb
  replace bL := bL.below hb
  replace hB := hB.trans (hb.mono hB.size)
  clear hb
  have kbX_0 := bX.cell 0 _ rfl
  have kbX_1 := bX.cell 1 _ rfl
  have lbX := bX.lt
  have kbL_0 := bL.cell 0 _ rfl
  have kbL_1 := bL.cell 1 _ rfl
  have kbL_2 := bL.cell 2 _ rfl
  have lbL := bL.lt
  go_wp2_with fail
  refine (HE.out _ mX).mono ?_
  rintro e w3 ⟨q1, d1, s1, f1, rfl, i1, i2, hb⟩
  clear kbX_0 kbX_1 lbX kbL_0 kbL_1 kbL_2 lbL
  replace mX := mX.below hb (Nat.le_refl _)
  replace mA := mA.below hb (Nat.le_refl _)
  replace mP := mP.below hb (Nat.le_refl _)
  replace bX := bX.below hb
  replace bL := bL.below hb
  replace hB := hB.trans (hb.mono hB.size)
  clear hb
  obtain ⟨W4, hW4⟩ : ∃ W, w3.alloc (.cells #[.slice q1 X.length d1, .slice s1 Y.length f1, .int .i64 Z] 27) = W := ⟨_, rfl⟩
  have hb : Below w3.heap.size w3 W4 := below_alloc hW4
  have bM : BoxV W4 w3.heap.size [.slice q1 X.length d1, .slice s1 Y.length f1, .int .i64 Z] := BoxV.new rfl hW4
  have HW4 := Lib.hid hW4
  replace mX := mX.below hb (Nat.le_refl _)
  replace mA := mA.below hb (Nat.le_refl _)
  replace mP := mP.below hb (Nat.le_refl _)
  replace bX := bX.below hb
  replace bL := bL.below hb
  replace i1 := i1.below hb (Nat.le_refl _)
  replace i2 := i2.below hb (Nat.le_refl _)
  replace hB := hB.trans (hb.mono hB.size)
  clear hb hW4
  go_upto_region 5 with (fail)
  rw [HW4.out]
  have kbX_0 := bX.cell 0 _ rfl
  have kbX_1 := bX.cell 1 _ rfl
  have lbX := bX.lt
  have kbL_0 := bL.cell 0 _ rfl
  have kbL_1 := bL.cell 1 _ rfl
  have kbL_2 := bL.cell 2 _ rfl
  have lbL := bL.lt
  have kbM_0 := bM.cell 0 _ rfl
  have kbM_1 := bM.cell 1 _ rfl
  have kbM_2 := bM.cell 2 _ rfl
  have lbM := bM.lt
  go_wp2_with fail
  refine (HV1.out _ _ _ _ _ mX i1 i2).mono ?_
  rintro e w5 ⟨rfl, hb⟩
  clear kbX_0 kbX_1 lbX kbL_0 kbL_1 kbL_2 lbL kbM_0 kbM_1 kbM_2 lbM
  replace mX := mX.below hb (Nat.le_refl _)
  replace mA := mA.below hb (Nat.le_refl _)
  replace mP := mP.below hb (Nat.le_refl _)
  replace bX := bX.below hb
  replace bL := bL.below hb
  replace i1 := i1.below hb (Nat.le_refl _)
  replace i2 := i2.below hb (Nat.le_refl _)
  replace bM := bM.below hb
  replace hB := hB.trans (hb.mono hB.size)
  clear hb
  have kbX_0 := bX.cell 0 _ rfl
  have kbX_1 := bX.cell 1 _ rfl
  have lbX := bX.lt
  have kbL_0 := bL.cell 0 _ rfl
  have kbL_1 := bL.cell 1 _ rfl
  have kbL_2 := bL.cell 2 _ rfl
  have lbL := bL.lt
  have kbM_0 := bM.cell 0 _ rfl
  have kbM_1 := bM.cell 1 _ rfl
  have kbM_2 := bM.cell 2 _ rfl
  have lbM := bM.lt
  go_wp2_with fail
  refine (HV2.out _ _ _ _ _ mX i1 i2).mono ?_
  rintro e w6 ⟨rfl, hb⟩
  clear kbX_0 kbX_1 lbX kbL_0 kbL_1 kbL_2 lbL kbM_0 kbM_1 kbM_2 lbM
  replace mX := mX.below hb (Nat.le_refl _)
  replace mA := mA.below hb (Nat.le_refl _)
  replace mP := mP.below hb (Nat.le_refl _)
  replace bX := bX.below hb
  replace bL := bL.below hb
  replace i1 := i1.below hb (Nat.le_refl _)
  replace i2 := i2.below hb (Nat.le_refl _)
  replace bM := bM.below hb
  replace hB := hB.trans (hb.mono hB.size)
  clear hb
  have kbX_0 := bX.cell 0 _ rfl
  have kbX_1 := bX.cell 1 _ rfl
  have lbX := bX.lt
  have kbL_0 := bL.cell 0 _ rfl
  have kbL_1 := bL.cell 1 _ rfl
  have kbL_2 := bL.cell 2 _ rfl
  have lbL := bL.lt
  go_wp2_with fail
  refine (HV.out _ mX mA mP).mono ?_
  rintro e w8 ⟨rfl, hb⟩
  clear kbX_0 kbX_1 lbX kbL_0 kbL_1 kbL_2 lbL
  replace mX := mX.below hb (Nat.le_refl _)
  replace mA := mA.below hb (Nat.le_refl _)
  replace mP := mP.below hb (Nat.le_refl _)
  replace bX := bX.below hb
  replace bL := bL.below hb
  replace i1 := i1.below hb (Nat.le_refl _)
  replace i2 := i2.below hb (Nat.le_refl _)
  replace bM := bM.below hb
  replace hB := hB.trans (hb.mono hB.size)
  clear hb
  have kbX_0 := bX.cell 0 _ rfl
  have kbX_1 := bX.cell 1 _ rfl
  have lbX := bX.lt
  have kbL_0 := bL.cell 0 _ rfl
  have kbL_1 := bL.cell 1 _ rfl
  have kbL_2 := bL.cell 2 _ rfl
  have lbL := bL.lt
  go_wp2_with fail
  go_ret
  exact ⟨rfl, hB⟩
set_option maxHeartbeats 8000000 in
set_option maxRecDepth 100000 in
theorem rentBest_envy (p : Option Addr) (c : Nat) (v : List (List Int)) (r : Int) (q : Option Addr) (d : Nat) (al : List Int) (s : Option Addr) (f : Nat) (ps : List Int) (z : Int) (w : World) (hx : Mat w p c v) (hr64 : in64 r) (hy : Ints w q d al) (hz : Ints w s f ps) (hz64 : in64 z) (hc : chkR v r = 0) (h0 : ¬ 50 < ps.length) (h1 : ¬ 50 < al.length) (h : vldR v r al ps z = 0) (h2 : freeB v r al ps z = false) :
    Calls Try.prog 4 #[.agg #[.slice p v.length c, .int .i64 r], .agg #[.slice q al.length d, .slice s ps.length f, .int .i64 z]] w fun e w' => e = .returned (.bool true) ∧ Below w.heap.size w w' := by
  obtain ⟨Wx, hWx⟩ : ∃ W, w.alloc (.cells #[.slice p v.length c, .int .i64 r] 24) = W := ⟨_, rfl⟩
  obtain ⟨W0, hW0⟩ : ∃ W, Wx.alloc (.cells #[.slice q al.length d, .slice s ps.length f, .int .i64 z] 27) = W := ⟨_, rfl⟩
  have hB1 := below_alloc hWx
  have hB2 := below_alloc hW0
  have bX : BoxV W0 w.heap.size [.slice p v.length c, .int .i64 r] := (BoxV.new rfl hWx).below hB2
  have hs : Wx.heap.size = w.heap.size + 1 := by rw [← hWx]; simp
  have bL : BoxV W0 (w.heap.size + 1) [.slice q al.length d, .slice s ps.length f, .int .i64 z] := BoxV.new hs hW0
  have hB : Below w.heap.size w W0 := hB1.trans (hB2.mono hB1.size)
  have mX := hx.below hB (Nat.le_refl _)
  have mA := hy.below hB (Nat.le_refl _)
  have mP := hz.below hB (Nat.le_refl _)
  have hlx := hx.length_le
  have hly := hy.length_le
  have hlz := hz.length_le
  have HWx := Lib.hid hWx
  have HW0 := Lib.hid hW0
  clear hWx hW0 hB1 hB2 hs hx hy hz
  have hf : fit15 v r = true := by unfold fit15; rw [decide_eq_true_iff]; exact hc
  have hF := fun W (h : Mat W p c v) => fit15_any p c v r W h
  rw [hf] at hF
  have hE := fun W (h : Mat W p c v) => rentFair_any p c v r W h
  have hBd := (chkR_zero.1 hc).1
  obtain ⟨hev, hfr⟩ := lea_vld (g := fairG v) hc (fair_gp hBd)
  have eX0 : bestI v r = bestA v := (lea_parts (g := fairG v) hc).1
  obtain ⟨X, eX⟩ : ∃ x, bestA v = x := ⟨_, rfl⟩
  obtain ⟨Y, eY⟩ : ∃ x, leaY v r (fairG v) = x := ⟨_, rfl⟩
  obtain ⟨Z, eZ⟩ : ∃ x : Nat, leaZ v r (fairG v) = x := ⟨(leaZ v r (fairG v)).toNat, by have := (vld_zero.1 hev).2.2.1; omega⟩
  rw [eX0, eX, eY, eZ, hc] at hE
  rw [eX, eY, eZ] at hev hfr
  have hV1 := fun W q1 d1 s1 f1 (h : Mat W p c v) (h1 : Ints W q1 d1 X) (h2 : Ints W s1 f1 Y) => refValid_any p q1 s1 c d1 f1 v r X Y Z W h h1 h2
  have hV2 := fun W q1 d1 s1 f1 (h : Mat W p c v) (h1 : Ints W q1 d1 X) (h2 : Ints W s1 f1 Y) => free14_any p q1 s1 c d1 f1 v r X Y Z W h h1 h2
  rw [hev] at hV1
  rw [hfr] at hV2
  have hV := fun W (h : Mat W p c v) (h1 : Ints W q d al) (h2 : Ints W s f ps) => refValid_any p q s c d f v r al ps z W h h1 h2
  have hVF := fun W (h : Mat W p c v) (h1 : Ints W q d al) (h2 : Ints W s f ps) => free14_any p q s c d f v r al ps z W h h1 h2
  have HF := Lib.hid hF
  have HE := Lib.hid hE
  have HV1 := Lib.hid hV1
  have HV2 := Lib.hid hV2
  have HBd := Lib.hid hBd
  have Hev := Lib.hid hev
  have HeX := Lib.hid eX
  have HeY := Lib.hid eY
  have HeZ := Lib.hid eZ
  have d0 : decide (50 < (ps.length : Int)) = false := by rw [decide_eq_false_iff_not]; omega
  have d1 : decide (50 < (al.length : Int)) = false := by rw [decide_eq_false_iff_not]; omega
  rw [h] at hV
  rw [h2] at hVF
  have HV := Lib.hid hV
  have HVF := Lib.hid hVF
  clear h hV hc h2 hVF
  clear hF hE hV1 hV2 hf hev hfr hBd eX eY eZ eX0
  go_enter Try.func4, Try.ntmps4
  go_wp2_with fail
  rw [HWx.out, HW0.out]
  refine (alive15_any _).mono ?_
  rintro e w1 ⟨rfl, hb⟩
  replace mX := mX.below hb (Nat.le_refl _)
  replace mA := mA.below hb (Nat.le_refl _)
  replace mP := mP.below hb (Nat.le_refl _)
  replace bX := bX.below hb
  replace bL := bL.below hb
  replace hB := hB.trans (hb.mono hB.size)
  clear hb
  have kbX_0 := bX.cell 0 _ rfl
  have kbX_1 := bX.cell 1 _ rfl
  have lbX := bX.lt
  have kbL_0 := bL.cell 0 _ rfl
  have kbL_1 := bL.cell 1 _ rfl
  have kbL_2 := bL.cell 2 _ rfl
  have lbL := bL.lt
  go_wp2_with fail
  refine (HF.out _ mX).mono ?_
  rintro e w2 ⟨rfl, hb⟩
  clear kbX_0 kbX_1 lbX kbL_0 kbL_1 kbL_2 lbL
  replace mX := mX.below hb (Nat.le_refl _)
  replace mA := mA.below hb (Nat.le_refl _)
  replace mP := mP.below hb (Nat.le_refl _)
  replace bX := bX.below hb
  replace bL := bL.below hb
  replace hB := hB.trans (hb.mono hB.size)
  clear hb
  have kbX_0 := bX.cell 0 _ rfl
  have kbX_1 := bX.cell 1 _ rfl
  have lbX := bX.lt
  have kbL_0 := bL.cell 0 _ rfl
  have kbL_1 := bL.cell 1 _ rfl
  have kbL_2 := bL.cell 2 _ rfl
  have lbL := bL.lt
  go_wp2_with fail
  refine (HE.out _ mX).mono ?_
  rintro e w3 ⟨q1, d1, s1, f1, rfl, i1, i2, hb⟩
  clear kbX_0 kbX_1 lbX kbL_0 kbL_1 kbL_2 lbL
  replace mX := mX.below hb (Nat.le_refl _)
  replace mA := mA.below hb (Nat.le_refl _)
  replace mP := mP.below hb (Nat.le_refl _)
  replace bX := bX.below hb
  replace bL := bL.below hb
  replace hB := hB.trans (hb.mono hB.size)
  clear hb
  obtain ⟨W4, hW4⟩ : ∃ W, w3.alloc (.cells #[.slice q1 X.length d1, .slice s1 Y.length f1, .int .i64 Z] 27) = W := ⟨_, rfl⟩
  have hb : Below w3.heap.size w3 W4 := below_alloc hW4
  have bM : BoxV W4 w3.heap.size [.slice q1 X.length d1, .slice s1 Y.length f1, .int .i64 Z] := BoxV.new rfl hW4
  have HW4 := Lib.hid hW4
  replace mX := mX.below hb (Nat.le_refl _)
  replace mA := mA.below hb (Nat.le_refl _)
  replace mP := mP.below hb (Nat.le_refl _)
  replace bX := bX.below hb
  replace bL := bL.below hb
  replace i1 := i1.below hb (Nat.le_refl _)
  replace i2 := i2.below hb (Nat.le_refl _)
  replace hB := hB.trans (hb.mono hB.size)
  clear hb hW4
  go_upto_region 5 with (fail)
  rw [HW4.out]
  have kbX_0 := bX.cell 0 _ rfl
  have kbX_1 := bX.cell 1 _ rfl
  have lbX := bX.lt
  have kbL_0 := bL.cell 0 _ rfl
  have kbL_1 := bL.cell 1 _ rfl
  have kbL_2 := bL.cell 2 _ rfl
  have lbL := bL.lt
  have kbM_0 := bM.cell 0 _ rfl
  have kbM_1 := bM.cell 1 _ rfl
  have kbM_2 := bM.cell 2 _ rfl
  have lbM := bM.lt
  go_wp2_with fail
  refine (HV1.out _ _ _ _ _ mX i1 i2).mono ?_
  rintro e w5 ⟨rfl, hb⟩
  clear kbX_0 kbX_1 lbX kbL_0 kbL_1 kbL_2 lbL kbM_0 kbM_1 kbM_2 lbM
  replace mX := mX.below hb (Nat.le_refl _)
  replace mA := mA.below hb (Nat.le_refl _)
  replace mP := mP.below hb (Nat.le_refl _)
  replace bX := bX.below hb
  replace bL := bL.below hb
  replace i1 := i1.below hb (Nat.le_refl _)
  replace i2 := i2.below hb (Nat.le_refl _)
  replace bM := bM.below hb
  replace hB := hB.trans (hb.mono hB.size)
  clear hb
  have kbX_0 := bX.cell 0 _ rfl
  have kbX_1 := bX.cell 1 _ rfl
  have lbX := bX.lt
  have kbL_0 := bL.cell 0 _ rfl
  have kbL_1 := bL.cell 1 _ rfl
  have kbL_2 := bL.cell 2 _ rfl
  have lbL := bL.lt
  have kbM_0 := bM.cell 0 _ rfl
  have kbM_1 := bM.cell 1 _ rfl
  have kbM_2 := bM.cell 2 _ rfl
  have lbM := bM.lt
  go_wp2_with fail
  refine (HV2.out _ _ _ _ _ mX i1 i2).mono ?_
  rintro e w6 ⟨rfl, hb⟩
  clear kbX_0 kbX_1 lbX kbL_0 kbL_1 kbL_2 lbL kbM_0 kbM_1 kbM_2 lbM
  replace mX := mX.below hb (Nat.le_refl _)
  replace mA := mA.below hb (Nat.le_refl _)
  replace mP := mP.below hb (Nat.le_refl _)
  replace bX := bX.below hb
  replace bL := bL.below hb
  replace i1 := i1.below hb (Nat.le_refl _)
  replace i2 := i2.below hb (Nat.le_refl _)
  replace bM := bM.below hb
  replace hB := hB.trans (hb.mono hB.size)
  clear hb
  have kbX_0 := bX.cell 0 _ rfl
  have kbX_1 := bX.cell 1 _ rfl
  have lbX := bX.lt
  have kbL_0 := bL.cell 0 _ rfl
  have kbL_1 := bL.cell 1 _ rfl
  have kbL_2 := bL.cell 2 _ rfl
  have lbL := bL.lt
  go_wp2_with fail
  refine (HV.out _ mX mA mP).mono ?_
  rintro e w8 ⟨rfl, hb⟩
  clear kbX_0 kbX_1 lbX kbL_0 kbL_1 kbL_2 lbL
  replace mX := mX.below hb (Nat.le_refl _)
  replace mA := mA.below hb (Nat.le_refl _)
  replace mP := mP.below hb (Nat.le_refl _)
  replace bX := bX.below hb
  replace bL := bL.below hb
  replace i1 := i1.below hb (Nat.le_refl _)
  replace i2 := i2.below hb (Nat.le_refl _)
  replace bM := bM.below hb
  replace hB := hB.trans (hb.mono hB.size)
  clear hb
  have kbX_0 := bX.cell 0 _ rfl
  have kbX_1 := bX.cell 1 _ rfl
  have lbX := bX.lt
  have kbL_0 := bL.cell 0 _ rfl
  have kbL_1 := bL.cell 1 _ rfl
  have kbL_2 := bL.cell 2 _ rfl
  have lbL := bL.lt
  go_wp2_with fail
  refine (HVF.out _ mX mA mP).mono ?_
  rintro e w9 ⟨rfl, hb⟩
  clear kbX_0 kbX_1 lbX kbL_0 kbL_1 kbL_2 lbL
  replace mX := mX.below hb (Nat.le_refl _)
  replace mA := mA.below hb (Nat.le_refl _)
  replace mP := mP.below hb (Nat.le_refl _)
  replace bX := bX.below hb
  replace bL := bL.below hb
  replace i1 := i1.below hb (Nat.le_refl _)
  replace i2 := i2.below hb (Nat.le_refl _)
  replace bM := bM.below hb
  replace hB := hB.trans (hb.mono hB.size)
  clear hb
  have kbX_0 := bX.cell 0 _ rfl
  have kbX_1 := bX.cell 1 _ rfl
  have lbX := bX.lt
  have kbL_0 := bL.cell 0 _ rfl
  have kbL_1 := bL.cell 1 _ rfl
  have kbL_2 := bL.cell 2 _ rfl
  have lbL := bL.lt
  go_wp2_with fail
  go_ret
  exact ⟨rfl, hB⟩
set_option maxHeartbeats 8000000 in
set_option maxRecDepth 100000 in
theorem rentBest_main (p : Option Addr) (c : Nat) (v : List (List Int)) (r : Int) (q : Option Addr) (d : Nat) (al : List Int) (s : Option Addr) (f : Nat) (ps : List Int) (z : Int) (w : World) (hx : Mat w p c v) (hr64 : in64 r) (hy : Ints w q d al) (hz : Ints w s f ps) (hz64 : in64 z) (hc : chkR v r = 0) (h0 : ¬ 50 < ps.length) (h1 : ¬ 50 < al.length) (h : vldR v r al ps z = 0) (h2 : freeB v r al ps z = true) :
    Calls Try.prog 4 #[.agg #[.slice p v.length c, .int .i64 r], .agg #[.slice q al.length d, .slice s ps.length f, .int .i64 z]] w fun e w' => e = .returned (.bool true) ∧ Below w.heap.size w w' := by
  obtain ⟨Wx, hWx⟩ : ∃ W, w.alloc (.cells #[.slice p v.length c, .int .i64 r] 24) = W := ⟨_, rfl⟩
  obtain ⟨W0, hW0⟩ : ∃ W, Wx.alloc (.cells #[.slice q al.length d, .slice s ps.length f, .int .i64 z] 27) = W := ⟨_, rfl⟩
  have hB1 := below_alloc hWx
  have hB2 := below_alloc hW0
  have bX : BoxV W0 w.heap.size [.slice p v.length c, .int .i64 r] := (BoxV.new rfl hWx).below hB2
  have hs : Wx.heap.size = w.heap.size + 1 := by rw [← hWx]; simp
  have bL : BoxV W0 (w.heap.size + 1) [.slice q al.length d, .slice s ps.length f, .int .i64 z] := BoxV.new hs hW0
  have hB : Below w.heap.size w W0 := hB1.trans (hB2.mono hB1.size)
  have mX := hx.below hB (Nat.le_refl _)
  have mA := hy.below hB (Nat.le_refl _)
  have mP := hz.below hB (Nat.le_refl _)
  have hlx := hx.length_le
  have hly := hy.length_le
  have hlz := hz.length_le
  have HWx := Lib.hid hWx
  have HW0 := Lib.hid hW0
  clear hWx hW0 hB1 hB2 hs hx hy hz
  have hf : fit15 v r = true := by unfold fit15; rw [decide_eq_true_iff]; exact hc
  have hF := fun W (h : Mat W p c v) => fit15_any p c v r W h
  rw [hf] at hF
  have hE := fun W (h : Mat W p c v) => rentFair_any p c v r W h
  have hBd := (chkR_zero.1 hc).1
  obtain ⟨hev, hfr⟩ := lea_vld (g := fairG v) hc (fair_gp hBd)
  have eX0 : bestI v r = bestA v := (lea_parts (g := fairG v) hc).1
  obtain ⟨X, eX⟩ : ∃ x, bestA v = x := ⟨_, rfl⟩
  obtain ⟨Y, eY⟩ : ∃ x, leaY v r (fairG v) = x := ⟨_, rfl⟩
  obtain ⟨Z, eZ⟩ : ∃ x : Nat, leaZ v r (fairG v) = x := ⟨(leaZ v r (fairG v)).toNat, by have := (vld_zero.1 hev).2.2.1; omega⟩
  rw [eX0, eX, eY, eZ, hc] at hE
  rw [eX, eY, eZ] at hev hfr
  have hV1 := fun W q1 d1 s1 f1 (h : Mat W p c v) (h1 : Ints W q1 d1 X) (h2 : Ints W s1 f1 Y) => refValid_any p q1 s1 c d1 f1 v r X Y Z W h h1 h2
  have hV2 := fun W q1 d1 s1 f1 (h : Mat W p c v) (h1 : Ints W q1 d1 X) (h2 : Ints W s1 f1 Y) => free14_any p q1 s1 c d1 f1 v r X Y Z W h h1 h2
  rw [hev] at hV1
  rw [hfr] at hV2
  have hV := fun W (h : Mat W p c v) (h1 : Ints W q d al) (h2 : Ints W s f ps) => refValid_any p q s c d f v r al ps z W h h1 h2
  have hVF := fun W (h : Mat W p c v) (h1 : Ints W q d al) (h2 : Ints W s f ps) => free14_any p q s c d f v r al ps z W h h1 h2
  have HF := Lib.hid hF
  have HE := Lib.hid hE
  have HV1 := Lib.hid hV1
  have HV2 := Lib.hid hV2
  have HBd := Lib.hid hBd
  have Hev := Lib.hid hev
  have HeX := Lib.hid eX
  have HeY := Lib.hid eY
  have HeZ := Lib.hid eZ
  have d0 : decide (50 < (ps.length : Int)) = false := by rw [decide_eq_false_iff_not]; omega
  have d1 : decide (50 < (al.length : Int)) = false := by rw [decide_eq_false_iff_not]; omega
  have hz1 := (vld_zero.1 h).2.2.1
  have hz2 := (vld_zero.1 h).2.2.2.1
  obtain ⟨zn, rfl⟩ : ∃ x : Nat, z = x := ⟨z.toNat, by omega⟩
  have hZ1 := (vld_zero.1 hev).2.2.1
  have hZ2 := (vld_zero.1 hev).2.2.2.1
  have HEF := Lib.hid (freeB_ef h2).2
  rw [h] at hV
  rw [h2] at hVF
  have HV := Lib.hid hV
  have HVF := Lib.hid hVF
  have hWm := fun W q1 d1 s1 f1 (hm : Mat W p c v) (h1 : Ints W q1 d1 X) (h2 : Ints W s1 f1 Y) => worst_ok p q1 s1 c d1 f1 v r X Y Z W hm h1 h2 hev
  have hWl := fun W (hm : Mat W p c v) (h1 : Ints W q d al) (h2 : Ints W s f ps) => worst_ok p q s c d f v r al ps zn W hm h1 h2 h
  obtain ⟨⟨lm1, lm2⟩, _, _⟩ := loG_spec hev
  obtain ⟨⟨hm1, hm2⟩, _, _⟩ := hiG_spec hev
  obtain ⟨⟨ll1, ll2⟩, _, _⟩ := loG_spec h
  obtain ⟨⟨hl1, hl2⟩, _, _⟩ := hiG_spec h
  have hlaw := best_law h HEF.out eZ
  rw [eX, eY] at hlaw
  have hless := fun W => lessRat_any (loG v X Y Z) (loG v al ps zn) Z zn W (by omega) (by omega) (by omega) (by omega)
  rw [show decide (loG v X Y Z * (zn : Int) < loG v al ps zn * Z) = false by rw [decide_eq_false_iff_not]; have := hlaw.1; omega] at hless
  have hsame := fun a b => hlaw.2 (rat_same (x := loG v al ps zn) (y := loG v X Y Z) (d := zn) (e := Z) (by omega) (by omega) a b)
  have Hgm := Lib.hid (good_of hev)
  have Hgl := Lib.hid (good_of h)
  generalize loG v X Y Z = x1 at *
  generalize hiG v X Y Z = x2 at *
  generalize loG v al ps zn = y1 at *
  generalize hiG v al ps zn = y2 at *
  obtain ⟨A1, hA1⟩ : ∃ x, rN x1 Z = x := ⟨_, rfl⟩
  obtain ⟨A2, hA2⟩ : ∃ x, rD x1 Z = x := ⟨_, rfl⟩
  obtain ⟨B1, hB1⟩ : ∃ x, rN x2 Z = x := ⟨_, rfl⟩
  obtain ⟨B2, hB2⟩ : ∃ x, rD x2 Z = x := ⟨_, rfl⟩
  obtain ⟨C1, hC1⟩ : ∃ x, rN y1 zn = x := ⟨_, rfl⟩
  obtain ⟨C2, hC2⟩ : ∃ x, rD y1 zn = x := ⟨_, rfl⟩
  obtain ⟨D1, hD1⟩ : ∃ x, rN y2 zn = x := ⟨_, rfl⟩
  obtain ⟨D2, hD2⟩ : ∃ x, rD y2 zn = x := ⟨_, rfl⟩
  rw [hA1, hA2, hB1, hB2] at hWm
  rw [hC1, hC2, hD1, hD2] at hWl
  rw [hA1, hA2, hC1, hC2] at hless
  rw [hA1, hA2, hC1, hC2] at hsame
  have HWm := Lib.hid hWm
  have HWl := Lib.hid hWl
  have HLe := Lib.hid hless
  have HSa := Lib.hid hsame
  have h6 := HBd.out.2.1
  have hv0 := HBd.out.1
  clear h hV hc h2 hVF hWm hWl hless hlaw hA1 hA2 hB1 hB2 hC1 hC2 hD1 hD2 lm1 lm2 hm1 hm2 ll1 ll2 hl1 hl2 hsame
  clear hF hE hV1 hV2 hf hev hfr hBd eX eY eZ eX0
  go_enter Try.func4, Try.ntmps4
  go_wp2_with fail
  rw [HWx.out, HW0.out]
  refine (alive15_any _).mono ?_
  rintro e w1 ⟨rfl, hb⟩
  replace mX := mX.below hb (Nat.le_refl _)
  replace mA := mA.below hb (Nat.le_refl _)
  replace mP := mP.below hb (Nat.le_refl _)
  replace bX := bX.below hb
  replace bL := bL.below hb
  replace hB := hB.trans (hb.mono hB.size)
  clear hb
  have kbX_0 := bX.cell 0 _ rfl
  have kbX_1 := bX.cell 1 _ rfl
  have lbX := bX.lt
  have kbL_0 := bL.cell 0 _ rfl
  have kbL_1 := bL.cell 1 _ rfl
  have kbL_2 := bL.cell 2 _ rfl
  have lbL := bL.lt
  go_wp2_with fail
  refine (HF.out _ mX).mono ?_
  rintro e w2 ⟨rfl, hb⟩
  clear kbX_0 kbX_1 lbX kbL_0 kbL_1 kbL_2 lbL
  replace mX := mX.below hb (Nat.le_refl _)
  replace mA := mA.below hb (Nat.le_refl _)
  replace mP := mP.below hb (Nat.le_refl _)
  replace bX := bX.below hb
  replace bL := bL.below hb
  replace hB := hB.trans (hb.mono hB.size)
  clear hb
  have kbX_0 := bX.cell 0 _ rfl
  have kbX_1 := bX.cell 1 _ rfl
  have lbX := bX.lt
  have kbL_0 := bL.cell 0 _ rfl
  have kbL_1 := bL.cell 1 _ rfl
  have kbL_2 := bL.cell 2 _ rfl
  have lbL := bL.lt
  go_wp2_with fail
  refine (HE.out _ mX).mono ?_
  rintro e w3 ⟨q1, d1, s1, f1, rfl, i1, i2, hb⟩
  clear kbX_0 kbX_1 lbX kbL_0 kbL_1 kbL_2 lbL
  replace mX := mX.below hb (Nat.le_refl _)
  replace mA := mA.below hb (Nat.le_refl _)
  replace mP := mP.below hb (Nat.le_refl _)
  replace bX := bX.below hb
  replace bL := bL.below hb
  replace hB := hB.trans (hb.mono hB.size)
  clear hb
  obtain ⟨W4, hW4⟩ : ∃ W, w3.alloc (.cells #[.slice q1 X.length d1, .slice s1 Y.length f1, .int .i64 Z] 27) = W := ⟨_, rfl⟩
  have hb : Below w3.heap.size w3 W4 := below_alloc hW4
  have bM : BoxV W4 w3.heap.size [.slice q1 X.length d1, .slice s1 Y.length f1, .int .i64 Z] := BoxV.new rfl hW4
  have HW4 := Lib.hid hW4
  replace mX := mX.below hb (Nat.le_refl _)
  replace mA := mA.below hb (Nat.le_refl _)
  replace mP := mP.below hb (Nat.le_refl _)
  replace bX := bX.below hb
  replace bL := bL.below hb
  replace i1 := i1.below hb (Nat.le_refl _)
  replace i2 := i2.below hb (Nat.le_refl _)
  replace hB := hB.trans (hb.mono hB.size)
  clear hb hW4
  go_upto_region 5 with (fail)
  rw [HW4.out]
  have kbX_0 := bX.cell 0 _ rfl
  have kbX_1 := bX.cell 1 _ rfl
  have lbX := bX.lt
  have kbL_0 := bL.cell 0 _ rfl
  have kbL_1 := bL.cell 1 _ rfl
  have kbL_2 := bL.cell 2 _ rfl
  have lbL := bL.lt
  have kbM_0 := bM.cell 0 _ rfl
  have kbM_1 := bM.cell 1 _ rfl
  have kbM_2 := bM.cell 2 _ rfl
  have lbM := bM.lt
  go_wp2_with fail
  refine (HV1.out _ _ _ _ _ mX i1 i2).mono ?_
  rintro e w5 ⟨rfl, hb⟩
  clear kbX_0 kbX_1 lbX kbL_0 kbL_1 kbL_2 lbL kbM_0 kbM_1 kbM_2 lbM
  replace mX := mX.below hb (Nat.le_refl _)
  replace mA := mA.below hb (Nat.le_refl _)
  replace mP := mP.below hb (Nat.le_refl _)
  replace bX := bX.below hb
  replace bL := bL.below hb
  replace i1 := i1.below hb (Nat.le_refl _)
  replace i2 := i2.below hb (Nat.le_refl _)
  replace bM := bM.below hb
  replace hB := hB.trans (hb.mono hB.size)
  clear hb
  have kbX_0 := bX.cell 0 _ rfl
  have kbX_1 := bX.cell 1 _ rfl
  have lbX := bX.lt
  have kbL_0 := bL.cell 0 _ rfl
  have kbL_1 := bL.cell 1 _ rfl
  have kbL_2 := bL.cell 2 _ rfl
  have lbL := bL.lt
  have kbM_0 := bM.cell 0 _ rfl
  have kbM_1 := bM.cell 1 _ rfl
  have kbM_2 := bM.cell 2 _ rfl
  have lbM := bM.lt
  go_wp2_with fail
  refine (HV2.out _ _ _ _ _ mX i1 i2).mono ?_
  rintro e w6 ⟨rfl, hb⟩
  clear kbX_0 kbX_1 lbX kbL_0 kbL_1 kbL_2 lbL kbM_0 kbM_1 kbM_2 lbM
  replace mX := mX.below hb (Nat.le_refl _)
  replace mA := mA.below hb (Nat.le_refl _)
  replace mP := mP.below hb (Nat.le_refl _)
  replace bX := bX.below hb
  replace bL := bL.below hb
  replace i1 := i1.below hb (Nat.le_refl _)
  replace i2 := i2.below hb (Nat.le_refl _)
  replace bM := bM.below hb
  replace hB := hB.trans (hb.mono hB.size)
  clear hb
  have kbX_0 := bX.cell 0 _ rfl
  have kbX_1 := bX.cell 1 _ rfl
  have lbX := bX.lt
  have kbL_0 := bL.cell 0 _ rfl
  have kbL_1 := bL.cell 1 _ rfl
  have kbL_2 := bL.cell 2 _ rfl
  have lbL := bL.lt
  go_wp2_with fail
  refine (HV.out _ mX mA mP).mono ?_
  rintro e w8 ⟨rfl, hb⟩
  clear kbX_0 kbX_1 lbX kbL_0 kbL_1 kbL_2 lbL
  replace mX := mX.below hb (Nat.le_refl _)
  replace mA := mA.below hb (Nat.le_refl _)
  replace mP := mP.below hb (Nat.le_refl _)
  replace bX := bX.below hb
  replace bL := bL.below hb
  replace i1 := i1.below hb (Nat.le_refl _)
  replace i2 := i2.below hb (Nat.le_refl _)
  replace bM := bM.below hb
  replace hB := hB.trans (hb.mono hB.size)
  clear hb
  have kbX_0 := bX.cell 0 _ rfl
  have kbX_1 := bX.cell 1 _ rfl
  have lbX := bX.lt
  have kbL_0 := bL.cell 0 _ rfl
  have kbL_1 := bL.cell 1 _ rfl
  have kbL_2 := bL.cell 2 _ rfl
  have lbL := bL.lt
  go_wp2_with fail
  refine (HVF.out _ mX mA mP).mono ?_
  rintro e w9 ⟨rfl, hb⟩
  clear kbX_0 kbX_1 lbX kbL_0 kbL_1 kbL_2 lbL
  replace mX := mX.below hb (Nat.le_refl _)
  replace mA := mA.below hb (Nat.le_refl _)
  replace mP := mP.below hb (Nat.le_refl _)
  replace bX := bX.below hb
  replace bL := bL.below hb
  replace i1 := i1.below hb (Nat.le_refl _)
  replace i2 := i2.below hb (Nat.le_refl _)
  replace bM := bM.below hb
  replace hB := hB.trans (hb.mono hB.size)
  clear hb
  have kbX_0 := bX.cell 0 _ rfl
  have kbX_1 := bX.cell 1 _ rfl
  have lbX := bX.lt
  have kbL_0 := bL.cell 0 _ rfl
  have kbL_1 := bL.cell 1 _ rfl
  have kbL_2 := bL.cell 2 _ rfl
  have lbL := bL.lt
  have kbM_0 := bM.cell 0 _ rfl
  have kbM_1 := bM.cell 1 _ rfl
  have kbM_2 := bM.cell 2 _ rfl
  have lbM := bM.lt
  go_wp2_with fail
  refine (HWm.out _ _ _ _ _ mX i1 i2).mono ?_
  rintro e wa ⟨rfl, hb⟩
  clear kbX_0 kbX_1 lbX kbL_0 kbL_1 kbL_2 lbL kbM_0 kbM_1 kbM_2 lbM
  replace mX := mX.below hb (Nat.le_refl _)
  replace mA := mA.below hb (Nat.le_refl _)
  replace mP := mP.below hb (Nat.le_refl _)
  replace bX := bX.below hb
  replace bL := bL.below hb
  replace i1 := i1.below hb (Nat.le_refl _)
  replace i2 := i2.below hb (Nat.le_refl _)
  replace bM := bM.below hb
  replace hB := hB.trans (hb.mono hB.size)
  clear hb
  obtain ⟨Wba, hWba⟩ : ∃ W, wa.alloc (.cells #[.int .i64 A1, .int .i64 A2] 32) = W := ⟨_, rfl⟩
  obtain ⟨Wb, hWb⟩ : ∃ W, Wba.alloc (.cells #[.int .i64 B1, .int .i64 B2] 32) = W := ⟨_, rfl⟩
  have hb1 := below_alloc hWba
  have hb2 := below_alloc hWb
  have hs1 : Wba.heap.size = wa.heap.size + 1 := by rw [← hWba]; simp
  have bA : BoxV Wb wa.heap.size [.int .i64 A1, .int .i64 A2] := (BoxV.new rfl hWba).below hb2
  have bB : BoxV Wb (wa.heap.size + 1) [.int .i64 B1, .int .i64 B2] := BoxV.new hs1 hWb
  have hb : Below wa.heap.size wa Wb := hb1.trans (hb2.mono hb1.size)
  have HWba := Lib.hid hWba
  have HWb := Lib.hid hWb
  replace mX := mX.below hb (Nat.le_refl _)
  replace mA := mA.below hb (Nat.le_refl _)
  replace mP := mP.below hb (Nat.le_refl _)
  replace bX := bX.below hb
  replace bL := bL.below hb
  replace i1 := i1.below hb (Nat.le_refl _)
  replace i2 := i2.below hb (Nat.le_refl _)
  replace bM := bM.below hb
  replace hB := hB.trans (hb.mono hB.size)
  clear hb hb1 hb2 hs1 hWba hWb
  go_upto_region 10 with (fail)
  rw [HWba.out, HWb.out]
  have kbX_0 := bX.cell 0 _ rfl
  have kbX_1 := bX.cell 1 _ rfl
  have lbX := bX.lt
  have kbL_0 := bL.cell 0 _ rfl
  have kbL_1 := bL.cell 1 _ rfl
  have kbL_2 := bL.cell 2 _ rfl
  have lbL := bL.lt
  go_wp2_with fail
  refine (HWl.out _ mX mA mP).mono ?_
  rintro e wc ⟨rfl, hb⟩
  clear kbX_0 kbX_1 lbX kbL_0 kbL_1 kbL_2 lbL
  replace mX := mX.below hb (Nat.le_refl _)
  replace mA := mA.below hb (Nat.le_refl _)
  replace mP := mP.below hb (Nat.le_refl _)
  replace bX := bX.below hb
  replace bL := bL.below hb
  replace i1 := i1.below hb (Nat.le_refl _)
  replace i2 := i2.below hb (Nat.le_refl _)
  replace bM := bM.below hb
  replace bA := bA.below hb
  replace bB := bB.below hb
  replace hB := hB.trans (hb.mono hB.size)
  clear hb
  obtain ⟨Wda, hWda⟩ : ∃ W, wc.alloc (.cells #[.int .i64 C1, .int .i64 C2] 32) = W := ⟨_, rfl⟩
  obtain ⟨Wd, hWd⟩ : ∃ W, Wda.alloc (.cells #[.int .i64 D1, .int .i64 D2] 32) = W := ⟨_, rfl⟩
  have hb1 := below_alloc hWda
  have hb2 := below_alloc hWd
  have hs1 : Wda.heap.size = wc.heap.size + 1 := by rw [← hWda]; simp
  have bC : BoxV Wd wc.heap.size [.int .i64 C1, .int .i64 C2] := (BoxV.new rfl hWda).below hb2
  have bD : BoxV Wd (wc.heap.size + 1) [.int .i64 D1, .int .i64 D2] := BoxV.new hs1 hWd
  have hb : Below wc.heap.size wc Wd := hb1.trans (hb2.mono hb1.size)
  have HWda := Lib.hid hWda
  have HWd := Lib.hid hWd
  replace mX := mX.below hb (Nat.le_refl _)
  replace mA := mA.below hb (Nat.le_refl _)
  replace mP := mP.below hb (Nat.le_refl _)
  replace bX := bX.below hb
  replace bL := bL.below hb
  replace i1 := i1.below hb (Nat.le_refl _)
  replace i2 := i2.below hb (Nat.le_refl _)
  replace bM := bM.below hb
  replace bA := bA.below hb
  replace bB := bB.below hb
  replace hB := hB.trans (hb.mono hB.size)
  clear hb hb1 hb2 hs1 hWda hWd
  go_upto_region 11 with (fail)
  rw [HWda.out, HWd.out]
  have kbA_0 := bA.cell 0 _ rfl
  have kbA_1 := bA.cell 1 _ rfl
  have lbA := bA.lt
  have kbB_0 := bB.cell 0 _ rfl
  have kbB_1 := bB.cell 1 _ rfl
  have lbB := bB.lt
  have kbC_0 := bC.cell 0 _ rfl
  have kbC_1 := bC.cell 1 _ rfl
  have lbC := bC.lt
  have kbD_0 := bD.cell 0 _ rfl
  have kbD_1 := bD.cell 1 _ rfl
  have lbD := bD.lt
  go_wp2_with fail
  refine (HLe.out _).mono ?_
  rintro e we ⟨rfl, hb⟩
  clear kbA_0 kbA_1 lbA kbB_0 kbB_1 lbB kbC_0 kbC_1 lbC kbD_0 kbD_1 lbD
  replace mX := mX.below hb (Nat.le_refl _)
  replace mA := mA.below hb (Nat.le_refl _)
  replace mP := mP.below hb (Nat.le_refl _)
  replace bX := bX.below hb
  replace bL := bL.below hb
  replace i1 := i1.below hb (Nat.le_refl _)
  replace i2 := i2.below hb (Nat.le_refl _)
  replace bM := bM.below hb
  replace bA := bA.below hb
  replace bB := bB.below hb
  replace bC := bC.below hb
  replace bD := bD.below hb
  replace hB := hB.trans (hb.mono hB.size)
  clear hb
  have kbX_0 := bX.cell 0 _ rfl
  have kbX_1 := bX.cell 1 _ rfl
  have lbX := bX.lt
  have kbL_0 := bL.cell 0 _ rfl
  have kbL_1 := bL.cell 1 _ rfl
  have kbL_2 := bL.cell 2 _ rfl
  have lbL := bL.lt
  have kbM_0 := bM.cell 0 _ rfl
  have kbM_1 := bM.cell 1 _ rfl
  have kbM_2 := bM.cell 2 _ rfl
  have lbM := bM.lt
  have kbA_0 := bA.cell 0 _ rfl
  have kbA_1 := bA.cell 1 _ rfl
  have lbA := bA.lt
  have kbB_0 := bB.cell 0 _ rfl
  have kbB_1 := bB.cell 1 _ rfl
  have lbB := bB.lt
  have kbC_0 := bC.cell 0 _ rfl
  have kbC_1 := bC.cell 1 _ rfl
  have lbC := bC.lt
  have kbD_0 := bD.cell 0 _ rfl
  have kbD_1 := bD.cell 1 _ rfl
  have lbD := bD.lt
  by_cases hS1 : A1 = C1
  · by_cases hS2 : A2 = C2
    · subst hS1 hS2
      have HAll := Lib.hid (HSa.out rfl rfl)
      clear HSa HLe HWm HWl
      have Hl0 := Lib.hid Hgl.out.alen
      have HX0 := Lib.hid Hgm.out.alen
      go_upto_region 15 with (fail)
      go_wp2_with fail
      clear kbX_0 kbX_1 lbX kbL_0 kbL_1 kbL_2 lbL kbM_0 kbM_1 kbM_2 lbM kbA_0 kbA_1 lbA kbB_0 kbB_1 lbB kbC_0 kbC_1 lbC kbD_0 kbD_1 lbD
      have HmX := Lib.hid mX
      have HmA := Lib.hid mA
      have HmP := Lib.hid mP
      have Hi1 := Lib.hid i1
      have Hi2 := Lib.hid i2
      have HbX := Lib.hid bX
      have HbL := Lib.hid bL
      have HbM := Lib.hid bM
      have HB := Lib.hid hB
      clear mX mA mP i1 i2 bX bL bM hB bA bB bC bD
      go_loopw [14] (fun t wr => ∃ i : Nat, i ≤ v.length ∧ t = .int .i64 i ∧ Below we.heap.size we wr) (fun t _ => v.length - (intOf t).toNat)
      case atStart => exact ⟨0, Nat.zero_le _, rfl, Below.refl _ _⟩
      case round =>
        obtain ⟨i, hi, rfl, hbr⟩ := hrel
        have bX := HbX.out.below hbr
        have k0 := bX.cell 0 _ rfl
        by_cases hlt : i < v.length
        · have hi1 : (i : Int) < v.length := by omega
          have mX := HmX.out.below hbr (Nat.le_refl _)
          have mA := HmA.out.below hbr (Nat.le_refl _)
          have mP := HmP.out.below hbr (Nat.le_refl _)
          have j1 := Hi1.out.below hbr (Nat.le_refl _)
          have j2 := Hi2.out.below hbr (Nat.le_refl _)
          have bL := HbL.out.below hbr
          have bM := HbM.out.below hbr
          obtain ⟨ba, oa, rfl, _, hca⟩ := mA.get (j := i) (by rw [Hl0.out]; exact hlt)
          obtain ⟨bx, ox, rfl, _, hcx⟩ := j1.get (j := i) (by rw [HX0.out]; exact hlt)
          obtain ⟨a1, a2⟩ := Hgl.out.itm i hlt
          obtain ⟨b1, b2⟩ := Hgm.out.itm i hlt
          obtain ⟨x, hxx⟩ : ∃ x : Nat, iget al i = (x : Int) := ⟨(iget al i).toNat, by omega⟩
          obtain ⟨x2, hxx2⟩ : ∃ x : Nat, iget X i = (x : Int) := ⟨(iget X i).toNat, by omega⟩
          have e1 : itm al i = x := by simp [itm, hxx]
          have e2 : itm X i = x2 := by simp [itm, hxx2]
          rw [hxx] at hca
          rw [hxx2] at hcx
          rw [e1] at a2
          rw [e2] at b2
          have g1 := gain_bd Hgl.out hlt a2
          have g2 := gain_bd Hgm.out hlt b2
          have heq := HAll.out i hlt
          rw [e1, e2] at heq
          have HG1 := Lib.hid (fun W (hb : Below wr.heap.size wr W) => refGain_ok p (some ⟨ba, oa, none⟩) s c d f v r al ps zn i x W (mX.below hb (Nat.le_refl _)) (mP.below hb (Nat.le_refl _)) Hgl.out hlt a2)
          have HG2 := Lib.hid (fun W (hb : Below wr.heap.size wr W) => refGain_ok p (some ⟨bx, ox, none⟩) s1 c d1 f1 v r X Y Z i x2 W (mX.below hb (Nat.le_refl _)) (j2.below hb (Nat.le_refl _)) Hgm.out hlt b2)
          generalize gainI v ps zn i x = G1 at *
          generalize gainI v Y Z i x2 = G2 at *
          have Heq := Lib.hid heq
          have m1 := bz_bd60 g1 hZ1 hZ2
          have m2 := bz_bd60 g2 hz1 hz2
          have cX0 := bX.cell 0 _ rfl
          have cX1 := bX.cell 1 _ rfl
          have cL0 := bL.cell 0 _ rfl
          have cL1 := bL.cell 1 _ rfl
          have cL2 := bL.cell 2 _ rfl
          have cM0 := bM.cell 0 _ rfl
          have cM1 := bM.cell 1 _ rfl
          have cM2 := bM.cell 2 _ rfl
          have lx := bX.lt
          have ll := bL.lt
          have lm := bM.lt
          obtain ⟨wo, rfl⟩ : ∃ W, W = wr := ⟨_, rfl⟩
          have Hmk : Hid (∀ W, Below wo.heap.size wo W → W.cell? ⟨w.heap.size, 0, none⟩ = some (.slice p v.length c) ∧ W.cell? ⟨w.heap.size, 1, none⟩ = some (.int .i64 r) ∧ W.cell? ⟨w.heap.size + 1, 0, none⟩ = some (.slice (some ⟨ba, oa, none⟩) al.length d) ∧ W.cell? ⟨w.heap.size + 1, 1, none⟩ = some (.slice s ps.length f) ∧ W.cell? ⟨w.heap.size + 1, 2, none⟩ = some (.int .i64 (zn : Int)) ∧ W.cell? ⟨w3.heap.size, 0, none⟩ = some (.slice (some ⟨bx, ox, none⟩) X.length d1) ∧ W.cell? ⟨w3.heap.size, 1, none⟩ = some (.slice s1 Y.length f1) ∧ W.cell? ⟨w3.heap.size, 2, none⟩ = some (.int .i64 (Z : Int)) ∧ W.cell? ⟨ba, oa + i, none⟩ = some (.int .i64 (x : Int)) ∧ W.cell? ⟨bx, ox + i, none⟩ = some (.int .i64 (x2 : Int)) ∧ True) := fun W hG =>
            ⟨(hG.cell (p := ⟨w.heap.size, 0, none⟩) lx).trans cX0, (hG.cell (p := ⟨w.heap.size, 1, none⟩) lx).trans cX1, (hG.cell (p := ⟨w.heap.size + 1, 0, none⟩) ll).trans cL0, (hG.cell (p := ⟨w.heap.size + 1, 1, none⟩) ll).trans cL1, (hG.cell (p := ⟨w.heap.size + 1, 2, none⟩) ll).trans cL2, (hG.cell (p := ⟨w3.heap.size, 0, none⟩) lm).trans cM0, (hG.cell (p := ⟨w3.heap.size, 1, none⟩) lm).trans cM1, (hG.cell (p := ⟨w3.heap.size, 2, none⟩) lm).trans cM2, (hG.cell (World.block_lt_of_cell? _ _ hca)).trans hca, (hG.cell (World.block_lt_of_cell? _ _ hcx)).trans hcx, trivial⟩
          have hlX : (i : Int) < X.length := by rw [HX0.out]; omega
          have hlA : (i : Int) < al.length := by rw [Hl0.out]; omega
          clear cX0 cX1 cL0 cL1 cL2 cM0 cM1 cM2 lx ll lm hca hcx bX bL bM mX mA mP j1 j2 heq hxx hxx2 e1 e2
          go_wp2_with fail
          refine wp_region_inv (by kernel_rfl) (by decide +kernel) (by decide +kernel) _ _ (ManyJ wo [] (fun kk => match kk with | 0 => (.agg #[.slice p v.length c, .int .i64 r]) | 1 => (.agg #[.slice (some ⟨ba, oa, none⟩) al.length d, .slice s ps.length f, .int .i64 (zn : Int)]) | 2 => (.int .i64 (i : Int)) | 3 => (.pointer (some ⟨w.heap.size + 1, 0, none⟩)) | 4 => (.slice (some ⟨ba, oa, none⟩) al.length d) | 5 => (.int .i64 (i : Int)) | 6 => (.pointer (some ⟨ba, oa + i, none⟩)) | 7 => (.int .i64 (x : Int)) | 8 => (.int .i64 G1) | 9 => (.pointer (some ⟨w3.heap.size, 2, none⟩)) | 10 => (.int .i64 (Z : Int)) | 11 => (.int .i64 (G1 * Z)) | 12 => (.agg #[.slice p v.length c, .int .i64 r]) | 13 => (.agg #[.slice (some ⟨bx, ox, none⟩) X.length d1, .slice s1 Y.length f1, .int .i64 (Z : Int)]) | 14 => (.int .i64 (i : Int)) | 15 => (.pointer (some ⟨w3.heap.size, 0, none⟩)) | 16 => (.slice (some ⟨bx, ox, none⟩) X.length d1) | 17 => (.int .i64 (i : Int)) | 18 => (.pointer (some ⟨bx, ox + i, none⟩)) | 19 => (.int .i64 (x2 : Int)) | 20 => (.int .i64 G2) | 21 => (.pointer (some ⟨w.heap.size + 1, 2, none⟩)) | 22 => (.int .i64 (zn : Int)) | 23 => (.int .i64 (G2 * zn)) | 24 => (.bool false) | _ => undef) (fun kk => match kk with  | _ => undef) (fun kk => match kk with  | _ => undef)) ?_ ?_ ?_
          · exact fun us => ManyJ.start us
          · intro us D W i o A hA hi hJ hnD hon K hK
            have hlt : i < 25 := (Array.getElem?_eq_some_iff.1 hi).1
            rcases r25 hlt with rfl | rfl | rfl | rfl | rfl | rfl | rfl | rfl | rfl | rfl | rfl | rfl | rfl | rfl | rfl | rfl | rfl | rfl | rfl | rfl | rfl | rfl | rfl | rfl | rfl
            · have hi' := Option.some.inj hi
              subst hi'
              refine wp_val (v := (.agg #[.slice p v.length c, .int .i64 r])) (w' := W) ?_ (hK _ _ (hJ.pure (i := 0) (by decide) (Below.refl _ _)))
              · skip
                have e2 : A.tmps[2]?.getD undef = (.pointer (some ⟨w.heap.size, 0, none⟩)) := by rw [hA]; kernel_rfl
                obtain ⟨cc0, cc1, cc2, cc3, cc4, cc5, cc6, cc7, cc8, cc9, _⟩ := Hmk.out W hJ.bel
                clear hA hK hon hJ
                go_simp
            · have hi' := Option.some.inj hi
              subst hi'
              refine wp_val (v := (.agg #[.slice (some ⟨ba, oa, none⟩) al.length d, .slice s ps.length f, .int .i64 (zn : Int)])) (w' := W) ?_ (hK _ _ (hJ.pure (i := 1) (by decide) (Below.refl _ _)))
              · skip
                have e3 : A.tmps[3]?.getD undef = (.pointer (some ⟨w.heap.size + 1, 0, none⟩)) := by rw [hA]; kernel_rfl
                obtain ⟨cc0, cc1, cc2, cc3, cc4, cc5, cc6, cc7, cc8, cc9, _⟩ := Hmk.out W hJ.bel
                clear hA hK hon hJ
                go_simp
            · have hi' := Option.some.inj hi
              subst hi'
              refine wp_val (v := (.int .i64 (i : Int))) (w' := W) ?_ (hK _ _ (hJ.pure (i := 2) (by decide) (Below.refl _ _)))
              · skip
                have e14 : A.tmps[14]?.getD undef = (.int .i64 (i : Int)) := by rw [hA]; kernel_rfl
                clear hA hK hon hJ
                go_simp
            · have hi' := Option.some.inj hi
              subst hi'
              refine wp_val (v := (.pointer (some ⟨w.heap.size + 1, 0, none⟩))) (w' := W) ?_ (hK _ _ (hJ.pure (i := 3) (by decide) (Below.refl _ _)))
              · skip
                have e3 : A.tmps[3]?.getD undef = (.pointer (some ⟨w.heap.size + 1, 0, none⟩)) := by rw [hA]; kernel_rfl
                clear hA hK hon hJ
                go_simp
            · have hi' := Option.some.inj hi
              subst hi'
              refine wp_val (v := (.slice (some ⟨ba, oa, none⟩) al.length d)) (w' := W) ?_ (hK _ _ (hJ.pure (i := 4) (by decide) (Below.refl _ _)))
              · skip
                have e105 : A.tmps[105]?.getD undef = (.pointer (some ⟨w.heap.size + 1, 0, none⟩)) := (by rw [hA]; kernel_rfl : A.tmps[105]?.getD undef = us 3).trans (hJ.val 3 (by decide) (hon 3 (by decide +kernel)))
                obtain ⟨cc0, cc1, cc2, cc3, cc4, cc5, cc6, cc7, cc8, cc9, _⟩ := Hmk.out W hJ.bel
                clear hA hK hon hJ
                go_simp
            · have hi' := Option.some.inj hi
              subst hi'
              refine wp_val (v := (.int .i64 (i : Int))) (w' := W) ?_ (hK _ _ (hJ.pure (i := 5) (by decide) (Below.refl _ _)))
              · skip
                have e14 : A.tmps[14]?.getD undef = (.int .i64 (i : Int)) := by rw [hA]; kernel_rfl
                clear hA hK hon hJ
                go_simp
            · have hi' := Option.some.inj hi
              subst hi'
              refine wp_val (v := (.pointer (some ⟨ba, oa + i, none⟩))) (w' := W) ?_ (hK _ _ (hJ.pure (i := 6) (by decide) (Below.refl _ _)))
              · skip
                have e106 : A.tmps[106]?.getD undef = (.slice (some ⟨ba, oa, none⟩) al.length d) := (by rw [hA]; kernel_rfl : A.tmps[106]?.getD undef = us 4).trans (hJ.val 4 (by decide) (hon 4 (by decide +kernel)))
                have e107 : A.tmps[107]?.getD undef = (.int .i64 (i : Int)) := (by rw [hA]; kernel_rfl : A.tmps[107]?.getD undef = us 5).trans (hJ.val 5 (by decide) (hon 5 (by decide +kernel)))
                clear hA hK hon hJ
                go_simp
            · have hi' := Option.some.inj hi
              subst hi'
              refine wp_val (v := (.int .i64 (x : Int))) (w' := W) ?_ (hK _ _ (hJ.pure (i := 7) (by decide) (Below.refl _ _)))
              · skip
                have e108 : A.tmps[108]?.getD undef = (.pointer (some ⟨ba, oa + i, none⟩)) := (by rw [hA]; kernel_rfl : A.tmps[108]?.getD undef = us 6).trans (hJ.val 6 (by decide) (hon 6 (by decide +kernel)))
                obtain ⟨cc0, cc1, cc2, cc3, cc4, cc5, cc6, cc7, cc8, cc9, _⟩ := Hmk.out W hJ.bel
                clear hA hK hon hJ
                go_simp
            · have hi' := Option.some.inj hi
              subst hi'
              refine wp_enter (f := 19) (args := #[(.agg #[.slice p v.length c, .int .i64 r]), (.agg #[.slice (some ⟨ba, oa, none⟩) al.length d, .slice s ps.length f, .int .i64 (zn : Int)]), (.int .i64 (i : Int)), .int .i64 (x : Int)]) (w' := W) ?_ ((HG1.out W hJ.bel).mono ?_)
              · skip
                have e102 : A.tmps[102]?.getD undef = (.agg #[.slice p v.length c, .int .i64 r]) := (by rw [hA]; kernel_rfl : A.tmps[102]?.getD undef = us 0).trans (hJ.val 0 (by decide) (hon 0 (by decide +kernel)))
                have e103 : A.tmps[103]?.getD undef = (.agg #[.slice (some ⟨ba, oa, none⟩) al.length d, .slice s ps.length f, .int .i64 (zn : Int)]) := (by rw [hA]; kernel_rfl : A.tmps[103]?.getD undef = us 1).trans (hJ.val 1 (by decide) (hon 1 (by decide +kernel)))
                have e104 : A.tmps[104]?.getD undef = (.int .i64 (i : Int)) := (by rw [hA]; kernel_rfl : A.tmps[104]?.getD undef = us 2).trans (hJ.val 2 (by decide) (hon 2 (by decide +kernel)))
                have e109 : A.tmps[109]?.getD undef = (.int .i64 (x : Int)) := (by rw [hA]; kernel_rfl : A.tmps[109]?.getD undef = us 7).trans (hJ.val 7 (by decide) (hon 7 (by decide +kernel)))
                clear hA hK hon hJ
                go_simp
              · rintro r' wC ⟨rfl, hbC⟩
                exact ⟨_, rfl, hK _ _ (hJ.pure (i := 8) (by decide) hbC)⟩
            · have hi' := Option.some.inj hi
              subst hi'
              refine wp_val (v := (.pointer (some ⟨w3.heap.size, 2, none⟩))) (w' := W) ?_ (hK _ _ (hJ.pure (i := 9) (by decide) (Below.refl _ _)))
              · skip
                have e6 : A.tmps[6]?.getD undef = (.pointer (some ⟨w3.heap.size, 0, none⟩)) := by rw [hA]; kernel_rfl
                clear hA hK hon hJ
                go_simp
            · have hi' := Option.some.inj hi
              subst hi'
              refine wp_val (v := (.int .i64 (Z : Int))) (w' := W) ?_ (hK _ _ (hJ.pure (i := 10) (by decide) (Below.refl _ _)))
              · skip
                have e111 : A.tmps[111]?.getD undef = (.pointer (some ⟨w3.heap.size, 2, none⟩)) := (by rw [hA]; kernel_rfl : A.tmps[111]?.getD undef = us 9).trans (hJ.val 9 (by decide) (hon 9 (by decide +kernel)))
                obtain ⟨cc0, cc1, cc2, cc3, cc4, cc5, cc6, cc7, cc8, cc9, _⟩ := Hmk.out W hJ.bel
                clear hA hK hon hJ
                go_simp
            · have hi' := Option.some.inj hi
              subst hi'
              refine wp_val (v := (.int .i64 (G1 * Z))) (w' := W) ?_ (hK _ _ (hJ.pure (i := 11) (by decide) (Below.refl _ _)))
              · skip
                have e110 : A.tmps[110]?.getD undef = (.int .i64 G1) := (by rw [hA]; kernel_rfl : A.tmps[110]?.getD undef = us 8).trans (hJ.val 8 (by decide) (hon 8 (by decide +kernel)))
                have e112 : A.tmps[112]?.getD undef = (.int .i64 (Z : Int)) := (by rw [hA]; kernel_rfl : A.tmps[112]?.getD undef = us 10).trans (hJ.val 10 (by decide) (hon 10 (by decide +kernel)))
                have hwA : IntKind.i64.wrap (G1 * Z) = G1 * Z := IntWalk.i64_in _ (by omega)
                clear hA hK hon hJ
                go_simp
            · have hi' := Option.some.inj hi
              subst hi'
              refine wp_val (v := (.agg #[.slice p v.length c, .int .i64 r])) (w' := W) ?_ (hK _ _ (hJ.pure (i := 12) (by decide) (Below.refl _ _)))
              · skip
                have e2 : A.tmps[2]?.getD undef = (.pointer (some ⟨w.heap.size, 0, none⟩)) := by rw [hA]; kernel_rfl
                obtain ⟨cc0, cc1, cc2, cc3, cc4, cc5, cc6, cc7, cc8, cc9, _⟩ := Hmk.out W hJ.bel
                clear hA hK hon hJ
                go_simp
            · have hi' := Option.some.inj hi
              subst hi'
              refine wp_val (v := (.agg #[.slice (some ⟨bx, ox, none⟩) X.length d1, .slice s1 Y.length f1, .int .i64 (Z : Int)])) (w' := W) ?_ (hK _ _ (hJ.pure (i := 13) (by decide) (Below.refl _ _)))
              · skip
                have e6 : A.tmps[6]?.getD undef = (.pointer (some ⟨w3.heap.size, 0, none⟩)) := by rw [hA]; kernel_rfl
                obtain ⟨cc0, cc1, cc2, cc3, cc4, cc5, cc6, cc7, cc8, cc9, _⟩ := Hmk.out W hJ.bel
                clear hA hK hon hJ
                go_simp
            · have hi' := Option.some.inj hi
              subst hi'
              refine wp_val (v := (.int .i64 (i : Int))) (w' := W) ?_ (hK _ _ (hJ.pure (i := 14) (by decide) (Below.refl _ _)))
              · skip
                have e14 : A.tmps[14]?.getD undef = (.int .i64 (i : Int)) := by rw [hA]; kernel_rfl
                clear hA hK hon hJ
                go_simp
            · have hi' := Option.some.inj hi
              subst hi'
              refine wp_val (v := (.pointer (some ⟨w3.heap.size, 0, none⟩))) (w' := W) ?_ (hK _ _ (hJ.pure (i := 15) (by decide) (Below.refl _ _)))
              · skip
                have e6 : A.tmps[6]?.getD undef = (.pointer (some ⟨w3.heap.size, 0, none⟩)) := by rw [hA]; kernel_rfl
                clear hA hK hon hJ
                go_simp
            · have hi' := Option.some.inj hi
              subst hi'
              refine wp_val (v := (.slice (some ⟨bx, ox, none⟩) X.length d1)) (w' := W) ?_ (hK _ _ (hJ.pure (i := 16) (by decide) (Below.refl _ _)))
              · skip
                have e117 : A.tmps[117]?.getD undef = (.pointer (some ⟨w3.heap.size, 0, none⟩)) := (by rw [hA]; kernel_rfl : A.tmps[117]?.getD undef = us 15).trans (hJ.val 15 (by decide) (hon 15 (by decide +kernel)))
                obtain ⟨cc0, cc1, cc2, cc3, cc4, cc5, cc6, cc7, cc8, cc9, _⟩ := Hmk.out W hJ.bel
                clear hA hK hon hJ
                go_simp
            · have hi' := Option.some.inj hi
              subst hi'
              refine wp_val (v := (.int .i64 (i : Int))) (w' := W) ?_ (hK _ _ (hJ.pure (i := 17) (by decide) (Below.refl _ _)))
              · skip
                have e14 : A.tmps[14]?.getD undef = (.int .i64 (i : Int)) := by rw [hA]; kernel_rfl
                clear hA hK hon hJ
                go_simp
            · have hi' := Option.some.inj hi
              subst hi'
              refine wp_val (v := (.pointer (some ⟨bx, ox + i, none⟩))) (w' := W) ?_ (hK _ _ (hJ.pure (i := 18) (by decide) (Below.refl _ _)))
              · skip
                have e118 : A.tmps[118]?.getD undef = (.slice (some ⟨bx, ox, none⟩) X.length d1) := (by rw [hA]; kernel_rfl : A.tmps[118]?.getD undef = us 16).trans (hJ.val 16 (by decide) (hon 16 (by decide +kernel)))
                have e119 : A.tmps[119]?.getD undef = (.int .i64 (i : Int)) := (by rw [hA]; kernel_rfl : A.tmps[119]?.getD undef = us 17).trans (hJ.val 17 (by decide) (hon 17 (by decide +kernel)))
                clear hA hK hon hJ
                go_simp
            · have hi' := Option.some.inj hi
              subst hi'
              refine wp_val (v := (.int .i64 (x2 : Int))) (w' := W) ?_ (hK _ _ (hJ.pure (i := 19) (by decide) (Below.refl _ _)))
              · skip
                have e120 : A.tmps[120]?.getD undef = (.pointer (some ⟨bx, ox + i, none⟩)) := (by rw [hA]; kernel_rfl : A.tmps[120]?.getD undef = us 18).trans (hJ.val 18 (by decide) (hon 18 (by decide +kernel)))
                obtain ⟨cc0, cc1, cc2, cc3, cc4, cc5, cc6, cc7, cc8, cc9, _⟩ := Hmk.out W hJ.bel
                clear hA hK hon hJ
                go_simp
            · have hi' := Option.some.inj hi
              subst hi'
              refine wp_enter (f := 19) (args := #[(.agg #[.slice p v.length c, .int .i64 r]), (.agg #[.slice (some ⟨bx, ox, none⟩) X.length d1, .slice s1 Y.length f1, .int .i64 (Z : Int)]), (.int .i64 (i : Int)), .int .i64 (x2 : Int)]) (w' := W) ?_ ((HG2.out W hJ.bel).mono ?_)
              · skip
                have e114 : A.tmps[114]?.getD undef = (.agg #[.slice p v.length c, .int .i64 r]) := (by rw [hA]; kernel_rfl : A.tmps[114]?.getD undef = us 12).trans (hJ.val 12 (by decide) (hon 12 (by decide +kernel)))
                have e115 : A.tmps[115]?.getD undef = (.agg #[.slice (some ⟨bx, ox, none⟩) X.length d1, .slice s1 Y.length f1, .int .i64 (Z : Int)]) := (by rw [hA]; kernel_rfl : A.tmps[115]?.getD undef = us 13).trans (hJ.val 13 (by decide) (hon 13 (by decide +kernel)))
                have e116 : A.tmps[116]?.getD undef = (.int .i64 (i : Int)) := (by rw [hA]; kernel_rfl : A.tmps[116]?.getD undef = us 14).trans (hJ.val 14 (by decide) (hon 14 (by decide +kernel)))
                have e121 : A.tmps[121]?.getD undef = (.int .i64 (x2 : Int)) := (by rw [hA]; kernel_rfl : A.tmps[121]?.getD undef = us 19).trans (hJ.val 19 (by decide) (hon 19 (by decide +kernel)))
                clear hA hK hon hJ
                go_simp
              · rintro r' wC ⟨rfl, hbC⟩
                exact ⟨_, rfl, hK _ _ (hJ.pure (i := 20) (by decide) hbC)⟩
            · have hi' := Option.some.inj hi
              subst hi'
              refine wp_val (v := (.pointer (some ⟨w.heap.size + 1, 2, none⟩))) (w' := W) ?_ (hK _ _ (hJ.pure (i := 21) (by decide) (Below.refl _ _)))
              · skip
                have e3 : A.tmps[3]?.getD undef = (.pointer (some ⟨w.heap.size + 1, 0, none⟩)) := by rw [hA]; kernel_rfl
                clear hA hK hon hJ
                go_simp
            · have hi' := Option.some.inj hi
              subst hi'
              refine wp_val (v := (.int .i64 (zn : Int))) (w' := W) ?_ (hK _ _ (hJ.pure (i := 22) (by decide) (Below.refl _ _)))
              · skip
                have e123 : A.tmps[123]?.getD undef = (.pointer (some ⟨w.heap.size + 1, 2, none⟩)) := (by rw [hA]; kernel_rfl : A.tmps[123]?.getD undef = us 21).trans (hJ.val 21 (by decide) (hon 21 (by decide +kernel)))
                obtain ⟨cc0, cc1, cc2, cc3, cc4, cc5, cc6, cc7, cc8, cc9, _⟩ := Hmk.out W hJ.bel
                clear hA hK hon hJ
                go_simp
            · have hi' := Option.some.inj hi
              subst hi'
              refine wp_val (v := (.int .i64 (G2 * zn))) (w' := W) ?_ (hK _ _ (hJ.pure (i := 23) (by decide) (Below.refl _ _)))
              · skip
                have e122 : A.tmps[122]?.getD undef = (.int .i64 G2) := (by rw [hA]; kernel_rfl : A.tmps[122]?.getD undef = us 20).trans (hJ.val 20 (by decide) (hon 20 (by decide +kernel)))
                have e124 : A.tmps[124]?.getD undef = (.int .i64 (zn : Int)) := (by rw [hA]; kernel_rfl : A.tmps[124]?.getD undef = us 22).trans (hJ.val 22 (by decide) (hon 22 (by decide +kernel)))
                have hwA : IntKind.i64.wrap (G2 * zn) = G2 * zn := IntWalk.i64_in _ (by omega)
                clear hA hK hon hJ
                go_simp
            · have hi' := Option.some.inj hi
              subst hi'
              refine wp_val (v := (.bool false)) (w' := W) ?_ (hK _ _ (hJ.pure (i := 24) (by decide) (Below.refl _ _)))
              · skip
                have e113 : A.tmps[113]?.getD undef = (.int .i64 (G1 * Z)) := (by rw [hA]; kernel_rfl : A.tmps[113]?.getD undef = us 11).trans (hJ.val 11 (by decide) (hon 11 (by decide +kernel)))
                have e125 : A.tmps[125]?.getD undef = (.int .i64 (G2 * zn)) := (by rw [hA]; kernel_rfl : A.tmps[125]?.getD undef = us 23).trans (hJ.val 23 (by decide) (hon 23 (by decide +kernel)))
                have hne : (G1 * (Z : Int) != G2 * zn) = false := by rw [bne_eq_false_iff_eq]; exact Heq.out
                clear hA hK hon hJ
                go_simp
          · intro us D wd hJ hall
            have u24 : us 24 = (.bool false) := hJ.val 24 (by decide) (hall 24 (by decide))
            have hb := hJ.bel
            clear hJ hall Hmk HG1 HG2
            simp only [actL, slotL, putL, List.setIfInBounds_toArray, List.set_cons_zero, List.set_cons_succ, Nat.zero_add, Nat.reduceAdd, u24]
            clear u24
            have hbd : Below we.heap.size we wd := hbr.trans (hb.mono hbr.size)
            clear hb
            go_wp2_with fail
            go_roundw
            case rel => exact ⟨i + 1, by omega, by go_num, hbd⟩
            case measure => (simp [intOf] <;> omega)
        · have hi1 : ¬ (i : Int) < v.length := by omega
          go_wp2_with fail
          go_ret
          exact ⟨rfl, HB.out.trans (hbr.mono HB.out.size)⟩
    · have hn : (A2 == C2) = false := by rw [beq_eq_false_iff_ne]; exact hS2
      subst hS1
      clear hS2 HSa HLe HWm HWl
      go_wp2_with fail
      go_ret
      exact ⟨rfl, hB⟩
  · have hn : (A1 == C1) = false := by rw [beq_eq_false_iff_ne]; exact hS1
    clear hS1 HSa HLe HWm HWl
    go_wp2_with fail
    go_ret
    exact ⟨rfl, hB⟩

theorem rentBest_walk (p : Option Addr) (c : Nat) (v : List (List Int)) (r : Int) (q : Option Addr) (d : Nat) (al : List Int) (s : Option Addr) (f : Nat) (ps : List Int) (z : Int) (w : World) (hx : Mat w p c v) (hr64 : in64 r) (hy : Ints w q d al) (hz : Ints w s f ps) (hz64 : in64 z) : Calls Try.prog 4 #[.agg #[.slice p v.length c, .int .i64 r], .agg #[.slice q al.length d, .slice s ps.length f, .int .i64 z]] w fun e w' => e = .returned (.bool true) ∧ Below w.heap.size w w' := by
  by_cases hc : chkR v r = 0
  · by_cases h1 : 50 < al.length
    · exact rentBest_big1 p c v r q d al s f ps z w hx hr64 hy hz hz64 hc h1
    · by_cases h0 : 50 < ps.length
      · exact rentBest_big2 p c v r q d al s f ps z w hx hr64 hy hz hz64 hc h1 h0
      · by_cases h : vldR v r al ps z = 0
        · cases h2 : freeB v r al ps z with
          | true => exact rentBest_main p c v r q d al s f ps z w hx hr64 hy hz hz64 hc h0 h1 h h2
          | false => exact rentBest_envy p c v r q d al s f ps z w hx hr64 hy hz hz64 hc h0 h1 h h2
        · exact rentBest_bad p c v r q d al s f ps z w hx hr64 hy hz hz64 hc h0 h1 h
  · exact rentBest_early p c v r q d al s f ps z w hx hr64 hy hz hz64 hc
end Go.Proofs.Ytllcbcanohdepaa
