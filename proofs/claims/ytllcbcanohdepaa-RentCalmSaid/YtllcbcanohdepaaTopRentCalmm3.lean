/- The walk of the law RentCalm: for every flat and lease it returns true, and changes nothing that was there.  (Printed by wip/genrentbest.py.) -/
import Derived.Test.YtllcbcanohdepaaTopRentBestm8
import Derived.Test.YtllcbcanohdepaaTopRentNamesm28
import Derived.Test.YtllcbcanohdepaaTopRentNamesm25
import Derived.Deep.DeepCutAuto
namespace Go.Proofs.Ytllcbcanohdepaa
set_option linter.unusedVariables false
set_option linter.unusedSimpArgs false
open Go.ChangeShapes Go.WideShapes Go.ChangeAt Go.RowKit Go.Deep

set_option maxHeartbeats 1600000 in
set_option maxRecDepth 100000 in
theorem rentCalm_early (p : Option Addr) (c : Nat) (v : List (List Int)) (r : Int) (q : Option Addr) (d : Nat) (al : List Int) (s : Option Addr) (f : Nat) (ps : List Int) (z : Int) (w : World) (hx : Mat w p c v) (hr64 : in64 r) (hy : Ints w q d al) (hz : Ints w s f ps) (hz64 : in64 z) (hc : chkR v r ≠ 0) :
    Calls Try.prog 5 #[.agg #[.slice p v.length c, .int .i64 r], .agg #[.slice q al.length d, .slice s ps.length f, .int .i64 z]] w fun e w' => e = .returned (.bool true) ∧ Below w.heap.size w w' := by
  obtain ⟨Wx, hWx⟩ : ∃ W, w.alloc (.cells #[.slice p v.length c, .int .i64 r] 24) = W := ⟨_, rfl⟩
  obtain ⟨W0, hW0⟩ : ∃ W, Wx.alloc (.cells #[.slice q al.length d, .slice s ps.length f, .int .i64 z] 27) = W := ⟨_, rfl⟩
  have hB1 := below_alloc hWx
  have hB2 := below_alloc hW0
  have bX : BoxV W0 w.heap.size [.slice p v.length c, .int .i64 r] := (BoxV.new rfl hWx).below hB2
  have hs : Wx.heap.size = w.heap.size + 1 := by rw [← hWx]; simp
  have bL : BoxV W0 (w.heap.size + 1) [.slice q al.length d, .slice s ps.length f, .int .i64 z] := BoxV.new hs hW0
  have hB : Below w.heap.size w W0 := hB1.trans (hB2.mono hB1.size)
  have mX := hx.below hB (Nat.le_refl _)
  have mA := hy.below hB (Nat.le_refl _)
  have mP := hz.below hB (Nat.le_refl _)
  have hlx := hx.length_le
  have hly := hy.length_le
  have hlz := hz.length_le
  have HWx := Lib.hid hWx
  have HW0 := Lib.hid hW0
  clear hWx hW0 hB1 hB2 hs hx hy hz
  have hf : fit15 v r = false := by unfold fit15; rw [decide_eq_false_iff_not]; exact hc
  have hF := fun W (h : Mat W p c v) => fit15_any p c v r W h
  rw [hf] at hF
  have HF := Lib.hid hF
  clear hF hf hc
  go_enter Try.func5, Try.ntmps5
  go_wp2_with fail
  rw [HWx.out, HW0.out]
  refine (alive15_any _).mono ?_
  rintro e w1 ⟨rfl, hb⟩
  replace bX := bX.below hb
  have k0 := bX.cell 0 _ rfl
  have k1 := bX.cell 1 _ rfl
  replace mX := mX.below hb (Nat.le_refl _)
  replace hB := hB.trans (hb.mono hB.size)
  clear hb
  go_wp2_with fail
  refine (HF.out _ mX).mono ?_
  rintro e w2 ⟨rfl, hb⟩
  go_wp2_with fail
  go_ret
  exact ⟨rfl, hB.trans (hb.mono hB.size)⟩

set_option maxHeartbeats 8000000 in
set_option maxRecDepth 100000 in
theorem rentCalm_big1 (p : Option Addr) (c : Nat) (v : List (List Int)) (r : Int) (q : Option Addr) (d : Nat) (al : List Int) (s : Option Addr) (f : Nat) (ps : List Int) (z : Int) (w : World) (hx : Mat w p c v) (hr64 : in64 r) (hy : Ints w q d al) (hz : Ints w s f ps) (hz64 : in64 z) (hc : chkR v r = 0) (h : 50 < al.length) :
    Calls Try.prog 5 #[.agg #[.slice p v.length c, .int .i64 r], .agg #[.slice q al.length d, .slice s ps.length f, .int .i64 z]] w fun e w' => e = .returned (.bool true) ∧ Below w.heap.size w w' := by
  obtain ⟨Wx, hWx⟩ : ∃ W, w.alloc (.cells #[.slice p v.length c, .int .i64 r] 24) = W := ⟨_, rfl⟩
  obtain ⟨W0, hW0⟩ : ∃ W, Wx.alloc (.cells #[.slice q al.length d, .slice s ps.length f, .int .i64 z] 27) = W := ⟨_, rfl⟩
  have hB1 := below_alloc hWx
  have hB2 := below_alloc hW0
  have bX : BoxV W0 w.heap.size [.slice p v.length c, .int .i64 r] := (BoxV.new rfl hWx).below hB2
  have hs : Wx.heap.size = w.heap.size + 1 := by rw [← hWx]; simp
  have bL : BoxV W0 (w.heap.size + 1) [.slice q al.length d, .slice s ps.length f, .int .i64 z] := BoxV.new hs hW0
  have hB : Below w.heap.size w W0 := hB1.trans (hB2.mono hB1.size)
  have mX := hx.below hB (Nat.le_refl _)
  have mA := hy.below hB (Nat.le_refl _)
  have mP := hz.below hB (Nat.le_refl _)
  have hlx := hx.length_le
  have hly := hy.length_le
  have hlz := hz.length_le
  have HWx := Lib.hid hWx
  have HW0 := Lib.hid hW0
  clear hWx hW0 hB1 hB2 hs hx hy hz
  have hf : fit15 v r = true := by unfold fit15; rw [decide_eq_true_iff]; exact hc
  have hF := fun W (h : Mat W p c v) => fit15_any p c v r W h
  rw [hf] at hF
  have hE := fun W (h : Mat W p c v) => rentCalm_any p c v r W h
  have hBd := (chkR_zero.1 hc).1
  obtain ⟨hev, hfr⟩ := lea_vld (g := calmG v) hc (calm_gp hBd)
  have eX0 : bestI v r = bestA v := (lea_parts (g := calmG v) hc).1
  obtain ⟨X, eX⟩ : ∃ x, bestA v = x := ⟨_, rfl⟩
  obtain ⟨Y, eY⟩ : ∃ x, leaY v r (calmG v) = x := ⟨_, rfl⟩
  obtain ⟨Z, eZ⟩ : ∃ x : Nat, leaZ v r (calmG v) = x := ⟨(leaZ v r (calmG v)).toNat, by have := (vld_zero.1 hev).2.2.1; omega⟩
  rw [eX0, eX, eY, eZ, hc] at hE
  rw [eX, eY, eZ] at hev hfr
  have hV1 := fun W q1 d1 s1 f1 (h : Mat W p c v) (h1 : Ints W q1 d1 X) (h2 : Ints W s1 f1 Y) => refValid_any p q1 s1 c d1 f1 v r X Y Z W h h1 h2
  have hV2 := fun W q1 d1 s1 f1 (h : Mat W p c v) (h1 : Ints W q1 d1 X) (h2 : Ints W s1 f1 Y) => free14_any p q1 s1 c d1 f1 v r X Y Z W h h1 h2
  rw [hev] at hV1
  rw [hfr] at hV2
  have hV := fun W (h : Mat W p c v) (h1 : Ints W q d al) (h2 : Ints W s f ps) => refValid_any p q s c d f v r al ps z W h h1 h2
  have hVF := fun W (h : Mat W p c v) (h1 : Ints W q d al) (h2 : Ints W s f ps) => free14_any p q s c d f v r al ps z W h h1 h2
  have HF := Lib.hid hF
  have HE := Lib.hid hE
  have HV1 := Lib.hid hV1
  have HV2 := Lib.hid hV2
  have HBd := Lib.hid hBd
  have Hev := Lib.hid hev
  have HeX := Lib.hid eX
  have HeY := Lib.hid eY
  have HeZ := Lib.hid eZ
  have d1 : decide (50 < (al.length : Int)) = true := by rw [decide_eq_true_iff]; omega
  clear h hV hVF hc
  clear hF hE hV1 hV2 hf hev hfr hBd eX eY eZ eX0
  go_enter Try.func5, Try.ntmps5
  go_wp2_with fail
  rw [HWx.out, HW0.out]
  refine (alive15_any _).mono ?_
  rintro e w1 ⟨rfl, hb⟩
  replace mX := mX.below hb (Nat.le_refl _)
  replace mA := mA.below hb (Nat.le_refl _)
  replace mP := mP.below hb (Nat.le_refl _)
  replace bX := bX.below hb
  replace bL := bL.below hb
  replace hB := hB.trans (hb.mono hB.size)
  clear hb
  have kbX_0 := bX.cell 0 _ rfl
  have kbX_1 := bX.cell 1 _ rfl
  have lbX := bX.lt
  have kbL_0 := bL.cell 0 _ rfl
  have kbL_1 := bL.cell 1 _ rfl
  have kbL_2 := bL.cell 2 _ rfl
  have lbL := bL.lt
  go_wp2_with fail
  refine (HF.out _ mX).mono ?_
  rintro e w2 ⟨rfl, hb⟩
  clear kbX_0 kbX_1 lbX kbL_0 kbL_1 kbL_2 lbL
  replace mX := mX.below hb (Nat.le_refl _)
  replace mA := mA.below hb (Nat.le_refl _)
  replace mP := mP.below hb (Nat.le_refl _)
  replace bX := bX.below hb
  replace bL := bL.below hb
  replace hB := hB.trans (hb.mono hB.size)
  clear hb
  have kbX_0 := bX.cell 0 _ rfl
  have kbX_1 := bX.cell 1 _ rfl
  have lbX := bX.lt
  have kbL_0 := bL.cell 0 _ rfl
  have kbL_1 := bL.cell 1 _ rfl
  have kbL_2 := bL.cell 2 _ rfl
  have lbL := bL.lt
  go_wp2_with fail
  refine (HE.out _ mX).mono ?_
  rintro e w3 ⟨q1, d1, s1, f1, rfl, i1, i2, hb⟩
  clear kbX_0 kbX_1 lbX kbL_0 kbL_1 kbL_2 lbL
  replace mX := mX.below hb (Nat.le_refl _)
  replace mA := mA.below hb (Nat.le_refl _)
  replace mP := mP.below hb (Nat.le_refl _)
  replace bX := bX.below hb
  replace bL := bL.below hb
  replace hB := hB.trans (hb.mono hB.size)
  clear hb
  obtain ⟨W4, hW4⟩ : ∃ W, w3.alloc (.cells #[.slice q1 X.length d1, .slice s1 Y.length f1, .int .i64 Z] 27) = W := ⟨_, rfl⟩
  have hb : Below w3.heap.size w3 W4 := below_alloc hW4
  have bM : BoxV W4 w3.heap.size [.slice q1 X.length d1, .slice s1 Y.length f1, .int .i64 Z] := BoxV.new rfl hW4
  have HW4 := Lib.hid hW4
  replace mX := mX.below hb (Nat.le_refl _)
  replace mA := mA.below hb (Nat.le_refl _)
  replace mP := mP.below hb (Nat.le_refl _)
  replace bX := bX.below hb
  replace bL := bL.below hb
  replace i1 := i1.below hb (Nat.le_refl _)
  replace i2 := i2.below hb (Nat.le_refl _)
  replace hB := hB.trans (hb.mono hB.size)
  clear hb hW4
  go_upto_region 5 with (fail)
  rw [HW4.out]
  have kbX_0 := bX.cell 0 _ rfl
  have kbX_1 := bX.cell 1 _ rfl
  have lbX := bX.lt
  have kbL_0 := bL.cell 0 _ rfl
  have kbL_1 := bL.cell 1 _ rfl
  have kbL_2 := bL.cell 2 _ rfl
  have lbL := bL.lt
  have kbM_0 := bM.cell 0 _ rfl
  have kbM_1 := bM.cell 1 _ rfl
  have kbM_2 := bM.cell 2 _ rfl
  have lbM := bM.lt
  go_wp2_with fail
  refine (HV1.out _ _ _ _ _ mX i1 i2).mono ?_
  rintro e w5 ⟨rfl, hb⟩
  clear kbX_0 kbX_1 lbX kbL_0 kbL_1 kbL_2 lbL kbM_0 kbM_1 kbM_2 lbM
  replace mX := mX.below hb (Nat.le_refl _)
  replace mA := mA.below hb (Nat.le_refl _)
  replace mP := mP.below hb (Nat.le_refl _)
  replace bX := bX.below hb
  replace bL := bL.below hb
  replace i1 := i1.below hb (Nat.le_refl _)
  replace i2 := i2.below hb (Nat.le_refl _)
  replace bM := bM.below hb
  replace hB := hB.trans (hb.mono hB.size)
  clear hb
  have kbX_0 := bX.cell 0 _ rfl
  have kbX_1 := bX.cell 1 _ rfl
  have lbX := bX.lt
  have kbL_0 := bL.cell 0 _ rfl
  have kbL_1 := bL.cell 1 _ rfl
  have kbL_2 := bL.cell 2 _ rfl
  have lbL := bL.lt
  have kbM_0 := bM.cell 0 _ rfl
  have kbM_1 := bM.cell 1 _ rfl
  have kbM_2 := bM.cell 2 _ rfl
  have lbM := bM.lt
  go_wp2_with fail
  refine (HV2.out _ _ _ _ _ mX i1 i2).mono ?_
  rintro e w6 ⟨rfl, hb⟩
  clear kbX_0 kbX_1 lbX kbL_0 kbL_1 kbL_2 lbL kbM_0 kbM_1 kbM_2 lbM
  replace mX := mX.below hb (Nat.le_refl _)
  replace mA := mA.below hb (Nat.le_refl _)
  replace mP := mP.below hb (Nat.le_refl _)
  replace bX := bX.below hb
  replace bL := bL.below hb
  replace i1 := i1.below hb (Nat.le_refl _)
  replace i2 := i2.below hb (Nat.le_refl _)
  replace bM := bM.below hb
  replace hB := hB.trans (hb.mono hB.size)
  clear hb
  have kbX_0 := bX.cell 0 _ rfl
  have kbX_1 := bX.cell 1 _ rfl
  have lbX := bX.lt
  have kbL_0 := bL.cell 0 _ rfl
  have kbL_1 := bL.cell 1 _ rfl
  have kbL_2 := bL.cell 2 _ rfl
  have lbL := bL.lt
  go_wp2_with fail
  go_ret
  exact ⟨rfl, hB⟩
set_option maxHeartbeats 8000000 in
set_option maxRecDepth 100000 in
theorem rentCalm_big2 (p : Option Addr) (c : Nat) (v : List (List Int)) (r : Int) (q : Option Addr) (d : Nat) (al : List Int) (s : Option Addr) (f : Nat) (ps : List Int) (z : Int) (w : World) (hx : Mat w p c v) (hr64 : in64 r) (hy : Ints w q d al) (hz : Ints w s f ps) (hz64 : in64 z) (hc : chkR v r = 0) (h0 : ¬ 50 < al.length) (h : 50 < ps.length) :
    Calls Try.prog 5 #[.agg #[.slice p v.length c, .int .i64 r], .agg #[.slice q al.length d, .slice s ps.length f, .int .i64 z]] w fun e w' => e = .returned (.bool true) ∧ Below w.heap.size w w' := by
  obtain ⟨Wx, hWx⟩ : ∃ W, w.alloc (.cells #[.slice p v.length c, .int .i64 r] 24) = W := ⟨_, rfl⟩
  obtain ⟨W0, hW0⟩ : ∃ W, Wx.alloc (.cells #[.slice q al.length d, .slice s ps.length f, .int .i64 z] 27) = W := ⟨_, rfl⟩
  have hB1 := below_alloc hWx
  have hB2 := below_alloc hW0
  have bX : BoxV W0 w.heap.size [.slice p v.length c, .int .i64 r] := (BoxV.new rfl hWx).below hB2
  have hs : Wx.heap.size = w.heap.size + 1 := by rw [← hWx]; simp
  have bL : BoxV W0 (w.heap.size + 1) [.slice q al.length d, .slice s ps.length f, .int .i64 z] := BoxV.new hs hW0
  have hB : Below w.heap.size w W0 := hB1.trans (hB2.mono hB1.size)
  have mX := hx.below hB (Nat.le_refl _)
  have mA := hy.below hB (Nat.le_refl _)
  have mP := hz.below hB (Nat.le_refl _)
  have hlx := hx.length_le
  have hly := hy.length_le
  have hlz := hz.length_le
  have HWx := Lib.hid hWx
  have HW0 := Lib.hid hW0
  clear hWx hW0 hB1 hB2 hs hx hy hz
  have hf : fit15 v r = true := by unfold fit15; rw [decide_eq_true_iff]; exact hc
  have hF := fun W (h : Mat W p c v) => fit15_any p c v r W h
  rw [hf] at hF
  have hE := fun W (h : Mat W p c v) => rentCalm_any p c v r W h
  have hBd := (chkR_zero.1 hc).1
  obtain ⟨hev, hfr⟩ := lea_vld (g := calmG v) hc (calm_gp hBd)
  have eX0 : bestI v r = bestA v := (lea_parts (g := calmG v) hc).1
  obtain ⟨X, eX⟩ : ∃ x, bestA v = x := ⟨_, rfl⟩
  obtain ⟨Y, eY⟩ : ∃ x, leaY v r (calmG v) = x := ⟨_, rfl⟩
  obtain ⟨Z, eZ⟩ : ∃ x : Nat, leaZ v r (calmG v) = x := ⟨(leaZ v r (calmG v)).toNat, by have := (vld_zero.1 hev).2.2.1; omega⟩
  rw [eX0, eX, eY, eZ, hc] at hE
  rw [eX, eY, eZ] at hev hfr
  have hV1 := fun W q1 d1 s1 f1 (h : Mat W p c v) (h1 : Ints W q1 d1 X) (h2 : Ints W s1 f1 Y) => refValid_any p q1 s1 c d1 f1 v r X Y Z W h h1 h2
  have hV2 := fun W q1 d1 s1 f1 (h : Mat W p c v) (h1 : Ints W q1 d1 X) (h2 : Ints W s1 f1 Y) => free14_any p q1 s1 c d1 f1 v r X Y Z W h h1 h2
  rw [hev] at hV1
  rw [hfr] at hV2
  have hV := fun W (h : Mat W p c v) (h1 : Ints W q d al) (h2 : Ints W s f ps) => refValid_any p q s c d f v r al ps z W h h1 h2
  have hVF := fun W (h : Mat W p c v) (h1 : Ints W q d al) (h2 : Ints W s f ps) => free14_any p q s c d f v r al ps z W h h1 h2
  have HF := Lib.hid hF
  have HE := Lib.hid hE
  have HV1 := Lib.hid hV1
  have HV2 := Lib.hid hV2
  have HBd := Lib.hid hBd
  have Hev := Lib.hid hev
  have HeX := Lib.hid eX
  have HeY := Lib.hid eY
  have HeZ := Lib.hid eZ
  have d0 : decide (50 < (al.length : Int)) = false := by rw [decide_eq_false_iff_not]; omega
  have d1 : decide (50 < (ps.length : Int)) = true := by rw [decide_eq_true_iff]; omega
  clear h hV hVF hc
  clear hF hE hV1 hV2 hf hev hfr hBd eX eY eZ eX0
  go_enter Try.func5, Try.ntmps5
  go_wp2_with fail
  rw [HWx.out, HW0.out]
  refine (alive15_any _).mono ?_
  rintro e w1 ⟨rfl, hb⟩
  replace mX := mX.below hb (Nat.le_refl _)
  replace mA := mA.below hb (Nat.le_refl _)
  replace mP := mP.below hb (Nat.le_refl _)
  replace bX := bX.below hb
  replace bL := bL.below hb
  replace hB := hB.trans (hb.mono hB.size)
  clear hb
  have kbX_0 := bX.cell 0 _ rfl
  have kbX_1 := bX.cell 1 _ rfl
  have lbX := bX.lt
  have kbL_0 := bL.cell 0 _ rfl
  have kbL_1 := bL.cell 1 _ rfl
  have kbL_2 := bL.cell 2 _ rfl
  have lbL := bL.lt
  go_wp2_with fail
  refine (HF.out _ mX).mono ?_
  rintro e w2 ⟨rfl, hb⟩
  clear kbX_0 kbX_1 lbX kbL_0 kbL_1 kbL_2 lbL
  replace mX := mX.below hb (Nat.le_refl _)
  replace mA := mA.below hb (Nat.le_refl _)
  replace mP := mP.below hb (Nat.le_refl _)
  replace bX := bX.below hb
  replace bL := bL.below hb
  replace hB := hB.trans (hb.mono hB.size)
  clear hb
  have kbX_0 := bX.cell 0 _ rfl
  have kbX_1 := bX.cell 1 _ rfl
  have lbX := bX.lt
  have kbL_0 := bL.cell 0 _ rfl
  have kbL_1 := bL.cell 1 _ rfl
  have kbL_2 := bL.cell 2 _ rfl
  have lbL := bL.lt
  go_wp2_with fail
  refine (HE.out _ mX).mono ?_
  rintro e w3 ⟨q1, d1, s1, f1, rfl, i1, i2, hb⟩
  clear kbX_0 kbX_1 lbX kbL_0 kbL_1 kbL_2 lbL
  replace mX := mX.below hb (Nat.le_refl _)
  replace mA := mA.below hb (Nat.le_refl _)
  replace mP := mP.below hb (Nat.le_refl _)
  replace bX := bX.below hb
  replace bL := bL.below hb
  replace hB := hB.trans (hb.mono hB.size)
  clear hb
  obtain ⟨W4, hW4⟩ : ∃ W, w3.alloc (.cells #[.slice q1 X.length d1, .slice s1 Y.length f1, .int .i64 Z] 27) = W := ⟨_, rfl⟩
  have hb : Below w3.heap.size w3 W4 := below_alloc hW4
  have bM : BoxV W4 w3.heap.size [.slice q1 X.length d1, .slice s1 Y.length f1, .int .i64 Z] := BoxV.new rfl hW4
  have HW4 := Lib.hid hW4
  replace mX := mX.below hb (Nat.le_refl _)
  replace mA := mA.below hb (Nat.le_refl _)
  replace mP := mP.below hb (Nat.le_refl _)
  replace bX := bX.below hb
  replace bL := bL.below hb
  replace i1 := i1.below hb (Nat.le_refl _)
  replace i2 := i2.below hb (Nat.le_refl _)
  replace hB := hB.trans (hb.mono hB.size)
  clear hb hW4
  go_upto_region 5 with (fail)
  rw [HW4.out]
  have kbX_0 := bX.cell 0 _ rfl
  have kbX_1 := bX.cell 1 _ rfl
  have lbX := bX.lt
  have kbL_0 := bL.cell 0 _ rfl
  have kbL_1 := bL.cell 1 _ rfl
  have kbL_2 := bL.cell 2 _ rfl
  have lbL := bL.lt
  have kbM_0 := bM.cell 0 _ rfl
  have kbM_1 := bM.cell 1 _ rfl
  have kbM_2 := bM.cell 2 _ rfl
  have lbM := bM.lt
  go_wp2_with fail
  refine (HV1.out _ _ _ _ _ mX i1 i2).mono ?_
  rintro e w5 ⟨rfl, hb⟩
  clear kbX_0 kbX_1 lbX kbL_0 kbL_1 kbL_2 lbL kbM_0 kbM_1 kbM_2 lbM
  replace mX := mX.below hb (Nat.le_refl _)
  replace mA := mA.below hb (Nat.le_refl _)
  replace mP := mP.below hb (Nat.le_refl _)
  replace bX := bX.below hb
  replace bL := bL.below hb
  replace i1 := i1.below hb (Nat.le_refl _)
  replace i2 := i2.below hb (Nat.le_refl _)
  replace bM := bM.below hb
  replace hB := hB.trans (hb.mono hB.size)
  clear hb
  have kbX_0 := bX.cell 0 _ rfl
  have kbX_1 := bX.cell 1 _ rfl
  have lbX := bX.lt
  have kbL_0 := bL.cell 0 _ rfl
  have kbL_1 := bL.cell 1 _ rfl
  have kbL_2 := bL.cell 2 _ rfl
  have lbL := bL.lt
  have kbM_0 := bM.cell 0 _ rfl
  have kbM_1 := bM.cell 1 _ rfl
  have kbM_2 := bM.cell 2 _ rfl
  have lbM := bM.lt
  go_wp2_with fail
  refine (HV2.out _ _ _ _ _ mX i1 i2).mono ?_
  rintro e w6 ⟨rfl, hb⟩
  clear kbX_0 kbX_1 lbX kbL_0 kbL_1 kbL_2 lbL kbM_0 kbM_1 kbM_2 lbM
  replace mX := mX.below hb (Nat.le_refl _)
  replace mA := mA.below hb (Nat.le_refl _)
  replace mP := mP.below hb (Nat.le_refl _)
  replace bX := bX.below hb
  replace bL := bL.below hb
  replace i1 := i1.below hb (Nat.le_refl _)
  replace i2 := i2.below hb (Nat.le_refl _)
  replace bM := bM.below hb
  replace hB := hB.trans (hb.mono hB.size)
  clear hb
  have kbX_0 := bX.cell 0 _ rfl
  have kbX_1 := bX.cell 1 _ rfl
  have lbX := bX.lt
  have kbL_0 := bL.cell 0 _ rfl
  have kbL_1 := bL.cell 1 _ rfl
  have kbL_2 := bL.cell 2 _ rfl
  have lbL := bL.lt
  go_wp2_with fail
  go_ret
  exact ⟨rfl, hB⟩
set_option maxHeartbeats 8000000 in
set_option maxRecDepth 100000 in
theorem rentCalm_bad (p : Option Addr) (c : Nat) (v : List (List Int)) (r : Int) (q : Option Addr) (d : Nat) (al : List Int) (s : Option Addr) (f : Nat) (ps : List Int) (z : Int) (w : World) (hx : Mat w p c v) (hr64 : in64 r) (hy : Ints w q d al) (hz : Ints w s f ps) (hz64 : in64 z) (hc : chkR v r = 0) (h0 : ¬ 50 < ps.length) (h1 : ¬ 50 < al.length) (h : vldR v r al ps z ≠ 0) :
    Calls Try.prog 5 #[.agg #[.slice p v.length c, .int .i64 r], .agg #[.slice q al.length d, .slice s ps.length f, .int .i64 z]] w fun e w' => e = .returned (.bool true) ∧ Below w.heap.size w w' := by
  obtain ⟨Wx, hWx⟩ : ∃ W, w.alloc (.cells #[.slice p v.length c, .int .i64 r] 24) = W := ⟨_, rfl⟩
  obtain ⟨W0, hW0⟩ : ∃ W, Wx.alloc (.cells #[.slice q al.length d, .slice s ps.length f, .int .i64 z] 27) = W := ⟨_, rfl⟩
  have hB1 := below_alloc hWx
  have hB2 := below_alloc hW0
  have bX : BoxV W0 w.heap.size [.slice p v.length c, .int .i64 r] := (BoxV.new rfl hWx).below hB2
  have hs : Wx.heap.size = w.heap.size + 1 := by rw [← hWx]; simp
  have bL : BoxV W0 (w.heap.size + 1) [.slice q al.length d, .slice s ps.length f, .int .i64 z] := BoxV.new hs hW0
  have hB : Below w.heap.size w W0 := hB1.trans (hB2.mono hB1.size)
  have mX := hx.below hB (Nat.le_refl _)
  have mA := hy.below hB (Nat.le_refl _)
  have mP := hz.below hB (Nat.le_refl _)
  have hlx := hx.length_le
  have hly := hy.length_le
  have hlz := hz.length_le
  have HWx := Lib.hid hWx
  have HW0 := Lib.hid hW0
  clear hWx hW0 hB1 hB2 hs hx hy hz
  have hf : fit15 v r = true := by unfold fit15; rw [decide_eq_true_iff]; exact hc
  have hF := fun W (h : Mat W p c v) => fit15_any p c v r W h
  rw [hf] at hF
  have hE := fun W (h : Mat W p c v) => rentCalm_any p c v r W h
  have hBd := (chkR_zero.1 hc).1
  obtain ⟨hev, hfr⟩ := lea_vld (g := calmG v) hc (calm_gp hBd)
  have eX0 : bestI v r = bestA v := (lea_parts (g := calmG v) hc).1
  obtain ⟨X, eX⟩ : ∃ x, bestA v = x := ⟨_, rfl⟩
  obtain ⟨Y, eY⟩ : ∃ x, leaY v r (calmG v) = x := ⟨_, rfl⟩
  obtain ⟨Z, eZ⟩ : ∃ x : Nat, leaZ v r (calmG v) = x := ⟨(leaZ v r (calmG v)).toNat, by have := (vld_zero.1 hev).2.2.1; omega⟩
  rw [eX0, eX, eY, eZ, hc] at hE
  rw [eX, eY, eZ] at hev hfr
  have hV1 := fun W q1 d1 s1 f1 (h : Mat W p c v) (h1 : Ints W q1 d1 X) (h2 : Ints W s1 f1 Y) => refValid_any p q1 s1 c d1 f1 v r X Y Z W h h1 h2
  have hV2 := fun W q1 d1 s1 f1 (h : Mat W p c v) (h1 : Ints W q1 d1 X) (h2 : Ints W s1 f1 Y) => free14_any p q1 s1 c d1 f1 v r X Y Z W h h1 h2
  rw [hev] at hV1
  rw [hfr] at hV2
  have hV := fun W (h : Mat W p c v) (h1 : Ints W q d al) (h2 : Ints W s f ps) => refValid_any p q s c d f v r al ps z W h h1 h2
  have hVF := fun W (h : Mat W p c v) (h1 : Ints W q d al) (h2 : Ints W s f ps) => free14_any p q s c d f v r al ps z W h h1 h2
  have HF := Lib.hid hF
  have HE := Lib.hid hE
  have HV1 := Lib.hid hV1
  have HV2 := Lib.hid hV2
  have HBd := Lib.hid hBd
  have Hev := Lib.hid hev
  have HeX := Lib.hid eX
  have HeY := Lib.hid eY
  have HeZ := Lib.hid eZ
  have d0 : decide (50 < (ps.length : Int)) = false := by rw [decide_eq_false_iff_not]; omega
  have d1 : decide (50 < (al.length : Int)) = false := by rw [decide_eq_false_iff_not]; omega
  obtain ⟨E, eE⟩ : ∃ x, vldR v r al ps z = x := ⟨_, rfl⟩
  rw [eE] at hV h
  have hd : (E != 0) = true := by rw [bne_iff_ne]; exact h
  have HV := Lib.hid hV
  clear h hV hc eE hVF
  clear hF hE hV1 hV2 hf hev hfr hBd eX eY eZ eX0
  go_enter Try.func5, Try.ntmps5
  go_wp2_with fail
  rw [HWx.out, HW0.out]
  refine (alive15_any _).mono ?_
  rintro e w1 ⟨rfl, hb⟩
  replace mX := mX.below hb (Nat.le_refl _)
  replace mA := mA.below hb (Nat.le_refl _)
  replace mP := mP.below hb (Nat.le_refl _)
  replace bX := bX.below hb
  replace bL := bL.below hb
  replace hB := hB.trans (hb.mono hB.size)
  clear hb
  have kbX_0 := bX.cell 0 _ rfl
  have kbX_1 := bX.cell 1 _ rfl
  have lbX := bX.lt
  have kbL_0 := bL.cell 0 _ rfl
  have kbL_1 := bL.cell 1 _ rfl
  have kbL_2 := bL.cell 2 _ rfl
  have lbL := bL.lt
  go_wp2_with fail
  refine (HF.out _ mX).mono ?_
  rintro e w2 ⟨rfl, hb⟩
  clear kbX_0 kbX_1 lbX kbL_0 kbL_1 kbL_2 lbL
  replace mX := mX.below hb (Nat.le_refl _)
  replace mA := mA.below hb (Nat.le_refl _)
  replace mP := mP.below hb (Nat.le_refl _)
  replace bX := bX.below hb
  replace bL := bL.below hb
  replace hB := hB.trans (hb.mono hB.size)
  clear hb
  have kbX_0 := bX.cell 0 _ rfl
  have kbX_1 := bX.cell 1 _ rfl
  have lbX := bX.lt
  have kbL_0 := bL.cell 0 _ rfl
  have kbL_1 := bL.cell 1 _ rfl
  have kbL_2 := bL.cell 2 _ rfl
  have lbL := bL.lt
  go_wp2_with fail
  refine (HE.out _ mX).mono ?_
  rintro e w3 ⟨q1, d1, s1, f1, rfl, i1, i2, hb⟩
  clear kbX_0 kbX_1 lbX kbL_0 kbL_1 kbL_2 lbL
  replace mX := mX.below hb (Nat.le_refl _)
  replace mA := mA.below hb (Nat.le_refl _)
  replace mP := mP.below hb (Nat.le_refl _)
  replace bX := bX.below hb
  replace bL := bL.below hb
  replace hB := hB.trans (hb.mono hB.size)
  clear hb
  obtain ⟨W4, hW4⟩ : ∃ W, w3.alloc (.cells #[.slice q1 X.length d1, .slice s1 Y.length f1, .int .i64 Z] 27) = W := ⟨_, rfl⟩
  have hb : Below w3.heap.size w3 W4 := below_alloc hW4
  have bM : BoxV W4 w3.heap.size [.slice q1 X.length d1, .slice s1 Y.length f1, .int .i64 Z] := BoxV.new rfl hW4
  have HW4 := Lib.hid hW4
  replace mX := mX.below hb (Nat.le_refl _)
  replace mA := mA.below hb (Nat.le_refl _)
  replace mP := mP.below hb (Nat.le_refl _)
  replace bX := bX.below hb
  replace bL := bL.below hb
  replace i1 := i1.below hb (Nat.le_refl _)
  replace i2 := i2.below hb (Nat.le_refl _)
  replace hB := hB.trans (hb.mono hB.size)
  clear hb hW4
  go_upto_region 5 with (fail)
  rw [HW4.out]
  have kbX_0 := bX.cell 0 _ rfl
  have kbX_1 := bX.cell 1 _ rfl
  have lbX := bX.lt
  have kbL_0 := bL.cell 0 _ rfl
  have kbL_1 := bL.cell 1 _ rfl
  have kbL_2 := bL.cell 2 _ rfl
  have lbL := bL.lt
  have kbM_0 := bM.cell 0 _ rfl
  have kbM_1 := bM.cell 1 _ rfl
  have kbM_2 := bM.cell 2 _ rfl
  have lbM := bM.lt
  go_wp2_with fail
  refine (HV1.out _ _ _ _ _ mX i1 i2).mono ?_
  rintro e w5 ⟨rfl, hb⟩
  clear kbX_0 kbX_1 lbX kbL_0 kbL_1 kbL_2 lbL kbM_0 kbM_1 kbM_2 lbM
  replace mX := mX.below hb (Nat.le_refl _)
  replace mA := mA.below hb (Nat.le_refl _)
  replace mP := mP.below hb (Nat.le_refl _)
  replace bX := bX.below hb
  replace bL := bL.below hb
  replace i1 := i1.below hb (Nat.le_refl _)
  replace i2 := i2.below hb (Nat.le_refl _)
  replace bM := bM.below hb
  replace hB := hB.trans (hb.mono hB.size)
  clear hb
  have kbX_0 := bX.cell 0 _ rfl
  have kbX_1 := bX.cell 1 _ rfl
  have lbX := bX.lt
  have kbL_0 := bL.cell 0 _ rfl
  have kbL_1 := bL.cell 1 _ rfl
  have kbL_2 := bL.cell 2 _ rfl
  have lbL := bL.lt
  have kbM_0 := bM.cell 0 _ rfl
  have kbM_1 := bM.cell 1 _ rfl
  have kbM_2 := bM.cell 2 _ rfl
  have lbM := bM.lt
  go_wp2_with fail
  refine (HV2.out _ _ _ _ _ mX i1 i2).mono ?_
  rintro e w6 ⟨rfl, hb⟩
  clear kbX_0 kbX_1 lbX kbL_0 kbL_1 kbL_2 lbL kbM_0 kbM_1 kbM_2 lbM
  replace mX := mX.below hb (Nat.le_refl _)
  replace mA := mA.below hb (Nat.le_refl _)
  replace mP := mP.below hb (Nat.le_refl _)
  replace bX := bX.below hb
  replace bL := bL.below hb
  replace i1 := i1.below hb (Nat.le_refl _)
  replace i2 := i2.below hb (Nat.le_refl _)
  replace bM := bM.below hb
  replace hB := hB.trans (hb.mono hB.size)
  clear hb
  have kbX_0 := bX.cell 0 _ rfl
  have kbX_1 := bX.cell 1 _ rfl
  have lbX := bX.lt
  have kbL_0 := bL.cell 0 _ rfl
  have kbL_1 := bL.cell 1 _ rfl
  have kbL_2 := bL.cell 2 _ rfl
  have lbL := bL.lt
  go_wp2_with fail
  refine (HV.out _ mX mA mP).mono ?_
  rintro e w8 ⟨rfl, hb⟩
  clear kbX_0 kbX_1 lbX kbL_0 kbL_1 kbL_2 lbL
  replace mX := mX.below hb (Nat.le_refl _)
  replace mA := mA.below hb (Nat.le_refl _)
  replace mP := mP.below hb (Nat.le_refl _)
  replace bX := bX.below hb
  replace bL := bL.below hb
  replace i1 := i1.below hb (Nat.le_refl _)
  replace i2 := i2.below hb (Nat.le_refl _)
  replace bM := bM.below hb
  replace hB := hB.trans (hb.mono hB.size)
  clear hb
  have kbX_0 := bX.cell 0 _ rfl
  have kbX_1 := bX.cell 1 _ rfl
  have lbX := bX.lt
  have kbL_0 := bL.cell 0 _ rfl
  have kbL_1 := bL.cell 1 _ rfl
  have kbL_2 := bL.cell 2 _ rfl
  have lbL := bL.lt
  go_wp2_with fail
  go_ret
  exact ⟨rfl, hB⟩
set_option maxHeartbeats 8000000 in
set_option maxRecDepth 100000 in
theorem rentCalm_envy (p : Option Addr) (c : Nat) (v : List (List Int)) (r : Int) (q : Option Addr) (d : Nat) (al : List Int) (s : Option Addr) (f : Nat) (ps : List Int) (z : Int) (w : World) (hx : Mat w p c v) (hr64 : in64 r) (hy : Ints w q d al) (hz : Ints w s f ps) (hz64 : in64 z) (hc : chkR v r = 0) (h0 : ¬ 50 < ps.length) (h1 : ¬ 50 < al.length) (h : vldR v r al ps z = 0) (h2 : freeB v r al ps z = false) :
    Calls Try.prog 5 #[.agg #[.slice p v.length c, .int .i64 r], .agg #[.slice q al.length d, .slice s ps.length f, .int .i64 z]] w fun e w' => e = .returned (.bool true) ∧ Below w.heap.size w w' := by
  obtain ⟨Wx, hWx⟩ : ∃ W, w.alloc (.cells #[.slice p v.length c, .int .i64 r] 24) = W := ⟨_, rfl⟩
  obtain ⟨W0, hW0⟩ : ∃ W, Wx.alloc (.cells #[.slice q al.length d, .slice s ps.length f, .int .i64 z] 27) = W := ⟨_, rfl⟩
  have hB1 := below_alloc hWx
  have hB2 := below_alloc hW0
  have bX : BoxV W0 w.heap.size [.slice p v.length c, .int .i64 r] := (BoxV.new rfl hWx).below hB2
  have hs : Wx.heap.size = w.heap.size + 1 := by rw [← hWx]; simp
  have bL : BoxV W0 (w.heap.size + 1) [.slice q al.length d, .slice s ps.length f, .int .i64 z] := BoxV.new hs hW0
  have hB : Below w.heap.size w W0 := hB1.trans (hB2.mono hB1.size)
  have mX := hx.below hB (Nat.le_refl _)
  have mA := hy.below hB (Nat.le_refl _)
  have mP := hz.below hB (Nat.le_refl _)
  have hlx := hx.length_le
  have hly := hy.length_le
  have hlz := hz.length_le
  have HWx := Lib.hid hWx
  have HW0 := Lib.hid hW0
  clear hWx hW0 hB1 hB2 hs hx hy hz
  have hf : fit15 v r = true := by unfold fit15; rw [decide_eq_true_iff]; exact hc
  have hF := fun W (h : Mat W p c v) => fit15_any p c v r W h
  rw [hf] at hF
  have hE := fun W (h : Mat W p c v) => rentCalm_any p c v r W h
  have hBd := (chkR_zero.1 hc).1
  obtain ⟨hev, hfr⟩ := lea_vld (g := calmG v) hc (calm_gp hBd)
  have eX0 : bestI v r = bestA v := (lea_parts (g := calmG v) hc).1
  obtain ⟨X, eX⟩ : ∃ x, bestA v = x := ⟨_, rfl⟩
  obtain ⟨Y, eY⟩ : ∃ x, leaY v r (calmG v) = x := ⟨_, rfl⟩
  obtain ⟨Z, eZ⟩ : ∃ x : Nat, leaZ v r (calmG v) = x := ⟨(leaZ v r (calmG v)).toNat, by have := (vld_zero.1 hev).2.2.1; omega⟩
  rw [eX0, eX, eY, eZ, hc] at hE
  rw [eX, eY, eZ] at hev hfr
  have hV1 := fun W q1 d1 s1 f1 (h : Mat W p c v) (h1 : Ints W q1 d1 X) (h2 : Ints W s1 f1 Y) => refValid_any p q1 s1 c d1 f1 v r X Y Z W h h1 h2
  have hV2 := fun W q1 d1 s1 f1 (h : Mat W p c v) (h1 : Ints W q1 d1 X) (h2 : Ints W s1 f1 Y) => free14_any p q1 s1 c d1 f1 v r X Y Z W h h1 h2
  rw [hev] at hV1
  rw [hfr] at hV2
  have hV := fun W (h : Mat W p c v) (h1 : Ints W q d al) (h2 : Ints W s f ps) => refValid_any p q s c d f v r al ps z W h h1 h2
  have hVF := fun W (h : Mat W p c v) (h1 : Ints W q d al) (h2 : Ints W s f ps) => free14_any p q s c d f v r al ps z W h h1 h2
  have HF := Lib.hid hF
  have HE := Lib.hid hE
  have HV1 := Lib.hid hV1
  have HV2 := Lib.hid hV2
  have HBd := Lib.hid hBd
  have Hev := Lib.hid hev
  have HeX := Lib.hid eX
  have HeY := Lib.hid eY
  have HeZ := Lib.hid eZ
  have d0 : decide (50 < (ps.length : Int)) = false := by rw [decide_eq_false_iff_not]; omega
  have d1 : decide (50 < (al.length : Int)) = false := by rw [decide_eq_false_iff_not]; omega
  rw [h] at hV
  rw [h2] at hVF
  have HV := Lib.hid hV
  have HVF := Lib.hid hVF
  clear h hV hc h2 hVF
  clear hF hE hV1 hV2 hf hev hfr hBd eX eY eZ eX0
  go_enter Try.func5, Try.ntmps5
  go_wp2_with fail
  rw [HWx.out, HW0.out]
  refine (alive15_any _).mono ?_
  rintro e w1 ⟨rfl, hb⟩
  replace mX := mX.below hb (Nat.le_refl _)
  replace mA := mA.below hb (Nat.le_refl _)
  replace mP := mP.below hb (Nat.le_refl _)
  replace bX := bX.below hb
  replace bL := bL.below hb
  replace hB := hB.trans (hb.mono hB.size)
  clear hb
  have kbX_0 := bX.cell 0 _ rfl
  have kbX_1 := bX.cell 1 _ rfl
  have lbX := bX.lt
  have kbL_0 := bL.cell 0 _ rfl
  have kbL_1 := bL.cell 1 _ rfl
  have kbL_2 := bL.cell 2 _ rfl
  have lbL := bL.lt
  go_wp2_with fail
  refine (HF.out _ mX).mono ?_
  rintro e w2 ⟨rfl, hb⟩
  clear kbX_0 kbX_1 lbX kbL_0 kbL_1 kbL_2 lbL
  replace mX := mX.below hb (Nat.le_refl _)
  replace mA := mA.below hb (Nat.le_refl _)
  replace mP := mP.below hb (Nat.le_refl _)
  replace bX := bX.below hb
  replace bL := bL.below hb
  replace hB := hB.trans (hb.mono hB.size)
  clear hb
  have kbX_0 := bX.cell 0 _ rfl
  have kbX_1 := bX.cell 1 _ rfl
  have lbX := bX.lt
  have kbL_0 := bL.cell 0 _ rfl
  have kbL_1 := bL.cell 1 _ rfl
  have kbL_2 := bL.cell 2 _ rfl
  have lbL := bL.lt
  go_wp2_with fail
  refine (HE.out _ mX).mono ?_
  rintro e w3 ⟨q1, d1, s1, f1, rfl, i1, i2, hb⟩
  clear kbX_0 kbX_1 lbX kbL_0 kbL_1 kbL_2 lbL
  replace mX := mX.below hb (Nat.le_refl _)
  replace mA := mA.below hb (Nat.le_refl _)
  replace mP := mP.below hb (Nat.le_refl _)
  replace bX := bX.below hb
  replace bL := bL.below hb
  replace hB := hB.trans (hb.mono hB.size)
  clear hb
  obtain ⟨W4, hW4⟩ : ∃ W, w3.alloc (.cells #[.slice q1 X.length d1, .slice s1 Y.length f1, .int .i64 Z] 27) = W := ⟨_, rfl⟩
  have hb : Below w3.heap.size w3 W4 := below_alloc hW4
  have bM : BoxV W4 w3.heap.size [.slice q1 X.length d1, .slice s1 Y.length f1, .int .i64 Z] := BoxV.new rfl hW4
  have HW4 := Lib.hid hW4
  replace mX := mX.below hb (Nat.le_refl _)
  replace mA := mA.below hb (Nat.le_refl _)
  replace mP := mP.below hb (Nat.le_refl _)
  replace bX := bX.below hb
  replace bL := bL.below hb
  replace i1 := i1.below hb (Nat.le_refl _)
  replace i2 := i2.below hb (Nat.le_refl _)
  replace hB := hB.trans (hb.mono hB.size)
  clear hb hW4
  go_upto_region 5 with (fail)
  rw [HW4.out]
  have kbX_0 := bX.cell 0 _ rfl
  have kbX_1 := bX.cell 1 _ rfl
  have lbX := bX.lt
  have kbL_0 := bL.cell 0 _ rfl
  have kbL_1 := bL.cell 1 _ rfl
  have kbL_2 := bL.cell 2 _ rfl
  have lbL := bL.lt
  have kbM_0 := bM.cell 0 _ rfl
  have kbM_1 := bM.cell 1 _ rfl
  have kbM_2 := bM.cell 2 _ rfl
  have lbM := bM.lt
  go_wp2_with fail
  refine (HV1.out _ _ _ _ _ mX i1 i2).mono ?_
  rintro e w5 ⟨rfl, hb⟩
  clear kbX_0 kbX_1 lbX kbL_0 kbL_1 kbL_2 lbL kbM_0 kbM_1 kbM_2 lbM
  replace mX := mX.below hb (Nat.le_refl _)
  replace mA := mA.below hb (Nat.le_refl _)
  replace mP := mP.below hb (Nat.le_refl _)
  replace bX := bX.below hb
  replace bL := bL.below hb
  replace i1 := i1.below hb (Nat.le_refl _)
  replace i2 := i2.below hb (Nat.le_refl _)
  replace bM := bM.below hb
  replace hB := hB.trans (hb.mono hB.size)
  clear hb
  have kbX_0 := bX.cell 0 _ rfl
  have kbX_1 := bX.cell 1 _ rfl
  have lbX := bX.lt
  have kbL_0 := bL.cell 0 _ rfl
  have kbL_1 := bL.cell 1 _ rfl
  have kbL_2 := bL.cell 2 _ rfl
  have lbL := bL.lt
  have kbM_0 := bM.cell 0 _ rfl
  have kbM_1 := bM.cell 1 _ rfl
  have kbM_2 := bM.cell 2 _ rfl
  have lbM := bM.lt
  go_wp2_with fail
  refine (HV2.out _ _ _ _ _ mX i1 i2).mono ?_
  rintro e w6 ⟨rfl, hb⟩
  clear kbX_0 kbX_1 lbX kbL_0 kbL_1 kbL_2 lbL kbM_0 kbM_1 kbM_2 lbM
  replace mX := mX.below hb (Nat.le_refl _)
  replace mA := mA.below hb (Nat.le_refl _)
  replace mP := mP.below hb (Nat.le_refl _)
  replace bX := bX.below hb
  replace bL := bL.below hb
  replace i1 := i1.below hb (Nat.le_refl _)
  replace i2 := i2.below hb (Nat.le_refl _)
  replace bM := bM.below hb
  replace hB := hB.trans (hb.mono hB.size)
  clear hb
  have kbX_0 := bX.cell 0 _ rfl
  have kbX_1 := bX.cell 1 _ rfl
  have lbX := bX.lt
  have kbL_0 := bL.cell 0 _ rfl
  have kbL_1 := bL.cell 1 _ rfl
  have kbL_2 := bL.cell 2 _ rfl
  have lbL := bL.lt
  go_wp2_with fail
  refine (HV.out _ mX mA mP).mono ?_
  rintro e w8 ⟨rfl, hb⟩
  clear kbX_0 kbX_1 lbX kbL_0 kbL_1 kbL_2 lbL
  replace mX := mX.below hb (Nat.le_refl _)
  replace mA := mA.below hb (Nat.le_refl _)
  replace mP := mP.below hb (Nat.le_refl _)
  replace bX := bX.below hb
  replace bL := bL.below hb
  replace i1 := i1.below hb (Nat.le_refl _)
  replace i2 := i2.below hb (Nat.le_refl _)
  replace bM := bM.below hb
  replace hB := hB.trans (hb.mono hB.size)
  clear hb
  have kbX_0 := bX.cell 0 _ rfl
  have kbX_1 := bX.cell 1 _ rfl
  have lbX := bX.lt
  have kbL_0 := bL.cell 0 _ rfl
  have kbL_1 := bL.cell 1 _ rfl
  have kbL_2 := bL.cell 2 _ rfl
  have lbL := bL.lt
  go_wp2_with fail
  refine (HVF.out _ mX mA mP).mono ?_
  rintro e w9 ⟨rfl, hb⟩
  clear kbX_0 kbX_1 lbX kbL_0 kbL_1 kbL_2 lbL
  replace mX := mX.below hb (Nat.le_refl _)
  replace mA := mA.below hb (Nat.le_refl _)
  replace mP := mP.below hb (Nat.le_refl _)
  replace bX := bX.below hb
  replace bL := bL.below hb
  replace i1 := i1.below hb (Nat.le_refl _)
  replace i2 := i2.below hb (Nat.le_refl _)
  replace bM := bM.below hb
  replace hB := hB.trans (hb.mono hB.size)
  clear hb
  have kbX_0 := bX.cell 0 _ rfl
  have kbX_1 := bX.cell 1 _ rfl
  have lbX := bX.lt
  have kbL_0 := bL.cell 0 _ rfl
  have kbL_1 := bL.cell 1 _ rfl
  have kbL_2 := bL.cell 2 _ rfl
  have lbL := bL.lt
  go_wp2_with fail
  go_ret
  exact ⟨rfl, hB⟩
set_option maxHeartbeats 8000000 in
set_option maxRecDepth 100000 in
theorem rentCalm_main (p : Option Addr) (c : Nat) (v : List (List Int)) (r : Int) (q : Option Addr) (d : Nat) (al : List Int) (s : Option Addr) (f : Nat) (ps : List Int) (z : Int) (w : World) (hx : Mat w p c v) (hr64 : in64 r) (hy : Ints w q d al) (hz : Ints w s f ps) (hz64 : in64 z) (hc : chkR v r = 0) (h0 : ¬ 50 < ps.length) (h1 : ¬ 50 < al.length) (h : vldR v r al ps z = 0) (h2 : freeB v r al ps z = true) :
    Calls Try.prog 5 #[.agg #[.slice p v.length c, .int .i64 r], .agg #[.slice q al.length d, .slice s ps.length f, .int .i64 z]] w fun e w' => e = .returned (.bool true) ∧ Below w.heap.size w w' := by
  obtain ⟨Wx, hWx⟩ : ∃ W, w.alloc (.cells #[.slice p v.length c, .int .i64 r] 24) = W := ⟨_, rfl⟩
  obtain ⟨W0, hW0⟩ : ∃ W, Wx.alloc (.cells #[.slice q al.length d, .slice s ps.length f, .int .i64 z] 27) = W := ⟨_, rfl⟩
  have hB1 := below_alloc hWx
  have hB2 := below_alloc hW0
  have bX : BoxV W0 w.heap.size [.slice p v.length c, .int .i64 r] := (BoxV.new rfl hWx).below hB2
  have hs : Wx.heap.size = w.heap.size + 1 := by rw [← hWx]; simp
  have bL : BoxV W0 (w.heap.size + 1) [.slice q al.length d, .slice s ps.length f, .int .i64 z] := BoxV.new hs hW0
  have hB : Below w.heap.size w W0 := hB1.trans (hB2.mono hB1.size)
  have mX := hx.below hB (Nat.le_refl _)
  have mA := hy.below hB (Nat.le_refl _)
  have mP := hz.below hB (Nat.le_refl _)
  have hlx := hx.length_le
  have hly := hy.length_le
  have hlz := hz.length_le
  have HWx := Lib.hid hWx
  have HW0 := Lib.hid hW0
  clear hWx hW0 hB1 hB2 hs hx hy hz
  have hf : fit15 v r = true := by unfold fit15; rw [decide_eq_true_iff]; exact hc
  have hF := fun W (h : Mat W p c v) => fit15_any p c v r W h
  rw [hf] at hF
  have hE := fun W (h : Mat W p c v) => rentCalm_any p c v r W h
  have hBd := (chkR_zero.1 hc).1
  obtain ⟨hev, hfr⟩ := lea_vld (g := calmG v) hc (calm_gp hBd)
  have eX0 : bestI v r = bestA v := (lea_parts (g := calmG v) hc).1
  obtain ⟨X, eX⟩ : ∃ x, bestA v = x := ⟨_, rfl⟩
  obtain ⟨Y, eY⟩ : ∃ x, leaY v r (calmG v) = x := ⟨_, rfl⟩
  obtain ⟨Z, eZ⟩ : ∃ x : Nat, leaZ v r (calmG v) = x := ⟨(leaZ v r (calmG v)).toNat, by have := (vld_zero.1 hev).2.2.1; omega⟩
  rw [eX0, eX, eY, eZ, hc] at hE
  rw [eX, eY, eZ] at hev hfr
  have hV1 := fun W q1 d1 s1 f1 (h : Mat W p c v) (h1 : Ints W q1 d1 X) (h2 : Ints W s1 f1 Y) => refValid_any p q1 s1 c d1 f1 v r X Y Z W h h1 h2
  have hV2 := fun W q1 d1 s1 f1 (h : Mat W p c v) (h1 : Ints W q1 d1 X) (h2 : Ints W s1 f1 Y) => free14_any p q1 s1 c d1 f1 v r X Y Z W h h1 h2
  rw [hev] at hV1
  rw [hfr] at hV2
  have hV := fun W (h : Mat W p c v) (h1 : Ints W q d al) (h2 : Ints W s f ps) => refValid_any p q s c d f v r al ps z W h h1 h2
  have hVF := fun W (h : Mat W p c v) (h1 : Ints W q d al) (h2 : Ints W s f ps) => free14_any p q s c d f v r al ps z W h h1 h2
  have HF := Lib.hid hF
  have HE := Lib.hid hE
  have HV1 := Lib.hid hV1
  have HV2 := Lib.hid hV2
  have HBd := Lib.hid hBd
  have Hev := Lib.hid hev
  have HeX := Lib.hid eX
  have HeY := Lib.hid eY
  have HeZ := Lib.hid eZ
  have d0 : decide (50 < (ps.length : Int)) = false := by rw [decide_eq_false_iff_not]; omega
  have d1 : decide (50 < (al.length : Int)) = false := by rw [decide_eq_false_iff_not]; omega
  have hz1 := (vld_zero.1 h).2.2.1
  have hz2 := (vld_zero.1 h).2.2.2.1
  obtain ⟨zn, rfl⟩ : ∃ x : Nat, z = x := ⟨z.toNat, by omega⟩
  have hZ1 := (vld_zero.1 hev).2.2.1
  have hZ2 := (vld_zero.1 hev).2.2.2.1
  have HEF := Lib.hid (freeB_ef h2).2
  rw [h] at hV
  rw [h2] at hVF
  have HV := Lib.hid hV
  have HVF := Lib.hid hVF
  have hWm := fun W q1 d1 s1 f1 (hm : Mat W p c v) (h1 : Ints W q1 d1 X) (h2 : Ints W s1 f1 Y) => worst_ok p q1 s1 c d1 f1 v r X Y Z W hm h1 h2 hev
  have hWl := fun W (hm : Mat W p c v) (h1 : Ints W q d al) (h2 : Ints W s f ps) => worst_ok p q s c d f v r al ps zn W hm h1 h2 h
  obtain ⟨⟨lm1, lm2⟩, _, _⟩ := loG_spec hev
  obtain ⟨⟨hm1, hm2⟩, _, _⟩ := hiG_spec hev
  obtain ⟨⟨ll1, ll2⟩, _, _⟩ := loG_spec h
  obtain ⟨⟨hl1, hl2⟩, _, _⟩ := hiG_spec h
  have hlaw := calm_law h HEF.out eZ
  rw [eX, eY] at hlaw
  have hless := fun W => lessRat_any (hiG v al ps zn) (hiG v X Y Z) zn Z W (by omega) (by omega) (by omega) (by omega)
  rw [show decide (hiG v al ps zn * (Z : Int) < hiG v X Y Z * zn) = false by rw [decide_eq_false_iff_not]; omega] at hless
  have Hgm := Lib.hid (good_of hev)
  have Hgl := Lib.hid (good_of h)
  generalize loG v X Y Z = x1 at *
  generalize hiG v X Y Z = x2 at *
  generalize loG v al ps zn = y1 at *
  generalize hiG v al ps zn = y2 at *
  obtain ⟨A1, hA1⟩ : ∃ x, rN x1 Z = x := ⟨_, rfl⟩
  obtain ⟨A2, hA2⟩ : ∃ x, rD x1 Z = x := ⟨_, rfl⟩
  obtain ⟨B1, hB1⟩ : ∃ x, rN x2 Z = x := ⟨_, rfl⟩
  obtain ⟨B2, hB2⟩ : ∃ x, rD x2 Z = x := ⟨_, rfl⟩
  obtain ⟨C1, hC1⟩ : ∃ x, rN y1 zn = x := ⟨_, rfl⟩
  obtain ⟨C2, hC2⟩ : ∃ x, rD y1 zn = x := ⟨_, rfl⟩
  obtain ⟨D1, hD1⟩ : ∃ x, rN y2 zn = x := ⟨_, rfl⟩
  obtain ⟨D2, hD2⟩ : ∃ x, rD y2 zn = x := ⟨_, rfl⟩
  rw [hA1, hA2, hB1, hB2] at hWm
  rw [hC1, hC2, hD1, hD2] at hWl
  rw [hB1, hB2, hD1, hD2] at hless
  have HWm := Lib.hid hWm
  have HWl := Lib.hid hWl
  have HLe := Lib.hid hless
  have h6 := HBd.out.2.1
  have hv0 := HBd.out.1
  clear h hV hc h2 hVF hWm hWl hless hlaw hA1 hA2 hB1 hB2 hC1 hC2 hD1 hD2 lm1 lm2 hm1 hm2 ll1 ll2 hl1 hl2
  clear hF hE hV1 hV2 hf hev hfr hBd eX eY eZ eX0
  go_enter Try.func5, Try.ntmps5
  go_wp2_with fail
  rw [HWx.out, HW0.out]
  refine (alive15_any _).mono ?_
  rintro e w1 ⟨rfl, hb⟩
  replace mX := mX.below hb (Nat.le_refl _)
  replace mA := mA.below hb (Nat.le_refl _)
  replace mP := mP.below hb (Nat.le_refl _)
  replace bX := bX.below hb
  replace bL := bL.below hb
  replace hB := hB.trans (hb.mono hB.size)
  clear hb
  have kbX_0 := bX.cell 0 _ rfl
  have kbX_1 := bX.cell 1 _ rfl
  have lbX := bX.lt
  have kbL_0 := bL.cell 0 _ rfl
  have kbL_1 := bL.cell 1 _ rfl
  have kbL_2 := bL.cell 2 _ rfl
  have lbL := bL.lt
  go_wp2_with fail
  refine (HF.out _ mX).mono ?_
  rintro e w2 ⟨rfl, hb⟩
  clear kbX_0 kbX_1 lbX kbL_0 kbL_1 kbL_2 lbL
  replace mX := mX.below hb (Nat.le_refl _)
  replace mA := mA.below hb (Nat.le_refl _)
  replace mP := mP.below hb (Nat.le_refl _)
  replace bX := bX.below hb
  replace bL := bL.below hb
  replace hB := hB.trans (hb.mono hB.size)
  clear hb
  have kbX_0 := bX.cell 0 _ rfl
  have kbX_1 := bX.cell 1 _ rfl
  have lbX := bX.lt
  have kbL_0 := bL.cell 0 _ rfl
  have kbL_1 := bL.cell 1 _ rfl
  have kbL_2 := bL.cell 2 _ rfl
  have lbL := bL.lt
  go_wp2_with fail
  refine (HE.out _ mX).mono ?_
  rintro e w3 ⟨q1, d1, s1, f1, rfl, i1, i2, hb⟩
  clear kbX_0 kbX_1 lbX kbL_0 kbL_1 kbL_2 lbL
  replace mX := mX.below hb (Nat.le_refl _)
  replace mA := mA.below hb (Nat.le_refl _)
  replace mP := mP.below hb (Nat.le_refl _)
  replace bX := bX.below hb
  replace bL := bL.below hb
  replace hB := hB.trans (hb.mono hB.size)
  clear hb
  obtain ⟨W4, hW4⟩ : ∃ W, w3.alloc (.cells #[.slice q1 X.length d1, .slice s1 Y.length f1, .int .i64 Z] 27) = W := ⟨_, rfl⟩
  have hb : Below w3.heap.size w3 W4 := below_alloc hW4
  have bM : BoxV W4 w3.heap.size [.slice q1 X.length d1, .slice s1 Y.length f1, .int .i64 Z] := BoxV.new rfl hW4
  have HW4 := Lib.hid hW4
  replace mX := mX.below hb (Nat.le_refl _)
  replace mA := mA.below hb (Nat.le_refl _)
  replace mP := mP.below hb (Nat.le_refl _)
  replace bX := bX.below hb
  replace bL := bL.below hb
  replace i1 := i1.below hb (Nat.le_refl _)
  replace i2 := i2.below hb (Nat.le_refl _)
  replace hB := hB.trans (hb.mono hB.size)
  clear hb hW4
  go_upto_region 5 with (fail)
  rw [HW4.out]
  have kbX_0 := bX.cell 0 _ rfl
  have kbX_1 := bX.cell 1 _ rfl
  have lbX := bX.lt
  have kbL_0 := bL.cell 0 _ rfl
  have kbL_1 := bL.cell 1 _ rfl
  have kbL_2 := bL.cell 2 _ rfl
  have lbL := bL.lt
  have kbM_0 := bM.cell 0 _ rfl
  have kbM_1 := bM.cell 1 _ rfl
  have kbM_2 := bM.cell 2 _ rfl
  have lbM := bM.lt
  go_wp2_with fail
  refine (HV1.out _ _ _ _ _ mX i1 i2).mono ?_
  rintro e w5 ⟨rfl, hb⟩
  clear kbX_0 kbX_1 lbX kbL_0 kbL_1 kbL_2 lbL kbM_0 kbM_1 kbM_2 lbM
  replace mX := mX.below hb (Nat.le_refl _)
  replace mA := mA.below hb (Nat.le_refl _)
  replace mP := mP.below hb (Nat.le_refl _)
  replace bX := bX.below hb
  replace bL := bL.below hb
  replace i1 := i1.below hb (Nat.le_refl _)
  replace i2 := i2.below hb (Nat.le_refl _)
  replace bM := bM.below hb
  replace hB := hB.trans (hb.mono hB.size)
  clear hb
  have kbX_0 := bX.cell 0 _ rfl
  have kbX_1 := bX.cell 1 _ rfl
  have lbX := bX.lt
  have kbL_0 := bL.cell 0 _ rfl
  have kbL_1 := bL.cell 1 _ rfl
  have kbL_2 := bL.cell 2 _ rfl
  have lbL := bL.lt
  have kbM_0 := bM.cell 0 _ rfl
  have kbM_1 := bM.cell 1 _ rfl
  have kbM_2 := bM.cell 2 _ rfl
  have lbM := bM.lt
  go_wp2_with fail
  refine (HV2.out _ _ _ _ _ mX i1 i2).mono ?_
  rintro e w6 ⟨rfl, hb⟩
  clear kbX_0 kbX_1 lbX kbL_0 kbL_1 kbL_2 lbL kbM_0 kbM_1 kbM_2 lbM
  replace mX := mX.below hb (Nat.le_refl _)
  replace mA := mA.below hb (Nat.le_refl _)
  replace mP := mP.below hb (Nat.le_refl _)
  replace bX := bX.below hb
  replace bL := bL.below hb
  replace i1 := i1.below hb (Nat.le_refl _)
  replace i2 := i2.below hb (Nat.le_refl _)
  replace bM := bM.below hb
  replace hB := hB.trans (hb.mono hB.size)
  clear hb
  have kbX_0 := bX.cell 0 _ rfl
  have kbX_1 := bX.cell 1 _ rfl
  have lbX := bX.lt
  have kbL_0 := bL.cell 0 _ rfl
  have kbL_1 := bL.cell 1 _ rfl
  have kbL_2 := bL.cell 2 _ rfl
  have lbL := bL.lt
  go_wp2_with fail
  refine (HV.out _ mX mA mP).mono ?_
  rintro e w8 ⟨rfl, hb⟩
  clear kbX_0 kbX_1 lbX kbL_0 kbL_1 kbL_2 lbL
  replace mX := mX.below hb (Nat.le_refl _)
  replace mA := mA.below hb (Nat.le_refl _)
  replace mP := mP.below hb (Nat.le_refl _)
  replace bX := bX.below hb
  replace bL := bL.below hb
  replace i1 := i1.below hb (Nat.le_refl _)
  replace i2 := i2.below hb (Nat.le_refl _)
  replace bM := bM.below hb
  replace hB := hB.trans (hb.mono hB.size)
  clear hb
  have kbX_0 := bX.cell 0 _ rfl
  have kbX_1 := bX.cell 1 _ rfl
  have lbX := bX.lt
  have kbL_0 := bL.cell 0 _ rfl
  have kbL_1 := bL.cell 1 _ rfl
  have kbL_2 := bL.cell 2 _ rfl
  have lbL := bL.lt
  go_wp2_with fail
  refine (HVF.out _ mX mA mP).mono ?_
  rintro e w9 ⟨rfl, hb⟩
  clear kbX_0 kbX_1 lbX kbL_0 kbL_1 kbL_2 lbL
  replace mX := mX.below hb (Nat.le_refl _)
  replace mA := mA.below hb (Nat.le_refl _)
  replace mP := mP.below hb (Nat.le_refl _)
  replace bX := bX.below hb
  replace bL := bL.below hb
  replace i1 := i1.below hb (Nat.le_refl _)
  replace i2 := i2.below hb (Nat.le_refl _)
  replace bM := bM.below hb
  replace hB := hB.trans (hb.mono hB.size)
  clear hb
  have kbX_0 := bX.cell 0 _ rfl
  have kbX_1 := bX.cell 1 _ rfl
  have lbX := bX.lt
  have kbL_0 := bL.cell 0 _ rfl
  have kbL_1 := bL.cell 1 _ rfl
  have kbL_2 := bL.cell 2 _ rfl
  have lbL := bL.lt
  have kbM_0 := bM.cell 0 _ rfl
  have kbM_1 := bM.cell 1 _ rfl
  have kbM_2 := bM.cell 2 _ rfl
  have lbM := bM.lt
  go_wp2_with fail
  refine (HWm.out _ _ _ _ _ mX i1 i2).mono ?_
  rintro e wa ⟨rfl, hb⟩
  clear kbX_0 kbX_1 lbX kbL_0 kbL_1 kbL_2 lbL kbM_0 kbM_1 kbM_2 lbM
  replace mX := mX.below hb (Nat.le_refl _)
  replace mA := mA.below hb (Nat.le_refl _)
  replace mP := mP.below hb (Nat.le_refl _)
  replace bX := bX.below hb
  replace bL := bL.below hb
  replace i1 := i1.below hb (Nat.le_refl _)
  replace i2 := i2.below hb (Nat.le_refl _)
  replace bM := bM.below hb
  replace hB := hB.trans (hb.mono hB.size)
  clear hb
  obtain ⟨Wba, hWba⟩ : ∃ W, wa.alloc (.cells #[.int .i64 A1, .int .i64 A2] 32) = W := ⟨_, rfl⟩
  obtain ⟨Wb, hWb⟩ : ∃ W, Wba.alloc (.cells #[.int .i64 B1, .int .i64 B2] 32) = W := ⟨_, rfl⟩
  have hb1 := below_alloc hWba
  have hb2 := below_alloc hWb
  have hs1 : Wba.heap.size = wa.heap.size + 1 := by rw [← hWba]; simp
  have bA : BoxV Wb wa.heap.size [.int .i64 A1, .int .i64 A2] := (BoxV.new rfl hWba).below hb2
  have bB : BoxV Wb (wa.heap.size + 1) [.int .i64 B1, .int .i64 B2] := BoxV.new hs1 hWb
  have hb : Below wa.heap.size wa Wb := hb1.trans (hb2.mono hb1.size)
  have HWba := Lib.hid hWba
  have HWb := Lib.hid hWb
  replace mX := mX.below hb (Nat.le_refl _)
  replace mA := mA.below hb (Nat.le_refl _)
  replace mP := mP.below hb (Nat.le_refl _)
  replace bX := bX.below hb
  replace bL := bL.below hb
  replace i1 := i1.below hb (Nat.le_refl _)
  replace i2 := i2.below hb (Nat.le_refl _)
  replace bM := bM.below hb
  replace hB := hB.trans (hb.mono hB.size)
  clear hb hb1 hb2 hs1 hWba hWb
  go_upto_region 10 with (fail)
  rw [HWba.out, HWb.out]
  have kbX_0 := bX.cell 0 _ rfl
  have kbX_1 := bX.cell 1 _ rfl
  have lbX := bX.lt
  have kbL_0 := bL.cell 0 _ rfl
  have kbL_1 := bL.cell 1 _ rfl
  have kbL_2 := bL.cell 2 _ rfl
  have lbL := bL.lt
  go_wp2_with fail
  refine (HWl.out _ mX mA mP).mono ?_
  rintro e wc ⟨rfl, hb⟩
  clear kbX_0 kbX_1 lbX kbL_0 kbL_1 kbL_2 lbL
  replace mX := mX.below hb (Nat.le_refl _)
  replace mA := mA.below hb (Nat.le_refl _)
  replace mP := mP.below hb (Nat.le_refl _)
  replace bX := bX.below hb
  replace bL := bL.below hb
  replace i1 := i1.below hb (Nat.le_refl _)
  replace i2 := i2.below hb (Nat.le_refl _)
  replace bM := bM.below hb
  replace bA := bA.below hb
  replace bB := bB.below hb
  replace hB := hB.trans (hb.mono hB.size)
  clear hb
  obtain ⟨Wda, hWda⟩ : ∃ W, wc.alloc (.cells #[.int .i64 C1, .int .i64 C2] 32) = W := ⟨_, rfl⟩
  obtain ⟨Wd, hWd⟩ : ∃ W, Wda.alloc (.cells #[.int .i64 D1, .int .i64 D2] 32) = W := ⟨_, rfl⟩
  have hb1 := below_alloc hWda
  have hb2 := below_alloc hWd
  have hs1 : Wda.heap.size = wc.heap.size + 1 := by rw [← hWda]; simp
  have bC : BoxV Wd wc.heap.size [.int .i64 C1, .int .i64 C2] := (BoxV.new rfl hWda).below hb2
  have bD : BoxV Wd (wc.heap.size + 1) [.int .i64 D1, .int .i64 D2] := BoxV.new hs1 hWd
  have hb : Below wc.heap.size wc Wd := hb1.trans (hb2.mono hb1.size)
  have HWda := Lib.hid hWda
  have HWd := Lib.hid hWd
  replace mX := mX.below hb (Nat.le_refl _)
  replace mA := mA.below hb (Nat.le_refl _)
  replace mP := mP.below hb (Nat.le_refl _)
  replace bX := bX.below hb
  replace bL := bL.below hb
  replace i1 := i1.below hb (Nat.le_refl _)
  replace i2 := i2.below hb (Nat.le_refl _)
  replace bM := bM.below hb
  replace bA := bA.below hb
  replace bB := bB.below hb
  replace hB := hB.trans (hb.mono hB.size)
  clear hb hb1 hb2 hs1 hWda hWd
  go_upto_region 11 with (fail)
  rw [HWda.out, HWd.out]
  have kbA_0 := bA.cell 0 _ rfl
  have kbA_1 := bA.cell 1 _ rfl
  have lbA := bA.lt
  have kbB_0 := bB.cell 0 _ rfl
  have kbB_1 := bB.cell 1 _ rfl
  have lbB := bB.lt
  have kbC_0 := bC.cell 0 _ rfl
  have kbC_1 := bC.cell 1 _ rfl
  have lbC := bC.lt
  have kbD_0 := bD.cell 0 _ rfl
  have kbD_1 := bD.cell 1 _ rfl
  have lbD := bD.lt
  go_wp2_with fail
  refine (HLe.out _).mono ?_
  rintro e we ⟨rfl, hb⟩
  clear kbA_0 kbA_1 lbA kbB_0 kbB_1 lbB kbC_0 kbC_1 lbC kbD_0 kbD_1 lbD
  replace mX := mX.below hb (Nat.le_refl _)
  replace mA := mA.below hb (Nat.le_refl _)
  replace mP := mP.below hb (Nat.le_refl _)
  replace bX := bX.below hb
  replace bL := bL.below hb
  replace i1 := i1.below hb (Nat.le_refl _)
  replace i2 := i2.below hb (Nat.le_refl _)
  replace bM := bM.below hb
  replace bA := bA.below hb
  replace bB := bB.below hb
  replace bC := bC.below hb
  replace bD := bD.below hb
  replace hB := hB.trans (hb.mono hB.size)
  clear hb
  go_wp2_with fail
  go_ret
  exact ⟨rfl, hB⟩

theorem rentCalm_walk (p : Option Addr) (c : Nat) (v : List (List Int)) (r : Int) (q : Option Addr) (d : Nat) (al : List Int) (s : Option Addr) (f : Nat) (ps : List Int) (z : Int) (w : World) (hx : Mat w p c v) (hr64 : in64 r) (hy : Ints w q d al) (hz : Ints w s f ps) (hz64 : in64 z) : Calls Try.prog 5 #[.agg #[.slice p v.length c, .int .i64 r], .agg #[.slice q al.length d, .slice s ps.length f, .int .i64 z]] w fun e w' => e = .returned (.bool true) ∧ Below w.heap.size w w' := by
  by_cases hc : chkR v r = 0
  · by_cases h1 : 50 < al.length
    · exact rentCalm_big1 p c v r q d al s f ps z w hx hr64 hy hz hz64 hc h1
    · by_cases h0 : 50 < ps.length
      · exact rentCalm_big2 p c v r q d al s f ps z w hx hr64 hy hz hz64 hc h1 h0
      · by_cases h : vldR v r al ps z = 0
        · cases h2 : freeB v r al ps z with
          | true => exact rentCalm_main p c v r q d al s f ps z w hx hr64 hy hz hz64 hc h0 h1 h h2
          | false => exact rentCalm_envy p c v r q d al s f ps z w hx hr64 hy hz hz64 hc h0 h1 h h2
        · exact rentCalm_bad p c v r q d al s f ps z w hx hr64 hy hz hz64 hc h0 h1 h
  · exact rentCalm_early p c v r q d al s f ps z w hx hr64 hy hz hz64 hc
end Go.Proofs.Ytllcbcanohdepaa
