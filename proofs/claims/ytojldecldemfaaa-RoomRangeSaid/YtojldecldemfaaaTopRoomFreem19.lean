/- The walk of the law RoomFree: for every flat and lease it returns true, and changes nothing that was there.  (Printed by wip/genfree.py.) -/
import Derived.Test.YtojldecldemfaaaTopRoomFreem15
import Derived.Test.YtojldecldemfaaaTopRoomFreem18
import Derived.Deep.DeepCutAuto
/- The walk of the law RoomFree: for every flat and lease it returns true, and changes nothing that was there.  (Printed by wip/genfree.py.) -/
namespace Go.Proofs.Ytojldecldemfaaa
set_option linter.unusedVariables false
set_option linter.unusedSimpArgs false
open Go.ChangeShapes Go.WideShapes Go.ChangeAt Go.RowKit Go.Deep

theorem lnk_small {v : List (List Int)} (hv : Bids v) {j k : Nat} (hj : j < v.length) : -6000000 ≤ lnkS (wl v (bestA v)) v.length j k ∧ lnkS (wl v (bestA v)) v.length j k ≤ 6000000 := by
  have hb := bestA_best hv.1
  have hw : ∀ x y, x < v.length → y < v.length → -1000000 ≤ wl v (bestA v) x y ∧ wl v (bestA v) x y ≤ 1000000 := fun x y hx hy => by
    obtain ⟨i, hi, rfl⟩ := (isA_per hb.1).surj hx
    rw [wl_of hb.1 hi]
    have h1 := (hv.2.2 i hi).2 y hy
    have h2 := (hv.2.2 i hi).2 (itm (bestA v) i) (isA_lt hb.1 i hi).2
    unfold bid
    omega
  have := lnk_bound (by decide) hw v.length (List.replicate v.length false) j k hj
  have h6 := hv.2.1
  unfold lnkS
  omega
theorem lz_small {x z : Int} (h1 : -6000000 ≤ x) (h2 : x ≤ 6000000) (h3 : 1 ≤ z) (h4 : z ≤ 60) : -360000000 ≤ x * z ∧ x * z ≤ 360000000 := by
  have a := Int.mul_le_mul_of_nonneg_right h2 (show 0 ≤ z by omega)
  have b := Int.mul_le_mul_of_nonneg_right h1 (show 0 ≤ z by omega)
  omega
theorem linkL_at {v : List (List Int)} {a : List Int} {j k : Nat} (hj : j < v.length) (hk : k < v.length) : iget (rget (linkL v a) j) k = lnkS (wl v a) v.length j k := by
  rw [linkL_row hj]
  simp [iget, hk]
theorem freeB_ok {v : List (List Int)} {r : Int} (hc : chkR v r = 0) : vldR v r (evenX v r) (evenY v r) (evenZ v r) = 0 ∧ freeB v r (evenX v r) (evenY v r) (evenZ v r) = true := by
  have h := evenOk hc
  have e1 : evenX v r = bestA v := by unfold evenX; rw [if_pos hc]
  have e2 : evenY v r = lowL v.length (rawP v r) := by unfold evenY; rw [if_pos hc]
  have e3 : evenZ v r = lowN v.length (rawP v r) := by unfold evenZ; rw [if_pos hc]
  rw [e1, e2, e3]
  have hv := vld_ok hc h.vld
  refine ⟨hv, ?_⟩
  unfold freeB
  rw [decide_eq_true_iff]
  exact ⟨hv, (envs_nil hv).2 h.ef⟩
set_option maxHeartbeats 1600000 in
set_option maxRecDepth 100000 in
theorem roomFree_early (p : Option Addr) (c : Nat) (v : List (List Int)) (r : Int) (q : Option Addr) (d : Nat) (al : List Int) (s : Option Addr) (f : Nat) (ps : List Int) (z : Int) (w : World) (hx : Mat w p c v) (hr64 : in64 r) (hy : Ints w q d al) (hz : Ints w s f ps) (hz64 : in64 z) (hc : chkR v r ≠ 0) :
    Calls Try.prog 6 #[.agg #[.slice p v.length c, .int .i64 r], .agg #[.slice q al.length d, .slice s ps.length f, .int .i64 z]] w fun e w' => e = .returned (.bool true) ∧ Below w.heap.size w w' := by
  obtain ⟨Wx, hWx⟩ : ∃ W, w.alloc (.cells #[.slice p v.length c, .int .i64 r] 24) = W := ⟨_, rfl⟩
  obtain ⟨W0, hW0⟩ : ∃ W, Wx.alloc (.cells #[.slice q al.length d, .slice s ps.length f, .int .i64 z] 28) = W := ⟨_, rfl⟩
  have hB1 := below_alloc hWx
  have hB2 := below_alloc hW0
  have bX : BoxV W0 w.heap.size [.slice p v.length c, .int .i64 r] := (BoxV.new rfl hWx).below hB2
  have hs : Wx.heap.size = w.heap.size + 1 := by rw [← hWx]; simp
  have bL : BoxV W0 (w.heap.size + 1) [.slice q al.length d, .slice s ps.length f, .int .i64 z] := BoxV.new hs hW0
  have hB : Below w.heap.size w W0 := hB1.trans (hB2.mono hB1.size)
  have mX := hx.below hB (Nat.le_refl _)
  have mA := hy.below hB (Nat.le_refl _)
  have mP := hz.below hB (Nat.le_refl _)
  have hlx := hx.length_le
  have hly := hy.length_le
  have hlz := hz.length_le
  have HWx := Lib.hid hWx
  have HW0 := Lib.hid hW0
  clear hWx hW0 hB1 hB2 hs hx hy hz
  have hf : fit14 v r = false := by unfold fit14; rw [decide_eq_false_iff_not]; exact hc
  have hF := fun W (h : Mat W p c v) => fit14_any p c v r W h
  rw [hf] at hF
  have HF := Lib.hid hF
  clear hF hf hc
  go_enter Try.func6, Try.ntmps6
  go_wp2_with fail
  rw [HWx.out, HW0.out]
  refine (alive14_any _).mono ?_
  rintro e w1 ⟨rfl, hb⟩
  replace bX := bX.below hb
  have k0 := bX.cell 0 _ rfl
  have k1 := bX.cell 1 _ rfl
  replace mX := mX.below hb (Nat.le_refl _)
  replace hB := hB.trans (hb.mono hB.size)
  clear hb
  go_wp2_with fail
  refine (HF.out _ mX).mono ?_
  rintro e w2 ⟨rfl, hb⟩
  go_wp2_with fail
  go_ret
  exact ⟨rfl, hB.trans (hb.mono hB.size)⟩

set_option maxHeartbeats 4000000 in
set_option maxRecDepth 100000 in
theorem roomFree_big1 (p : Option Addr) (c : Nat) (v : List (List Int)) (r : Int) (q : Option Addr) (d : Nat) (al : List Int) (s : Option Addr) (f : Nat) (ps : List Int) (z : Int) (w : World) (hx : Mat w p c v) (hr64 : in64 r) (hy : Ints w q d al) (hz : Ints w s f ps) (hz64 : in64 z) (hc : chkR v r = 0) (h : 50 < ps.length) :
    Calls Try.prog 6 #[.agg #[.slice p v.length c, .int .i64 r], .agg #[.slice q al.length d, .slice s ps.length f, .int .i64 z]] w fun e w' => e = .returned (.bool true) ∧ Below w.heap.size w w' := by
  obtain ⟨Wx, hWx⟩ : ∃ W, w.alloc (.cells #[.slice p v.length c, .int .i64 r] 24) = W := ⟨_, rfl⟩
  obtain ⟨W0, hW0⟩ : ∃ W, Wx.alloc (.cells #[.slice q al.length d, .slice s ps.length f, .int .i64 z] 28) = W := ⟨_, rfl⟩
  have hB1 := below_alloc hWx
  have hB2 := below_alloc hW0
  have bX : BoxV W0 w.heap.size [.slice p v.length c, .int .i64 r] := (BoxV.new rfl hWx).below hB2
  have hs : Wx.heap.size = w.heap.size + 1 := by rw [← hWx]; simp
  have bL : BoxV W0 (w.heap.size + 1) [.slice q al.length d, .slice s ps.length f, .int .i64 z] := BoxV.new hs hW0
  have hB : Below w.heap.size w W0 := hB1.trans (hB2.mono hB1.size)
  have mX := hx.below hB (Nat.le_refl _)
  have mA := hy.below hB (Nat.le_refl _)
  have mP := hz.below hB (Nat.le_refl _)
  have hlx := hx.length_le
  have hly := hy.length_le
  have hlz := hz.length_le
  have HWx := Lib.hid hWx
  have HW0 := Lib.hid hW0
  clear hWx hW0 hB1 hB2 hs hx hy hz
  have hf : fit14 v r = true := by unfold fit14; rw [decide_eq_true_iff]; exact hc
  have hF := fun W (h : Mat W p c v) => fit14_any p c v r W h
  rw [hf] at hF
  have hE := fun W (h : Mat W p c v) => roomEven_any p c v r W h
  obtain ⟨hev, hfr⟩ := freeB_ok hc
  have hBd := (chkR_zero.1 hc).1
  have hL := fun W (h : Mat W p c v) => roomLinks_any p c v r W h
  have eL : linksL v r = linkL v (bestA v) := by unfold linksL; rw [if_pos hc]
  rw [eL, hc] at hL
  obtain ⟨X, eX⟩ : ∃ x, evenX v r = x := ⟨_, rfl⟩
  obtain ⟨Y, eY⟩ : ∃ x, evenY v r = x := ⟨_, rfl⟩
  obtain ⟨Z, eZ⟩ : ∃ x, evenZ v r = x := ⟨_, rfl⟩
  rw [eX, eY, eZ] at hE hev hfr
  rw [hc] at hE
  have hV1 := fun W q1 d1 s1 f1 (h : Mat W p c v) (h1 : Ints W q1 d1 X) (h2 : Ints W s1 f1 Y) => refValid_any p q1 s1 c d1 f1 v r X Y Z W h h1 h2
  have hV2 := fun W q1 d1 s1 f1 (h : Mat W p c v) (h1 : Ints W q1 d1 X) (h2 : Ints W s1 f1 Y) => free14_any p q1 s1 c d1 f1 v r X Y Z W h h1 h2
  rw [hev] at hV1
  rw [hfr] at hV2
  have hV := fun W (h : Mat W p c v) (h1 : Ints W q d al) (h2 : Ints W s f ps) => refValid_any p q s c d f v r al ps z W h h1 h2
  have HF := Lib.hid hF
  have HE := Lib.hid hE
  have HL := Lib.hid hL
  have HV1 := Lib.hid hV1
  have HV2 := Lib.hid hV2
  have HBd := Lib.hid hBd
  have HLen := Lib.hid (linkL_len v (bestA v))
  have d1 : decide (50 < (ps.length : Int)) = true := by rw [decide_eq_true_iff]; omega
  clear h hV hc
  clear hF hE hL hV1 hV2 hf hev hfr hBd eL eX eY eZ
  go_enter Try.func6, Try.ntmps6
  go_wp2_with fail
  rw [HWx.out, HW0.out]
  refine (alive14_any _).mono ?_
  rintro e w1 ⟨rfl, hb⟩
  replace mX := mX.below hb (Nat.le_refl _)
  replace mA := mA.below hb (Nat.le_refl _)
  replace mP := mP.below hb (Nat.le_refl _)
  replace bX := bX.below hb
  replace bL := bL.below hb
  replace hB := hB.trans (hb.mono hB.size)
  clear hb
  have kbX_0 := bX.cell 0 _ rfl
  have kbX_1 := bX.cell 1 _ rfl
  have lbX := bX.lt
  have kbL_0 := bL.cell 0 _ rfl
  have kbL_1 := bL.cell 1 _ rfl
  have kbL_2 := bL.cell 2 _ rfl
  have lbL := bL.lt
  go_wp2_with fail
  refine (HF.out _ mX).mono ?_
  rintro e w2 ⟨rfl, hb⟩
  clear kbX_0 kbX_1 lbX kbL_0 kbL_1 kbL_2 lbL
  replace mX := mX.below hb (Nat.le_refl _)
  replace mA := mA.below hb (Nat.le_refl _)
  replace mP := mP.below hb (Nat.le_refl _)
  replace bX := bX.below hb
  replace bL := bL.below hb
  replace hB := hB.trans (hb.mono hB.size)
  clear hb
  have kbX_0 := bX.cell 0 _ rfl
  have kbX_1 := bX.cell 1 _ rfl
  have lbX := bX.lt
  have kbL_0 := bL.cell 0 _ rfl
  have kbL_1 := bL.cell 1 _ rfl
  have kbL_2 := bL.cell 2 _ rfl
  have lbL := bL.lt
  go_wp2_with fail
  refine (HE.out _ mX).mono ?_
  rintro e w3 ⟨q1, d1, s1, f1, rfl, i1, i2, hb⟩
  clear kbX_0 kbX_1 lbX kbL_0 kbL_1 kbL_2 lbL
  replace mX := mX.below hb (Nat.le_refl _)
  replace mA := mA.below hb (Nat.le_refl _)
  replace mP := mP.below hb (Nat.le_refl _)
  replace bX := bX.below hb
  replace bL := bL.below hb
  replace hB := hB.trans (hb.mono hB.size)
  clear hb
  obtain ⟨W4, hW4⟩ : ∃ W, w3.alloc (.cells #[.slice q1 X.length d1, .slice s1 Y.length f1, .int .i64 Z] 28) = W := ⟨_, rfl⟩
  have hb : Below w3.heap.size w3 W4 := below_alloc hW4
  have bM : BoxV W4 w3.heap.size [.slice q1 X.length d1, .slice s1 Y.length f1, .int .i64 Z] := BoxV.new rfl hW4
  have HW4 := Lib.hid hW4
  replace mX := mX.below hb (Nat.le_refl _)
  replace mA := mA.below hb (Nat.le_refl _)
  replace mP := mP.below hb (Nat.le_refl _)
  replace bX := bX.below hb
  replace bL := bL.below hb
  replace i1 := i1.below hb (Nat.le_refl _)
  replace i2 := i2.below hb (Nat.le_refl _)
  replace hB := hB.trans (hb.mono hB.size)
  clear hb hW4
  go_upto_region 5 with (fail)
  rw [HW4.out]
  have kbX_0 := bX.cell 0 _ rfl
  have kbX_1 := bX.cell 1 _ rfl
  have lbX := bX.lt
  have kbL_0 := bL.cell 0 _ rfl
  have kbL_1 := bL.cell 1 _ rfl
  have kbL_2 := bL.cell 2 _ rfl
  have lbL := bL.lt
  have kbM_0 := bM.cell 0 _ rfl
  have kbM_1 := bM.cell 1 _ rfl
  have kbM_2 := bM.cell 2 _ rfl
  have lbM := bM.lt
  go_wp2_with fail
  refine (HV1.out _ _ _ _ _ mX i1 i2).mono ?_
  rintro e w5 ⟨rfl, hb⟩
  clear kbX_0 kbX_1 lbX kbL_0 kbL_1 kbL_2 lbL kbM_0 kbM_1 kbM_2 lbM
  replace mX := mX.below hb (Nat.le_refl _)
  replace mA := mA.below hb (Nat.le_refl _)
  replace mP := mP.below hb (Nat.le_refl _)
  replace bX := bX.below hb
  replace bL := bL.below hb
  replace i1 := i1.below hb (Nat.le_refl _)
  replace i2 := i2.below hb (Nat.le_refl _)
  replace bM := bM.below hb
  replace hB := hB.trans (hb.mono hB.size)
  clear hb
  have kbX_0 := bX.cell 0 _ rfl
  have kbX_1 := bX.cell 1 _ rfl
  have lbX := bX.lt
  have kbL_0 := bL.cell 0 _ rfl
  have kbL_1 := bL.cell 1 _ rfl
  have kbL_2 := bL.cell 2 _ rfl
  have lbL := bL.lt
  have kbM_0 := bM.cell 0 _ rfl
  have kbM_1 := bM.cell 1 _ rfl
  have kbM_2 := bM.cell 2 _ rfl
  have lbM := bM.lt
  go_wp2_with fail
  refine (HV2.out _ _ _ _ _ mX i1 i2).mono ?_
  rintro e w6 ⟨rfl, hb⟩
  clear kbX_0 kbX_1 lbX kbL_0 kbL_1 kbL_2 lbL kbM_0 kbM_1 kbM_2 lbM
  replace mX := mX.below hb (Nat.le_refl _)
  replace mA := mA.below hb (Nat.le_refl _)
  replace mP := mP.below hb (Nat.le_refl _)
  replace bX := bX.below hb
  replace bL := bL.below hb
  replace i1 := i1.below hb (Nat.le_refl _)
  replace i2 := i2.below hb (Nat.le_refl _)
  replace bM := bM.below hb
  replace hB := hB.trans (hb.mono hB.size)
  clear hb
  have kbX_0 := bX.cell 0 _ rfl
  have kbX_1 := bX.cell 1 _ rfl
  have lbX := bX.lt
  have kbL_0 := bL.cell 0 _ rfl
  have kbL_1 := bL.cell 1 _ rfl
  have kbL_2 := bL.cell 2 _ rfl
  have lbL := bL.lt
  go_wp2_with fail
  refine (HL.out _ mX).mono ?_
  rintro e w7 ⟨pk, ck, Q, D, rfl, oD, hb⟩
  clear kbX_0 kbX_1 lbX kbL_0 kbL_1 kbL_2 lbL
  replace mX := mX.below hb (Nat.le_refl _)
  replace mA := mA.below hb (Nat.le_refl _)
  replace mP := mP.below hb (Nat.le_refl _)
  replace bX := bX.below hb
  replace bL := bL.below hb
  replace i1 := i1.below hb (Nat.le_refl _)
  replace i2 := i2.below hb (Nat.le_refl _)
  replace bM := bM.below hb
  replace hB := hB.trans (hb.mono hB.size)
  clear hb
  rw [HLen.out]
  have mD := oD.mat
  clear oD
  have kbX_0 := bX.cell 0 _ rfl
  have kbX_1 := bX.cell 1 _ rfl
  have lbX := bX.lt
  have kbL_0 := bL.cell 0 _ rfl
  have kbL_1 := bL.cell 1 _ rfl
  have kbL_2 := bL.cell 2 _ rfl
  have lbL := bL.lt
  go_wp2_with fail
  go_ret
  exact ⟨rfl, hB⟩
set_option maxHeartbeats 4000000 in
set_option maxRecDepth 100000 in
theorem roomFree_big2 (p : Option Addr) (c : Nat) (v : List (List Int)) (r : Int) (q : Option Addr) (d : Nat) (al : List Int) (s : Option Addr) (f : Nat) (ps : List Int) (z : Int) (w : World) (hx : Mat w p c v) (hr64 : in64 r) (hy : Ints w q d al) (hz : Ints w s f ps) (hz64 : in64 z) (hc : chkR v r = 0) (h0 : ¬ 50 < ps.length) (h : 50 < al.length) :
    Calls Try.prog 6 #[.agg #[.slice p v.length c, .int .i64 r], .agg #[.slice q al.length d, .slice s ps.length f, .int .i64 z]] w fun e w' => e = .returned (.bool true) ∧ Below w.heap.size w w' := by
  obtain ⟨Wx, hWx⟩ : ∃ W, w.alloc (.cells #[.slice p v.length c, .int .i64 r] 24) = W := ⟨_, rfl⟩
  obtain ⟨W0, hW0⟩ : ∃ W, Wx.alloc (.cells #[.slice q al.length d, .slice s ps.length f, .int .i64 z] 28) = W := ⟨_, rfl⟩
  have hB1 := below_alloc hWx
  have hB2 := below_alloc hW0
  have bX : BoxV W0 w.heap.size [.slice p v.length c, .int .i64 r] := (BoxV.new rfl hWx).below hB2
  have hs : Wx.heap.size = w.heap.size + 1 := by rw [← hWx]; simp
  have bL : BoxV W0 (w.heap.size + 1) [.slice q al.length d, .slice s ps.length f, .int .i64 z] := BoxV.new hs hW0
  have hB : Below w.heap.size w W0 := hB1.trans (hB2.mono hB1.size)
  have mX := hx.below hB (Nat.le_refl _)
  have mA := hy.below hB (Nat.le_refl _)
  have mP := hz.below hB (Nat.le_refl _)
  have hlx := hx.length_le
  have hly := hy.length_le
  have hlz := hz.length_le
  have HWx := Lib.hid hWx
  have HW0 := Lib.hid hW0
  clear hWx hW0 hB1 hB2 hs hx hy hz
  have hf : fit14 v r = true := by unfold fit14; rw [decide_eq_true_iff]; exact hc
  have hF := fun W (h : Mat W p c v) => fit14_any p c v r W h
  rw [hf] at hF
  have hE := fun W (h : Mat W p c v) => roomEven_any p c v r W h
  obtain ⟨hev, hfr⟩ := freeB_ok hc
  have hBd := (chkR_zero.1 hc).1
  have hL := fun W (h : Mat W p c v) => roomLinks_any p c v r W h
  have eL : linksL v r = linkL v (bestA v) := by unfold linksL; rw [if_pos hc]
  rw [eL, hc] at hL
  obtain ⟨X, eX⟩ : ∃ x, evenX v r = x := ⟨_, rfl⟩
  obtain ⟨Y, eY⟩ : ∃ x, evenY v r = x := ⟨_, rfl⟩
  obtain ⟨Z, eZ⟩ : ∃ x, evenZ v r = x := ⟨_, rfl⟩
  rw [eX, eY, eZ] at hE hev hfr
  rw [hc] at hE
  have hV1 := fun W q1 d1 s1 f1 (h : Mat W p c v) (h1 : Ints W q1 d1 X) (h2 : Ints W s1 f1 Y) => refValid_any p q1 s1 c d1 f1 v r X Y Z W h h1 h2
  have hV2 := fun W q1 d1 s1 f1 (h : Mat W p c v) (h1 : Ints W q1 d1 X) (h2 : Ints W s1 f1 Y) => free14_any p q1 s1 c d1 f1 v r X Y Z W h h1 h2
  rw [hev] at hV1
  rw [hfr] at hV2
  have hV := fun W (h : Mat W p c v) (h1 : Ints W q d al) (h2 : Ints W s f ps) => refValid_any p q s c d f v r al ps z W h h1 h2
  have HF := Lib.hid hF
  have HE := Lib.hid hE
  have HL := Lib.hid hL
  have HV1 := Lib.hid hV1
  have HV2 := Lib.hid hV2
  have HBd := Lib.hid hBd
  have HLen := Lib.hid (linkL_len v (bestA v))
  have d0 : decide (50 < (ps.length : Int)) = false := by rw [decide_eq_false_iff_not]; omega
  have d1 : decide (50 < (al.length : Int)) = true := by rw [decide_eq_true_iff]; omega
  clear h hV hc
  clear hF hE hL hV1 hV2 hf hev hfr hBd eL eX eY eZ
  go_enter Try.func6, Try.ntmps6
  go_wp2_with fail
  rw [HWx.out, HW0.out]
  refine (alive14_any _).mono ?_
  rintro e w1 ⟨rfl, hb⟩
  replace mX := mX.below hb (Nat.le_refl _)
  replace mA := mA.below hb (Nat.le_refl _)
  replace mP := mP.below hb (Nat.le_refl _)
  replace bX := bX.below hb
  replace bL := bL.below hb
  replace hB := hB.trans (hb.mono hB.size)
  clear hb
  have kbX_0 := bX.cell 0 _ rfl
  have kbX_1 := bX.cell 1 _ rfl
  have lbX := bX.lt
  have kbL_0 := bL.cell 0 _ rfl
  have kbL_1 := bL.cell 1 _ rfl
  have kbL_2 := bL.cell 2 _ rfl
  have lbL := bL.lt
  go_wp2_with fail
  refine (HF.out _ mX).mono ?_
  rintro e w2 ⟨rfl, hb⟩
  clear kbX_0 kbX_1 lbX kbL_0 kbL_1 kbL_2 lbL
  replace mX := mX.below hb (Nat.le_refl _)
  replace mA := mA.below hb (Nat.le_refl _)
  replace mP := mP.below hb (Nat.le_refl _)
  replace bX := bX.below hb
  replace bL := bL.below hb
  replace hB := hB.trans (hb.mono hB.size)
  clear hb
  have kbX_0 := bX.cell 0 _ rfl
  have kbX_1 := bX.cell 1 _ rfl
  have lbX := bX.lt
  have kbL_0 := bL.cell 0 _ rfl
  have kbL_1 := bL.cell 1 _ rfl
  have kbL_2 := bL.cell 2 _ rfl
  have lbL := bL.lt
  go_wp2_with fail
  refine (HE.out _ mX).mono ?_
  rintro e w3 ⟨q1, d1, s1, f1, rfl, i1, i2, hb⟩
  clear kbX_0 kbX_1 lbX kbL_0 kbL_1 kbL_2 lbL
  replace mX := mX.below hb (Nat.le_refl _)
  replace mA := mA.below hb (Nat.le_refl _)
  replace mP := mP.below hb (Nat.le_refl _)
  replace bX := bX.below hb
  replace bL := bL.below hb
  replace hB := hB.trans (hb.mono hB.size)
  clear hb
  obtain ⟨W4, hW4⟩ : ∃ W, w3.alloc (.cells #[.slice q1 X.length d1, .slice s1 Y.length f1, .int .i64 Z] 28) = W := ⟨_, rfl⟩
  have hb : Below w3.heap.size w3 W4 := below_alloc hW4
  have bM : BoxV W4 w3.heap.size [.slice q1 X.length d1, .slice s1 Y.length f1, .int .i64 Z] := BoxV.new rfl hW4
  have HW4 := Lib.hid hW4
  replace mX := mX.below hb (Nat.le_refl _)
  replace mA := mA.below hb (Nat.le_refl _)
  replace mP := mP.below hb (Nat.le_refl _)
  replace bX := bX.below hb
  replace bL := bL.below hb
  replace i1 := i1.below hb (Nat.le_refl _)
  replace i2 := i2.below hb (Nat.le_refl _)
  replace hB := hB.trans (hb.mono hB.size)
  clear hb hW4
  go_upto_region 5 with (fail)
  rw [HW4.out]
  have kbX_0 := bX.cell 0 _ rfl
  have kbX_1 := bX.cell 1 _ rfl
  have lbX := bX.lt
  have kbL_0 := bL.cell 0 _ rfl
  have kbL_1 := bL.cell 1 _ rfl
  have kbL_2 := bL.cell 2 _ rfl
  have lbL := bL.lt
  have kbM_0 := bM.cell 0 _ rfl
  have kbM_1 := bM.cell 1 _ rfl
  have kbM_2 := bM.cell 2 _ rfl
  have lbM := bM.lt
  go_wp2_with fail
  refine (HV1.out _ _ _ _ _ mX i1 i2).mono ?_
  rintro e w5 ⟨rfl, hb⟩
  clear kbX_0 kbX_1 lbX kbL_0 kbL_1 kbL_2 lbL kbM_0 kbM_1 kbM_2 lbM
  replace mX := mX.below hb (Nat.le_refl _)
  replace mA := mA.below hb (Nat.le_refl _)
  replace mP := mP.below hb (Nat.le_refl _)
  replace bX := bX.below hb
  replace bL := bL.below hb
  replace i1 := i1.below hb (Nat.le_refl _)
  replace i2 := i2.below hb (Nat.le_refl _)
  replace bM := bM.below hb
  replace hB := hB.trans (hb.mono hB.size)
  clear hb
  have kbX_0 := bX.cell 0 _ rfl
  have kbX_1 := bX.cell 1 _ rfl
  have lbX := bX.lt
  have kbL_0 := bL.cell 0 _ rfl
  have kbL_1 := bL.cell 1 _ rfl
  have kbL_2 := bL.cell 2 _ rfl
  have lbL := bL.lt
  have kbM_0 := bM.cell 0 _ rfl
  have kbM_1 := bM.cell 1 _ rfl
  have kbM_2 := bM.cell 2 _ rfl
  have lbM := bM.lt
  go_wp2_with fail
  refine (HV2.out _ _ _ _ _ mX i1 i2).mono ?_
  rintro e w6 ⟨rfl, hb⟩
  clear kbX_0 kbX_1 lbX kbL_0 kbL_1 kbL_2 lbL kbM_0 kbM_1 kbM_2 lbM
  replace mX := mX.below hb (Nat.le_refl _)
  replace mA := mA.below hb (Nat.le_refl _)
  replace mP := mP.below hb (Nat.le_refl _)
  replace bX := bX.below hb
  replace bL := bL.below hb
  replace i1 := i1.below hb (Nat.le_refl _)
  replace i2 := i2.below hb (Nat.le_refl _)
  replace bM := bM.below hb
  replace hB := hB.trans (hb.mono hB.size)
  clear hb
  have kbX_0 := bX.cell 0 _ rfl
  have kbX_1 := bX.cell 1 _ rfl
  have lbX := bX.lt
  have kbL_0 := bL.cell 0 _ rfl
  have kbL_1 := bL.cell 1 _ rfl
  have kbL_2 := bL.cell 2 _ rfl
  have lbL := bL.lt
  go_wp2_with fail
  refine (HL.out _ mX).mono ?_
  rintro e w7 ⟨pk, ck, Q, D, rfl, oD, hb⟩
  clear kbX_0 kbX_1 lbX kbL_0 kbL_1 kbL_2 lbL
  replace mX := mX.below hb (Nat.le_refl _)
  replace mA := mA.below hb (Nat.le_refl _)
  replace mP := mP.below hb (Nat.le_refl _)
  replace bX := bX.below hb
  replace bL := bL.below hb
  replace i1 := i1.below hb (Nat.le_refl _)
  replace i2 := i2.below hb (Nat.le_refl _)
  replace bM := bM.below hb
  replace hB := hB.trans (hb.mono hB.size)
  clear hb
  rw [HLen.out]
  have mD := oD.mat
  clear oD
  have kbX_0 := bX.cell 0 _ rfl
  have kbX_1 := bX.cell 1 _ rfl
  have lbX := bX.lt
  have kbL_0 := bL.cell 0 _ rfl
  have kbL_1 := bL.cell 1 _ rfl
  have kbL_2 := bL.cell 2 _ rfl
  have lbL := bL.lt
  go_wp2_with fail
  go_ret
  exact ⟨rfl, hB⟩
set_option maxHeartbeats 4000000 in
set_option maxRecDepth 100000 in
theorem roomFree_bad (p : Option Addr) (c : Nat) (v : List (List Int)) (r : Int) (q : Option Addr) (d : Nat) (al : List Int) (s : Option Addr) (f : Nat) (ps : List Int) (z : Int) (w : World) (hx : Mat w p c v) (hr64 : in64 r) (hy : Ints w q d al) (hz : Ints w s f ps) (hz64 : in64 z) (hc : chkR v r = 0) (h0 : ¬ 50 < ps.length) (h1 : ¬ 50 < al.length) (h : vldR v r al ps z ≠ 0) :
    Calls Try.prog 6 #[.agg #[.slice p v.length c, .int .i64 r], .agg #[.slice q al.length d, .slice s ps.length f, .int .i64 z]] w fun e w' => e = .returned (.bool true) ∧ Below w.heap.size w w' := by
  obtain ⟨Wx, hWx⟩ : ∃ W, w.alloc (.cells #[.slice p v.length c, .int .i64 r] 24) = W := ⟨_, rfl⟩
  obtain ⟨W0, hW0⟩ : ∃ W, Wx.alloc (.cells #[.slice q al.length d, .slice s ps.length f, .int .i64 z] 28) = W := ⟨_, rfl⟩
  have hB1 := below_alloc hWx
  have hB2 := below_alloc hW0
  have bX : BoxV W0 w.heap.size [.slice p v.length c, .int .i64 r] := (BoxV.new rfl hWx).below hB2
  have hs : Wx.heap.size = w.heap.size + 1 := by rw [← hWx]; simp
  have bL : BoxV W0 (w.heap.size + 1) [.slice q al.length d, .slice s ps.length f, .int .i64 z] := BoxV.new hs hW0
  have hB : Below w.heap.size w W0 := hB1.trans (hB2.mono hB1.size)
  have mX := hx.below hB (Nat.le_refl _)
  have mA := hy.below hB (Nat.le_refl _)
  have mP := hz.below hB (Nat.le_refl _)
  have hlx := hx.length_le
  have hly := hy.length_le
  have hlz := hz.length_le
  have HWx := Lib.hid hWx
  have HW0 := Lib.hid hW0
  clear hWx hW0 hB1 hB2 hs hx hy hz
  have hf : fit14 v r = true := by unfold fit14; rw [decide_eq_true_iff]; exact hc
  have hF := fun W (h : Mat W p c v) => fit14_any p c v r W h
  rw [hf] at hF
  have hE := fun W (h : Mat W p c v) => roomEven_any p c v r W h
  obtain ⟨hev, hfr⟩ := freeB_ok hc
  have hBd := (chkR_zero.1 hc).1
  have hL := fun W (h : Mat W p c v) => roomLinks_any p c v r W h
  have eL : linksL v r = linkL v (bestA v) := by unfold linksL; rw [if_pos hc]
  rw [eL, hc] at hL
  obtain ⟨X, eX⟩ : ∃ x, evenX v r = x := ⟨_, rfl⟩
  obtain ⟨Y, eY⟩ : ∃ x, evenY v r = x := ⟨_, rfl⟩
  obtain ⟨Z, eZ⟩ : ∃ x, evenZ v r = x := ⟨_, rfl⟩
  rw [eX, eY, eZ] at hE hev hfr
  rw [hc] at hE
  have hV1 := fun W q1 d1 s1 f1 (h : Mat W p c v) (h1 : Ints W q1 d1 X) (h2 : Ints W s1 f1 Y) => refValid_any p q1 s1 c d1 f1 v r X Y Z W h h1 h2
  have hV2 := fun W q1 d1 s1 f1 (h : Mat W p c v) (h1 : Ints W q1 d1 X) (h2 : Ints W s1 f1 Y) => free14_any p q1 s1 c d1 f1 v r X Y Z W h h1 h2
  rw [hev] at hV1
  rw [hfr] at hV2
  have hV := fun W (h : Mat W p c v) (h1 : Ints W q d al) (h2 : Ints W s f ps) => refValid_any p q s c d f v r al ps z W h h1 h2
  have HF := Lib.hid hF
  have HE := Lib.hid hE
  have HL := Lib.hid hL
  have HV1 := Lib.hid hV1
  have HV2 := Lib.hid hV2
  have HBd := Lib.hid hBd
  have HLen := Lib.hid (linkL_len v (bestA v))
  have d0 : decide (50 < (ps.length : Int)) = false := by rw [decide_eq_false_iff_not]; omega
  have d1 : decide (50 < (al.length : Int)) = false := by rw [decide_eq_false_iff_not]; omega
  obtain ⟨E, eE⟩ : ∃ x, vldR v r al ps z = x := ⟨_, rfl⟩
  rw [eE] at hV h
  have hd : (E != 0) = true := by rw [bne_iff_ne]; exact h
  have HV := Lib.hid hV
  clear h hV hc eE
  clear hF hE hL hV1 hV2 hf hev hfr hBd eL eX eY eZ
  go_enter Try.func6, Try.ntmps6
  go_wp2_with fail
  rw [HWx.out, HW0.out]
  refine (alive14_any _).mono ?_
  rintro e w1 ⟨rfl, hb⟩
  replace mX := mX.below hb (Nat.le_refl _)
  replace mA := mA.below hb (Nat.le_refl _)
  replace mP := mP.below hb (Nat.le_refl _)
  replace bX := bX.below hb
  replace bL := bL.below hb
  replace hB := hB.trans (hb.mono hB.size)
  clear hb
  have kbX_0 := bX.cell 0 _ rfl
  have kbX_1 := bX.cell 1 _ rfl
  have lbX := bX.lt
  have kbL_0 := bL.cell 0 _ rfl
  have kbL_1 := bL.cell 1 _ rfl
  have kbL_2 := bL.cell 2 _ rfl
  have lbL := bL.lt
  go_wp2_with fail
  refine (HF.out _ mX).mono ?_
  rintro e w2 ⟨rfl, hb⟩
  clear kbX_0 kbX_1 lbX kbL_0 kbL_1 kbL_2 lbL
  replace mX := mX.below hb (Nat.le_refl _)
  replace mA := mA.below hb (Nat.le_refl _)
  replace mP := mP.below hb (Nat.le_refl _)
  replace bX := bX.below hb
  replace bL := bL.below hb
  replace hB := hB.trans (hb.mono hB.size)
  clear hb
  have kbX_0 := bX.cell 0 _ rfl
  have kbX_1 := bX.cell 1 _ rfl
  have lbX := bX.lt
  have kbL_0 := bL.cell 0 _ rfl
  have kbL_1 := bL.cell 1 _ rfl
  have kbL_2 := bL.cell 2 _ rfl
  have lbL := bL.lt
  go_wp2_with fail
  refine (HE.out _ mX).mono ?_
  rintro e w3 ⟨q1, d1, s1, f1, rfl, i1, i2, hb⟩
  clear kbX_0 kbX_1 lbX kbL_0 kbL_1 kbL_2 lbL
  replace mX := mX.below hb (Nat.le_refl _)
  replace mA := mA.below hb (Nat.le_refl _)
  replace mP := mP.below hb (Nat.le_refl _)
  replace bX := bX.below hb
  replace bL := bL.below hb
  replace hB := hB.trans (hb.mono hB.size)
  clear hb
  obtain ⟨W4, hW4⟩ : ∃ W, w3.alloc (.cells #[.slice q1 X.length d1, .slice s1 Y.length f1, .int .i64 Z] 28) = W := ⟨_, rfl⟩
  have hb : Below w3.heap.size w3 W4 := below_alloc hW4
  have bM : BoxV W4 w3.heap.size [.slice q1 X.length d1, .slice s1 Y.length f1, .int .i64 Z] := BoxV.new rfl hW4
  have HW4 := Lib.hid hW4
  replace mX := mX.below hb (Nat.le_refl _)
  replace mA := mA.below hb (Nat.le_refl _)
  replace mP := mP.below hb (Nat.le_refl _)
  replace bX := bX.below hb
  replace bL := bL.below hb
  replace i1 := i1.below hb (Nat.le_refl _)
  replace i2 := i2.below hb (Nat.le_refl _)
  replace hB := hB.trans (hb.mono hB.size)
  clear hb hW4
  go_upto_region 5 with (fail)
  rw [HW4.out]
  have kbX_0 := bX.cell 0 _ rfl
  have kbX_1 := bX.cell 1 _ rfl
  have lbX := bX.lt
  have kbL_0 := bL.cell 0 _ rfl
  have kbL_1 := bL.cell 1 _ rfl
  have kbL_2 := bL.cell 2 _ rfl
  have lbL := bL.lt
  have kbM_0 := bM.cell 0 _ rfl
  have kbM_1 := bM.cell 1 _ rfl
  have kbM_2 := bM.cell 2 _ rfl
  have lbM := bM.lt
  go_wp2_with fail
  refine (HV1.out _ _ _ _ _ mX i1 i2).mono ?_
  rintro e w5 ⟨rfl, hb⟩
  clear kbX_0 kbX_1 lbX kbL_0 kbL_1 kbL_2 lbL kbM_0 kbM_1 kbM_2 lbM
  replace mX := mX.below hb (Nat.le_refl _)
  replace mA := mA.below hb (Nat.le_refl _)
  replace mP := mP.below hb (Nat.le_refl _)
  replace bX := bX.below hb
  replace bL := bL.below hb
  replace i1 := i1.below hb (Nat.le_refl _)
  replace i2 := i2.below hb (Nat.le_refl _)
  replace bM := bM.below hb
  replace hB := hB.trans (hb.mono hB.size)
  clear hb
  have kbX_0 := bX.cell 0 _ rfl
  have kbX_1 := bX.cell 1 _ rfl
  have lbX := bX.lt
  have kbL_0 := bL.cell 0 _ rfl
  have kbL_1 := bL.cell 1 _ rfl
  have kbL_2 := bL.cell 2 _ rfl
  have lbL := bL.lt
  have kbM_0 := bM.cell 0 _ rfl
  have kbM_1 := bM.cell 1 _ rfl
  have kbM_2 := bM.cell 2 _ rfl
  have lbM := bM.lt
  go_wp2_with fail
  refine (HV2.out _ _ _ _ _ mX i1 i2).mono ?_
  rintro e w6 ⟨rfl, hb⟩
  clear kbX_0 kbX_1 lbX kbL_0 kbL_1 kbL_2 lbL kbM_0 kbM_1 kbM_2 lbM
  replace mX := mX.below hb (Nat.le_refl _)
  replace mA := mA.below hb (Nat.le_refl _)
  replace mP := mP.below hb (Nat.le_refl _)
  replace bX := bX.below hb
  replace bL := bL.below hb
  replace i1 := i1.below hb (Nat.le_refl _)
  replace i2 := i2.below hb (Nat.le_refl _)
  replace bM := bM.below hb
  replace hB := hB.trans (hb.mono hB.size)
  clear hb
  have kbX_0 := bX.cell 0 _ rfl
  have kbX_1 := bX.cell 1 _ rfl
  have lbX := bX.lt
  have kbL_0 := bL.cell 0 _ rfl
  have kbL_1 := bL.cell 1 _ rfl
  have kbL_2 := bL.cell 2 _ rfl
  have lbL := bL.lt
  go_wp2_with fail
  refine (HL.out _ mX).mono ?_
  rintro e w7 ⟨pk, ck, Q, D, rfl, oD, hb⟩
  clear kbX_0 kbX_1 lbX kbL_0 kbL_1 kbL_2 lbL
  replace mX := mX.below hb (Nat.le_refl _)
  replace mA := mA.below hb (Nat.le_refl _)
  replace mP := mP.below hb (Nat.le_refl _)
  replace bX := bX.below hb
  replace bL := bL.below hb
  replace i1 := i1.below hb (Nat.le_refl _)
  replace i2 := i2.below hb (Nat.le_refl _)
  replace bM := bM.below hb
  replace hB := hB.trans (hb.mono hB.size)
  clear hb
  rw [HLen.out]
  have mD := oD.mat
  clear oD
  have kbX_0 := bX.cell 0 _ rfl
  have kbX_1 := bX.cell 1 _ rfl
  have lbX := bX.lt
  have kbL_0 := bL.cell 0 _ rfl
  have kbL_1 := bL.cell 1 _ rfl
  have kbL_2 := bL.cell 2 _ rfl
  have lbL := bL.lt
  go_wp2_with fail
  refine (HV.out _ mX mA mP).mono ?_
  rintro e w8 ⟨rfl, hb⟩
  clear kbX_0 kbX_1 lbX kbL_0 kbL_1 kbL_2 lbL
  replace mX := mX.below hb (Nat.le_refl _)
  replace mA := mA.below hb (Nat.le_refl _)
  replace mP := mP.below hb (Nat.le_refl _)
  replace bX := bX.below hb
  replace bL := bL.below hb
  replace i1 := i1.below hb (Nat.le_refl _)
  replace i2 := i2.below hb (Nat.le_refl _)
  replace bM := bM.below hb
  replace mD := mD.below hb (Nat.le_refl _)
  replace hB := hB.trans (hb.mono hB.size)
  clear hb
  have kbX_0 := bX.cell 0 _ rfl
  have kbX_1 := bX.cell 1 _ rfl
  have lbX := bX.lt
  have kbL_0 := bL.cell 0 _ rfl
  have kbL_1 := bL.cell 1 _ rfl
  have kbL_2 := bL.cell 2 _ rfl
  have lbL := bL.lt
  go_wp2_with fail
  go_ret
  exact ⟨rfl, hB⟩
set_option maxHeartbeats 4000000 in
set_option maxRecDepth 100000 in
theorem roomFree_main (p : Option Addr) (c : Nat) (v : List (List Int)) (r : Int) (q : Option Addr) (d : Nat) (al : List Int) (s : Option Addr) (f : Nat) (ps : List Int) (z : Int) (w : World) (hx : Mat w p c v) (hr64 : in64 r) (hy : Ints w q d al) (hz : Ints w s f ps) (hz64 : in64 z) (hc : chkR v r = 0) (h0 : ¬ 50 < ps.length) (h1 : ¬ 50 < al.length) (h : vldR v r al ps z = 0) :
    Calls Try.prog 6 #[.agg #[.slice p v.length c, .int .i64 r], .agg #[.slice q al.length d, .slice s ps.length f, .int .i64 z]] w fun e w' => e = .returned (.bool true) ∧ Below w.heap.size w w' := by
  obtain ⟨Wx, hWx⟩ : ∃ W, w.alloc (.cells #[.slice p v.length c, .int .i64 r] 24) = W := ⟨_, rfl⟩
  obtain ⟨W0, hW0⟩ : ∃ W, Wx.alloc (.cells #[.slice q al.length d, .slice s ps.length f, .int .i64 z] 28) = W := ⟨_, rfl⟩
  have hB1 := below_alloc hWx
  have hB2 := below_alloc hW0
  have bX : BoxV W0 w.heap.size [.slice p v.length c, .int .i64 r] := (BoxV.new rfl hWx).below hB2
  have hs : Wx.heap.size = w.heap.size + 1 := by rw [← hWx]; simp
  have bL : BoxV W0 (w.heap.size + 1) [.slice q al.length d, .slice s ps.length f, .int .i64 z] := BoxV.new hs hW0
  have hB : Below w.heap.size w W0 := hB1.trans (hB2.mono hB1.size)
  have mX := hx.below hB (Nat.le_refl _)
  have mA := hy.below hB (Nat.le_refl _)
  have mP := hz.below hB (Nat.le_refl _)
  have hlx := hx.length_le
  have hly := hy.length_le
  have hlz := hz.length_le
  have HWx := Lib.hid hWx
  have HW0 := Lib.hid hW0
  clear hWx hW0 hB1 hB2 hs hx hy hz
  have hf : fit14 v r = true := by unfold fit14; rw [decide_eq_true_iff]; exact hc
  have hF := fun W (h : Mat W p c v) => fit14_any p c v r W h
  rw [hf] at hF
  have hE := fun W (h : Mat W p c v) => roomEven_any p c v r W h
  obtain ⟨hev, hfr⟩ := freeB_ok hc
  have hBd := (chkR_zero.1 hc).1
  have hL := fun W (h : Mat W p c v) => roomLinks_any p c v r W h
  have eL : linksL v r = linkL v (bestA v) := by unfold linksL; rw [if_pos hc]
  rw [eL, hc] at hL
  obtain ⟨X, eX⟩ : ∃ x, evenX v r = x := ⟨_, rfl⟩
  obtain ⟨Y, eY⟩ : ∃ x, evenY v r = x := ⟨_, rfl⟩
  obtain ⟨Z, eZ⟩ : ∃ x, evenZ v r = x := ⟨_, rfl⟩
  rw [eX, eY, eZ] at hE hev hfr
  rw [hc] at hE
  have hV1 := fun W q1 d1 s1 f1 (h : Mat W p c v) (h1 : Ints W q1 d1 X) (h2 : Ints W s1 f1 Y) => refValid_any p q1 s1 c d1 f1 v r X Y Z W h h1 h2
  have hV2 := fun W q1 d1 s1 f1 (h : Mat W p c v) (h1 : Ints W q1 d1 X) (h2 : Ints W s1 f1 Y) => free14_any p q1 s1 c d1 f1 v r X Y Z W h h1 h2
  rw [hev] at hV1
  rw [hfr] at hV2
  have hV := fun W (h : Mat W p c v) (h1 : Ints W q d al) (h2 : Ints W s f ps) => refValid_any p q s c d f v r al ps z W h h1 h2
  have HF := Lib.hid hF
  have HE := Lib.hid hE
  have HL := Lib.hid hL
  have HV1 := Lib.hid hV1
  have HV2 := Lib.hid hV2
  have HBd := Lib.hid hBd
  have HLen := Lib.hid (linkL_len v (bestA v))
  have d0 : decide (50 < (ps.length : Int)) = false := by rw [decide_eq_false_iff_not]; omega
  have d1 : decide (50 < (al.length : Int)) = false := by rw [decide_eq_false_iff_not]; omega
  obtain ⟨_, hA, hz1, hz2, hpl, hpo, _⟩ := vld_zero.1 h
  have hN := fun W (hm : Mat W p c v) (h1 : Ints W q d al) (h2 : Ints W s f ps) => roomEnvies_any p q s c d f v r al ps z W hm h1 h2 (by omega)
  have hend := rtB_end h
  have hz0 := rtB_zero v al ps z
  rw [h] at hV hN
  have hBs := fun W (hm : Mat W p c v) => best_okR p c v W hm HBd.out
  have hW := fun W (hm : Mat W p c v) (h1 : Ints W q d al) => worth_any p q c d v al W hm h1 (fits_of HBd.out hA)
  obtain ⟨E, eE⟩ : ∃ x, envsL v r al ps z = x := ⟨_, rfl⟩
  rw [eE] at hN hend
  obtain ⟨N1, eN1⟩ : ∃ x, worthI v al = x := ⟨_, rfl⟩
  obtain ⟨N2, eN2⟩ : ∃ x, worthI v (bestA v) = x := ⟨_, rfl⟩
  rw [eN1, eN2] at hz0
  rw [eN1] at hW
  rw [eN2] at hBs
  have hz0' : (N1 == N2) = rtB v al ps z 0 0 := by rw [hz0, Bool.eq_iff_iff, decide_eq_true_iff, beq_iff_eq]
  have HV := Lib.hid hV
  have HN := Lib.hid hN
  have HBs := Lib.hid hBs
  have HWo := Lib.hid hW
  have Hend := Lib.hid hend
  have Hz0 := Lib.hid hz0'
  have Hpl := Lib.hid hpl
  have Hpo := Lib.hid hpo
  have Hrow := Lib.hid (fun j (hj : j < v.length) => rtB_row v al ps z j)
  have Hnext := Lib.hid (fun j k => rtB_next v al ps z j k)
  have Hlr := Lib.hid (fun j (hj : j < v.length) => linkL_row (v := v) (a := bestA v) hj)
  have Hll := Lib.hid (fun j (hj : j < v.length) => linkL_row_len (v := v) (a := bestA v) hj)
  have Hlen := HLen
  have h6 := HBd.out.2.1
  have hv0 := HBd.out.1
  obtain ⟨n, hn⟩ : ∃ n, E.length = n := ⟨_, rfl⟩
  have hE0 : ((n : Int) == 0) = decide (E = []) := by
    rw [← hn, Bool.eq_iff_iff, decide_eq_true_iff, beq_iff_eq]
    constructor
    · intro h; exact List.eq_nil_of_length_eq_zero (by omega)
    · intro h; rw [h]; rfl
  have HN' : Hid (∀ W, Mat W p c v → Ints W q d al → Ints W s f ps → Calls Try.prog 23 #[.agg #[.slice p v.length c, .int .i64 r], .agg #[.slice q al.length d, .slice s ps.length f, .int .i64 z]] W fun e w' => ∃ p' c', e = .returned (.tuple #[.slice p' n c', .int .i64 0]) ∧ Below W.heap.size W w') := fun W a1 a2 a3 => by
    refine (HN.out W a1 a2 a3).mono ?_
    rintro e w' ⟨p', c', h1, _, h3⟩
    exact ⟨p', c', by rw [← hn]; exact h1, h3⟩
  have HE0 := Lib.hid hE0
  clear h hV hc hN hend hz0 hz0' hBs hW eE eN1 eN2 hpl hpo hA hn hE0 HN
  clear hF hE hL hV1 hV2 hf hev hfr hBd eL eX eY eZ
  go_enter Try.func6, Try.ntmps6
  go_wp2_with fail
  rw [HWx.out, HW0.out]
  refine (alive14_any _).mono ?_
  rintro e w1 ⟨rfl, hb⟩
  replace mX := mX.below hb (Nat.le_refl _)
  replace mA := mA.below hb (Nat.le_refl _)
  replace mP := mP.below hb (Nat.le_refl _)
  replace bX := bX.below hb
  replace bL := bL.below hb
  replace hB := hB.trans (hb.mono hB.size)
  clear hb
  have kbX_0 := bX.cell 0 _ rfl
  have kbX_1 := bX.cell 1 _ rfl
  have lbX := bX.lt
  have kbL_0 := bL.cell 0 _ rfl
  have kbL_1 := bL.cell 1 _ rfl
  have kbL_2 := bL.cell 2 _ rfl
  have lbL := bL.lt
  go_wp2_with fail
  refine (HF.out _ mX).mono ?_
  rintro e w2 ⟨rfl, hb⟩
  clear kbX_0 kbX_1 lbX kbL_0 kbL_1 kbL_2 lbL
  replace mX := mX.below hb (Nat.le_refl _)
  replace mA := mA.below hb (Nat.le_refl _)
  replace mP := mP.below hb (Nat.le_refl _)
  replace bX := bX.below hb
  replace bL := bL.below hb
  replace hB := hB.trans (hb.mono hB.size)
  clear hb
  have kbX_0 := bX.cell 0 _ rfl
  have kbX_1 := bX.cell 1 _ rfl
  have lbX := bX.lt
  have kbL_0 := bL.cell 0 _ rfl
  have kbL_1 := bL.cell 1 _ rfl
  have kbL_2 := bL.cell 2 _ rfl
  have lbL := bL.lt
  go_wp2_with fail
  refine (HE.out _ mX).mono ?_
  rintro e w3 ⟨q1, d1, s1, f1, rfl, i1, i2, hb⟩
  clear kbX_0 kbX_1 lbX kbL_0 kbL_1 kbL_2 lbL
  replace mX := mX.below hb (Nat.le_refl _)
  replace mA := mA.below hb (Nat.le_refl _)
  replace mP := mP.below hb (Nat.le_refl _)
  replace bX := bX.below hb
  replace bL := bL.below hb
  replace hB := hB.trans (hb.mono hB.size)
  clear hb
  obtain ⟨W4, hW4⟩ : ∃ W, w3.alloc (.cells #[.slice q1 X.length d1, .slice s1 Y.length f1, .int .i64 Z] 28) = W := ⟨_, rfl⟩
  have hb : Below w3.heap.size w3 W4 := below_alloc hW4
  have bM : BoxV W4 w3.heap.size [.slice q1 X.length d1, .slice s1 Y.length f1, .int .i64 Z] := BoxV.new rfl hW4
  have HW4 := Lib.hid hW4
  replace mX := mX.below hb (Nat.le_refl _)
  replace mA := mA.below hb (Nat.le_refl _)
  replace mP := mP.below hb (Nat.le_refl _)
  replace bX := bX.below hb
  replace bL := bL.below hb
  replace i1 := i1.below hb (Nat.le_refl _)
  replace i2 := i2.below hb (Nat.le_refl _)
  replace hB := hB.trans (hb.mono hB.size)
  clear hb hW4
  go_upto_region 5 with (fail)
  rw [HW4.out]
  have kbX_0 := bX.cell 0 _ rfl
  have kbX_1 := bX.cell 1 _ rfl
  have lbX := bX.lt
  have kbL_0 := bL.cell 0 _ rfl
  have kbL_1 := bL.cell 1 _ rfl
  have kbL_2 := bL.cell 2 _ rfl
  have lbL := bL.lt
  have kbM_0 := bM.cell 0 _ rfl
  have kbM_1 := bM.cell 1 _ rfl
  have kbM_2 := bM.cell 2 _ rfl
  have lbM := bM.lt
  go_wp2_with fail
  refine (HV1.out _ _ _ _ _ mX i1 i2).mono ?_
  rintro e w5 ⟨rfl, hb⟩
  clear kbX_0 kbX_1 lbX kbL_0 kbL_1 kbL_2 lbL kbM_0 kbM_1 kbM_2 lbM
  replace mX := mX.below hb (Nat.le_refl _)
  replace mA := mA.below hb (Nat.le_refl _)
  replace mP := mP.below hb (Nat.le_refl _)
  replace bX := bX.below hb
  replace bL := bL.below hb
  replace i1 := i1.below hb (Nat.le_refl _)
  replace i2 := i2.below hb (Nat.le_refl _)
  replace bM := bM.below hb
  replace hB := hB.trans (hb.mono hB.size)
  clear hb
  have kbX_0 := bX.cell 0 _ rfl
  have kbX_1 := bX.cell 1 _ rfl
  have lbX := bX.lt
  have kbL_0 := bL.cell 0 _ rfl
  have kbL_1 := bL.cell 1 _ rfl
  have kbL_2 := bL.cell 2 _ rfl
  have lbL := bL.lt
  have kbM_0 := bM.cell 0 _ rfl
  have kbM_1 := bM.cell 1 _ rfl
  have kbM_2 := bM.cell 2 _ rfl
  have lbM := bM.lt
  go_wp2_with fail
  refine (HV2.out _ _ _ _ _ mX i1 i2).mono ?_
  rintro e w6 ⟨rfl, hb⟩
  clear kbX_0 kbX_1 lbX kbL_0 kbL_1 kbL_2 lbL kbM_0 kbM_1 kbM_2 lbM
  replace mX := mX.below hb (Nat.le_refl _)
  replace mA := mA.below hb (Nat.le_refl _)
  replace mP := mP.below hb (Nat.le_refl _)
  replace bX := bX.below hb
  replace bL := bL.below hb
  replace i1 := i1.below hb (Nat.le_refl _)
  replace i2 := i2.below hb (Nat.le_refl _)
  replace bM := bM.below hb
  replace hB := hB.trans (hb.mono hB.size)
  clear hb
  have kbX_0 := bX.cell 0 _ rfl
  have kbX_1 := bX.cell 1 _ rfl
  have lbX := bX.lt
  have kbL_0 := bL.cell 0 _ rfl
  have kbL_1 := bL.cell 1 _ rfl
  have kbL_2 := bL.cell 2 _ rfl
  have lbL := bL.lt
  go_wp2_with fail
  refine (HL.out _ mX).mono ?_
  rintro e w7 ⟨pk, ck, Q, D, rfl, oD, hb⟩
  clear kbX_0 kbX_1 lbX kbL_0 kbL_1 kbL_2 lbL
  replace mX := mX.below hb (Nat.le_refl _)
  replace mA := mA.below hb (Nat.le_refl _)
  replace mP := mP.below hb (Nat.le_refl _)
  replace bX := bX.below hb
  replace bL := bL.below hb
  replace i1 := i1.below hb (Nat.le_refl _)
  replace i2 := i2.below hb (Nat.le_refl _)
  replace bM := bM.below hb
  replace hB := hB.trans (hb.mono hB.size)
  clear hb
  rw [HLen.out]
  have mD := oD.mat
  clear oD
  have kbX_0 := bX.cell 0 _ rfl
  have kbX_1 := bX.cell 1 _ rfl
  have lbX := bX.lt
  have kbL_0 := bL.cell 0 _ rfl
  have kbL_1 := bL.cell 1 _ rfl
  have kbL_2 := bL.cell 2 _ rfl
  have lbL := bL.lt
  go_wp2_with fail
  refine (HV.out _ mX mA mP).mono ?_
  rintro e w8 ⟨rfl, hb⟩
  clear kbX_0 kbX_1 lbX kbL_0 kbL_1 kbL_2 lbL
  replace mX := mX.below hb (Nat.le_refl _)
  replace mA := mA.below hb (Nat.le_refl _)
  replace mP := mP.below hb (Nat.le_refl _)
  replace bX := bX.below hb
  replace bL := bL.below hb
  replace i1 := i1.below hb (Nat.le_refl _)
  replace i2 := i2.below hb (Nat.le_refl _)
  replace bM := bM.below hb
  replace mD := mD.below hb (Nat.le_refl _)
  replace hB := hB.trans (hb.mono hB.size)
  clear hb
  have kbX_0 := bX.cell 0 _ rfl
  have kbX_1 := bX.cell 1 _ rfl
  have lbX := bX.lt
  have kbL_0 := bL.cell 0 _ rfl
  have kbL_1 := bL.cell 1 _ rfl
  have kbL_2 := bL.cell 2 _ rfl
  have lbL := bL.lt
  go_wp2_with fail
  refine (HN'.out _ mX mA mP).mono ?_
  rintro e w9 ⟨pe, ce, rfl, hb⟩
  clear kbX_0 kbX_1 lbX kbL_0 kbL_1 kbL_2 lbL
  replace mX := mX.below hb (Nat.le_refl _)
  replace mA := mA.below hb (Nat.le_refl _)
  replace mP := mP.below hb (Nat.le_refl _)
  replace bX := bX.below hb
  replace bL := bL.below hb
  replace i1 := i1.below hb (Nat.le_refl _)
  replace i2 := i2.below hb (Nat.le_refl _)
  replace bM := bM.below hb
  replace mD := mD.below hb (Nat.le_refl _)
  replace hB := hB.trans (hb.mono hB.size)
  clear hb
  have kbX_0 := bX.cell 0 _ rfl
  have kbX_1 := bX.cell 1 _ rfl
  have lbX := bX.lt
  have kbL_0 := bL.cell 0 _ rfl
  have kbL_1 := bL.cell 1 _ rfl
  have kbL_2 := bL.cell 2 _ rfl
  have lbL := bL.lt
  go_wp2_with fail
  refine (HBs.out _ mX).mono ?_
  rintro e wa ⟨qb, db, rfl, _, hb⟩
  clear kbX_0 kbX_1 lbX kbL_0 kbL_1 kbL_2 lbL
  replace mX := mX.below hb (Nat.le_refl _)
  replace mA := mA.below hb (Nat.le_refl _)
  replace mP := mP.below hb (Nat.le_refl _)
  replace bX := bX.below hb
  replace bL := bL.below hb
  replace i1 := i1.below hb (Nat.le_refl _)
  replace i2 := i2.below hb (Nat.le_refl _)
  replace bM := bM.below hb
  replace mD := mD.below hb (Nat.le_refl _)
  replace hB := hB.trans (hb.mono hB.size)
  clear hb
  have kbX_0 := bX.cell 0 _ rfl
  have kbX_1 := bX.cell 1 _ rfl
  have lbX := bX.lt
  have kbL_0 := bL.cell 0 _ rfl
  have kbL_1 := bL.cell 1 _ rfl
  have kbL_2 := bL.cell 2 _ rfl
  have lbL := bL.lt
  go_wp2_with fail
  refine (HWo.out _ mX mA).mono ?_
  rintro e wb ⟨rfl, hw⟩
  have hb : Below wa.heap.size wa wb := by obtain ⟨n, rfl⟩ := hw; exact below_drewN _ _ _
  clear kbX_0 kbX_1 lbX kbL_0 kbL_1 kbL_2 lbL
  replace mX := mX.below hb (Nat.le_refl _)
  replace mA := mA.below hb (Nat.le_refl _)
  replace mP := mP.below hb (Nat.le_refl _)
  replace bX := bX.below hb
  replace bL := bL.below hb
  replace i1 := i1.below hb (Nat.le_refl _)
  replace i2 := i2.below hb (Nat.le_refl _)
  replace bM := bM.below hb
  replace mD := mD.below hb (Nat.le_refl _)
  replace hB := hB.trans (hb.mono hB.size)
  clear hb hw
  have kbX_0 := bX.cell 0 _ rfl
  have kbX_1 := bX.cell 1 _ rfl
  have lbX := bX.lt
  have kbL_0 := bL.cell 0 _ rfl
  have kbL_1 := bL.cell 1 _ rfl
  have kbL_2 := bL.cell 2 _ rfl
  have lbL := bL.lt
  go_wp2_with fail
  rw [Hz0.out]
  go_loopw [15, 16] (fun b t wr => ∃ j : Nat, j ≤ v.length ∧ b = .bool (rtB v al ps z j 0) ∧ t = .int .i64 j ∧ ∃ N, wr = wb.drewN N) (fun _ t _ => v.length - (intOf t).toNat)
  case atStart => exact ⟨0, Nat.zero_le _, rfl, rfl, 0, rfl⟩
  case round =>
    obtain ⟨j, hj, rfl, rfl, N, rfl⟩ := hrel
    by_cases hlt : j < v.length
    · have hj1 : (j : Int) < v.length := by omega
      obtain ⟨bd, od, rfl, _, qr, dr, hcr, hir⟩ := mD.get (j := j) (by rw [Hlen.out]; exact hlt)
      rw [Hll.out j hlt] at hcr
      have hne : ((v.length : Int) != v.length) = false := by simp
      have hpj := Hpo.out j (by rw [Hpl.out]; exact hlt)
      have HRw := Lib.hid (Hrow.out j hlt)
      obtain ⟨bp, op, rfl, _, hcpj⟩ := mP.get (j := j) (by rw [Hpl.out]; exact hlt)
      obtain ⟨wo, rfl⟩ : ∃ wo : World, wo = wb := ⟨_, rfl⟩
      go_wp2_with fail
      go_loopw [15, 17] (fun b t wk => ∃ k : Nat, k ≤ v.length ∧ b = .bool (rtB v al ps z j k) ∧ t = .int .i64 k ∧ ∃ N, wk = wo.drewN N) (fun _ t _ => v.length - (intOf t).toNat)
      case atStart => exact ⟨0, Nat.zero_le _, rfl, rfl, _, rfl⟩
      case round =>
        obtain ⟨k, hk, rfl, rfl, N2, rfl⟩ := hrel
        by_cases hlt2 : k < v.length
        · have hk1 : (k : Int) < v.length := by omega
          have hnx := Hnext.out j k
          cases hR : rtB v al ps z j k with
          | false =>
            have HN3 : Hid (rtB v al ps z j (k + 1) = false) := by unfold Hid; rw [hnx, hR]; rfl
            clear hR hnx
            go_wp2_with fail
            go_region
            go_wp2_with fail
            go_roundw
            case rel => exact ⟨k + 1, by omega, by rw [HN3.out], by go_num, _, rfl⟩
            case measure => (simp [intOf] <;> omega)
          | true =>
            rw [hR] at hnx
            obtain ⟨br, orr, rfl, _, hck⟩ := hir.get (j := k) (by rw [Hll.out j hlt]; exact hlt2)
            rw [linkL_at hlt hlt2] at hck
            have hpk := Hpo.out k (by rw [Hpl.out]; exact hlt2)
            have hcpk := mP.at (j := k) (by rw [Hpl.out]; exact hlt2)
            obtain ⟨b1, b2⟩ := lnk_small HBd.out (j := j) (k := k) hlt
            obtain ⟨b3, b4⟩ := lz_small b1 b2 hz1 hz2
            have hpl1 : (j : Int) < ps.length := by rw [Hpl.out]; omega
            have hpl2 : (k : Int) < ps.length := by rw [Hpl.out]; omega
            obtain ⟨x, hxx⟩ : ∃ x, lnkS (wl v (bestA v)) v.length j k = x := ⟨_, rfl⟩
            obtain ⟨pj, hpjj⟩ : ∃ x, iget ps j = x := ⟨_, rfl⟩
            obtain ⟨pk', hpkk⟩ : ∃ x, iget ps k = x := ⟨_, rfl⟩
            rw [hxx] at hck b1 b2 b3 b4 hnx
            rw [hpjj] at hnx
            rw [hpkk] at hcpk hpk hnx
            have hcpj' := hcpj
            have hpj' := hpj
            rw [hpjj] at hcpj' hpj'
            have w1 : IntKind.i64.wrap (pk' - pj) = pk' - pj := IntWalk.i64_in _ (by omega)
            have w2 : IntKind.i64.wrap (x * z) = x * z := IntWalk.i64_in _ (by omega)
            have Hc1 := Lib.hid hcpj
            have Hc2 := Lib.hid hpj
            clear hR hxx hpjj hpkk hcpj hpj
            cases hD : decide (x * z ≤ pk' - pj) with
            | true =>
              have HN3 : Hid (rtB v al ps z j (k + 1) = true) := by unfold Hid; rw [hnx, hD]; rfl
              clear hnx
              go_wp2_with fail
              go_region
              go_wp2_with fail
              go_roundw
              case rel => exact ⟨k + 1, by omega, by rw [HN3.out], by go_num, _, rfl⟩
              case measure => (simp [intOf] <;> omega)
            | false =>
              have HN3 : Hid (rtB v al ps z j (k + 1) = false) := by unfold Hid; rw [hnx, hD]; rfl
              clear hnx
              go_wp2_with fail
              go_region
              go_wp2_with fail
              go_roundw
              case rel => exact ⟨k + 1, by omega, by rw [HN3.out], by go_num, _, rfl⟩
              case measure => (simp [intOf] <;> omega)
        · have hk1 : ¬ (k : Int) < v.length := by omega
          obtain rfl : v.length = k := by omega
          rw [← HRw.out]
          go_wp2_with fail
          go_roundw
          case rel => exact ⟨j + 1, by omega, rfl, by go_num, _, rfl⟩
          case measure => (simp [intOf] <;> omega)
    · have hj1 : ¬ (j : Int) < v.length := by omega
      obtain rfl : v.length = j := by omega
      rw [Hend.out]
      have hE0 := HE0.out
      cases hb : decide (E = []) with
      | true =>
        rw [hb] at hE0
        clear hb
        go_wp2_with fail
        go_ret
        exact ⟨rfl, hB.drewN' _⟩
      | false =>
        rw [hb] at hE0
        clear hb
        go_wp2_with fail
        go_ret
        exact ⟨rfl, hB.drewN' _⟩

theorem roomFree_walk (p : Option Addr) (c : Nat) (v : List (List Int)) (r : Int) (q : Option Addr) (d : Nat) (al : List Int) (s : Option Addr) (f : Nat) (ps : List Int) (z : Int) (w : World) (hx : Mat w p c v) (hr64 : in64 r) (hy : Ints w q d al) (hz : Ints w s f ps) (hz64 : in64 z) : Calls Try.prog 6 #[.agg #[.slice p v.length c, .int .i64 r], .agg #[.slice q al.length d, .slice s ps.length f, .int .i64 z]] w fun e w' => e = .returned (.bool true) ∧ Below w.heap.size w w' := by
  by_cases hc : chkR v r = 0
  · by_cases h0 : 50 < ps.length
    · exact roomFree_big1 p c v r q d al s f ps z w hx hr64 hy hz hz64 hc h0
    · by_cases h1 : 50 < al.length
      · exact roomFree_big2 p c v r q d al s f ps z w hx hr64 hy hz hz64 hc h0 h1
      · by_cases h : vldR v r al ps z = 0
        · exact roomFree_main p c v r q d al s f ps z w hx hr64 hy hz hz64 hc h0 h1 h
        · exact roomFree_bad p c v r q d al s f ps z w hx hr64 hy hz hz64 hc h0 h1 h
  · exact roomFree_early p c v r q d al s f ps z w hx hr64 hy hz hz64 hc
end Go.Proofs.Ytojldecldemfaaa
