/- The walk of the law RentFinds: for every flat, lease and agent it returns true, and changes nothing that was there.  (Printed by wip/genrentfinds.py.) -/
import Derived.Test.YtllcbcanohdepaaGreatTopRentFindsm24
import Derived.Test.YtllcbcanohdepaaGreatTopRentFindsm30
import Derived.Test.YtllcbcanohdepaaGreatTopRentFindsm31
import Derived.Test.YtllcbcanohdepaaGreatTopRentFindsm23
import Derived.Test.YtllcbcanohdepaaGreatTopRentFindsm27
import Derived.Test.YtllcbcanohdepaaGreatTopRentFindsm13
import Derived.Deep.DeepCutAuto
import Derived.Deep.RegionHeld3
import Derived.Test.YtllcbcanohdepaaGreatTopRentFindsm1
import Derived.Lib.SmallJoins
/- The walk of the law RentFinds: for every flat, lease and agent it returns true, and changes nothing that was there.  (Printed by wip/genrentfinds.py.) -/
namespace Go.Proofs.YtllcbcanohdepaaGreat
set_option linter.unusedVariables false
set_option linter.unusedSimpArgs false
open Go.ChangeShapes Go.WideShapes Go.ChangeAt Go.RowKit Go.Deep

theorem wLo_form (v : List (List Int)) (r : Int) (al ps : List Int) (z : Int) : ∃ x y, wLo v r al ps z = .agg #[.int .i64 x, .int .i64 y] := by unfold wLo ratV zeroR; split <;> exact ⟨_, _, rfl⟩
theorem wHi_form (v : List (List Int)) (r : Int) (al ps : List Int) (z : Int) : ∃ x y, wHi v r al ps z = .agg #[.int .i64 x, .int .i64 y] := by unfold wHi ratV zeroR; split <;> exact ⟨_, _, rfl⟩
theorem skLo_form (v : List (List Int)) (r g : Int) : ∃ x y, skLo v r g = .agg #[.int .i64 x, .int .i64 y] := by unfold skLo ratV zeroR; split <;> exact ⟨_, _, rfl⟩
theorem skHi_form (v : List (List Int)) (r g : Int) : ∃ x y, skHi v r g = .agg #[.int .i64 x, .int .i64 y] := by unfold skHi ratV zeroR; split <;> exact ⟨_, _, rfl⟩

set_option maxHeartbeats 8000000 in
set_option maxRecDepth 100000 in
theorem rentFinds_walk (p : Option Addr) (c : Nat) (v : List (List Int)) (r : Int) (q : Option Addr) (d : Nat) (al : List Int) (s : Option Addr) (f : Nat) (ps : List Int) (z : Int) (g : Int) (w : World) (hx : Mat w p c v) (hr64 : in64 r) (hy : Ints w q d al) (hz : Ints w s f ps) (hz64 : in64 z) (hg64 : in64 g) :
    Calls Tryz.prog 3 #[.agg #[.slice p v.length c, .int .i64 r], .agg #[.slice q al.length d, .slice s ps.length f, .int .i64 z], .int .i64 g] w fun e w' => e = .returned (.bool true) ∧ Below w.heap.size w w' := by
  obtain ⟨Wx, hWx⟩ : ∃ W, w.alloc (.cells #[.slice p v.length c, .int .i64 r] 24) = W := ⟨_, rfl⟩
  obtain ⟨W0, hW0⟩ : ∃ W, Wx.alloc (.cells #[.slice q al.length d, .slice s ps.length f, .int .i64 z] 27) = W := ⟨_, rfl⟩
  have hB1 := below_alloc hWx
  have hB2 := below_alloc hW0
  have bX : BoxV W0 w.heap.size [.slice p v.length c, .int .i64 r] := (BoxV.new rfl hWx).below hB2
  have hs : Wx.heap.size = w.heap.size + 1 := by rw [← hWx]; simp
  have bL : BoxV W0 (w.heap.size + 1) [.slice q al.length d, .slice s ps.length f, .int .i64 z] := BoxV.new hs hW0
  have hB : Below w.heap.size w W0 := hB1.trans (hB2.mono hB1.size)
  have mX := hx.below hB (Nat.le_refl _)
  have mA := hy.below hB (Nat.le_refl _)
  have mP := hz.below hB (Nat.le_refl _)
  have HWx := Lib.hid hWx
  have HW0 := Lib.hid hW0
  clear hWx hW0 hB1 hB2 hs hx hy hz
  by_cases hG : greatL v al ps = true
  · go_enter Tryz.func3, Tryz.ntmps3
    go_wp2_with fail
    rw [HWx.out, HW0.out]
    refine (greatR_any p q s c d f v r al ps z W0 mX).mono ?_
    rintro e w1 ⟨rfl, hb⟩
    rw [hG]
    go_wp2_with fail
    go_ret
    exact ⟨rfl, hB.trans (hb.mono hB.size)⟩
  · have hg : greatL v al ps = false := by simpa using hG
    have hl : al.length ≤ 1000000 := by
      have : ¬ 50 < al.length := fun h => hG (greatL_true (.inr (.inl h)))
      omega
    have h20 : v.length ≤ 900000 := by
      have : ¬ 20 < v.length := fun h => hG (greatL_true (.inl (.inr (.inr h))))
      omega
    have hrows : ∀ i, i < v.length → (rget v i).length ≤ 900000 := fun i hi => by
      have h20' : ¬ 20 < v.length := fun h => hG (greatL_true (.inl (.inr (.inr h))))
      have : ¬ 50 < (rget v i).length := fun h => hG (greatL_true (.inl (.inl ⟨i, hi, by omega, h⟩)))
      omega
    have Hrows := Lib.hid hrows
    have Hg := Lib.hid hg
    have Hag := Lib.hid hg64
    have HCf := Lib.hid (wLo_form v r al ps z)
    have HDf := Lib.hid (wHi_form v r al ps z)
    clear hG hg hrows
    go_enter Tryz.func3, Tryz.ntmps3
    go_wp2_with fail
    rw [HWx.out, HW0.out]
    refine (greatR_any p q s c d f v r al ps z W0 mX).mono ?_
    rintro e w1 ⟨rfl, hb⟩
    rw [Hg.out]
    replace mX := mX.below hb (Nat.le_refl _)
    replace mA := mA.below hb (Nat.le_refl _)
    replace mP := mP.below hb (Nat.le_refl _)
    replace bX := bX.below hb
    replace bL := bL.below hb
    replace hB := hB.trans (hb.mono hB.size)
    clear hb
    have x0 := bX.cell 0 _ rfl
    have x1 := bX.cell 1 _ rfl
    have hXl := bX.lt
    go_upto_region 3 with (fail)
    go_cut [7] (fun t5 wx => ∃ S p1 c1, t5 = .pointer (some ⟨S, 0, none⟩) ∧ BoxV wx S [.slice p1 v.length c1, .int .i64 r] ∧ Mat wx p1 c1 v ∧ Below w1.heap.size w1 wx)
    case first =>
      have Hx1 := Lib.hid x1
      have hBd : Below w1.heap.size w1 w1.drew := below_drewN w1.heap.size w1 1
      have hBa : Below w1.heap.size w1 (w1.alloc (.cells #[.slice none 0 0, .int .i64 0] 24)).drew := ((Below.refl _ w1).alloc (Nat.le_refl _) _).drew
      have mXd := mX.below hBd (Nat.le_refl _)
      have mXa := mX.below hBa (Nat.le_refl _)
      have hXl' : w.heap.size < (w1.alloc (.cells #[.slice none 0 0, .int .i64 0] 24)).drew.heap.size := Nat.lt_of_lt_of_le hXl hBa.size
      have Hxa : Hid ((w1.alloc (.cells #[.slice none 0 0, .int .i64 0] 24)).drew.cell? ⟨w.heap.size, 1, none⟩ = some (.int .i64 r)) := (hBa.cell (p := ⟨w.heap.size, 1, none⟩) hXl).trans x1
      have Hxz : Hid (Two (w1.alloc (.cells #[.slice none 0 0, .int .i64 0] 24)).drew w1.heap.size (.slice none 0 0) (.int .i64 0)) := (Two.new (w := w1) rfl rfl).below (B := w1.heap.size + 1) (below_drewN _ _ 1) (Nat.lt_succ_self _)
      have hsa : w1.heap.size < (w1.alloc (.cells #[.slice none 0 0, .int .i64 0] 24)).drew.heap.size := by show _ < (w1.alloc _).heap.size; simp
      go_region_with (first
        | (go_at_call 5; (with_reducible refine (twin_any p c v w1.drew mXd h20 Hrows.out).mono ?_); rintro e w2 ⟨p1, c1, Q, D, rfl, hD, hb⟩; have x1' := (hb.cell (p := ⟨w.heap.size, 1, none⟩) hXl).trans Hx1.out; have hXl2 := Nat.lt_of_lt_of_le hXl hb.size)
        | (go_at_call 5; (with_reducible refine (twin_any p c v (w1.alloc (.cells #[.slice none 0 0, .int .i64 0] 24)).drew mXa h20 Hrows.out).mono ?_); rintro e w2 ⟨p1, c1, Q, D, rfl, hD, hb⟩; have x1' := (hb.cell (p := ⟨w.heap.size, 1, none⟩) hXl').trans Hxa.out; have hXl2 := Nat.lt_of_lt_of_le hXl' hb.size; have hT := Lib.hid (Hxz.out.below hb hsa); obtain ⟨q0, q1, g0, g1⟩ := hT.out))
      all_goals
        go_wp2_with fail
        go_meet
        first
          | (have _t := hT; exact ⟨w1.heap.size, p1, c1, rfl, boxV_put q0 q1 (Nat.lt_of_lt_of_le hsa hb.size), ((hD.farSet hsa).farSet hsa).mat, ((hBa.trans (hb.mono (Nat.le_of_lt hsa))).setCell (p := ⟨w1.heap.size, 0, none⟩) (Nat.le_refl _) _).setCell (p := ⟨w1.heap.size, 1, none⟩) (Nat.le_refl _) _⟩)
          | exact ⟨w2.heap.size, p1, c1, rfl, BoxV.new rfl rfl, hD.mat.below (below_alloc rfl) (Nat.le_refl _), hBd.trans (hb.alloc hb.size _)⟩
    case rest =>
      obtain ⟨S, p1, c1, rfl, bO, mO, hb⟩ := hcut
      replace mX := mX.below hb (Nat.le_refl _)
      replace mA := mA.below hb (Nat.le_refl _)
      replace mP := mP.below hb (Nat.le_refl _)
      replace bX := bX.below hb
      replace bL := bL.below hb
      replace hB := hB.trans (hb.mono hB.size)
      clear hb x0 x1 hXl
      obtain ⟨A1, A2, hA⟩ := HCf.out
      obtain ⟨B1, B2, hBB⟩ := HDf.out
      obtain ⟨C1, C2, hC⟩ := skLo_form v r g
      obtain ⟨D1, D2, hD⟩ := skHi_form v r g
      have HA := Lib.hid hA
      have HBB := Lib.hid hBB
      have HC := Lib.hid hC
      have HD := Lib.hid hD
      clear hA hBB hC hD
      have kbX_0 := bX.cell 0 _ rfl
      have kbX_1 := bX.cell 1 _ rfl
      have lbX := bX.lt
      have kbL_0 := bL.cell 0 _ rfl
      have kbL_1 := bL.cell 1 _ rfl
      have kbL_2 := bL.cell 2 _ rfl
      have lbL := bL.lt
      have kbO_0 := bO.cell 0 _ rfl
      have kbO_1 := bO.cell 1 _ rfl
      have lbO := bO.lt
      go_wp2_with fail
      obtain ⟨X, hX⟩ : ∃ q, bestI v r = q := ⟨_, rfl⟩
      obtain ⟨E, hE⟩ : ∃ q, chkR v r = q := ⟨_, rfl⟩
      have HX := Lib.hid hX
      have HE := Lib.hid hE
      clear hX hE
      obtain ⟨YfairG, hY⟩ : ∃ q, leaY v r (fairG v) = q := ⟨_, rfl⟩
      obtain ⟨ZfairG, hZ⟩ : ∃ q, leaZ v r (fairG v) = q := ⟨_, rfl⟩
      have HYfairG := Lib.hid hY
      have HZfairG := Lib.hid hZ
      clear hY hZ
      have hCt := rentFair_any p1 c1 v r _ mO
      rw [HX.out, HYfairG.out, HZfairG.out, HE.out] at hCt
      refine hCt.mono ?_
      clear hCt
      rintro e wa ⟨qa, da, sa, fa, rfl, ia, ja, hb⟩
      clear kbX_0 kbX_1 lbX kbL_0 kbL_1 kbL_2 lbL kbO_0 kbO_1 lbO
      replace mX := mX.below hb (Nat.le_refl _)
      replace mA := mA.below hb (Nat.le_refl _)
      replace mP := mP.below hb (Nat.le_refl _)
      replace bX := bX.below hb
      replace bL := bL.below hb
      replace mO := mO.below hb (Nat.le_refl _)
      replace bO := bO.below hb
      replace hB := hB.trans (hb.mono hB.size)
      clear hb
      obtain ⟨Wa, hWa⟩ : ∃ W, wa.alloc (.cells #[.slice qa X.length da, .slice sa YfairG.length fa, .int .i64 ZfairG] 27) = W := ⟨_, rfl⟩
      have hb := below_alloc hWa
      have ba : BoxV Wa wa.heap.size [.slice qa X.length da, .slice sa YfairG.length fa, .int .i64 ZfairG] := BoxV.new rfl hWa
      have HWa := Lib.hid hWa
      replace mX := mX.below hb (Nat.le_refl _)
      replace mA := mA.below hb (Nat.le_refl _)
      replace mP := mP.below hb (Nat.le_refl _)
      replace bX := bX.below hb
      replace bL := bL.below hb
      replace mO := mO.below hb (Nat.le_refl _)
      replace bO := bO.below hb
      replace ia := ia.below hb (Nat.le_refl _)
      replace ja := ja.below hb (Nat.le_refl _)
      replace hB := hB.trans (hb.mono hB.size)
      clear hb hWa
      go_upto_region 5 with (fail)
      rw [HWa.out]
      have kbX_0 := bX.cell 0 _ rfl
      have kbX_1 := bX.cell 1 _ rfl
      have lbX := bX.lt
      have kbL_0 := bL.cell 0 _ rfl
      have kbL_1 := bL.cell 1 _ rfl
      have kbL_2 := bL.cell 2 _ rfl
      have lbL := bL.lt
      have kbO_0 := bO.cell 0 _ rfl
      have kbO_1 := bO.cell 1 _ rfl
      have lbO := bO.lt
      go_wp2_with fail
      have hCt := refFair_any p c v r _ mX
      rw [HX.out, HYfairG.out, HZfairG.out, HE.out] at hCt
      refine hCt.mono ?_
      clear hCt
      rintro e wb ⟨qb, db, sb, fb, rfl, ib, jb, hb⟩
      clear kbX_0 kbX_1 lbX kbL_0 kbL_1 kbL_2 lbL kbO_0 kbO_1 lbO
      replace mX := mX.below hb (Nat.le_refl _)
      replace mA := mA.below hb (Nat.le_refl _)
      replace mP := mP.below hb (Nat.le_refl _)
      replace bX := bX.below hb
      replace bL := bL.below hb
      replace mO := mO.below hb (Nat.le_refl _)
      replace bO := bO.below hb
      replace ia := ia.below hb (Nat.le_refl _)
      replace ja := ja.below hb (Nat.le_refl _)
      replace ba := ba.below hb
      replace hB := hB.trans (hb.mono hB.size)
      clear hb
      obtain ⟨Wb, hWb⟩ : ∃ W, wb.alloc (.cells #[.slice qb X.length db, .slice sb YfairG.length fb, .int .i64 ZfairG] 27) = W := ⟨_, rfl⟩
      have hb := below_alloc hWb
      have bb : BoxV Wb wb.heap.size [.slice qb X.length db, .slice sb YfairG.length fb, .int .i64 ZfairG] := BoxV.new rfl hWb
      have HWb := Lib.hid hWb
      replace mX := mX.below hb (Nat.le_refl _)
      replace mA := mA.below hb (Nat.le_refl _)
      replace mP := mP.below hb (Nat.le_refl _)
      replace bX := bX.below hb
      replace bL := bL.below hb
      replace mO := mO.below hb (Nat.le_refl _)
      replace bO := bO.below hb
      replace ia := ia.below hb (Nat.le_refl _)
      replace ja := ja.below hb (Nat.le_refl _)
      replace ba := ba.below hb
      replace ib := ib.below hb (Nat.le_refl _)
      replace jb := jb.below hb (Nat.le_refl _)
      replace hB := hB.trans (hb.mono hB.size)
      clear hb hWb
      go_upto_region 6 with (fail)
      rw [HWb.out]
      have kbX_0 := bX.cell 0 _ rfl
      have kbX_1 := bX.cell 1 _ rfl
      have lbX := bX.lt
      have kbL_0 := bL.cell 0 _ rfl
      have kbL_1 := bL.cell 1 _ rfl
      have kbL_2 := bL.cell 2 _ rfl
      have lbL := bL.lt
      have kbO_0 := bO.cell 0 _ rfl
      have kbO_1 := bO.cell 1 _ rfl
      have lbO := bO.lt
      go_wp2_with fail
      obtain ⟨YcalmG, hY⟩ : ∃ q, leaY v r (calmG v) = q := ⟨_, rfl⟩
      obtain ⟨ZcalmG, hZ⟩ : ∃ q, leaZ v r (calmG v) = q := ⟨_, rfl⟩
      have HYcalmG := Lib.hid hY
      have HZcalmG := Lib.hid hZ
      clear hY hZ
      have hCt := rentCalm_any p1 c1 v r _ mO
      rw [HX.out, HYcalmG.out, HZcalmG.out, HE.out] at hCt
      refine hCt.mono ?_
      clear hCt
      rintro e wc ⟨qc, dc, sc, fc, rfl, ic, jc, hb⟩
      clear kbX_0 kbX_1 lbX kbL_0 kbL_1 kbL_2 lbL kbO_0 kbO_1 lbO
      replace mX := mX.below hb (Nat.le_refl _)
      replace mA := mA.below hb (Nat.le_refl _)
      replace mP := mP.below hb (Nat.le_refl _)
      replace bX := bX.below hb
      replace bL := bL.below hb
      replace mO := mO.below hb (Nat.le_refl _)
      replace bO := bO.below hb
      replace ia := ia.below hb (Nat.le_refl _)
      replace ja := ja.below hb (Nat.le_refl _)
      replace ba := ba.below hb
      replace ib := ib.below hb (Nat.le_refl _)
      replace jb := jb.below hb (Nat.le_refl _)
      replace bb := bb.below hb
      replace hB := hB.trans (hb.mono hB.size)
      clear hb
      obtain ⟨Wc, hWc⟩ : ∃ W, wc.alloc (.cells #[.slice qc X.length dc, .slice sc YcalmG.length fc, .int .i64 ZcalmG] 27) = W := ⟨_, rfl⟩
      have hb := below_alloc hWc
      have bc : BoxV Wc wc.heap.size [.slice qc X.length dc, .slice sc YcalmG.length fc, .int .i64 ZcalmG] := BoxV.new rfl hWc
      have HWc := Lib.hid hWc
      replace mX := mX.below hb (Nat.le_refl _)
      replace mA := mA.below hb (Nat.le_refl _)
      replace mP := mP.below hb (Nat.le_refl _)
      replace bX := bX.below hb
      replace bL := bL.below hb
      replace mO := mO.below hb (Nat.le_refl _)
      replace bO := bO.below hb
      replace ia := ia.below hb (Nat.le_refl _)
      replace ja := ja.below hb (Nat.le_refl _)
      replace ba := ba.below hb
      replace ib := ib.below hb (Nat.le_refl _)
      replace jb := jb.below hb (Nat.le_refl _)
      replace bb := bb.below hb
      replace ic := ic.below hb (Nat.le_refl _)
      replace jc := jc.below hb (Nat.le_refl _)
      replace hB := hB.trans (hb.mono hB.size)
      clear hb hWc
      go_upto_region 7 with (fail)
      rw [HWc.out]
      have kbX_0 := bX.cell 0 _ rfl
      have kbX_1 := bX.cell 1 _ rfl
      have lbX := bX.lt
      have kbL_0 := bL.cell 0 _ rfl
      have kbL_1 := bL.cell 1 _ rfl
      have kbL_2 := bL.cell 2 _ rfl
      have lbL := bL.lt
      have kbO_0 := bO.cell 0 _ rfl
      have kbO_1 := bO.cell 1 _ rfl
      have lbO := bO.lt
      go_wp2_with fail
      have hCt := refCalm_any p c v r _ mX
      rw [HX.out, HYcalmG.out, HZcalmG.out, HE.out] at hCt
      refine hCt.mono ?_
      clear hCt
      rintro e wd ⟨qd, dd, sd, fd, rfl, id, jd, hb⟩
      clear kbX_0 kbX_1 lbX kbL_0 kbL_1 kbL_2 lbL kbO_0 kbO_1 lbO
      replace mX := mX.below hb (Nat.le_refl _)
      replace mA := mA.below hb (Nat.le_refl _)
      replace mP := mP.below hb (Nat.le_refl _)
      replace bX := bX.below hb
      replace bL := bL.below hb
      replace mO := mO.below hb (Nat.le_refl _)
      replace bO := bO.below hb
      replace ia := ia.below hb (Nat.le_refl _)
      replace ja := ja.below hb (Nat.le_refl _)
      replace ba := ba.below hb
      replace ib := ib.below hb (Nat.le_refl _)
      replace jb := jb.below hb (Nat.le_refl _)
      replace bb := bb.below hb
      replace ic := ic.below hb (Nat.le_refl _)
      replace jc := jc.below hb (Nat.le_refl _)
      replace bc := bc.below hb
      replace hB := hB.trans (hb.mono hB.size)
      clear hb
      obtain ⟨Wd, hWd⟩ : ∃ W, wd.alloc (.cells #[.slice qd X.length dd, .slice sd YcalmG.length fd, .int .i64 ZcalmG] 27) = W := ⟨_, rfl⟩
      have hb := below_alloc hWd
      have bd : BoxV Wd wd.heap.size [.slice qd X.length dd, .slice sd YcalmG.length fd, .int .i64 ZcalmG] := BoxV.new rfl hWd
      have HWd := Lib.hid hWd
      replace mX := mX.below hb (Nat.le_refl _)
      replace mA := mA.below hb (Nat.le_refl _)
      replace mP := mP.below hb (Nat.le_refl _)
      replace bX := bX.below hb
      replace bL := bL.below hb
      replace mO := mO.below hb (Nat.le_refl _)
      replace bO := bO.below hb
      replace ia := ia.below hb (Nat.le_refl _)
      replace ja := ja.below hb (Nat.le_refl _)
      replace ba := ba.below hb
      replace ib := ib.below hb (Nat.le_refl _)
      replace jb := jb.below hb (Nat.le_refl _)
      replace bb := bb.below hb
      replace ic := ic.below hb (Nat.le_refl _)
      replace jc := jc.below hb (Nat.le_refl _)
      replace bc := bc.below hb
      replace id := id.below hb (Nat.le_refl _)
      replace jd := jd.below hb (Nat.le_refl _)
      replace hB := hB.trans (hb.mono hB.size)
      clear hb hWd
      go_upto_region 8 with (fail)
      rw [HWd.out]
      have kba_0 := ba.cell 0 _ rfl
      have kba_1 := ba.cell 1 _ rfl
      have kba_2 := ba.cell 2 _ rfl
      have lba := ba.lt
      have kbb_0 := bb.cell 0 _ rfl
      have kbb_1 := bb.cell 1 _ rfl
      have kbb_2 := bb.cell 2 _ rfl
      have lbb := bb.lt
      have kbc_0 := bc.cell 0 _ rfl
      have kbc_1 := bc.cell 1 _ rfl
      have kbc_2 := bc.cell 2 _ rfl
      have lbc := bc.lt
      have kbd_0 := bd.cell 0 _ rfl
      have kbd_1 := bd.cell 1 _ rfl
      have kbd_2 := bd.cell 2 _ rfl
      have lbd := bd.lt
      go_wp2_with fail
      refine (sameLease_true rfl rfl rfl rfl rfl rfl rfl ia ja ib jb).mono ?_
      rintro e we ⟨rfl, hb⟩
      clear kba_0 kba_1 kba_2 lba kbb_0 kbb_1 kbb_2 lbb kbc_0 kbc_1 kbc_2 lbc kbd_0 kbd_1 kbd_2 lbd
      replace mX := mX.below hb (Nat.le_refl _)
      replace mA := mA.below hb (Nat.le_refl _)
      replace mP := mP.below hb (Nat.le_refl _)
      replace bX := bX.below hb
      replace bL := bL.below hb
      replace mO := mO.below hb (Nat.le_refl _)
      replace bO := bO.below hb
      replace ia := ia.below hb (Nat.le_refl _)
      replace ja := ja.below hb (Nat.le_refl _)
      replace ba := ba.below hb
      replace ib := ib.below hb (Nat.le_refl _)
      replace jb := jb.below hb (Nat.le_refl _)
      replace bb := bb.below hb
      replace ic := ic.below hb (Nat.le_refl _)
      replace jc := jc.below hb (Nat.le_refl _)
      replace bc := bc.below hb
      replace id := id.below hb (Nat.le_refl _)
      replace jd := jd.below hb (Nat.le_refl _)
      replace bd := bd.below hb
      replace hB := hB.trans (hb.mono hB.size)
      clear hb
      have kba_0 := ba.cell 0 _ rfl
      have kba_1 := ba.cell 1 _ rfl
      have kba_2 := ba.cell 2 _ rfl
      have lba := ba.lt
      have kbb_0 := bb.cell 0 _ rfl
      have kbb_1 := bb.cell 1 _ rfl
      have kbb_2 := bb.cell 2 _ rfl
      have lbb := bb.lt
      have kbc_0 := bc.cell 0 _ rfl
      have kbc_1 := bc.cell 1 _ rfl
      have kbc_2 := bc.cell 2 _ rfl
      have lbc := bc.lt
      have kbd_0 := bd.cell 0 _ rfl
      have kbd_1 := bd.cell 1 _ rfl
      have kbd_2 := bd.cell 2 _ rfl
      have lbd := bd.lt
      go_wp2_with fail
      refine (sameLease_true rfl rfl rfl rfl rfl rfl rfl ic jc id jd).mono ?_
      rintro e wf ⟨rfl, hb⟩
      clear kba_0 kba_1 kba_2 lba kbb_0 kbb_1 kbb_2 lbb kbc_0 kbc_1 kbc_2 lbc kbd_0 kbd_1 kbd_2 lbd
      replace mX := mX.below hb (Nat.le_refl _)
      replace mA := mA.below hb (Nat.le_refl _)
      replace mP := mP.below hb (Nat.le_refl _)
      replace bX := bX.below hb
      replace bL := bL.below hb
      replace mO := mO.below hb (Nat.le_refl _)
      replace bO := bO.below hb
      replace ia := ia.below hb (Nat.le_refl _)
      replace ja := ja.below hb (Nat.le_refl _)
      replace ba := ba.below hb
      replace ib := ib.below hb (Nat.le_refl _)
      replace jb := jb.below hb (Nat.le_refl _)
      replace bb := bb.below hb
      replace ic := ic.below hb (Nat.le_refl _)
      replace jc := jc.below hb (Nat.le_refl _)
      replace bc := bc.below hb
      replace id := id.below hb (Nat.le_refl _)
      replace jd := jd.below hb (Nat.le_refl _)
      replace bd := bd.below hb
      replace hB := hB.trans (hb.mono hB.size)
      clear hb
      obtain ⟨E2, hE2⟩ : ∃ q, vldR v r al ps z = q := ⟨_, rfl⟩
      obtain ⟨E3, hE3⟩ : ∃ q, skE v r g = q := ⟨_, rfl⟩
      have HE2 := Lib.hid hE2
      have HE3 := Lib.hid hE3
      clear hE2 hE3
      have kbX_0 := bX.cell 0 _ rfl
      have kbX_1 := bX.cell 1 _ rfl
      have lbX := bX.lt
      have kbL_0 := bL.cell 0 _ rfl
      have kbL_1 := bL.cell 1 _ rfl
      have kbL_2 := bL.cell 2 _ rfl
      have lbL := bL.lt
      have kbO_0 := bO.cell 0 _ rfl
      have kbO_1 := bO.cell 1 _ rfl
      have lbO := bO.lt
      go_wp2_with fail
      have hCt := rentWorst_any p1 q s c1 d f v r al ps z _ mO mA mP hl
      rw [HA.out, HBB.out, HE2.out] at hCt
      refine hCt.mono ?_
      clear hCt
      rintro e wg ⟨rfl, hb⟩
      clear kbX_0 kbX_1 lbX kbL_0 kbL_1 kbL_2 lbL kbO_0 kbO_1 lbO
      replace mX := mX.below hb (Nat.le_refl _)
      replace mA := mA.below hb (Nat.le_refl _)
      replace mP := mP.below hb (Nat.le_refl _)
      replace bX := bX.below hb
      replace bL := bL.below hb
      replace mO := mO.below hb (Nat.le_refl _)
      replace bO := bO.below hb
      replace ia := ia.below hb (Nat.le_refl _)
      replace ja := ja.below hb (Nat.le_refl _)
      replace ba := ba.below hb
      replace ib := ib.below hb (Nat.le_refl _)
      replace jb := jb.below hb (Nat.le_refl _)
      replace bb := bb.below hb
      replace ic := ic.below hb (Nat.le_refl _)
      replace jc := jc.below hb (Nat.le_refl _)
      replace bc := bc.below hb
      replace id := id.below hb (Nat.le_refl _)
      replace jd := jd.below hb (Nat.le_refl _)
      replace bd := bd.below hb
      replace hB := hB.trans (hb.mono hB.size)
      clear hb
      obtain ⟨Wga, hWga⟩ : ∃ W, wg.alloc (.cells #[.int .i64 A1, .int .i64 A2] 37) = W := ⟨_, rfl⟩
      obtain ⟨Wg, hWg⟩ : ∃ W, Wga.alloc (.cells #[.int .i64 B1, .int .i64 B2] 37) = W := ⟨_, rfl⟩
      have hb1 := below_alloc hWga
      have hb2 := below_alloc hWg
      have hs1 : Wga.heap.size = wg.heap.size + 1 := by rw [← hWga]; simp
      have rg : BoxV Wg wg.heap.size [.int .i64 A1, .int .i64 A2] := (BoxV.new rfl hWga).below hb2
      have tg : BoxV Wg (wg.heap.size + 1) [.int .i64 B1, .int .i64 B2] := BoxV.new hs1 hWg
      have hb : Below wg.heap.size wg Wg := hb1.trans (hb2.mono hb1.size)
      have HWga := Lib.hid hWga
      have HWg := Lib.hid hWg
      replace mX := mX.below hb (Nat.le_refl _)
      replace mA := mA.below hb (Nat.le_refl _)
      replace mP := mP.below hb (Nat.le_refl _)
      replace bX := bX.below hb
      replace bL := bL.below hb
      replace mO := mO.below hb (Nat.le_refl _)
      replace bO := bO.below hb
      replace ia := ia.below hb (Nat.le_refl _)
      replace ja := ja.below hb (Nat.le_refl _)
      replace ba := ba.below hb
      replace ib := ib.below hb (Nat.le_refl _)
      replace jb := jb.below hb (Nat.le_refl _)
      replace bb := bb.below hb
      replace ic := ic.below hb (Nat.le_refl _)
      replace jc := jc.below hb (Nat.le_refl _)
      replace bc := bc.below hb
      replace id := id.below hb (Nat.le_refl _)
      replace jd := jd.below hb (Nat.le_refl _)
      replace bd := bd.below hb
      replace hB := hB.trans (hb.mono hB.size)
      clear hb hb1 hb2 hs1 hWga hWg
      go_upto_region 11 with (fail)
      rw [HWga.out, HWg.out]
      have kbX_0 := bX.cell 0 _ rfl
      have kbX_1 := bX.cell 1 _ rfl
      have lbX := bX.lt
      have kbL_0 := bL.cell 0 _ rfl
      have kbL_1 := bL.cell 1 _ rfl
      have kbL_2 := bL.cell 2 _ rfl
      have lbL := bL.lt
      have kbO_0 := bO.cell 0 _ rfl
      have kbO_1 := bO.cell 1 _ rfl
      have lbO := bO.lt
      go_wp2_with fail
      have hCt := refWorst_any p q s c d f v r al ps z _ mX mA mP
      rw [HA.out, HBB.out, HE2.out] at hCt
      refine hCt.mono ?_
      clear hCt
      rintro e wh ⟨rfl, hb⟩
      clear kbX_0 kbX_1 lbX kbL_0 kbL_1 kbL_2 lbL kbO_0 kbO_1 lbO
      replace mX := mX.below hb (Nat.le_refl _)
      replace mA := mA.below hb (Nat.le_refl _)
      replace mP := mP.below hb (Nat.le_refl _)
      replace bX := bX.below hb
      replace bL := bL.below hb
      replace mO := mO.below hb (Nat.le_refl _)
      replace bO := bO.below hb
      replace ia := ia.below hb (Nat.le_refl _)
      replace ja := ja.below hb (Nat.le_refl _)
      replace ba := ba.below hb
      replace ib := ib.below hb (Nat.le_refl _)
      replace jb := jb.below hb (Nat.le_refl _)
      replace bb := bb.below hb
      replace ic := ic.below hb (Nat.le_refl _)
      replace jc := jc.below hb (Nat.le_refl _)
      replace bc := bc.below hb
      replace id := id.below hb (Nat.le_refl _)
      replace jd := jd.below hb (Nat.le_refl _)
      replace bd := bd.below hb
      replace rg := rg.below hb
      replace tg := tg.below hb
      replace hB := hB.trans (hb.mono hB.size)
      clear hb
      obtain ⟨Wha, hWha⟩ : ∃ W, wh.alloc (.cells #[.int .i64 A1, .int .i64 A2] 37) = W := ⟨_, rfl⟩
      obtain ⟨Wh, hWh⟩ : ∃ W, Wha.alloc (.cells #[.int .i64 B1, .int .i64 B2] 37) = W := ⟨_, rfl⟩
      have hb1 := below_alloc hWha
      have hb2 := below_alloc hWh
      have hs1 : Wha.heap.size = wh.heap.size + 1 := by rw [← hWha]; simp
      have rh : BoxV Wh wh.heap.size [.int .i64 A1, .int .i64 A2] := (BoxV.new rfl hWha).below hb2
      have th : BoxV Wh (wh.heap.size + 1) [.int .i64 B1, .int .i64 B2] := BoxV.new hs1 hWh
      have hb : Below wh.heap.size wh Wh := hb1.trans (hb2.mono hb1.size)
      have HWha := Lib.hid hWha
      have HWh := Lib.hid hWh
      replace mX := mX.below hb (Nat.le_refl _)
      replace mA := mA.below hb (Nat.le_refl _)
      replace mP := mP.below hb (Nat.le_refl _)
      replace bX := bX.below hb
      replace bL := bL.below hb
      replace mO := mO.below hb (Nat.le_refl _)
      replace bO := bO.below hb
      replace ia := ia.below hb (Nat.le_refl _)
      replace ja := ja.below hb (Nat.le_refl _)
      replace ba := ba.below hb
      replace ib := ib.below hb (Nat.le_refl _)
      replace jb := jb.below hb (Nat.le_refl _)
      replace bb := bb.below hb
      replace ic := ic.below hb (Nat.le_refl _)
      replace jc := jc.below hb (Nat.le_refl _)
      replace bc := bc.below hb
      replace id := id.below hb (Nat.le_refl _)
      replace jd := jd.below hb (Nat.le_refl _)
      replace bd := bd.below hb
      replace rg := rg.below hb
      replace tg := tg.below hb
      replace hB := hB.trans (hb.mono hB.size)
      clear hb hb1 hb2 hs1 hWha hWh
      go_upto_region 12 with (fail)
      rw [HWha.out, HWh.out]
      have kbX_0 := bX.cell 0 _ rfl
      have kbX_1 := bX.cell 1 _ rfl
      have lbX := bX.lt
      have kbL_0 := bL.cell 0 _ rfl
      have kbL_1 := bL.cell 1 _ rfl
      have kbL_2 := bL.cell 2 _ rfl
      have lbL := bL.lt
      have kbO_0 := bO.cell 0 _ rfl
      have kbO_1 := bO.cell 1 _ rfl
      have lbO := bO.lt
      go_wp2_with fail
      have hCt := rentStake_any p1 c1 v r g _ mO Hag.out
      rw [HC.out, HD.out, HE3.out] at hCt
      refine hCt.mono ?_
      clear hCt
      rintro e wi ⟨rfl, hb⟩
      clear kbX_0 kbX_1 lbX kbL_0 kbL_1 kbL_2 lbL kbO_0 kbO_1 lbO
      replace mX := mX.below hb (Nat.le_refl _)
      replace mA := mA.below hb (Nat.le_refl _)
      replace mP := mP.below hb (Nat.le_refl _)
      replace bX := bX.below hb
      replace bL := bL.below hb
      replace mO := mO.below hb (Nat.le_refl _)
      replace bO := bO.below hb
      replace ia := ia.below hb (Nat.le_refl _)
      replace ja := ja.below hb (Nat.le_refl _)
      replace ba := ba.below hb
      replace ib := ib.below hb (Nat.le_refl _)
      replace jb := jb.below hb (Nat.le_refl _)
      replace bb := bb.below hb
      replace ic := ic.below hb (Nat.le_refl _)
      replace jc := jc.below hb (Nat.le_refl _)
      replace bc := bc.below hb
      replace id := id.below hb (Nat.le_refl _)
      replace jd := jd.below hb (Nat.le_refl _)
      replace bd := bd.below hb
      replace rg := rg.below hb
      replace tg := tg.below hb
      replace rh := rh.below hb
      replace th := th.below hb
      replace hB := hB.trans (hb.mono hB.size)
      clear hb
      obtain ⟨Wia, hWia⟩ : ∃ W, wi.alloc (.cells #[.int .i64 C1, .int .i64 C2] 37) = W := ⟨_, rfl⟩
      obtain ⟨Wi, hWi⟩ : ∃ W, Wia.alloc (.cells #[.int .i64 D1, .int .i64 D2] 37) = W := ⟨_, rfl⟩
      have hb1 := below_alloc hWia
      have hb2 := below_alloc hWi
      have hs1 : Wia.heap.size = wi.heap.size + 1 := by rw [← hWia]; simp
      have ri : BoxV Wi wi.heap.size [.int .i64 C1, .int .i64 C2] := (BoxV.new rfl hWia).below hb2
      have ti : BoxV Wi (wi.heap.size + 1) [.int .i64 D1, .int .i64 D2] := BoxV.new hs1 hWi
      have hb : Below wi.heap.size wi Wi := hb1.trans (hb2.mono hb1.size)
      have HWia := Lib.hid hWia
      have HWi := Lib.hid hWi
      replace mX := mX.below hb (Nat.le_refl _)
      replace mA := mA.below hb (Nat.le_refl _)
      replace mP := mP.below hb (Nat.le_refl _)
      replace bX := bX.below hb
      replace bL := bL.below hb
      replace mO := mO.below hb (Nat.le_refl _)
      replace bO := bO.below hb
      replace ia := ia.below hb (Nat.le_refl _)
      replace ja := ja.below hb (Nat.le_refl _)
      replace ba := ba.below hb
      replace ib := ib.below hb (Nat.le_refl _)
      replace jb := jb.below hb (Nat.le_refl _)
      replace bb := bb.below hb
      replace ic := ic.below hb (Nat.le_refl _)
      replace jc := jc.below hb (Nat.le_refl _)
      replace bc := bc.below hb
      replace id := id.below hb (Nat.le_refl _)
      replace jd := jd.below hb (Nat.le_refl _)
      replace bd := bd.below hb
      replace rg := rg.below hb
      replace tg := tg.below hb
      replace rh := rh.below hb
      replace th := th.below hb
      replace hB := hB.trans (hb.mono hB.size)
      clear hb hb1 hb2 hs1 hWia hWi
      go_upto_region 13 with (fail)
      rw [HWia.out, HWi.out]
      have kbX_0 := bX.cell 0 _ rfl
      have kbX_1 := bX.cell 1 _ rfl
      have lbX := bX.lt
      have kbL_0 := bL.cell 0 _ rfl
      have kbL_1 := bL.cell 1 _ rfl
      have kbL_2 := bL.cell 2 _ rfl
      have lbL := bL.lt
      have kbO_0 := bO.cell 0 _ rfl
      have kbO_1 := bO.cell 1 _ rfl
      have lbO := bO.lt
      go_wp2_with fail
      have hCt := refStake_any p c v r g _ mX Hag.out
      rw [HC.out, HD.out, HE3.out] at hCt
      refine hCt.mono ?_
      clear hCt
      rintro e wj ⟨rfl, hb⟩
      clear kbX_0 kbX_1 lbX kbL_0 kbL_1 kbL_2 lbL kbO_0 kbO_1 lbO
      replace mX := mX.below hb (Nat.le_refl _)
      replace mA := mA.below hb (Nat.le_refl _)
      replace mP := mP.below hb (Nat.le_refl _)
      replace bX := bX.below hb
      replace bL := bL.below hb
      replace mO := mO.below hb (Nat.le_refl _)
      replace bO := bO.below hb
      replace ia := ia.below hb (Nat.le_refl _)
      replace ja := ja.below hb (Nat.le_refl _)
      replace ba := ba.below hb
      replace ib := ib.below hb (Nat.le_refl _)
      replace jb := jb.below hb (Nat.le_refl _)
      replace bb := bb.below hb
      replace ic := ic.below hb (Nat.le_refl _)
      replace jc := jc.below hb (Nat.le_refl _)
      replace bc := bc.below hb
      replace id := id.below hb (Nat.le_refl _)
      replace jd := jd.below hb (Nat.le_refl _)
      replace bd := bd.below hb
      replace rg := rg.below hb
      replace tg := tg.below hb
      replace rh := rh.below hb
      replace th := th.below hb
      replace ri := ri.below hb
      replace ti := ti.below hb
      replace hB := hB.trans (hb.mono hB.size)
      clear hb
      obtain ⟨Wja, hWja⟩ : ∃ W, wj.alloc (.cells #[.int .i64 C1, .int .i64 C2] 37) = W := ⟨_, rfl⟩
      obtain ⟨Wj, hWj⟩ : ∃ W, Wja.alloc (.cells #[.int .i64 D1, .int .i64 D2] 37) = W := ⟨_, rfl⟩
      have hb1 := below_alloc hWja
      have hb2 := below_alloc hWj
      have hs1 : Wja.heap.size = wj.heap.size + 1 := by rw [← hWja]; simp
      have rj : BoxV Wj wj.heap.size [.int .i64 C1, .int .i64 C2] := (BoxV.new rfl hWja).below hb2
      have tj : BoxV Wj (wj.heap.size + 1) [.int .i64 D1, .int .i64 D2] := BoxV.new hs1 hWj
      have hb : Below wj.heap.size wj Wj := hb1.trans (hb2.mono hb1.size)
      have HWja := Lib.hid hWja
      have HWj := Lib.hid hWj
      replace mX := mX.below hb (Nat.le_refl _)
      replace mA := mA.below hb (Nat.le_refl _)
      replace mP := mP.below hb (Nat.le_refl _)
      replace bX := bX.below hb
      replace bL := bL.below hb
      replace mO := mO.below hb (Nat.le_refl _)
      replace bO := bO.below hb
      replace ia := ia.below hb (Nat.le_refl _)
      replace ja := ja.below hb (Nat.le_refl _)
      replace ba := ba.below hb
      replace ib := ib.below hb (Nat.le_refl _)
      replace jb := jb.below hb (Nat.le_refl _)
      replace bb := bb.below hb
      replace ic := ic.below hb (Nat.le_refl _)
      replace jc := jc.below hb (Nat.le_refl _)
      replace bc := bc.below hb
      replace id := id.below hb (Nat.le_refl _)
      replace jd := jd.below hb (Nat.le_refl _)
      replace bd := bd.below hb
      replace rg := rg.below hb
      replace tg := tg.below hb
      replace rh := rh.below hb
      replace th := th.below hb
      replace ri := ri.below hb
      replace ti := ti.below hb
      replace hB := hB.trans (hb.mono hB.size)
      clear hb hb1 hb2 hs1 hWja hWj
      go_upto_region 14 with (fail)
      rw [HWja.out, HWj.out]
      have kbX_0 := bX.cell 0 _ rfl
      have kbX_1 := bX.cell 1 _ rfl
      have lbX := bX.lt
      have kbL_0 := bL.cell 0 _ rfl
      have kbL_1 := bL.cell 1 _ rfl
      have kbL_2 := bL.cell 2 _ rfl
      have lbL := bL.lt
      have kbO_0 := bO.cell 0 _ rfl
      have kbO_1 := bO.cell 1 _ rfl
      have lbO := bO.lt
      have krg_0 := rg.cell 0 _ rfl
      have krg_1 := rg.cell 1 _ rfl
      have lrg := rg.lt
      have ktg_0 := tg.cell 0 _ rfl
      have ktg_1 := tg.cell 1 _ rfl
      have ltg := tg.lt
      have krh_0 := rh.cell 0 _ rfl
      have krh_1 := rh.cell 1 _ rfl
      have lrh := rh.lt
      have kth_0 := th.cell 0 _ rfl
      have kth_1 := th.cell 1 _ rfl
      have lth := th.lt
      have kri_0 := ri.cell 0 _ rfl
      have kri_1 := ri.cell 1 _ rfl
      have lri := ri.lt
      have kti_0 := ti.cell 0 _ rfl
      have kti_1 := ti.cell 1 _ rfl
      have lti := ti.lt
      have krj_0 := rj.cell 0 _ rfl
      have krj_1 := rj.cell 1 _ rfl
      have lrj := rj.lt
      have ktj_0 := tj.cell 0 _ rfl
      have ktj_1 := tj.cell 1 _ rfl
      have ltj := tj.lt
      go_wp2_with fail
      refine (sameM_true rfl rfl rfl mO mX).mono ?_
      rintro e wz ⟨rfl, hw⟩
      have hb : Below Wj.heap.size Wj wz := by obtain ⟨n, rfl⟩ := hw; exact below_drewN _ _ _
      clear kbX_0 kbX_1 lbX kbL_0 kbL_1 kbL_2 lbL kbO_0 kbO_1 lbO krg_0 krg_1 lrg ktg_0 ktg_1 ltg krh_0 krh_1 lrh kth_0 kth_1 lth kri_0 kri_1 lri kti_0 kti_1 lti krj_0 krj_1 lrj ktj_0 ktj_1 ltj
      go_wp2_with fail
      go_ret
      exact ⟨rfl, hB.trans (hb.mono hB.size)⟩
end Go.Proofs.YtllcbcanohdepaaGreat

/- The arguments of a law that are numbers, and slices in a field, as they are read; no condition. -/
namespace Go.Proofs.YtllcbcanohdepaaGreat
set_option linter.unusedVariables false
set_option maxRecDepth 100000
set_option linter.unusedSimpArgs false
open Go.ChangeShapes Go.WideShapes Go.ChangeAt Go.RowKit Go.Deep
variable {H : Type} {enc : TypeId × Value → H} {w : World}
theorem open_intV {v : Value} {d : DataW H} {ps : List MemPlace} {base : Nat} (hv : Value.okWide Tryz.prog w .any base 3 v)
    (h : DataW.Trod enc Tryz.prog w 0 (fun _ => true) true 3 v d ps) : ∃ x : Int, v = .int .i64 x ∧ in64 x := by
  obtain ⟨n, hn, hr⟩ := open_int Tryz.underlying3 hv h
  exact ⟨n, hn, in64_of_wf hr.2.2⟩
theorem open_intC {v : Value} {y : DataW H × List MemPlace} {n : Nat} (h : DataW.trod enc Tryz.prog w 0 (fun _ => true) true n 3 [v] = some y) : ∃ x : Int, v = .int .i64 x ∧ in64 x := by
  obtain ⟨x, hcs, _, hw⟩ := DataW.trod_int Tryz.underlying3 h
  simp at hcs
  exact ⟨x, hcs, in64_of_wf hw⟩
theorem open_intsC {v : Value} {y : DataW H × List MemPlace} {n : Nat} (hf : DataW.trod enc Tryz.prog w 0 (fun _ => true) true n 25 [v] = some y) : ∃ (p : Option Addr) (c : Nat) (xs : List Int), v = .slice p xs.length c ∧ Ints w p c xs := by
  rcases open_ints Tryz.underlying25 Tryz.underlying3 (by kernel_rfl) hf with ⟨hcs, _⟩ | ⟨x, len, cap, zs, hcs, _, hl, hm, hz, hx, hcell, hwz⟩
  · simp at hcs
    subst hcs
    exact ⟨none, 0, [], rfl, Ints.ofNil w⟩
  · simp at hcs
    subst hcs
    simp only [if_true] at hz
    have hl' : (zs.take len).length = len := by simp; omega
    refine ⟨_, cap, zs.take len, by rw [hl'], by omega, hm, fun h => (by cases h), ?_, ?_, ?_⟩
    · rintro a ⟨⟩ hc0
      have h0 := hcell 0 (by omega)
      obtain ⟨b, o, s⟩ := x
      have := World.block_lt_of_cell? _ _ h0
      exact ⟨by simpa [Addr.add] using World.cell?_spot h0, by simpa [Addr.add] using this⟩
    · rintro b o ⟨⟩ j hj
      have := hcell j (by omega)
      rw [hl'] at hj
      rw [add_plain] at this
      simpa [iget, List.getD, hj] using this
    · intro j hj
      rw [iget_of hj]
      exact in64_of_wf (hwz _ (List.mem_of_mem_take (List.getElem_mem hj)))
theorem open_matC {v : Value} {y : DataW H × List MemPlace} {n : Nat} (hf : DataW.trod enc Tryz.prog w 0 (fun _ => true) true n 22 [v] = some y) : ∃ (p : Option Addr) (c : Nat) (m : List (List Int)), v = .slice p m.length c ∧ Mat w p c m := by
  rcases open_int_rows Tryz.underlying22 Tryz.underlying25 Tryz.underlying3 (by kernel_rfl) (by kernel_rfl) hf with ⟨hcs, _⟩ | ⟨x, len, cap, A, L, C, Z, hcs, _, hl, hm, _, hrows⟩
  · simp at hcs
    subst hcs
    exact ⟨none, 0, [], rfl, Mat.ofNil w⟩
  · simp at hcs
    subst hcs
    have hl' : ((List.range len).map fun r => (Z r).take (L r)).length = len := by simp
    have hr : ∀ j, j < len → rget ((List.range len).map fun r => (Z r).take (L r)) j = (Z j).take (L j) := fun j hj => by simp [rget, hj]
    refine ⟨_, cap, _, by rw [hl'], by omega, hm, fun h => (by cases h), ?_, ?_⟩
    · rintro a ⟨⟩ hc0
      have h0 := (hrows 0 (by omega)).1
      obtain ⟨b, o, s⟩ := x
      have := World.block_lt_of_cell? _ _ h0
      exact ⟨by simpa [Addr.add] using World.cell?_spot h0, by simpa [Addr.add] using this⟩
    · rintro b o ⟨⟩ j hj
      rw [hl'] at hj
      obtain ⟨h1, h2, h3, h4, h5, h6, h7⟩ := hrows j (by omega)
      have hl2 : ((Z j).take (L j)).length = L j := by simp; omega
      refine ⟨A j, C j, by rw [hr j hj, hl2, ← add_plain]; exact h1, ?_⟩
      rw [hr j hj]
      refine ⟨by omega, h3, h6, ?_, ?_, ?_⟩
      · intro a' ha' hc0
        have h0 := (h7 a' ha').2 0 hc0
        obtain ⟨b', o', s'⟩ := a'
        have := World.block_lt_of_cell? _ _ h0
        exact ⟨by simpa [Addr.add] using World.cell?_spot h0, by simpa [Addr.add] using this⟩
      · intro b' o' hp i hi
        have := (h7 _ hp).2 i (by omega)
        rw [hl2] at hi
        rw [add_plain] at this
        simpa [iget, List.getD, hi] using this
      · intro i hi
        rw [iget_of hi]
        exact in64_of_wf (h5 _ (List.mem_of_mem_take (List.getElem_mem hi)))
end Go.Proofs.YtllcbcanohdepaaGreat
