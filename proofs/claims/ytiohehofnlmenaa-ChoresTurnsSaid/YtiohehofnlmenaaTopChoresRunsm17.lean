/- ChoresRuns: for every input the law returns true, and each argument reads as it read before; no condition. -/
import Derived.Test.YtiohehofnlmenaaTopChoresRunsm16
import Derived.Test.YtiohehofnlmenaaTopChoresRunsm10
import Derived.Test.YtiohehofnlmenaaTopChoresRunsm9
import Derived.Test.YtiohehofnlmenaaTopChoresRunsm12
import Derived.Test.YtiohehofnlmenaaTopChoresRunsm15
import Derived.Test.YtiohehofnlmenaaTopChoresRunsm1
import Derived.Lib.SmallJoins
import Derived.ChangeOld
/- The walk of the law ChoresTells: for every chores and allocation it returns true, and changes nothing that was there. -/
namespace Go.Proofs.Ytiohehofnlmenaa
set_option linter.unusedVariables false
set_option linter.unusedSimpArgs false
open Go.ChangeShapes Go.WideShapes Go.ChangeAt Go.RowKit Go.Deep

theorem greatG_yes {v : List (List Int)} {xs : List Int} (h : GreatG v xs) : greatG v xs = true := by simp [greatG, h]
theorem greatG_no {v : List (List Int)} {xs : List Int} (h : ¬ GreatG v xs) : greatG v xs = false := by simp [greatG, h]
set_option maxHeartbeats 8000000 in
set_option maxRecDepth 100000 in
theorem choresTells_walk (p : Option Addr) (c : Nat) (v : List (List Int)) (q : Option Addr) (d : Nat) (a : List Int) (w : World) (hx : Mat w p c v) (hy : Ints w q d a) :
    Calls Try.prog 3 #[.agg #[.slice p v.length c], .slice q a.length d] w fun e w' => e = .returned (.bool true) ∧ Below w.heap.size w w' := by
  obtain ⟨W0, hW0⟩ : ∃ W, w.alloc (.cells #[.slice p v.length c] 24) = W := ⟨_, rfl⟩
  have hB : Below w.heap.size w W0 := below_alloc hW0
  have bX : BoxV W0 w.heap.size [.slice p v.length c] := BoxV.new rfl hW0
  have mX := hx.below hB (Nat.le_refl _)
  have mT := hy.below hB (Nat.le_refl _)
  have HW0 := Lib.hid hW0
  clear hW0 hx hy
  have x0 := bX.cell 0 _ rfl
  by_cases hG : GreatG v a
  · have hg := greatG_yes hG
    have Hg := Lib.hid hg
    clear hG hg
    go_enter Try.func3, Try.ntmps3
    go_wp2_with fail
    rw [HW0.out]
    refine (great16_any p q c d v a W0 mX).mono ?_
    rintro e w1 ⟨rfl, hb⟩
    rw [Hg.out]
    go_wp2_with fail
    go_ret
    exact ⟨rfl, hB.trans (hb.mono hB.size)⟩
  have h20 : v.length ≤ 900000 := by
    have : ¬ 20 < v.length := fun h => hG (.inr (.inl h))
    omega
  have ha50 : a.length ≤ 100 := by
    have : ¬ 50 < a.length := fun h => hG (.inr (.inr h))
    omega
  have Hrows : Hid (∀ i, i < v.length → (rget v i).length ≤ 900000) := fun i hi => by
    have : ¬ 20 < v.length := fun h => hG (.inr (.inl h))
    have : ∀ i, i < v.length → i < 20 → (rget v i).length ≤ 50 := Classical.not_not.1 fun h => hG (.inl h)
    have := this i hi (by omega)
    omega
  have Hg := Lib.hid (greatG_no hG)
  clear hG
  go_enter Try.func3, Try.ntmps3
  go_wp2_with fail
  rw [HW0.out]
  refine (great16_any p q c d v a W0 mX).mono ?_
  rintro e w1 ⟨rfl, hb⟩
  rw [Hg.out]
  clear x0
  replace mX := mX.below hb (Nat.le_refl _)
  replace mT := mT.below hb (Nat.le_refl _)
  replace bX := bX.below hb
  replace hB := hB.trans (hb.mono hB.size)
  clear hb
  have kbX_0 := bX.cell 0 _ rfl
  have lbX := bX.lt
  go_wp2_with (first
    | (go_at_call 10; refine (twin_any p c v _ mX h20 Hrows.out).mono ?_; rintro e w3 ⟨p1, c1, Q, D, rfl, hD, hb⟩; have mO := hD.mat; have mT3 := mT.below hb (Nat.le_refl _); clear hD)
    | (at_builtin; (refine wpList_app rfl (.tmp 32) (.tmp 33) rfl w3.heap.size _ _ _ _ [] a rfl rfl (Own.made _ _ (Nat.le_refl _)) (mT3.below ((Below.refl _ _).alloc (Nat.le_refl _) _) (Nat.le_refl _)) (by simp; omega) (by simp) ?_; intro p2 c2 w4 r2 hr2 hO4 hg4 hf4; obtain rfl : r2 = a := hr2.out; have hb4 := app_below hg4)))
  obtain ⟨W5, hW5⟩ : ∃ W, w4.alloc (.cells #[.slice p1 v.length c1] 24) = W := ⟨_, rfl⟩
  rw [hW5]
  have hb5 := below_alloc hW5
  have bO : BoxV W5 w4.heap.size [.slice p1 v.length c1] := BoxV.new rfl hW5
  have mL := hO4.ints.below hb5 (Nat.le_refl _)
  replace mO := (mO.below hb4 (Nat.le_refl _)).below hb5 (Nat.le_refl _)
  clear kbX_0 lbX
  have hb := hb.trans ((hb4.trans (hb5.mono hb4.size)).mono hb.size)
  clear hb4 hb5 hg4 hf4 hW5 mT3 hO4
  replace mX := mX.below hb (Nat.le_refl _)
  replace mT := mT.below hb (Nat.le_refl _)
  replace bX := bX.below hb
  replace hB := hB.trans (hb.mono hB.size)
  clear hb
  have kbX_0 := bX.cell 0 _ rfl
  have lbX := bX.lt
  have kbO_0 := bO.cell 0 _ rfl
  have lbO := bO.lt
  go_wp2_with fail
  refine (choresEnvies_any p1 c1 v p2 c2 r2 _ mO mL).mono ?_
  rintro e wA ⟨pa, ca, rfl, oA, hb⟩
  clear kbX_0 lbX kbO_0 lbO
  replace mX := mX.below hb (Nat.le_refl _)
  replace mT := mT.below hb (Nat.le_refl _)
  replace bX := bX.below hb
  replace bO := bO.below hb
  replace mL := mL.below hb (Nat.le_refl _)
  replace mO := mO.below hb (Nat.le_refl _)
  replace hB := hB.trans (hb.mono hB.size)
  clear hb
  obtain ⟨E, hE⟩ : ∃ x, chkA v r2 = x := ⟨_, rfl⟩
  obtain ⟨X, hX⟩ : ∃ x, envG cP v r2 = x := ⟨_, rfl⟩
  obtain ⟨Y, hY⟩ : ∃ x, burdL v r2 = x := ⟨_, rfl⟩
  obtain ⟨M, hM⟩ : ∃ x, oneM v r2 = x := ⟨_, rfl⟩
  obtain ⟨N, hN⟩ : ∃ x, oneN v r2 = x := ⟨_, rfl⟩
  obtain ⟨C, hC⟩ : ∃ x, circL v r2 = x := ⟨_, rfl⟩
  rw [hX] at oA ⊢
  rw [hE]
  have HE := Lib.hid hE
  have HX := Lib.hid hX
  have HY := Lib.hid hY
  have HM := Lib.hid hM
  have HN := Lib.hid hN
  have HC := Lib.hid hC
  clear hE hX hY hM hN hC
  have kbX_0 := bX.cell 0 _ rfl
  have lbX := bX.lt
  have kbO_0 := bO.cell 0 _ rfl
  have lbO := bO.lt
  go_wp2_with fail
  have hK := ref24Envies_any p c v q d r2 _ mX mT
  unfold GivesQ at hK
  rw [HX.out, HE.out] at hK
  refine hK.mono ?_
  clear hK
  rintro e wB ⟨pb, cb, rfl, oB, hb⟩
  clear kbX_0 lbX kbO_0 lbO
  replace mX := mX.below hb (Nat.le_refl _)
  replace mT := mT.below hb (Nat.le_refl _)
  replace bX := bX.below hb
  replace bO := bO.below hb
  replace mL := mL.below hb (Nat.le_refl _)
  replace mO := mO.below hb (Nat.le_refl _)
  replace oA := oA.below hb (Nat.le_refl _)
  replace hB := hB.trans (hb.mono hB.size)
  clear hb
  have kbX_0 := bX.cell 0 _ rfl
  have lbX := bX.lt
  have kbO_0 := bO.cell 0 _ rfl
  have lbO := bO.lt
  go_wp2_with fail
  have hK := choresBurdened_any p1 c1 v p2 c2 r2 _ mO mL
  unfold Gives2 at hK
  rw [HY.out, HE.out] at hK
  refine hK.mono ?_
  clear hK
  rintro e wC ⟨pc, cc, rfl, oC, hb⟩
  clear kbX_0 lbX kbO_0 lbO
  replace mX := mX.below hb (Nat.le_refl _)
  replace mT := mT.below hb (Nat.le_refl _)
  replace bX := bX.below hb
  replace bO := bO.below hb
  replace mL := mL.below hb (Nat.le_refl _)
  replace mO := mO.below hb (Nat.le_refl _)
  replace oA := oA.below hb (Nat.le_refl _)
  replace oB := oB.below hb (Nat.le_refl _)
  replace hB := hB.trans (hb.mono hB.size)
  clear hb
  have iC := oC.ints
  clear oC
  have kbX_0 := bX.cell 0 _ rfl
  have lbX := bX.lt
  have kbO_0 := bO.cell 0 _ rfl
  have lbO := bO.lt
  go_wp2_with fail
  have hK := ref24Burdened_any p c v q d r2 _ mX mT
  unfold Gives2 at hK
  rw [HY.out, HE.out] at hK
  refine hK.mono ?_
  clear hK
  rintro e wD ⟨pd, cd, rfl, oD, hb⟩
  clear kbX_0 lbX kbO_0 lbO
  replace mX := mX.below hb (Nat.le_refl _)
  replace mT := mT.below hb (Nat.le_refl _)
  replace bX := bX.below hb
  replace bO := bO.below hb
  replace mL := mL.below hb (Nat.le_refl _)
  replace mO := mO.below hb (Nat.le_refl _)
  replace oA := oA.below hb (Nat.le_refl _)
  replace oB := oB.below hb (Nat.le_refl _)
  replace iC := iC.below hb (Nat.le_refl _)
  replace hB := hB.trans (hb.mono hB.size)
  clear hb
  have iD := oD.ints
  clear oD
  have kbX_0 := bX.cell 0 _ rfl
  have lbX := bX.lt
  have kbO_0 := bO.cell 0 _ rfl
  have lbO := bO.lt
  go_wp2_with fail
  refine (samePairs_any _ _ _ _ _ _ _ _ oA oB).mono ?_
  rintro e wG ⟨rfl, hw⟩
  clear kbX_0 lbX kbO_0 lbO
  have hb : Below _ _ _ := drew_below hw
  replace mX := mX.below hb (Nat.le_refl _)
  replace mT := mT.below hb (Nat.le_refl _)
  replace bX := bX.below hb
  replace bO := bO.below hb
  replace mL := mL.below hb (Nat.le_refl _)
  replace mO := mO.below hb (Nat.le_refl _)
  replace oA := oA.below hb (Nat.le_refl _)
  replace oB := oB.below hb (Nat.le_refl _)
  replace iC := iC.below hb (Nat.le_refl _)
  replace iD := iD.below hb (Nat.le_refl _)
  replace hB := hB.trans (hb.mono hB.size)
  clear hb
  have kbX_0 := bX.cell 0 _ rfl
  have lbX := bX.lt
  have kbO_0 := bO.cell 0 _ rfl
  have lbO := bO.lt
  go_wp2_with fail
  refine (eqI_true iC iD).mono ?_
  rintro e wH ⟨rfl, hw⟩
  clear kbX_0 lbX kbO_0 lbO
  have hb : Below _ _ _ := drew_below hw
  replace mX := mX.below hb (Nat.le_refl _)
  replace mT := mT.below hb (Nat.le_refl _)
  replace bX := bX.below hb
  replace bO := bO.below hb
  replace mL := mL.below hb (Nat.le_refl _)
  replace mO := mO.below hb (Nat.le_refl _)
  replace oA := oA.below hb (Nat.le_refl _)
  replace oB := oB.below hb (Nat.le_refl _)
  replace iC := iC.below hb (Nat.le_refl _)
  replace iD := iD.below hb (Nat.le_refl _)
  replace hB := hB.trans (hb.mono hB.size)
  clear hb
  have kbX_0 := bX.cell 0 _ rfl
  have lbX := bX.lt
  have kbO_0 := bO.cell 0 _ rfl
  have lbO := bO.lt
  go_wp2_with fail
  have hK := choresOne_any p1 c1 v p2 c2 r2 _ mO mL
  unfold GivesMP at hK
  rw [HM.out, HN.out, HE.out] at hK
  refine hK.mono ?_
  clear hK
  rintro e wI ⟨pe, ce, pf, cf, rfl, oE, oF, hb⟩
  clear kbX_0 lbX kbO_0 lbO
  replace mX := mX.below hb (Nat.le_refl _)
  replace mT := mT.below hb (Nat.le_refl _)
  replace bX := bX.below hb
  replace bO := bO.below hb
  replace mL := mL.below hb (Nat.le_refl _)
  replace mO := mO.below hb (Nat.le_refl _)
  replace oA := oA.below hb (Nat.le_refl _)
  replace oB := oB.below hb (Nat.le_refl _)
  replace iC := iC.below hb (Nat.le_refl _)
  replace iD := iD.below hb (Nat.le_refl _)
  replace hB := hB.trans (hb.mono hB.size)
  clear hb
  clear oA oB iC iD
  have kbX_0 := bX.cell 0 _ rfl
  have lbX := bX.lt
  have kbO_0 := bO.cell 0 _ rfl
  have lbO := bO.lt
  go_wp2_with fail
  have hK := ref24One_any p c v q d r2 _ mX mT
  unfold GivesMP at hK
  rw [HM.out, HN.out, HE.out] at hK
  refine hK.mono ?_
  clear hK
  rintro e wJ ⟨pg, cg, ph, ch, rfl, oG, oH, hb⟩
  clear kbX_0 lbX kbO_0 lbO
  replace mX := mX.below hb (Nat.le_refl _)
  replace mT := mT.below hb (Nat.le_refl _)
  replace bX := bX.below hb
  replace bO := bO.below hb
  replace mL := mL.below hb (Nat.le_refl _)
  replace mO := mO.below hb (Nat.le_refl _)
  replace oE := oE.below hb (Nat.le_refl _)
  replace oF := oF.below hb (Nat.le_refl _)
  replace hB := hB.trans (hb.mono hB.size)
  clear hb
  have kbX_0 := bX.cell 0 _ rfl
  have lbX := bX.lt
  have kbO_0 := bO.cell 0 _ rfl
  have lbO := bO.lt
  go_wp2_with fail
  have hK := choresCircle_any p1 c1 v p2 c2 r2 _ mO mL
  unfold Gives2 at hK
  rw [HC.out, HE.out] at hK
  refine hK.mono ?_
  clear hK
  rintro e wK ⟨pi, ci, rfl, oI, hb⟩
  clear kbX_0 lbX kbO_0 lbO
  replace mX := mX.below hb (Nat.le_refl _)
  replace mT := mT.below hb (Nat.le_refl _)
  replace bX := bX.below hb
  replace bO := bO.below hb
  replace mL := mL.below hb (Nat.le_refl _)
  replace mO := mO.below hb (Nat.le_refl _)
  replace oE := oE.below hb (Nat.le_refl _)
  replace oF := oF.below hb (Nat.le_refl _)
  replace oG := oG.below hb (Nat.le_refl _)
  replace oH := oH.below hb (Nat.le_refl _)
  replace hB := hB.trans (hb.mono hB.size)
  clear hb
  have iI := oI.ints
  clear oI
  have kbX_0 := bX.cell 0 _ rfl
  have lbX := bX.lt
  have kbO_0 := bO.cell 0 _ rfl
  have lbO := bO.lt
  go_wp2_with fail
  have hK := ref24Circle_any p c v q d r2 _ mX mT
  unfold Gives2 at hK
  rw [HC.out, HE.out] at hK
  refine hK.mono ?_
  clear hK
  rintro e wL ⟨pj, cj, rfl, oJ, hb⟩
  clear kbX_0 lbX kbO_0 lbO
  replace mX := mX.below hb (Nat.le_refl _)
  replace mT := mT.below hb (Nat.le_refl _)
  replace bX := bX.below hb
  replace bO := bO.below hb
  replace mL := mL.below hb (Nat.le_refl _)
  replace mO := mO.below hb (Nat.le_refl _)
  replace oE := oE.below hb (Nat.le_refl _)
  replace oF := oF.below hb (Nat.le_refl _)
  replace oG := oG.below hb (Nat.le_refl _)
  replace oH := oH.below hb (Nat.le_refl _)
  replace iI := iI.below hb (Nat.le_refl _)
  replace hB := hB.trans (hb.mono hB.size)
  clear hb
  have iJ := oJ.ints
  clear oJ
  have kbX_0 := bX.cell 0 _ rfl
  have lbX := bX.lt
  have kbO_0 := bO.cell 0 _ rfl
  have lbO := bO.lt
  go_wp2_with fail
  refine (sameMarks_any _ _ _ _ _ _ _ _ oE oG).mono ?_
  rintro e wM ⟨rfl, hw⟩
  clear kbX_0 lbX kbO_0 lbO
  have hb : Below _ _ _ := drew_below hw
  replace mX := mX.below hb (Nat.le_refl _)
  replace mT := mT.below hb (Nat.le_refl _)
  replace bX := bX.below hb
  replace bO := bO.below hb
  replace mL := mL.below hb (Nat.le_refl _)
  replace mO := mO.below hb (Nat.le_refl _)
  replace oE := oE.below hb (Nat.le_refl _)
  replace oF := oF.below hb (Nat.le_refl _)
  replace oG := oG.below hb (Nat.le_refl _)
  replace oH := oH.below hb (Nat.le_refl _)
  replace iI := iI.below hb (Nat.le_refl _)
  replace iJ := iJ.below hb (Nat.le_refl _)
  replace hB := hB.trans (hb.mono hB.size)
  clear hb
  have kbX_0 := bX.cell 0 _ rfl
  have lbX := bX.lt
  have kbO_0 := bO.cell 0 _ rfl
  have lbO := bO.lt
  go_wp2_with fail
  refine (samePairs_any _ _ _ _ _ _ _ _ oF oH).mono ?_
  rintro e wN ⟨rfl, hw⟩
  clear kbX_0 lbX kbO_0 lbO
  have hb : Below _ _ _ := drew_below hw
  replace mX := mX.below hb (Nat.le_refl _)
  replace mT := mT.below hb (Nat.le_refl _)
  replace bX := bX.below hb
  replace bO := bO.below hb
  replace mL := mL.below hb (Nat.le_refl _)
  replace mO := mO.below hb (Nat.le_refl _)
  replace oE := oE.below hb (Nat.le_refl _)
  replace oF := oF.below hb (Nat.le_refl _)
  replace oG := oG.below hb (Nat.le_refl _)
  replace oH := oH.below hb (Nat.le_refl _)
  replace iI := iI.below hb (Nat.le_refl _)
  replace iJ := iJ.below hb (Nat.le_refl _)
  replace hB := hB.trans (hb.mono hB.size)
  clear hb
  have kbX_0 := bX.cell 0 _ rfl
  have lbX := bX.lt
  have kbO_0 := bO.cell 0 _ rfl
  have lbO := bO.lt
  go_wp2_with fail
  refine (eqI_true iI iJ).mono ?_
  rintro e wO ⟨rfl, hw⟩
  clear kbX_0 lbX kbO_0 lbO
  have hb : Below _ _ _ := drew_below hw
  replace mX := mX.below hb (Nat.le_refl _)
  replace mT := mT.below hb (Nat.le_refl _)
  replace bX := bX.below hb
  replace bO := bO.below hb
  replace mL := mL.below hb (Nat.le_refl _)
  replace mO := mO.below hb (Nat.le_refl _)
  replace oE := oE.below hb (Nat.le_refl _)
  replace oF := oF.below hb (Nat.le_refl _)
  replace oG := oG.below hb (Nat.le_refl _)
  replace oH := oH.below hb (Nat.le_refl _)
  replace iI := iI.below hb (Nat.le_refl _)
  replace iJ := iJ.below hb (Nat.le_refl _)
  replace hB := hB.trans (hb.mono hB.size)
  clear hb
  have kbX_0 := bX.cell 0 _ rfl
  have lbX := bX.lt
  have kbO_0 := bO.cell 0 _ rfl
  have lbO := bO.lt
  go_wp2_with fail
  refine (eqM_true mO mX).mono ?_
  rintro e wP ⟨rfl, hw⟩
  clear kbX_0 lbX kbO_0 lbO
  have hb : Below _ _ _ := drew_below hw
  replace mX := mX.below hb (Nat.le_refl _)
  replace mT := mT.below hb (Nat.le_refl _)
  replace bX := bX.below hb
  replace bO := bO.below hb
  replace mL := mL.below hb (Nat.le_refl _)
  replace mO := mO.below hb (Nat.le_refl _)
  replace oE := oE.below hb (Nat.le_refl _)
  replace oF := oF.below hb (Nat.le_refl _)
  replace oG := oG.below hb (Nat.le_refl _)
  replace oH := oH.below hb (Nat.le_refl _)
  replace iI := iI.below hb (Nat.le_refl _)
  replace iJ := iJ.below hb (Nat.le_refl _)
  replace hB := hB.trans (hb.mono hB.size)
  clear hb
  have kbX_0 := bX.cell 0 _ rfl
  have lbX := bX.lt
  have kbO_0 := bO.cell 0 _ rfl
  have lbO := bO.lt
  go_wp2_with fail
  refine (eqI_true mL mT).mono ?_
  rintro e wQ ⟨rfl, hw⟩
  clear kbX_0 lbX kbO_0 lbO
  have hb : Below _ _ _ := drew_below hw
  replace mX := mX.below hb (Nat.le_refl _)
  replace mT := mT.below hb (Nat.le_refl _)
  replace bX := bX.below hb
  replace bO := bO.below hb
  replace mL := mL.below hb (Nat.le_refl _)
  replace mO := mO.below hb (Nat.le_refl _)
  replace oE := oE.below hb (Nat.le_refl _)
  replace oF := oF.below hb (Nat.le_refl _)
  replace oG := oG.below hb (Nat.le_refl _)
  replace oH := oH.below hb (Nat.le_refl _)
  replace iI := iI.below hb (Nat.le_refl _)
  replace iJ := iJ.below hb (Nat.le_refl _)
  replace hB := hB.trans (hb.mono hB.size)
  clear hb
  go_wp2_with fail
  go_ret
  exact ⟨rfl, hB⟩
end Go.Proofs.Ytiohehofnlmenaa

/- The walk of the law ChoresRuns: for every chores, turns and order it returns true, and changes nothing that was there.  (Printed by wip/genruns.py.) -/
namespace Go.Proofs.Ytiohehofnlmenaa
set_option linter.unusedVariables false
set_option linter.unusedSimpArgs false
open Go.ChangeShapes Go.WideShapes Go.ChangeAt Go.RowKit Go.Deep

set_option maxHeartbeats 8000000 in
set_option maxRecDepth 100000 in
theorem choresRuns_walk (p : Option Addr) (c : Nat) (v : List (List Int)) (q : Option Addr) (d : Nat) (ts : List Int) (s : Option Addr) (f : Nat) (o : List Int) (w : World) (hx : Mat w p c v) (hy : Ints w q d ts) (hz : Ints w s f o) :
    Calls Try.prog 4 #[.agg #[.slice p v.length c], .slice q ts.length d, .slice s o.length f] w fun e w' => e = .returned (.bool true) ∧ Below w.heap.size w w' := by
  obtain ⟨W0, hW0⟩ : ∃ W, w.alloc (.cells #[.slice p v.length c] 24) = W := ⟨_, rfl⟩
  have hB : Below w.heap.size w W0 := below_alloc hW0
  have bX : BoxV W0 w.heap.size [.slice p v.length c] := BoxV.new rfl hW0
  have mX := hx.below hB (Nat.le_refl _)
  have mT := hy.below hB (Nat.le_refl _)
  have mO := hz.below hB (Nat.le_refl _)
  have HW0 := Lib.hid hW0
  clear hW0 hx hy hz
  have x0 := bX.cell 0 _ rfl
  by_cases hG : GreatG v o
  · have Hg := Lib.hid (greatG_yes hG)
    clear hG
    go_enter Try.func4, Try.ntmps4
    go_wp2_with fail
    rw [HW0.out]
    refine (great16_any p s c f v o W0 mX).mono ?_
    rintro e w1 ⟨rfl, hb⟩
    rw [Hg.out]
    go_wp2_with fail
    go_ret
    exact ⟨rfl, hB.trans (hb.mono hB.size)⟩
  have Hg := Lib.hid (greatG_no hG)
  clear hG
  by_cases hL : 100 < ts.length
  · have hl : decide (100 < ts.length) = true := by simpa using hL
    have Hl := Lib.hid hl
    clear hL hl
    go_enter Try.func4, Try.ntmps4
    go_wp2_with fail
    rw [HW0.out]
    refine (great16_any p s c f v o W0 mX).mono ?_
    rintro e w1 ⟨rfl, hb⟩
    rw [Hg.out]
    go_wp2_with fail
    refine (long_any q d ts.length w1).mono ?_
    rintro e w2 ⟨rfl, rfl⟩
    rw [Hl.out]
    go_wp2_with fail
    go_ret
    exact ⟨rfl, hB.trans (hb.mono hB.size)⟩
  have hl : decide (100 < ts.length) = false := by simpa using hL
  have Hl := Lib.hid hl
  clear hL hl
  go_enter Try.func4, Try.ntmps4
  go_wp2_with fail
  rw [HW0.out]
  refine (great16_any p s c f v o W0 mX).mono ?_
  rintro e w1 ⟨rfl, hb⟩
  rw [Hg.out]
  clear x0
  replace mX := mX.below hb (Nat.le_refl _)
  replace mT := mT.below hb (Nat.le_refl _)
  replace mO := mO.below hb (Nat.le_refl _)
  replace bX := bX.below hb
  replace hB := hB.trans (hb.mono hB.size)
  clear hb
  have kbX_0 := bX.cell 0 _ rfl
  have lbX := bX.lt
  go_wp2_with fail
  refine (long_any q d ts.length w1).mono ?_
  rintro e w2 ⟨rfl, rfl⟩
  rw [Hl.out]
  clear kbX_0 lbX
  have kbX_0 := bX.cell 0 _ rfl
  have lbX := bX.lt
  go_wp2_with fail
  refine (choresPick_any p q c d v ts _ mX mT).mono ?_
  rintro e wA ⟨pa, ca, pt, ct, rfl, oA, oT, hb⟩
  clear kbX_0 lbX
  replace mX := mX.below hb (Nat.le_refl _)
  replace mT := mT.below hb (Nat.le_refl _)
  replace mO := mO.below hb (Nat.le_refl _)
  replace bX := bX.below hb
  replace hB := hB.trans (hb.mono hB.size)
  clear hb
  have iA := oA.ints
  have iT := oT.ints
  obtain ⟨E, hE⟩ : ∃ x, pickE v ts = x := ⟨_, rfl⟩
  obtain ⟨X, hX⟩ : ∃ x, cpickL v ts = x := ⟨_, rfl⟩
  obtain ⟨Y, hY⟩ : ∃ x, cpickT v ts = x := ⟨_, rfl⟩
  rw [hX] at iA ⊢
  rw [hY] at iT ⊢
  rw [hE]
  have HE := Lib.hid hE
  have HX := Lib.hid hX
  have HY := Lib.hid hY
  clear hE hX hY oA oT
  have kbX_0 := bX.cell 0 _ rfl
  have lbX := bX.lt
  go_wp2_with fail
  have hK := ref24Pick_any p q c d v ts _ mX mT
  unfold GivesLL at hK
  rw [HE.out, HX.out, HY.out] at hK
  refine hK.mono ?_
  clear hK
  rintro e wB ⟨pb, cb, pu, cu, rfl, oA, oT, hb⟩
  clear kbX_0 lbX
  replace mX := mX.below hb (Nat.le_refl _)
  replace mT := mT.below hb (Nat.le_refl _)
  replace mO := mO.below hb (Nat.le_refl _)
  replace bX := bX.below hb
  replace iA := iA.below hb (Nat.le_refl _)
  replace iT := iT.below hb (Nat.le_refl _)
  replace hB := hB.trans (hb.mono hB.size)
  clear hb
  have jA := oA.ints
  have jT := oT.ints
  clear oA oT
  have kbX_0 := bX.cell 0 _ rfl
  have lbX := bX.lt
  go_wp2_with fail
  refine (choresRun_any p s c f v o _ mX mO).mono ?_
  rintro e wC ⟨pc, cc, pd, cd, QC, DC, rfl, oA, oS, hb⟩
  clear kbX_0 lbX
  replace mX := mX.below hb (Nat.le_refl _)
  replace mT := mT.below hb (Nat.le_refl _)
  replace mO := mO.below hb (Nat.le_refl _)
  replace bX := bX.below hb
  replace iA := iA.below hb (Nat.le_refl _)
  replace iT := iT.below hb (Nat.le_refl _)
  replace jA := jA.below hb (Nat.le_refl _)
  replace jT := jT.below hb (Nat.le_refl _)
  replace hB := hB.trans (hb.mono hB.size)
  clear hb
  have kA := oA.ints
  obtain ⟨E2, hE⟩ : ∃ x, runE v o = x := ⟨_, rfl⟩
  obtain ⟨X2, hX⟩ : ∃ x, runA v o = x := ⟨_, rfl⟩
  obtain ⟨Y2, hY⟩ : ∃ x, runS v o = x := ⟨_, rfl⟩
  rw [hX] at kA ⊢
  rw [hY] at oS ⊢
  rw [hE]
  have HE2 := Lib.hid hE
  have HX2 := Lib.hid hX
  have HY2 := Lib.hid hY
  clear hE hX hY oA
  have kbX_0 := bX.cell 0 _ rfl
  have lbX := bX.lt
  go_wp2_with fail
  have hK := ref24Run_any p s c f v o _ mX mO
  unfold GivesLS at hK
  rw [HE2.out, HX2.out, HY2.out] at hK
  refine hK.mono ?_
  clear hK
  rintro e wD ⟨pe, ce, pf, cf, QE, DE, rfl, oA, oU, hb⟩
  clear kbX_0 lbX
  replace mX := mX.below hb (Nat.le_refl _)
  replace mT := mT.below hb (Nat.le_refl _)
  replace mO := mO.below hb (Nat.le_refl _)
  replace bX := bX.below hb
  replace iA := iA.below hb (Nat.le_refl _)
  replace iT := iT.below hb (Nat.le_refl _)
  replace jA := jA.below hb (Nat.le_refl _)
  replace jT := jT.below hb (Nat.le_refl _)
  replace kA := kA.below hb (Nat.le_refl _)
  replace oS := oS.below hb (Nat.le_refl _)
  replace hB := hB.trans (hb.mono hB.size)
  clear hb
  have lA := oA.ints
  clear oA
  have kbX_0 := bX.cell 0 _ rfl
  have lbX := bX.lt
  go_wp2_with fail
  refine (eqI_true iA jA).mono ?_
  rintro e wG ⟨rfl, hw⟩
  clear kbX_0 lbX
  have hb : Below _ _ _ := drew_below hw
  replace mX := mX.below hb (Nat.le_refl _)
  replace mT := mT.below hb (Nat.le_refl _)
  replace mO := mO.below hb (Nat.le_refl _)
  replace bX := bX.below hb
  replace iA := iA.below hb (Nat.le_refl _)
  replace iT := iT.below hb (Nat.le_refl _)
  replace jA := jA.below hb (Nat.le_refl _)
  replace jT := jT.below hb (Nat.le_refl _)
  replace kA := kA.below hb (Nat.le_refl _)
  replace oS := oS.below hb (Nat.le_refl _)
  replace lA := lA.below hb (Nat.le_refl _)
  replace oU := oU.below hb (Nat.le_refl _)
  replace hB := hB.trans (hb.mono hB.size)
  clear hb
  have kbX_0 := bX.cell 0 _ rfl
  have lbX := bX.lt
  go_wp2_with fail
  refine (eqI_true iT jT).mono ?_
  rintro e wH ⟨rfl, hw⟩
  clear kbX_0 lbX
  have hb : Below _ _ _ := drew_below hw
  replace mX := mX.below hb (Nat.le_refl _)
  replace mT := mT.below hb (Nat.le_refl _)
  replace mO := mO.below hb (Nat.le_refl _)
  replace bX := bX.below hb
  replace iA := iA.below hb (Nat.le_refl _)
  replace iT := iT.below hb (Nat.le_refl _)
  replace jA := jA.below hb (Nat.le_refl _)
  replace jT := jT.below hb (Nat.le_refl _)
  replace kA := kA.below hb (Nat.le_refl _)
  replace oS := oS.below hb (Nat.le_refl _)
  replace lA := lA.below hb (Nat.le_refl _)
  replace oU := oU.below hb (Nat.le_refl _)
  replace hB := hB.trans (hb.mono hB.size)
  clear hb
  have kbX_0 := bX.cell 0 _ rfl
  have lbX := bX.lt
  go_wp2_with fail
  refine (eqI_true kA lA).mono ?_
  rintro e wI ⟨rfl, hw⟩
  clear kbX_0 lbX
  have hb : Below _ _ _ := drew_below hw
  replace mX := mX.below hb (Nat.le_refl _)
  replace mT := mT.below hb (Nat.le_refl _)
  replace mO := mO.below hb (Nat.le_refl _)
  replace bX := bX.below hb
  replace iA := iA.below hb (Nat.le_refl _)
  replace iT := iT.below hb (Nat.le_refl _)
  replace jA := jA.below hb (Nat.le_refl _)
  replace jT := jT.below hb (Nat.le_refl _)
  replace kA := kA.below hb (Nat.le_refl _)
  replace oS := oS.below hb (Nat.le_refl _)
  replace lA := lA.below hb (Nat.le_refl _)
  replace oU := oU.below hb (Nat.le_refl _)
  replace hB := hB.trans (hb.mono hB.size)
  clear hb
  have kbX_0 := bX.cell 0 _ rfl
  have lbX := bX.lt
  go_wp2_with fail
  refine (sameSteps_any _ _ _ _ _ _ _ _ _ _ _ _ oS oU).mono ?_
  rintro e wJ ⟨rfl, hw⟩
  clear kbX_0 lbX
  have hb : Below _ _ _ := drew_below hw
  replace mX := mX.below hb (Nat.le_refl _)
  replace mT := mT.below hb (Nat.le_refl _)
  replace mO := mO.below hb (Nat.le_refl _)
  replace bX := bX.below hb
  replace iA := iA.below hb (Nat.le_refl _)
  replace iT := iT.below hb (Nat.le_refl _)
  replace jA := jA.below hb (Nat.le_refl _)
  replace jT := jT.below hb (Nat.le_refl _)
  replace kA := kA.below hb (Nat.le_refl _)
  replace oS := oS.below hb (Nat.le_refl _)
  replace lA := lA.below hb (Nat.le_refl _)
  replace oU := oU.below hb (Nat.le_refl _)
  replace hB := hB.trans (hb.mono hB.size)
  clear hb
  go_wp2_with fail
  go_ret
  exact ⟨rfl, hB⟩
end Go.Proofs.Ytiohehofnlmenaa

/- The arguments of a law that are numbers, and slices in a field, as they are read; no condition. -/
namespace Go.Proofs.Ytiohehofnlmenaa
set_option linter.unusedVariables false
set_option maxRecDepth 100000
set_option linter.unusedSimpArgs false
open Go.ChangeShapes Go.WideShapes Go.ChangeAt Go.RowKit Go.Deep
variable {H : Type} {enc : TypeId × Value → H} {w : World}
theorem open_intV {v : Value} {d : DataW H} {ps : List MemPlace} {base : Nat} (hv : Value.okWide Try.prog w .any base 3 v)
    (h : DataW.Trod enc Try.prog w 0 (fun _ => true) true 3 v d ps) : ∃ x : Int, v = .int .i64 x ∧ in64 x := by
  obtain ⟨n, hn, hr⟩ := open_int Try.underlying3 hv h
  exact ⟨n, hn, in64_of_wf hr.2.2⟩
theorem open_intC {v : Value} {y : DataW H × List MemPlace} {n : Nat} (h : DataW.trod enc Try.prog w 0 (fun _ => true) true n 3 [v] = some y) : ∃ x : Int, v = .int .i64 x ∧ in64 x := by
  obtain ⟨x, hcs, _, hw⟩ := DataW.trod_int Try.underlying3 h
  simp at hcs
  exact ⟨x, hcs, in64_of_wf hw⟩
theorem open_intsC {v : Value} {y : DataW H × List MemPlace} {n : Nat} (hf : DataW.trod enc Try.prog w 0 (fun _ => true) true n 25 [v] = some y) : ∃ (p : Option Addr) (c : Nat) (xs : List Int), v = .slice p xs.length c ∧ Ints w p c xs := by
  rcases open_ints Try.underlying25 Try.underlying3 (by kernel_rfl) hf with ⟨hcs, _⟩ | ⟨x, len, cap, zs, hcs, _, hl, hm, hz, hx, hcell, hwz⟩
  · simp at hcs
    subst hcs
    exact ⟨none, 0, [], rfl, Ints.ofNil w⟩
  · simp at hcs
    subst hcs
    simp only [if_true] at hz
    have hl' : (zs.take len).length = len := by simp; omega
    refine ⟨_, cap, zs.take len, by rw [hl'], by omega, hm, fun h => (by cases h), ?_, ?_, ?_⟩
    · rintro a ⟨⟩ hc0
      have h0 := hcell 0 (by omega)
      obtain ⟨b, o, s⟩ := x
      have := World.block_lt_of_cell? _ _ h0
      exact ⟨by simpa [Addr.add] using World.cell?_spot h0, by simpa [Addr.add] using this⟩
    · rintro b o ⟨⟩ j hj
      have := hcell j (by omega)
      rw [hl'] at hj
      rw [add_plain] at this
      simpa [iget, List.getD, hj] using this
    · intro j hj
      rw [iget_of hj]
      exact in64_of_wf (hwz _ (List.mem_of_mem_take (List.getElem_mem hj)))
theorem open_matC {v : Value} {y : DataW H × List MemPlace} {n : Nat} (hf : DataW.trod enc Try.prog w 0 (fun _ => true) true n 22 [v] = some y) : ∃ (p : Option Addr) (c : Nat) (m : List (List Int)), v = .slice p m.length c ∧ Mat w p c m := by
  rcases open_int_rows Try.underlying22 Try.underlying25 Try.underlying3 (by kernel_rfl) (by kernel_rfl) hf with ⟨hcs, _⟩ | ⟨x, len, cap, A, L, C, Z, hcs, _, hl, hm, _, hrows⟩
  · simp at hcs
    subst hcs
    exact ⟨none, 0, [], rfl, Mat.ofNil w⟩
  · simp at hcs
    subst hcs
    have hl' : ((List.range len).map fun r => (Z r).take (L r)).length = len := by simp
    have hr : ∀ j, j < len → rget ((List.range len).map fun r => (Z r).take (L r)) j = (Z j).take (L j) := fun j hj => by simp [rget, hj]
    refine ⟨_, cap, _, by rw [hl'], by omega, hm, fun h => (by cases h), ?_, ?_⟩
    · rintro a ⟨⟩ hc0
      have h0 := (hrows 0 (by omega)).1
      obtain ⟨b, o, s⟩ := x
      have := World.block_lt_of_cell? _ _ h0
      exact ⟨by simpa [Addr.add] using World.cell?_spot h0, by simpa [Addr.add] using this⟩
    · rintro b o ⟨⟩ j hj
      rw [hl'] at hj
      obtain ⟨h1, h2, h3, h4, h5, h6, h7⟩ := hrows j (by omega)
      have hl2 : ((Z j).take (L j)).length = L j := by simp; omega
      refine ⟨A j, C j, by rw [hr j hj, hl2, ← add_plain]; exact h1, ?_⟩
      rw [hr j hj]
      refine ⟨by omega, h3, h6, ?_, ?_, ?_⟩
      · intro a' ha' hc0
        have h0 := (h7 a' ha').2 0 hc0
        obtain ⟨b', o', s'⟩ := a'
        have := World.block_lt_of_cell? _ _ h0
        exact ⟨by simpa [Addr.add] using World.cell?_spot h0, by simpa [Addr.add] using this⟩
      · intro b' o' hp i hi
        have := (h7 _ hp).2 i (by omega)
        rw [hl2] at hi
        rw [add_plain] at this
        simpa [iget, List.getD, hi] using this
      · intro i hi
        rw [iget_of hi]
        exact in64_of_wf (h5 _ (List.mem_of_mem_take (List.getElem_mem hi)))
end Go.Proofs.Ytiohehofnlmenaa

/- The arguments of a law that are goods, as they are read; no condition. -/
namespace Go.Proofs.Ytiohehofnlmenaa
set_option linter.unusedVariables false
set_option maxRecDepth 100000
set_option linter.unusedSimpArgs false
open Go.ChangeShapes Go.WideShapes Go.ChangeAt Go.RowKit Go.Deep
variable {H : Type} {enc : TypeId × Value → H} {w : World}
theorem open_goodsV {v : Value} {d : DataW H} {ps : List MemPlace} {base : Nat} (hv : Value.okWide Try.prog w .any base 24 v)
    (h : DataW.Trod enc Try.prog w 0 (fun _ => true) true 24 v d ps) : ∃ (p : Option Addr) (c : Nat) (m : List (List Int)), v = .agg #[.slice p m.length c] ∧ Mat w p c m := by
  obtain ⟨cs, rfl, hsz⟩ := okWide_struct Try.underlying24 hv
  have hC : Try.prog.cellsOf 24 = 1 := by kernel_rfl
  obtain ⟨v0, rfl⟩ : ∃ v0, cs = #[v0] := by
    obtain ⟨l⟩ := cs
    match l, (hsz.trans hC : l.length = 1) with
    | [v0], _ => exact ⟨v0, rfl⟩
  have hC2 : Try.prog.cellsOf 22 = 1 := by kernel_rfl
  obtain ⟨fuel, hf⟩ := h
  obtain ⟨y0, n, hx, _, h0⟩ := trod_struct1 Try.underlying24 hf
  obtain ⟨p, c, m, rfl, hm⟩ := open_matC (v := v0) (y := y0) (n := n) (by simpa [Value.cells, hC2] using h0)
  exact ⟨p, c, m, rfl, hm⟩
end Go.Proofs.Ytiohehofnlmenaa

/- ChoresRuns: for every input the law returns true, and each argument reads as it read before; no condition. -/
namespace Go.Proofs.Ytiohehofnlmenaa.ChoresRunsTop
open Go.ChangeShapes Go.WideShapes Go.ChangeAt Go.RowKit Go.Deep
set_option linter.unusedVariables false

set_option maxRecDepth 100000 in
theorem lifted (os : Os) (started : os.Started) (H : Type) (enc : TypeId × Value → H) :
    ReturnsInHanded {} Try.checked os 4 .any (Rows.choresRunsSpec.pre6 enc Try.prog Try.f4 Rows.choresRunsRow.domain false) (Rows.choresRunsSpec.post enc Try.prog Try.f4 false true false false) := by
  refine returnsInHanded_of_change (C := Try.checked) own started (by kernel_rfl) Try.func4
    (ChangeSpec.witness6 (enc := enc) (C := Try.checked) false ⟨#[], #[.agg #[.slice none 0 0], .slice none 0 0, .slice none 0 0], []⟩ 8 (by kernel_rfl) (by kernel_rfl) (by kernel_rfl) (by kernel_rfl)) ?_
  intro W base args ds gs before hval0 hW hcnd _
  have hval : ∀ (j : Nat) t v, Try.f4.params[j]? = some t → args[j]? = some v → Value.okWide Try.prog W .any base t v := hval0
  have hW' := hW
  obtain ⟨p, q, hA0, hV, rfl, hfz, hnd⟩ := hW
  have hA : DataW.TrodAll enc Try.prog W 0 (fun _ => true) true Try.f4.params.toList args.toList ds p := hA0
  rw [Try.params4] at hA hval
  obtain ⟨v0, vs0, d0, ds0, p0, q0, hargs, rfl, rfl, h0, r0⟩ := trodAll_cons hA
  obtain ⟨v1, vs1, d1, ds1, p1, q1, rfl, rfl, rfl, h1, r1⟩ := trodAll_cons r0
  obtain ⟨v2, vs2, d2, ds2, p2, q2, rfl, rfl, rfl, h2, r2⟩ := trodAll_cons r1
  obtain ⟨rfl, rfl, rfl⟩ := trodAll_nil r2
  obtain rfl : args = #[v0, v1, v2] := by cases args; simp_all
  obtain ⟨rfl, rfl⟩ := trodVars_none hV
  have k0 := h0
  have lt0 : ∀ x ∈ p0, x.block < W.heap.size := by obtain ⟨m, hm⟩ := k0; exact DataW.trod_lt m _ _ _ hm
  obtain ⟨a0, c0, x0, rfl, w0⟩ := open_goodsV (hval 0 24 v0 rfl rfl) h0
  have k1 := h1
  have lt1 : ∀ x ∈ p1, x.block < W.heap.size := by obtain ⟨m, hm⟩ := k1; exact DataW.trod_lt m _ _ _ hm
  obtain ⟨a1, c1, x1, rfl, w1⟩ := open_intsV (hval 1 25 v1 rfl rfl) h1
  have k2 := h2
  have lt2 : ∀ x ∈ p2, x.block < W.heap.size := by obtain ⟨m, hm⟩ := k2; exact DataW.trod_lt m _ _ _ hm
  obtain ⟨a2, c2, x2, rfl, w2⟩ := open_intsV (hval 2 25 v2 rfl rfl) h2
  clear hA0 hval0
  refine (choresRuns_walk a0 c0 x0 a1 c1 x1 a2 c2 x2 W w0 w1 w2).mono fun e W' ⟨he, bel⟩ => ?_
  subst he
  exact ⟨_, rfl, _, _, _, [], _, [], hW', trodAll_mk1 (shut_bool Try.underlying4 _), (trodAll_cons_mk (Below.trod laidOut (by kernel_rfl) (of_decide_eq_true (by kernel_rfl)) k0 bel lt0) (trodAll_cons_mk (Below.trod laidOut (by kernel_rfl) (of_decide_eq_true (by kernel_rfl)) k1 bel lt1) (trodAll_cons_mk (Below.trod laidOut (by kernel_rfl) (of_decide_eq_true (by kernel_rfl)) k2 bel lt2) trodAll_mk0))), rfl, bel.frame _, fun h => by cases h⟩

theorem over : Rows.choresRunsRow.holds Try.pinned (OpenSpec.ofChange Rows.choresRunsSpec) :=
  OpenClaim.holds_of_wide 4 Try.f4 rfl rfl rfl rfl rfl rfl rfl ⟨rfl, rfl, rfl, rfl, rfl⟩ rfl rfl rfl rfl rfl (by kernel_rfl) Try.func4 (by kernel_rfl)
    (of_decide_eq_true (by kernel_rfl)) (by unfold Func.isWrapper; first | (rw [if_pos (by decide +kernel)]; kernel_rfl) | (rw [if_neg (by decide +kernel)]; exact ⟨rfl, rfl⟩))
    (fun os started H enc _ => lifted os started H enc)
end Go.Proofs.Ytiohehofnlmenaa.ChoresRunsTop
namespace Go.Proofs.Ytiohehofnlmenaa
/-- The statement. -/
theorem choresRuns_holds : Rows.ChoresRunsSaid := ChoresRunsTop.over
#print axioms choresRuns_holds
end Go.Proofs.Ytiohehofnlmenaa
