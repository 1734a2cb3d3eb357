/- The walk of the law ChoresTells: for every chores and allocation it returns true, and changes nothing that was there. -/
import Derived.Test.YtiohehofnlmenaaChoresE
import Derived.Test.YtiohehofnlmenaaRobinA
import Derived.Test.YtiohehofnlmenaaSame
import Derived.Test.YtiohehofnlmenaaRefB
import Derived.Test.YtiohehofnlmenaaTwin
namespace Go.Proofs.Ytiohehofnlmenaa
set_option linter.unusedVariables false
set_option linter.unusedSimpArgs false
open Go.ChangeShapes Go.WideShapes Go.ChangeAt Go.RowKit Go.Deep

theorem greatG_yes {v : List (List Int)} {xs : List Int} (h : GreatG v xs) : greatG v xs = true := by simp [greatG, h]
theorem greatG_no {v : List (List Int)} {xs : List Int} (h : ¬ GreatG v xs) : greatG v xs = false := by simp [greatG, h]
set_option maxHeartbeats 8000000 in
set_option maxRecDepth 100000 in
theorem choresTells_walk (p : Option Addr) (c : Nat) (v : List (List Int)) (q : Option Addr) (d : Nat) (a : List Int) (w : World) (hx : Mat w p c v) (hy : Ints w q d a) :
    Calls Try.prog 3 #[.agg #[.slice p v.length c], .slice q a.length d] w fun e w' => e = .returned (.bool true) ∧ Below w.heap.size w w' := by
  obtain ⟨W0, hW0⟩ : ∃ W, w.alloc (.cells #[.slice p v.length c] 24) = W := ⟨_, rfl⟩
  have hB : Below w.heap.size w W0 := below_alloc hW0
  have bX : BoxV W0 w.heap.size [.slice p v.length c] := BoxV.new rfl hW0
  have mX := hx.below hB (Nat.le_refl _)
  have mT := hy.below hB (Nat.le_refl _)
  have HW0 := Lib.hid hW0
  clear hW0 hx hy
  have x0 := bX.cell 0 _ rfl
  by_cases hG : GreatG v a
  · have hg := greatG_yes hG
    have Hg := Lib.hid hg
    clear hG hg
    go_enter Try.func3, Try.ntmps3
    go_wp2_with fail
    rw [HW0.out]
    refine (great16_any p q c d v a W0 mX).mono ?_
    rintro e w1 ⟨rfl, hb⟩
    rw [Hg.out]
    go_wp2_with fail
    go_ret
    exact ⟨rfl, hB.trans (hb.mono hB.size)⟩
  have h20 : v.length ≤ 900000 := by
    have : ¬ 20 < v.length := fun h => hG (.inr (.inl h))
    omega
  have ha50 : a.length ≤ 100 := by
    have : ¬ 50 < a.length := fun h => hG (.inr (.inr h))
    omega
  have Hrows : Hid (∀ i, i < v.length → (rget v i).length ≤ 900000) := fun i hi => by
    have : ¬ 20 < v.length := fun h => hG (.inr (.inl h))
    have : ∀ i, i < v.length → i < 20 → (rget v i).length ≤ 50 := Classical.not_not.1 fun h => hG (.inl h)
    have := this i hi (by omega)
    omega
  have Hg := Lib.hid (greatG_no hG)
  clear hG
  go_enter Try.func3, Try.ntmps3
  go_wp2_with fail
  rw [HW0.out]
  refine (great16_any p q c d v a W0 mX).mono ?_
  rintro e w1 ⟨rfl, hb⟩
  rw [Hg.out]
  clear x0
  replace mX := mX.below hb (Nat.le_refl _)
  replace mT := mT.below hb (Nat.le_refl _)
  replace bX := bX.below hb
  replace hB := hB.trans (hb.mono hB.size)
  clear hb
  have kbX_0 := bX.cell 0 _ rfl
  have lbX := bX.lt
  go_wp2_with (first
    | (go_at_call 10; refine (twin_any p c v _ mX h20 Hrows.out).mono ?_; rintro e w3 ⟨p1, c1, Q, D, rfl, hD, hb⟩; have mO := hD.mat; have mT3 := mT.below hb (Nat.le_refl _); clear hD)
    | (at_builtin; (refine wpList_app rfl (.tmp 32) (.tmp 33) rfl w3.heap.size _ _ _ _ [] a rfl rfl (Own.made _ _ (Nat.le_refl _)) (mT3.below ((Below.refl _ _).alloc (Nat.le_refl _) _) (Nat.le_refl _)) (by simp; omega) (by simp) ?_; intro p2 c2 w4 r2 hr2 hO4 hg4 hf4; obtain rfl : r2 = a := hr2.out; have hb4 := app_below hg4)))
  obtain ⟨W5, hW5⟩ : ∃ W, w4.alloc (.cells #[.slice p1 v.length c1] 24) = W := ⟨_, rfl⟩
  rw [hW5]
  have hb5 := below_alloc hW5
  have bO : BoxV W5 w4.heap.size [.slice p1 v.length c1] := BoxV.new rfl hW5
  have mL := hO4.ints.below hb5 (Nat.le_refl _)
  replace mO := (mO.below hb4 (Nat.le_refl _)).below hb5 (Nat.le_refl _)
  clear kbX_0 lbX
  have hb := hb.trans ((hb4.trans (hb5.mono hb4.size)).mono hb.size)
  clear hb4 hb5 hg4 hf4 hW5 mT3 hO4
  replace mX := mX.below hb (Nat.le_refl _)
  replace mT := mT.below hb (Nat.le_refl _)
  replace bX := bX.below hb
  replace hB := hB.trans (hb.mono hB.size)
  clear hb
  have kbX_0 := bX.cell 0 _ rfl
  have lbX := bX.lt
  have kbO_0 := bO.cell 0 _ rfl
  have lbO := bO.lt
  go_wp2_with fail
  refine (choresEnvies_any p1 c1 v p2 c2 r2 _ mO mL).mono ?_
  rintro e wA ⟨pa, ca, rfl, oA, hb⟩
  clear kbX_0 lbX kbO_0 lbO
  replace mX := mX.below hb (Nat.le_refl _)
  replace mT := mT.below hb (Nat.le_refl _)
  replace bX := bX.below hb
  replace bO := bO.below hb
  replace mL := mL.below hb (Nat.le_refl _)
  replace mO := mO.below hb (Nat.le_refl _)
  replace hB := hB.trans (hb.mono hB.size)
  clear hb
  obtain ⟨E, hE⟩ : ∃ x, chkA v r2 = x := ⟨_, rfl⟩
  obtain ⟨X, hX⟩ : ∃ x, envG cP v r2 = x := ⟨_, rfl⟩
  obtain ⟨Y, hY⟩ : ∃ x, burdL v r2 = x := ⟨_, rfl⟩
  obtain ⟨M, hM⟩ : ∃ x, oneM v r2 = x := ⟨_, rfl⟩
  obtain ⟨N, hN⟩ : ∃ x, oneN v r2 = x := ⟨_, rfl⟩
  obtain ⟨C, hC⟩ : ∃ x, circL v r2 = x := ⟨_, rfl⟩
  rw [hX] at oA ⊢
  rw [hE]
  have HE := Lib.hid hE
  have HX := Lib.hid hX
  have HY := Lib.hid hY
  have HM := Lib.hid hM
  have HN := Lib.hid hN
  have HC := Lib.hid hC
  clear hE hX hY hM hN hC
  have kbX_0 := bX.cell 0 _ rfl
  have lbX := bX.lt
  have kbO_0 := bO.cell 0 _ rfl
  have lbO := bO.lt
  go_wp2_with fail
  have hK := ref24Envies_any p c v q d r2 _ mX mT
  unfold GivesQ at hK
  rw [HX.out, HE.out] at hK
  refine hK.mono ?_
  clear hK
  rintro e wB ⟨pb, cb, rfl, oB, hb⟩
  clear kbX_0 lbX kbO_0 lbO
  replace mX := mX.below hb (Nat.le_refl _)
  replace mT := mT.below hb (Nat.le_refl _)
  replace bX := bX.below hb
  replace bO := bO.below hb
  replace mL := mL.below hb (Nat.le_refl _)
  replace mO := mO.below hb (Nat.le_refl _)
  replace oA := oA.below hb (Nat.le_refl _)
  replace hB := hB.trans (hb.mono hB.size)
  clear hb
  have kbX_0 := bX.cell 0 _ rfl
  have lbX := bX.lt
  have kbO_0 := bO.cell 0 _ rfl
  have lbO := bO.lt
  go_wp2_with fail
  have hK := choresBurdened_any p1 c1 v p2 c2 r2 _ mO mL
  unfold Gives2 at hK
  rw [HY.out, HE.out] at hK
  refine hK.mono ?_
  clear hK
  rintro e wC ⟨pc, cc, rfl, oC, hb⟩
  clear kbX_0 lbX kbO_0 lbO
  replace mX := mX.below hb (Nat.le_refl _)
  replace mT := mT.below hb (Nat.le_refl _)
  replace bX := bX.below hb
  replace bO := bO.below hb
  replace mL := mL.below hb (Nat.le_refl _)
  replace mO := mO.below hb (Nat.le_refl _)
  replace oA := oA.below hb (Nat.le_refl _)
  replace oB := oB.below hb (Nat.le_refl _)
  replace hB := hB.trans (hb.mono hB.size)
  clear hb
  have iC := oC.ints
  clear oC
  have kbX_0 := bX.cell 0 _ rfl
  have lbX := bX.lt
  have kbO_0 := bO.cell 0 _ rfl
  have lbO := bO.lt
  go_wp2_with fail
  have hK := ref24Burdened_any p c v q d r2 _ mX mT
  unfold Gives2 at hK
  rw [HY.out, HE.out] at hK
  refine hK.mono ?_
  clear hK
  rintro e wD ⟨pd, cd, rfl, oD, hb⟩
  clear kbX_0 lbX kbO_0 lbO
  replace mX := mX.below hb (Nat.le_refl _)
  replace mT := mT.below hb (Nat.le_refl _)
  replace bX := bX.below hb
  replace bO := bO.below hb
  replace mL := mL.below hb (Nat.le_refl _)
  replace mO := mO.below hb (Nat.le_refl _)
  replace oA := oA.below hb (Nat.le_refl _)
  replace oB := oB.below hb (Nat.le_refl _)
  replace iC := iC.below hb (Nat.le_refl _)
  replace hB := hB.trans (hb.mono hB.size)
  clear hb
  have iD := oD.ints
  clear oD
  have kbX_0 := bX.cell 0 _ rfl
  have lbX := bX.lt
  have kbO_0 := bO.cell 0 _ rfl
  have lbO := bO.lt
  go_wp2_with fail
  refine (samePairs_any _ _ _ _ _ _ _ _ oA oB).mono ?_
  rintro e wG ⟨rfl, hw⟩
  clear kbX_0 lbX kbO_0 lbO
  have hb : Below _ _ _ := drew_below hw
  replace mX := mX.below hb (Nat.le_refl _)
  replace mT := mT.below hb (Nat.le_refl _)
  replace bX := bX.below hb
  replace bO := bO.below hb
  replace mL := mL.below hb (Nat.le_refl _)
  replace mO := mO.below hb (Nat.le_refl _)
  replace oA := oA.below hb (Nat.le_refl _)
  replace oB := oB.below hb (Nat.le_refl _)
  replace iC := iC.below hb (Nat.le_refl _)
  replace iD := iD.below hb (Nat.le_refl _)
  replace hB := hB.trans (hb.mono hB.size)
  clear hb
  have kbX_0 := bX.cell 0 _ rfl
  have lbX := bX.lt
  have kbO_0 := bO.cell 0 _ rfl
  have lbO := bO.lt
  go_wp2_with fail
  refine (eqI_true iC iD).mono ?_
  rintro e wH ⟨rfl, hw⟩
  clear kbX_0 lbX kbO_0 lbO
  have hb : Below _ _ _ := drew_below hw
  replace mX := mX.below hb (Nat.le_refl _)
  replace mT := mT.below hb (Nat.le_refl _)
  replace bX := bX.below hb
  replace bO := bO.below hb
  replace mL := mL.below hb (Nat.le_refl _)
  replace mO := mO.below hb (Nat.le_refl _)
  replace oA := oA.below hb (Nat.le_refl _)
  replace oB := oB.below hb (Nat.le_refl _)
  replace iC := iC.below hb (Nat.le_refl _)
  replace iD := iD.below hb (Nat.le_refl _)
  replace hB := hB.trans (hb.mono hB.size)
  clear hb
  have kbX_0 := bX.cell 0 _ rfl
  have lbX := bX.lt
  have kbO_0 := bO.cell 0 _ rfl
  have lbO := bO.lt
  go_wp2_with fail
  have hK := choresOne_any p1 c1 v p2 c2 r2 _ mO mL
  unfold GivesMP at hK
  rw [HM.out, HN.out, HE.out] at hK
  refine hK.mono ?_
  clear hK
  rintro e wI ⟨pe, ce, pf, cf, rfl, oE, oF, hb⟩
  clear kbX_0 lbX kbO_0 lbO
  replace mX := mX.below hb (Nat.le_refl _)
  replace mT := mT.below hb (Nat.le_refl _)
  replace bX := bX.below hb
  replace bO := bO.below hb
  replace mL := mL.below hb (Nat.le_refl _)
  replace mO := mO.below hb (Nat.le_refl _)
  replace oA := oA.below hb (Nat.le_refl _)
  replace oB := oB.below hb (Nat.le_refl _)
  replace iC := iC.below hb (Nat.le_refl _)
  replace iD := iD.below hb (Nat.le_refl _)
  replace hB := hB.trans (hb.mono hB.size)
  clear hb
  clear oA oB iC iD
  have kbX_0 := bX.cell 0 _ rfl
  have lbX := bX.lt
  have kbO_0 := bO.cell 0 _ rfl
  have lbO := bO.lt
  go_wp2_with fail
  have hK := ref24One_any p c v q d r2 _ mX mT
  unfold GivesMP at hK
  rw [HM.out, HN.out, HE.out] at hK
  refine hK.mono ?_
  clear hK
  rintro e wJ ⟨pg, cg, ph, ch, rfl, oG, oH, hb⟩
  clear kbX_0 lbX kbO_0 lbO
  replace mX := mX.below hb (Nat.le_refl _)
  replace mT := mT.below hb (Nat.le_refl _)
  replace bX := bX.below hb
  replace bO := bO.below hb
  replace mL := mL.below hb (Nat.le_refl _)
  replace mO := mO.below hb (Nat.le_refl _)
  replace oE := oE.below hb (Nat.le_refl _)
  replace oF := oF.below hb (Nat.le_refl _)
  replace hB := hB.trans (hb.mono hB.size)
  clear hb
  have kbX_0 := bX.cell 0 _ rfl
  have lbX := bX.lt
  have kbO_0 := bO.cell 0 _ rfl
  have lbO := bO.lt
  go_wp2_with fail
  have hK := choresCircle_any p1 c1 v p2 c2 r2 _ mO mL
  unfold Gives2 at hK
  rw [HC.out, HE.out] at hK
  refine hK.mono ?_
  clear hK
  rintro e wK ⟨pi, ci, rfl, oI, hb⟩
  clear kbX_0 lbX kbO_0 lbO
  replace mX := mX.below hb (Nat.le_refl _)
  replace mT := mT.below hb (Nat.le_refl _)
  replace bX := bX.below hb
  replace bO := bO.below hb
  replace mL := mL.below hb (Nat.le_refl _)
  replace mO := mO.below hb (Nat.le_refl _)
  replace oE := oE.below hb (Nat.le_refl _)
  replace oF := oF.below hb (Nat.le_refl _)
  replace oG := oG.below hb (Nat.le_refl _)
  replace oH := oH.below hb (Nat.le_refl _)
  replace hB := hB.trans (hb.mono hB.size)
  clear hb
  have iI := oI.ints
  clear oI
  have kbX_0 := bX.cell 0 _ rfl
  have lbX := bX.lt
  have kbO_0 := bO.cell 0 _ rfl
  have lbO := bO.lt
  go_wp2_with fail
  have hK := ref24Circle_any p c v q d r2 _ mX mT
  unfold Gives2 at hK
  rw [HC.out, HE.out] at hK
  refine hK.mono ?_
  clear hK
  rintro e wL ⟨pj, cj, rfl, oJ, hb⟩
  clear kbX_0 lbX kbO_0 lbO
  replace mX := mX.below hb (Nat.le_refl _)
  replace mT := mT.below hb (Nat.le_refl _)
  replace bX := bX.below hb
  replace bO := bO.below hb
  replace mL := mL.below hb (Nat.le_refl _)
  replace mO := mO.below hb (Nat.le_refl _)
  replace oE := oE.below hb (Nat.le_refl _)
  replace oF := oF.below hb (Nat.le_refl _)
  replace oG := oG.below hb (Nat.le_refl _)
  replace oH := oH.below hb (Nat.le_refl _)
  replace iI := iI.below hb (Nat.le_refl _)
  replace hB := hB.trans (hb.mono hB.size)
  clear hb
  have iJ := oJ.ints
  clear oJ
  have kbX_0 := bX.cell 0 _ rfl
  have lbX := bX.lt
  have kbO_0 := bO.cell 0 _ rfl
  have lbO := bO.lt
  go_wp2_with fail
  refine (sameMarks_any _ _ _ _ _ _ _ _ oE oG).mono ?_
  rintro e wM ⟨rfl, hw⟩
  clear kbX_0 lbX kbO_0 lbO
  have hb : Below _ _ _ := drew_below hw
  replace mX := mX.below hb (Nat.le_refl _)
  replace mT := mT.below hb (Nat.le_refl _)
  replace bX := bX.below hb
  replace bO := bO.below hb
  replace mL := mL.below hb (Nat.le_refl _)
  replace mO := mO.below hb (Nat.le_refl _)
  replace oE := oE.below hb (Nat.le_refl _)
  replace oF := oF.below hb (Nat.le_refl _)
  replace oG := oG.below hb (Nat.le_refl _)
  replace oH := oH.below hb (Nat.le_refl _)
  replace iI := iI.below hb (Nat.le_refl _)
  replace iJ := iJ.below hb (Nat.le_refl _)
  replace hB := hB.trans (hb.mono hB.size)
  clear hb
  have kbX_0 := bX.cell 0 _ rfl
  have lbX := bX.lt
  have kbO_0 := bO.cell 0 _ rfl
  have lbO := bO.lt
  go_wp2_with fail
  refine (samePairs_any _ _ _ _ _ _ _ _ oF oH).mono ?_
  rintro e wN ⟨rfl, hw⟩
  clear kbX_0 lbX kbO_0 lbO
  have hb : Below _ _ _ := drew_below hw
  replace mX := mX.below hb (Nat.le_refl _)
  replace mT := mT.below hb (Nat.le_refl _)
  replace bX := bX.below hb
  replace bO := bO.below hb
  replace mL := mL.below hb (Nat.le_refl _)
  replace mO := mO.below hb (Nat.le_refl _)
  replace oE := oE.below hb (Nat.le_refl _)
  replace oF := oF.below hb (Nat.le_refl _)
  replace oG := oG.below hb (Nat.le_refl _)
  replace oH := oH.below hb (Nat.le_refl _)
  replace iI := iI.below hb (Nat.le_refl _)
  replace iJ := iJ.below hb (Nat.le_refl _)
  replace hB := hB.trans (hb.mono hB.size)
  clear hb
  have kbX_0 := bX.cell 0 _ rfl
  have lbX := bX.lt
  have kbO_0 := bO.cell 0 _ rfl
  have lbO := bO.lt
  go_wp2_with fail
  refine (eqI_true iI iJ).mono ?_
  rintro e wO ⟨rfl, hw⟩
  clear kbX_0 lbX kbO_0 lbO
  have hb : Below _ _ _ := drew_below hw
  replace mX := mX.below hb (Nat.le_refl _)
  replace mT := mT.below hb (Nat.le_refl _)
  replace bX := bX.below hb
  replace bO := bO.below hb
  replace mL := mL.below hb (Nat.le_refl _)
  replace mO := mO.below hb (Nat.le_refl _)
  replace oE := oE.below hb (Nat.le_refl _)
  replace oF := oF.below hb (Nat.le_refl _)
  replace oG := oG.below hb (Nat.le_refl _)
  replace oH := oH.below hb (Nat.le_refl _)
  replace iI := iI.below hb (Nat.le_refl _)
  replace iJ := iJ.below hb (Nat.le_refl _)
  replace hB := hB.trans (hb.mono hB.size)
  clear hb
  have kbX_0 := bX.cell 0 _ rfl
  have lbX := bX.lt
  have kbO_0 := bO.cell 0 _ rfl
  have lbO := bO.lt
  go_wp2_with fail
  refine (eqM_true mO mX).mono ?_
  rintro e wP ⟨rfl, hw⟩
  clear kbX_0 lbX kbO_0 lbO
  have hb : Below _ _ _ := drew_below hw
  replace mX := mX.below hb (Nat.le_refl _)
  replace mT := mT.below hb (Nat.le_refl _)
  replace bX := bX.below hb
  replace bO := bO.below hb
  replace mL := mL.below hb (Nat.le_refl _)
  replace mO := mO.below hb (Nat.le_refl _)
  replace oE := oE.below hb (Nat.le_refl _)
  replace oF := oF.below hb (Nat.le_refl _)
  replace oG := oG.below hb (Nat.le_refl _)
  replace oH := oH.below hb (Nat.le_refl _)
  replace iI := iI.below hb (Nat.le_refl _)
  replace iJ := iJ.below hb (Nat.le_refl _)
  replace hB := hB.trans (hb.mono hB.size)
  clear hb
  have kbX_0 := bX.cell 0 _ rfl
  have lbX := bX.lt
  have kbO_0 := bO.cell 0 _ rfl
  have lbO := bO.lt
  go_wp2_with fail
  refine (eqI_true mL mT).mono ?_
  rintro e wQ ⟨rfl, hw⟩
  clear kbX_0 lbX kbO_0 lbO
  have hb : Below _ _ _ := drew_below hw
  replace mX := mX.below hb (Nat.le_refl _)
  replace mT := mT.below hb (Nat.le_refl _)
  replace bX := bX.below hb
  replace bO := bO.below hb
  replace mL := mL.below hb (Nat.le_refl _)
  replace mO := mO.below hb (Nat.le_refl _)
  replace oE := oE.below hb (Nat.le_refl _)
  replace oF := oF.below hb (Nat.le_refl _)
  replace oG := oG.below hb (Nat.le_refl _)
  replace oH := oH.below hb (Nat.le_refl _)
  replace iI := iI.below hb (Nat.le_refl _)
  replace iJ := iJ.below hb (Nat.le_refl _)
  replace hB := hB.trans (hb.mono hB.size)
  clear hb
  go_wp2_with fail
  go_ret
  exact ⟨rfl, hB⟩
end Go.Proofs.Ytiohehofnlmenaa
