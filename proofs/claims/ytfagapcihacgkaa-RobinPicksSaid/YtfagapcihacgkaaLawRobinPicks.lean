/- The walk of the law RobinPicks: for every goods, turns and number it returns true, and changes nothing that was there. -/
import Derived.Test.YtfagapcihacgkaaRobinC
import Derived.Test.YtfagapcihacgkaaRobinD
import Derived.Test.YtfagapcihacgkaaRefA
import Derived.Test.YtfagapcihacgkaaTwin
import Derived.Test.YtfagapcihacgkaaMove
import Derived.Deep.DeepCutAuto
import Derived.Deep.DeepMust
namespace Go.Proofs.Ytfagapcihacgkaa
set_option linter.unusedVariables false
set_option linter.unusedSimpArgs false
open Go.ChangeShapes Go.WideShapes Go.ChangeAt Go.RowKit Go.Deep

theorem drew_below {w w' : World} (h : ∃ n, w' = w.drewN n) : Below w.heap.size w w' := by obtain ⟨n, rfl⟩ := h; exact below_drewN _ _ _
theorem app_below {w w' : World} (hg : (w.alloc (.cells #[] 3)).grownBy w' (some w.heap.size)) : Below w.heap.size w w' :=
  ((Below.refl w.heap.size w).alloc (Nat.le_refl _) _).grown hg (by simp) (fun k e => by cases e; exact Nat.le_refl _)
/-- Equal lists, laid twice. -/
theorem eqI_true {p q : Option Addr} {c d : Nat} {xs : List Int} {w : World} (hx : Ints w p c xs) (hy : Ints w q d xs) :
    Calls Try.prog 18 #[.slice p xs.length c, .slice q xs.length d] w fun e w' => e = .returned (.bool true) ∧ ∃ n, w' = w.drewN n := by
  refine (same_any p q c d xs xs w hx hy).mono ?_
  rintro e w' ⟨he, hw⟩
  exact ⟨by rw [he, sameB_true rfl], hw⟩
theorem eqM_true {p q : Option Addr} {c d : Nat} {v : List (List Int)} {w : World} (hx : Mat w p c v) (hy : Mat w q d v) :
    Calls Try.prog 19 #[.slice p v.length c, .slice q v.length d] w fun e w' => e = .returned (.bool true) ∧ ∃ n, w' = w.drewN n := by
  refine (sameLists_any p q c d v v w hx hy).mono ?_
  rintro e w' ⟨he, hw⟩
  exact ⟨by rw [he]; simp [sameLB], hw⟩

set_option maxHeartbeats 8000000 in
set_option maxRecDepth 100000 in
theorem robinPicks_walk (p : Option Addr) (c : Nat) (v : List (List Int)) (q : Option Addr) (d : Nat) (ts : List Int) (n : Int) (w : World) (hx : Mat w p c v) (hy : Ints w q d ts) (hn64 : in64 n) :
    Calls Try.prog 3 #[.agg #[.slice p v.length c], .slice q ts.length d, .int .i64 n] w fun e w' => e = .returned (.bool true) ∧ Below w.heap.size w w' := by
  obtain ⟨W0, hW0⟩ : ∃ W, w.alloc (.cells #[.slice p v.length c] 24) = W := ⟨_, rfl⟩
  have hB : Below w.heap.size w W0 := below_alloc hW0
  have bX : BoxV W0 w.heap.size [.slice p v.length c] := BoxV.new rfl hW0
  have mX := hx.below hB (Nat.le_refl _)
  have mT := hy.below hB (Nat.le_refl _)
  have HW0 := Lib.hid hW0
  clear hW0 hx hy
  have x0 := bX.cell 0 _ rfl
  by_cases hG : GreatG v []
  · have hg := greatG_true hG
    have Hg := Lib.hid hg
    clear hG hg
    go_enter Try.func3, Try.ntmps3
    go_wp2_with fail
    rw [HW0.out]
    refine (great16_any p none c 0 v [] W0 mX).mono ?_
    rintro e w1 ⟨rfl, hb⟩
    rw [Hg.out]
    go_wp2_with fail
    go_ret
    exact ⟨rfl, hB.trans (hb.mono hB.size)⟩
  have h20 : v.length ≤ 900000 := by
    have : ¬ 20 < v.length := fun h => hG (.inr (.inl h))
    omega
  have Hrows : Hid (∀ i, i < v.length → (rget v i).length ≤ 900000) := fun i hi => by
    have : ¬ 20 < v.length := fun h => hG (.inr (.inl h))
    have : ∀ i, i < v.length → i < 20 → (rget v i).length ≤ 50 := Classical.not_not.1 fun h => hG (.inl h)
    have := this i hi (by omega)
    omega
  have Hg := Lib.hid (greatG_false hG)
  clear hG
  by_cases hL : 100 < ts.length
  · have hl : decide (100 < ts.length) = true := by simpa using hL
    have Hl := Lib.hid hl
    clear hL hl
    go_enter Try.func3, Try.ntmps3
    go_wp2_with fail
    rw [HW0.out]
    refine (great16_any p none c 0 v [] W0 mX).mono ?_
    rintro e w1 ⟨rfl, hb⟩
    rw [Hg.out]
    go_wp2_with fail
    refine (long_any q d ts.length w1).mono ?_
    rintro e w2 ⟨rfl, rfl⟩
    rw [Hl.out]
    go_wp2_with fail
    go_ret
    exact ⟨rfl, hB.trans (hb.mono hB.size)⟩
  have hl : decide (100 < ts.length) = false := by simpa using hL
  have hl100 : ts.length ≤ 100 := by omega
  have Hl := Lib.hid hl
  clear hL hl
  go_enter Try.func3, Try.ntmps3
  go_wp2_with fail
  rw [HW0.out]
  refine (great16_any p none c 0 v [] W0 mX).mono ?_
  rintro e w1 ⟨rfl, hb⟩
  rw [Hg.out]
  clear x0
  replace mX := mX.below hb (Nat.le_refl _)
  replace mT := mT.below hb (Nat.le_refl _)
  replace bX := bX.below hb
  replace hB := hB.trans (hb.mono hB.size)
  clear hb
  have kbX_0 := bX.cell 0 _ rfl
  have lbX := bX.lt
  go_wp2_with fail
  refine (long_any q d ts.length w1).mono ?_
  rintro e w2 ⟨rfl, rfl⟩
  rw [Hl.out]
  go_wp2_with (first
    | (go_at_call 11; refine (twin_any p c v _ mX h20 Hrows.out).mono ?_; rintro e w3 ⟨p1, c1, Q, D, rfl, hD, hb⟩; have mO := hD.mat; have mT3 := mT.below hb (Nat.le_refl _); clear hD)
    | (at_builtin; (refine wpList_app rfl (.tmp 29) (.tmp 30) rfl w3.heap.size _ _ _ _ [] ts rfl rfl (Own.made _ _ (Nat.le_refl _)) (mT3.below ((Below.refl _ _).alloc (Nat.le_refl _) _) (Nat.le_refl _)) (by simp; omega) (by simp) ?_; intro p2 c2 w4 r2 hr2 hO4 hg4 hf4; obtain rfl : r2 = ts := hr2.out; have hb4 := app_below hg4)))
  obtain ⟨W5, hW5⟩ : ∃ W, w4.alloc (.cells #[.slice p1 v.length c1] 24) = W := ⟨_, rfl⟩
  rw [hW5]
  have hb5 := below_alloc hW5
  have bO : BoxV W5 w4.heap.size [.slice p1 v.length c1] := BoxV.new rfl hW5
  have mL := hO4.ints.below hb5 (Nat.le_refl _)
  replace mO := (mO.below hb4 (Nat.le_refl _)).below hb5 (Nat.le_refl _)
  clear kbX_0 lbX
  have hb := hb.trans ((hb4.trans (hb5.mono hb4.size)).mono hb.size)
  clear hb4 hb5 hg4 hf4 hW5 mT3 hO4
  replace mX := mX.below hb (Nat.le_refl _)
  replace mT := mT.below hb (Nat.le_refl _)
  replace bX := bX.below hb
  replace hB := hB.trans (hb.mono hB.size)
  clear hb
  have kbX_0 := bX.cell 0 _ rfl
  have lbX := bX.lt
  have kbO_0 := bO.cell 0 _ rfl
  have lbO := bO.lt
  go_wp2_with fail
  refine (robinPick_any p1 p2 c1 c2 v r2 _ mO mL).mono ?_
  rintro e wA ⟨pa, ca, pt, ct, rfl, oA, oT, hb⟩
  clear kbX_0 lbX kbO_0 lbO
  replace mX := mX.below hb (Nat.le_refl _)
  replace mT := mT.below hb (Nat.le_refl _)
  replace bX := bX.below hb
  replace bO := bO.below hb
  replace mL := mL.below hb (Nat.le_refl _)
  replace mO := mO.below hb (Nat.le_refl _)
  replace hB := hB.trans (hb.mono hB.size)
  clear hb
  have iA := oA.ints
  have iT := oT.ints
  obtain ⟨E, hE⟩ : ∃ x, pickE v r2 = x := ⟨_, rfl⟩
  obtain ⟨X, hX⟩ : ∃ x, pickL v r2 = x := ⟨_, rfl⟩
  obtain ⟨Y, hY⟩ : ∃ x, pickT v r2 = x := ⟨_, rfl⟩
  rw [hX] at iA ⊢
  rw [hY] at iT ⊢
  rw [hE]
  have HE := Lib.hid hE
  have HX := Lib.hid hX
  have HY := Lib.hid hY
  clear hE hX hY oA oT
  have kbX_0 := bX.cell 0 _ rfl
  have lbX := bX.lt
  have kbO_0 := bO.cell 0 _ rfl
  have lbO := bO.lt
  go_wp2_with fail
  have hC := ref18Pick_any p q c d v r2 _ mX mT
  unfold GivesLL at hC
  rw [HE.out, HX.out, HY.out] at hC
  refine hC.mono ?_
  clear hC
  rintro e wB ⟨pb, cb, pu, cu, rfl, oA, oT, hb⟩
  clear kbX_0 lbX kbO_0 lbO
  replace mX := mX.below hb (Nat.le_refl _)
  replace mT := mT.below hb (Nat.le_refl _)
  replace bX := bX.below hb
  replace bO := bO.below hb
  replace mL := mL.below hb (Nat.le_refl _)
  replace mO := mO.below hb (Nat.le_refl _)
  replace iA := iA.below hb (Nat.le_refl _)
  replace iT := iT.below hb (Nat.le_refl _)
  replace hB := hB.trans (hb.mono hB.size)
  have jA := oA.ints
  have jT := oT.ints
  clear hb oA oT
  have kbX_0 := bX.cell 0 _ rfl
  have lbX := bX.lt
  have kbO_0 := bO.cell 0 _ rfl
  have lbO := bO.lt
  go_wp2_with fail
  refine (robinBalanced_any n p2 c2 r2 _ mL).mono ?_
  rintro e wC ⟨rfl, hb⟩
  clear kbX_0 lbX kbO_0 lbO
  replace mX := mX.below hb (Nat.le_refl _)
  replace mT := mT.below hb (Nat.le_refl _)
  replace bX := bX.below hb
  replace bO := bO.below hb
  replace mL := mL.below hb (Nat.le_refl _)
  replace mO := mO.below hb (Nat.le_refl _)
  replace iA := iA.below hb (Nat.le_refl _)
  replace iT := iT.below hb (Nat.le_refl _)
  replace jA := jA.below hb (Nat.le_refl _)
  replace jT := jT.below hb (Nat.le_refl _)
  replace hB := hB.trans (hb.mono hB.size)
  clear hb
  have kbX_0 := bX.cell 0 _ rfl
  have lbX := bX.lt
  have kbO_0 := bO.cell 0 _ rfl
  have lbO := bO.lt
  go_wp2_with fail
  refine (ref18Balanced_any n q d r2 _ mT).mono ?_
  rintro e wD ⟨rfl, hb⟩
  clear kbX_0 lbX kbO_0 lbO
  replace mX := mX.below hb (Nat.le_refl _)
  replace mT := mT.below hb (Nat.le_refl _)
  replace bX := bX.below hb
  replace bO := bO.below hb
  replace mL := mL.below hb (Nat.le_refl _)
  replace mO := mO.below hb (Nat.le_refl _)
  replace iA := iA.below hb (Nat.le_refl _)
  replace iT := iT.below hb (Nat.le_refl _)
  replace jA := jA.below hb (Nat.le_refl _)
  replace jT := jT.below hb (Nat.le_refl _)
  replace hB := hB.trans (hb.mono hB.size)
  clear hb
  obtain ⟨F, hF⟩ : ∃ x, chkT n r2 = x := ⟨_, rfl⟩
  obtain ⟨G, hGb⟩ : ∃ x, balB n r2 = x := ⟨_, rfl⟩
  rw [hF, hGb]
  have HF := Lib.hid hF
  clear hF hGb
  have kbX_0 := bX.cell 0 _ rfl
  have lbX := bX.lt
  have kbO_0 := bO.cell 0 _ rfl
  have lbO := bO.lt
  go_wp2_with fail
  have hC := robinCheck_any n p2 c2 r2 _ mL
  rw [HF.out] at hC
  refine hC.mono ?_
  clear hC
  rintro e wE ⟨rfl, hb⟩
  clear kbX_0 lbX kbO_0 lbO
  replace mX := mX.below hb (Nat.le_refl _)
  replace mT := mT.below hb (Nat.le_refl _)
  replace bX := bX.below hb
  replace bO := bO.below hb
  replace mL := mL.below hb (Nat.le_refl _)
  replace mO := mO.below hb (Nat.le_refl _)
  replace iA := iA.below hb (Nat.le_refl _)
  replace iT := iT.below hb (Nat.le_refl _)
  replace jA := jA.below hb (Nat.le_refl _)
  replace jT := jT.below hb (Nat.le_refl _)
  replace hB := hB.trans (hb.mono hB.size)
  clear hb
  have kbX_0 := bX.cell 0 _ rfl
  have lbX := bX.lt
  have kbO_0 := bO.cell 0 _ rfl
  have lbO := bO.lt
  go_wp2_with fail
  have hC := ref18Check_any n q d r2 _ mT
  rw [HF.out] at hC
  refine hC.mono ?_
  clear hC
  rintro e wF ⟨rfl, rfl⟩
  clear kbX_0 lbX kbO_0 lbO
  have kbX_0 := bX.cell 0 _ rfl
  have lbX := bX.lt
  have kbO_0 := bO.cell 0 _ rfl
  have lbO := bO.lt
  go_wp2_with fail
  refine (eqI_true iA jA).mono ?_
  rintro e wG ⟨rfl, hw⟩
  clear kbX_0 lbX kbO_0 lbO
  have hb : Below _ _ _ := drew_below hw
  replace mX := mX.below hb (Nat.le_refl _)
  replace mT := mT.below hb (Nat.le_refl _)
  replace bX := bX.below hb
  replace bO := bO.below hb
  replace mL := mL.below hb (Nat.le_refl _)
  replace mO := mO.below hb (Nat.le_refl _)
  replace iA := iA.below hb (Nat.le_refl _)
  replace iT := iT.below hb (Nat.le_refl _)
  replace jA := jA.below hb (Nat.le_refl _)
  replace jT := jT.below hb (Nat.le_refl _)
  replace hB := hB.trans (hb.mono hB.size)
  clear hb
  have kbX_0 := bX.cell 0 _ rfl
  have lbX := bX.lt
  have kbO_0 := bO.cell 0 _ rfl
  have lbO := bO.lt
  go_wp2_with fail
  refine (eqI_true iT jT).mono ?_
  rintro e wH ⟨rfl, hw⟩
  clear kbX_0 lbX kbO_0 lbO
  have hb : Below _ _ _ := drew_below hw
  replace mX := mX.below hb (Nat.le_refl _)
  replace mT := mT.below hb (Nat.le_refl _)
  replace bX := bX.below hb
  replace bO := bO.below hb
  replace mL := mL.below hb (Nat.le_refl _)
  replace mO := mO.below hb (Nat.le_refl _)
  replace iA := iA.below hb (Nat.le_refl _)
  replace iT := iT.below hb (Nat.le_refl _)
  replace jA := jA.below hb (Nat.le_refl _)
  replace jT := jT.below hb (Nat.le_refl _)
  replace hB := hB.trans (hb.mono hB.size)
  clear hb
  have kbX_0 := bX.cell 0 _ rfl
  have lbX := bX.lt
  have kbO_0 := bO.cell 0 _ rfl
  have lbO := bO.lt
  go_wp2_with fail
  refine (eqM_true mO mX).mono ?_
  rintro e wI ⟨rfl, hw⟩
  clear kbX_0 lbX kbO_0 lbO
  have hb : Below _ _ _ := drew_below hw
  replace mX := mX.below hb (Nat.le_refl _)
  replace mT := mT.below hb (Nat.le_refl _)
  replace bX := bX.below hb
  replace bO := bO.below hb
  replace mL := mL.below hb (Nat.le_refl _)
  replace mO := mO.below hb (Nat.le_refl _)
  replace iA := iA.below hb (Nat.le_refl _)
  replace iT := iT.below hb (Nat.le_refl _)
  replace jA := jA.below hb (Nat.le_refl _)
  replace jT := jT.below hb (Nat.le_refl _)
  replace hB := hB.trans (hb.mono hB.size)
  clear hb
  have kbX_0 := bX.cell 0 _ rfl
  have lbX := bX.lt
  have kbO_0 := bO.cell 0 _ rfl
  have lbO := bO.lt
  go_wp2_with fail
  refine (eqI_true mL mT).mono ?_
  rintro e wJ ⟨rfl, hw⟩
  clear kbX_0 lbX kbO_0 lbO
  have hb : Below _ _ _ := drew_below hw
  replace mX := mX.below hb (Nat.le_refl _)
  replace mT := mT.below hb (Nat.le_refl _)
  replace bX := bX.below hb
  replace bO := bO.below hb
  replace mL := mL.below hb (Nat.le_refl _)
  replace mO := mO.below hb (Nat.le_refl _)
  replace iA := iA.below hb (Nat.le_refl _)
  replace iT := iT.below hb (Nat.le_refl _)
  replace jA := jA.below hb (Nat.le_refl _)
  replace jT := jT.below hb (Nat.le_refl _)
  replace hB := hB.trans (hb.mono hB.size)
  clear hb
  go_wp2_with fail
  go_ret
  exact ⟨rfl, hB⟩
end Go.Proofs.Ytfagapcihacgkaa
