/- The walks of the reference's envied and settle: the fair or the calm gains come out.  (Printed by wip/genset.py.) -/
import Derived.Test.YtllcbcanohdepaaGreatTopRentFindsm19
import Derived.Test.YtllcbcanohdepaaGreatTopRentFindsm20
/- The walks of the reference's envied and settle: the fair or the calm gains come out.  (Printed by wip/genset.py.) -/
namespace Go.Proofs.YtllcbcanohdepaaGreat
set_option linter.unusedVariables false
set_option linter.unusedSimpArgs false
open Go.ChangeShapes Go.WideShapes Go.ChangeAt Go.RowKit Go.Deep

theorem se34 {i : Nat} (h : i < 34) : i = 0 ∨ i = 1 ∨ i = 2 ∨ i = 3 ∨ i = 4 ∨ i = 5 ∨ i = 6 ∨ i = 7 ∨ i = 8 ∨ i = 9 ∨ i = 10 ∨ i = 11 ∨ i = 12 ∨ i = 13 ∨ i = 14 ∨ i = 15 ∨ i = 16 ∨ i = 17 ∨ i = 18 ∨ i = 19 ∨ i = 20 ∨ i = 21 ∨ i = 22 ∨ i = 23 ∨ i = 24 ∨ i = 25 ∨ i = 26 ∨ i = 27 ∨ i = 28 ∨ i = 29 ∨ i = 30 ∨ i = 31 ∨ i = 32 ∨ i = 33 := by omega
set_option maxHeartbeats 4000000 in
set_option maxRecDepth 100000 in
theorem envied_any (p q s : Option Addr) (c d f : Nat) (v : List (List Int)) (r : Int) (a g : List Int) (i k : Nat) (w : World) (hx : Mat w p c v) (hy : Ints w q d a) (hz : Ints w s f g)
    (hv : Bids v) (hA : IsA a v.length) (hl : g.length = v.length) (hg : ∀ i, i < v.length → -10000000 ≤ iget g i ∧ iget g i ≤ 10000000) (hi : i < v.length) (hk : k < v.length) :
    Calls Tryz.prog 44 #[.agg #[.slice p v.length c, .int .i64 r], .slice q a.length d, .slice s g.length f, .int .i64 i, .int .i64 k] w fun e w' => e = .returned (.int .i64 (bid v i (itm a k) - bid v k (itm a k) + iget g k - iget g i)) ∧ Below w.heap.size w w' := by
  obtain ⟨W0, hW0⟩ : ∃ W, w.alloc (.cells #[.slice p v.length c, .int .i64 r] 24) = W := ⟨_, rfl⟩
  have hB := below_alloc hW0
  have bX : BoxV W0 w.heap.size [.slice p v.length c, .int .i64 r] := BoxV.new rfl hW0
  have mX := hx.below hB (Nat.le_refl _)
  have mA := hy.below hB (Nat.le_refl _)
  have mG := hz.below hB (Nat.le_refl _)
  have HW0 := Lib.hid hW0
  clear hW0 hx hy hz
  obtain ⟨bv, ov, rfl, _, q1, d1, h1, i1⟩ := mX.get hi
  obtain ⟨q2, d2, h2, i2⟩ := mX.at (j := k) hk
  obtain ⟨ba, oa, rfl, _, ha⟩ := mA.get (j := k) (by rw [hA.1]; exact hk)
  obtain ⟨a1, a2⟩ := isA_lt hA k hk
  obtain ⟨x, hxx⟩ : ∃ x : Nat, iget a k = (x : Int) := ⟨(iget a k).toNat, by omega⟩
  have e1 : itm a k = x := by simp [itm, hxx]
  rw [hxx] at ha
  have hxl : x < v.length := by omega
  have r1 := (hv.2.2 i hi).1
  have r2 := (hv.2.2 k hk).1
  obtain ⟨b1, o1, rfl, _, hy1⟩ := i1.get (j := x) (by omega)
  obtain ⟨b2, o2, rfl, _, hy2⟩ := i2.get (j := x) (by omega)
  obtain ⟨bg, og, rfl, _, hz1⟩ := mG.get (j := k) (by omega)
  have hz2 := mG.at (j := i) (by omega)
  have n1 := (hv.2.2 i hi).2 x hxl
  have n2 := (hv.2.2 k hk).2 x hxl
  have n3 := hg k hk
  have n4 := hg i hi
  have cB := bX.cell 0 _ rfl
  have R : Hid (bid v i (itm a k) - bid v k (itm a k) + iget g k - iget g i = iget (rget v i) x - (iget (rget v k) x - iget g k) - iget g i) := by unfold Hid; rw [e1]; unfold bid; omega
  have l1 : (i : Int) < v.length := by omega
  have l2 : (k : Int) < v.length := by omega
  have l3 : (k : Int) < a.length := by have := hA.1; omega
  have l4 : (x : Int) < (rget v i).length := by omega
  have l5 : (x : Int) < (rget v k).length := by omega
  have l6 : (k : Int) < g.length := by omega
  have l7 : (i : Int) < g.length := by omega
  rw [R.out]
  generalize iget (rget v i) x = y1 at *
  generalize iget (rget v k) x = y2 at *
  generalize iget g k = z1 at *
  generalize iget g i = z2 at *
  have w1 : IntKind.i64.wrap (y2 - z1) = y2 - z1 := IntWalk.i64_in _ (by omega)
  have w2 : IntKind.i64.wrap (y1 - (y2 - z1)) = y1 - (y2 - z1) := IntWalk.i64_in _ (by omega)
  have w3 : IntKind.i64.wrap (y1 - (y2 - z1) - z2) = y1 - (y2 - z1) - z2 := IntWalk.i64_in _ (by omega)
  have Hmk : Hid (∀ W, Below W0.heap.size W0 W → W.cell? ⟨w.heap.size, 0, none⟩ = some (.slice (some ⟨bv, ov, none⟩) v.length c) ∧ W.cell? ⟨bv, ov + i, none⟩ = some (.slice (some ⟨b1, o1, none⟩) (rget v i).length d1) ∧ W.cell? ⟨bv, ov + k, none⟩ = some (.slice (some ⟨b2, o2, none⟩) (rget v k).length d2) ∧ W.cell? ⟨ba, oa + k, none⟩ = some (.int .i64 (x : Int)) ∧ W.cell? ⟨b1, o1 + x, none⟩ = some (.int .i64 y1) ∧ W.cell? ⟨b2, o2 + x, none⟩ = some (.int .i64 y2) ∧ W.cell? ⟨bg, og + k, none⟩ = some (.int .i64 z1) ∧ W.cell? ⟨bg, og + i, none⟩ = some (.int .i64 z2)) := fun W hG => ⟨(hG.cell (World.block_lt_of_cell? _ _ cB)).trans cB, (hG.cell (World.block_lt_of_cell? _ _ h1)).trans h1, (hG.cell (World.block_lt_of_cell? _ _ h2)).trans h2, (hG.cell (World.block_lt_of_cell? _ _ ha)).trans ha, (hG.cell (World.block_lt_of_cell? _ _ hy1)).trans hy1, (hG.cell (World.block_lt_of_cell? _ _ hy2)).trans hy2, (hG.cell (World.block_lt_of_cell? _ _ hz1)).trans hz1, (hG.cell (World.block_lt_of_cell? _ _ hz2)).trans hz2⟩
  clear mX mA mG bX i1 i2 h1 h2 ha hy1 hy2 hz1 hz2 cB hxx e1 r1 r2 hA hl R
  go_enter Tryz.func44, Tryz.ntmps44
  go_upto_region 1 with (fail)
  rw [HW0.out]
  refine wp_region_invG (by kernel_rfl) (by decide +kernel) (by decide +kernel) _ _ (ManyJ W0 [] (fun kk => match kk with | 0 => (.pointer (some ⟨w.heap.size, 0, none⟩)) | 1 => (.slice (some ⟨bv, ov, none⟩) v.length c) | 2 => (.int .i64 (i : Int)) | 3 => (.pointer (some ⟨bv, ov + i, none⟩)) | 4 => (.slice (some ⟨b1, o1, none⟩) (rget v i).length d1) | 5 => (.slice (some ⟨ba, oa, none⟩) a.length d) | 6 => (.int .i64 (k : Int)) | 7 => (.pointer (some ⟨ba, oa + k, none⟩)) | 8 => (.int .i64 (x : Int)) | 9 => (.pointer (some ⟨b1, o1 + x, none⟩)) | 10 => (.int .i64 y1) | 11 => (.pointer (some ⟨w.heap.size, 0, none⟩)) | 12 => (.slice (some ⟨bv, ov, none⟩) v.length c) | 13 => (.int .i64 (k : Int)) | 14 => (.pointer (some ⟨bv, ov + k, none⟩)) | 15 => (.slice (some ⟨b2, o2, none⟩) (rget v k).length d2) | 16 => (.slice (some ⟨ba, oa, none⟩) a.length d) | 17 => (.int .i64 (k : Int)) | 18 => (.pointer (some ⟨ba, oa + k, none⟩)) | 19 => (.int .i64 (x : Int)) | 20 => (.pointer (some ⟨b2, o2 + x, none⟩)) | 21 => (.int .i64 y2) | 22 => (.slice (some ⟨bg, og, none⟩) g.length f) | 23 => (.int .i64 (k : Int)) | 24 => (.pointer (some ⟨bg, og + k, none⟩)) | 25 => (.int .i64 z1) | 26 => (.int .i64 (y2 - z1)) | 27 => (.int .i64 (y1 - (y2 - z1))) | 28 => (.slice (some ⟨bg, og, none⟩) g.length f) | 29 => (.int .i64 (i : Int)) | 30 => (.pointer (some ⟨bg, og + i, none⟩)) | 31 => (.int .i64 z2) | 32 => (.int .i64 ((y1 - (y2 - z1)) - z2)) | 33 => (.int .i64 ((y1 - (y2 - z1)) - z2)) | _ => undef) (fun kk => match kk with  | _ => undef) (fun kk => match kk with  | _ => undef)) ?_ ?_ ?_
  · exact fun us => ManyJ.start us
  · intro us D W i o A hA hi hJ hnD hon K hK
    have hlt : i < 34 := (Array.getElem?_eq_some_iff.1 hi).1
    rcases se34 hlt with rfl | rfl | rfl | rfl | rfl | rfl | rfl | rfl | rfl | rfl | rfl | rfl | rfl | rfl | rfl | rfl | rfl | rfl | rfl | rfl | rfl | rfl | rfl | rfl | rfl | rfl | rfl | rfl | rfl | rfl | rfl | rfl | rfl | rfl
    · have hi' := Option.some.inj hi
      subst hi'
      refine want_yes (wanted_none rfl) ?_
      refine wp_val (v := (.pointer (some ⟨w.heap.size, 0, none⟩))) (w' := W) ?_ (hK _ _ (hJ.pure (i := 0) (by decide) (Below.refl _ _)))
      · skip
        have e5 : A.tmps[5]?.getD undef = (.pointer (some ⟨w.heap.size, 0, none⟩)) := by rw [hA]; kernel_rfl
        clear hA hK hon hJ
        go_simp
    · have hi' := Option.some.inj hi
      subst hi'
      refine want_yes (wanted_none rfl) ?_
      refine wp_val (v := (.slice (some ⟨bv, ov, none⟩) v.length c)) (w' := W) ?_ (hK _ _ (hJ.pure (i := 1) (by decide) (Below.refl _ _)))
      · skip
        have e11 : A.tmps[11]?.getD undef = (.pointer (some ⟨w.heap.size, 0, none⟩)) := (by rw [hA]; kernel_rfl : A.tmps[11]?.getD undef = us 0).trans (hJ.val 0 (by decide) (hon 0 (by decide +kernel)))
        obtain ⟨cc0, cc1, cc2, cc3, cc4, cc5, cc6, cc7⟩ := Hmk.out W hJ.bel
        clear hA hK hon hJ
        go_simp
    · have hi' := Option.some.inj hi
      subst hi'
      refine want_yes (wanted_none rfl) ?_
      refine wp_val (v := (.int .i64 (i : Int))) (w' := W) ?_ (hK _ _ (hJ.pure (i := 2) (by decide) (Below.refl _ _)))
      · skip
        have e3 : A.tmps[3]?.getD undef = (.int .i64 (i : Int)) := by rw [hA]; kernel_rfl
        clear hA hK hon hJ
        go_simp
    · have hi' := Option.some.inj hi
      subst hi'
      refine want_yes (wanted_none rfl) ?_
      refine wp_val (v := (.pointer (some ⟨bv, ov + i, none⟩))) (w' := W) ?_ (hK _ _ (hJ.pure (i := 3) (by decide) (Below.refl _ _)))
      · skip
        have e12 : A.tmps[12]?.getD undef = (.slice (some ⟨bv, ov, none⟩) v.length c) := (by rw [hA]; kernel_rfl : A.tmps[12]?.getD undef = us 1).trans (hJ.val 1 (by decide) (hon 1 (by decide +kernel)))
        have e13 : A.tmps[13]?.getD undef = (.int .i64 (i : Int)) := (by rw [hA]; kernel_rfl : A.tmps[13]?.getD undef = us 2).trans (hJ.val 2 (by decide) (hon 2 (by decide +kernel)))
        clear hA hK hon hJ
        go_simp
    · have hi' := Option.some.inj hi
      subst hi'
      refine want_yes (wanted_none rfl) ?_
      refine wp_val (v := (.slice (some ⟨b1, o1, none⟩) (rget v i).length d1)) (w' := W) ?_ (hK _ _ (hJ.pure (i := 4) (by decide) (Below.refl _ _)))
      · skip
        have e14 : A.tmps[14]?.getD undef = (.pointer (some ⟨bv, ov + i, none⟩)) := (by rw [hA]; kernel_rfl : A.tmps[14]?.getD undef = us 3).trans (hJ.val 3 (by decide) (hon 3 (by decide +kernel)))
        obtain ⟨cc0, cc1, cc2, cc3, cc4, cc5, cc6, cc7⟩ := Hmk.out W hJ.bel
        clear hA hK hon hJ
        go_simp
    · have hi' := Option.some.inj hi
      subst hi'
      refine want_yes (wanted_none rfl) ?_
      refine wp_val (v := (.slice (some ⟨ba, oa, none⟩) a.length d)) (w' := W) ?_ (hK _ _ (hJ.pure (i := 5) (by decide) (Below.refl _ _)))
      · skip
        have e1 : A.tmps[1]?.getD undef = (.slice (some ⟨ba, oa, none⟩) a.length d) := by rw [hA]; kernel_rfl
        clear hA hK hon hJ
        go_simp
    · have hi' := Option.some.inj hi
      subst hi'
      refine want_yes (wanted_none rfl) ?_
      refine wp_val (v := (.int .i64 (k : Int))) (w' := W) ?_ (hK _ _ (hJ.pure (i := 6) (by decide) (Below.refl _ _)))
      · skip
        have e4 : A.tmps[4]?.getD undef = (.int .i64 (k : Int)) := by rw [hA]; kernel_rfl
        clear hA hK hon hJ
        go_simp
    · have hi' := Option.some.inj hi
      subst hi'
      refine want_yes (wanted_none rfl) ?_
      refine wp_val (v := (.pointer (some ⟨ba, oa + k, none⟩))) (w' := W) ?_ (hK _ _ (hJ.pure (i := 7) (by decide) (Below.refl _ _)))
      · skip
        have e16 : A.tmps[16]?.getD undef = (.slice (some ⟨ba, oa, none⟩) a.length d) := (by rw [hA]; kernel_rfl : A.tmps[16]?.getD undef = us 5).trans (hJ.val 5 (by decide) (hon 5 (by decide +kernel)))
        have e17 : A.tmps[17]?.getD undef = (.int .i64 (k : Int)) := (by rw [hA]; kernel_rfl : A.tmps[17]?.getD undef = us 6).trans (hJ.val 6 (by decide) (hon 6 (by decide +kernel)))
        clear hA hK hon hJ
        go_simp
    · have hi' := Option.some.inj hi
      subst hi'
      refine want_yes (wanted_none rfl) ?_
      refine wp_val (v := (.int .i64 (x : Int))) (w' := W) ?_ (hK _ _ (hJ.pure (i := 8) (by decide) (Below.refl _ _)))
      · skip
        have e18 : A.tmps[18]?.getD undef = (.pointer (some ⟨ba, oa + k, none⟩)) := (by rw [hA]; kernel_rfl : A.tmps[18]?.getD undef = us 7).trans (hJ.val 7 (by decide) (hon 7 (by decide +kernel)))
        obtain ⟨cc0, cc1, cc2, cc3, cc4, cc5, cc6, cc7⟩ := Hmk.out W hJ.bel
        clear hA hK hon hJ
        go_simp
    · have hi' := Option.some.inj hi
      subst hi'
      refine want_yes (wanted_none rfl) ?_
      refine wp_val (v := (.pointer (some ⟨b1, o1 + x, none⟩))) (w' := W) ?_ (hK _ _ (hJ.pure (i := 9) (by decide) (Below.refl _ _)))
      · skip
        have e15 : A.tmps[15]?.getD undef = (.slice (some ⟨b1, o1, none⟩) (rget v i).length d1) := (by rw [hA]; kernel_rfl : A.tmps[15]?.getD undef = us 4).trans (hJ.val 4 (by decide) (hon 4 (by decide +kernel)))
        have e19 : A.tmps[19]?.getD undef = (.int .i64 (x : Int)) := (by rw [hA]; kernel_rfl : A.tmps[19]?.getD undef = us 8).trans (hJ.val 8 (by decide) (hon 8 (by decide +kernel)))
        clear hA hK hon hJ
        go_simp
    · have hi' := Option.some.inj hi
      subst hi'
      refine want_yes (wanted_none rfl) ?_
      refine wp_val (v := (.int .i64 y1)) (w' := W) ?_ (hK _ _ (hJ.pure (i := 10) (by decide) (Below.refl _ _)))
      · skip
        have e20 : A.tmps[20]?.getD undef = (.pointer (some ⟨b1, o1 + x, none⟩)) := (by rw [hA]; kernel_rfl : A.tmps[20]?.getD undef = us 9).trans (hJ.val 9 (by decide) (hon 9 (by decide +kernel)))
        obtain ⟨cc0, cc1, cc2, cc3, cc4, cc5, cc6, cc7⟩ := Hmk.out W hJ.bel
        clear hA hK hon hJ
        go_simp
    · have hi' := Option.some.inj hi
      subst hi'
      refine want_yes (wanted_none rfl) ?_
      refine wp_val (v := (.pointer (some ⟨w.heap.size, 0, none⟩))) (w' := W) ?_ (hK _ _ (hJ.pure (i := 11) (by decide) (Below.refl _ _)))
      · skip
        have e5 : A.tmps[5]?.getD undef = (.pointer (some ⟨w.heap.size, 0, none⟩)) := by rw [hA]; kernel_rfl
        clear hA hK hon hJ
        go_simp
    · have hi' := Option.some.inj hi
      subst hi'
      refine want_yes (wanted_none rfl) ?_
      refine wp_val (v := (.slice (some ⟨bv, ov, none⟩) v.length c)) (w' := W) ?_ (hK _ _ (hJ.pure (i := 12) (by decide) (Below.refl _ _)))
      · skip
        have e22 : A.tmps[22]?.getD undef = (.pointer (some ⟨w.heap.size, 0, none⟩)) := (by rw [hA]; kernel_rfl : A.tmps[22]?.getD undef = us 11).trans (hJ.val 11 (by decide) (hon 11 (by decide +kernel)))
        obtain ⟨cc0, cc1, cc2, cc3, cc4, cc5, cc6, cc7⟩ := Hmk.out W hJ.bel
        clear hA hK hon hJ
        go_simp
    · have hi' := Option.some.inj hi
      subst hi'
      refine want_yes (wanted_none rfl) ?_
      refine wp_val (v := (.int .i64 (k : Int))) (w' := W) ?_ (hK _ _ (hJ.pure (i := 13) (by decide) (Below.refl _ _)))
      · skip
        have e4 : A.tmps[4]?.getD undef = (.int .i64 (k : Int)) := by rw [hA]; kernel_rfl
        clear hA hK hon hJ
        go_simp
    · have hi' := Option.some.inj hi
      subst hi'
      refine want_yes (wanted_none rfl) ?_
      refine wp_val (v := (.pointer (some ⟨bv, ov + k, none⟩))) (w' := W) ?_ (hK _ _ (hJ.pure (i := 14) (by decide) (Below.refl _ _)))
      · skip
        have e23 : A.tmps[23]?.getD undef = (.slice (some ⟨bv, ov, none⟩) v.length c) := (by rw [hA]; kernel_rfl : A.tmps[23]?.getD undef = us 12).trans (hJ.val 12 (by decide) (hon 12 (by decide +kernel)))
        have e24 : A.tmps[24]?.getD undef = (.int .i64 (k : Int)) := (by rw [hA]; kernel_rfl : A.tmps[24]?.getD undef = us 13).trans (hJ.val 13 (by decide) (hon 13 (by decide +kernel)))
        clear hA hK hon hJ
        go_simp
    · have hi' := Option.some.inj hi
      subst hi'
      refine want_yes (wanted_none rfl) ?_
      refine wp_val (v := (.slice (some ⟨b2, o2, none⟩) (rget v k).length d2)) (w' := W) ?_ (hK _ _ (hJ.pure (i := 15) (by decide) (Below.refl _ _)))
      · skip
        have e25 : A.tmps[25]?.getD undef = (.pointer (some ⟨bv, ov + k, none⟩)) := (by rw [hA]; kernel_rfl : A.tmps[25]?.getD undef = us 14).trans (hJ.val 14 (by decide) (hon 14 (by decide +kernel)))
        obtain ⟨cc0, cc1, cc2, cc3, cc4, cc5, cc6, cc7⟩ := Hmk.out W hJ.bel
        clear hA hK hon hJ
        go_simp
    · have hi' := Option.some.inj hi
      subst hi'
      refine want_yes (wanted_none rfl) ?_
      refine wp_val (v := (.slice (some ⟨ba, oa, none⟩) a.length d)) (w' := W) ?_ (hK _ _ (hJ.pure (i := 16) (by decide) (Below.refl _ _)))
      · skip
        have e1 : A.tmps[1]?.getD undef = (.slice (some ⟨ba, oa, none⟩) a.length d) := by rw [hA]; kernel_rfl
        clear hA hK hon hJ
        go_simp
    · have hi' := Option.some.inj hi
      subst hi'
      refine want_yes (wanted_none rfl) ?_
      refine wp_val (v := (.int .i64 (k : Int))) (w' := W) ?_ (hK _ _ (hJ.pure (i := 17) (by decide) (Below.refl _ _)))
      · skip
        have e4 : A.tmps[4]?.getD undef = (.int .i64 (k : Int)) := by rw [hA]; kernel_rfl
        clear hA hK hon hJ
        go_simp
    · have hi' := Option.some.inj hi
      subst hi'
      refine want_yes (wanted_none rfl) ?_
      refine wp_val (v := (.pointer (some ⟨ba, oa + k, none⟩))) (w' := W) ?_ (hK _ _ (hJ.pure (i := 18) (by decide) (Below.refl _ _)))
      · skip
        have e27 : A.tmps[27]?.getD undef = (.slice (some ⟨ba, oa, none⟩) a.length d) := (by rw [hA]; kernel_rfl : A.tmps[27]?.getD undef = us 16).trans (hJ.val 16 (by decide) (hon 16 (by decide +kernel)))
        have e28 : A.tmps[28]?.getD undef = (.int .i64 (k : Int)) := (by rw [hA]; kernel_rfl : A.tmps[28]?.getD undef = us 17).trans (hJ.val 17 (by decide) (hon 17 (by decide +kernel)))
        clear hA hK hon hJ
        go_simp
    · have hi' := Option.some.inj hi
      subst hi'
      refine want_yes (wanted_none rfl) ?_
      refine wp_val (v := (.int .i64 (x : Int))) (w' := W) ?_ (hK _ _ (hJ.pure (i := 19) (by decide) (Below.refl _ _)))
      · skip
        have e29 : A.tmps[29]?.getD undef = (.pointer (some ⟨ba, oa + k, none⟩)) := (by rw [hA]; kernel_rfl : A.tmps[29]?.getD undef = us 18).trans (hJ.val 18 (by decide) (hon 18 (by decide +kernel)))
        obtain ⟨cc0, cc1, cc2, cc3, cc4, cc5, cc6, cc7⟩ := Hmk.out W hJ.bel
        clear hA hK hon hJ
        go_simp
    · have hi' := Option.some.inj hi
      subst hi'
      refine want_yes (wanted_none rfl) ?_
      refine wp_val (v := (.pointer (some ⟨b2, o2 + x, none⟩))) (w' := W) ?_ (hK _ _ (hJ.pure (i := 20) (by decide) (Below.refl _ _)))
      · skip
        have e26 : A.tmps[26]?.getD undef = (.slice (some ⟨b2, o2, none⟩) (rget v k).length d2) := (by rw [hA]; kernel_rfl : A.tmps[26]?.getD undef = us 15).trans (hJ.val 15 (by decide) (hon 15 (by decide +kernel)))
        have e30 : A.tmps[30]?.getD undef = (.int .i64 (x : Int)) := (by rw [hA]; kernel_rfl : A.tmps[30]?.getD undef = us 19).trans (hJ.val 19 (by decide) (hon 19 (by decide +kernel)))
        clear hA hK hon hJ
        go_simp
    · have hi' := Option.some.inj hi
      subst hi'
      refine want_yes (wanted_none rfl) ?_
      refine wp_val (v := (.int .i64 y2)) (w' := W) ?_ (hK _ _ (hJ.pure (i := 21) (by decide) (Below.refl _ _)))
      · skip
        have e31 : A.tmps[31]?.getD undef = (.pointer (some ⟨b2, o2 + x, none⟩)) := (by rw [hA]; kernel_rfl : A.tmps[31]?.getD undef = us 20).trans (hJ.val 20 (by decide) (hon 20 (by decide +kernel)))
        obtain ⟨cc0, cc1, cc2, cc3, cc4, cc5, cc6, cc7⟩ := Hmk.out W hJ.bel
        clear hA hK hon hJ
        go_simp
    · have hi' := Option.some.inj hi
      subst hi'
      refine want_yes (wanted_none rfl) ?_
      refine wp_val (v := (.slice (some ⟨bg, og, none⟩) g.length f)) (w' := W) ?_ (hK _ _ (hJ.pure (i := 22) (by decide) (Below.refl _ _)))
      · skip
        have e2 : A.tmps[2]?.getD undef = (.slice (some ⟨bg, og, none⟩) g.length f) := by rw [hA]; kernel_rfl
        clear hA hK hon hJ
        go_simp
    · have hi' := Option.some.inj hi
      subst hi'
      refine want_yes (wanted_none rfl) ?_
      refine wp_val (v := (.int .i64 (k : Int))) (w' := W) ?_ (hK _ _ (hJ.pure (i := 23) (by decide) (Below.refl _ _)))
      · skip
        have e4 : A.tmps[4]?.getD undef = (.int .i64 (k : Int)) := by rw [hA]; kernel_rfl
        clear hA hK hon hJ
        go_simp
    · have hi' := Option.some.inj hi
      subst hi'
      refine want_yes (wanted_none rfl) ?_
      refine wp_val (v := (.pointer (some ⟨bg, og + k, none⟩))) (w' := W) ?_ (hK _ _ (hJ.pure (i := 24) (by decide) (Below.refl _ _)))
      · skip
        have e33 : A.tmps[33]?.getD undef = (.slice (some ⟨bg, og, none⟩) g.length f) := (by rw [hA]; kernel_rfl : A.tmps[33]?.getD undef = us 22).trans (hJ.val 22 (by decide) (hon 22 (by decide +kernel)))
        have e34 : A.tmps[34]?.getD undef = (.int .i64 (k : Int)) := (by rw [hA]; kernel_rfl : A.tmps[34]?.getD undef = us 23).trans (hJ.val 23 (by decide) (hon 23 (by decide +kernel)))
        clear hA hK hon hJ
        go_simp
    · have hi' := Option.some.inj hi
      subst hi'
      refine want_yes (wanted_none rfl) ?_
      refine wp_val (v := (.int .i64 z1)) (w' := W) ?_ (hK _ _ (hJ.pure (i := 25) (by decide) (Below.refl _ _)))
      · skip
        have e35 : A.tmps[35]?.getD undef = (.pointer (some ⟨bg, og + k, none⟩)) := (by rw [hA]; kernel_rfl : A.tmps[35]?.getD undef = us 24).trans (hJ.val 24 (by decide) (hon 24 (by decide +kernel)))
        obtain ⟨cc0, cc1, cc2, cc3, cc4, cc5, cc6, cc7⟩ := Hmk.out W hJ.bel
        clear hA hK hon hJ
        go_simp
    · have hi' := Option.some.inj hi
      subst hi'
      refine want_yes (wanted_none rfl) ?_
      refine wp_val (v := (.int .i64 (y2 - z1))) (w' := W) ?_ (hK _ _ (hJ.pure (i := 26) (by decide) (Below.refl _ _)))
      · skip
        have e32 : A.tmps[32]?.getD undef = (.int .i64 y2) := (by rw [hA]; kernel_rfl : A.tmps[32]?.getD undef = us 21).trans (hJ.val 21 (by decide) (hon 21 (by decide +kernel)))
        have e36 : A.tmps[36]?.getD undef = (.int .i64 z1) := (by rw [hA]; kernel_rfl : A.tmps[36]?.getD undef = us 25).trans (hJ.val 25 (by decide) (hon 25 (by decide +kernel)))
        clear hA hK hon hJ
        go_simp
    · have hi' := Option.some.inj hi
      subst hi'
      refine want_yes (wanted_none rfl) ?_
      refine wp_val (v := (.int .i64 (y1 - (y2 - z1)))) (w' := W) ?_ (hK _ _ (hJ.pure (i := 27) (by decide) (Below.refl _ _)))
      · skip
        have e21 : A.tmps[21]?.getD undef = (.int .i64 y1) := (by rw [hA]; kernel_rfl : A.tmps[21]?.getD undef = us 10).trans (hJ.val 10 (by decide) (hon 10 (by decide +kernel)))
        have e37 : A.tmps[37]?.getD undef = (.int .i64 (y2 - z1)) := (by rw [hA]; kernel_rfl : A.tmps[37]?.getD undef = us 26).trans (hJ.val 26 (by decide) (hon 26 (by decide +kernel)))
        clear hA hK hon hJ
        go_simp
    · have hi' := Option.some.inj hi
      subst hi'
      refine want_yes (wanted_none rfl) ?_
      refine wp_val (v := (.slice (some ⟨bg, og, none⟩) g.length f)) (w' := W) ?_ (hK _ _ (hJ.pure (i := 28) (by decide) (Below.refl _ _)))
      · skip
        have e2 : A.tmps[2]?.getD undef = (.slice (some ⟨bg, og, none⟩) g.length f) := by rw [hA]; kernel_rfl
        clear hA hK hon hJ
        go_simp
    · have hi' := Option.some.inj hi
      subst hi'
      refine want_yes (wanted_none rfl) ?_
      refine wp_val (v := (.int .i64 (i : Int))) (w' := W) ?_ (hK _ _ (hJ.pure (i := 29) (by decide) (Below.refl _ _)))
      · skip
        have e3 : A.tmps[3]?.getD undef = (.int .i64 (i : Int)) := by rw [hA]; kernel_rfl
        clear hA hK hon hJ
        go_simp
    · have hi' := Option.some.inj hi
      subst hi'
      refine want_yes (wanted_none rfl) ?_
      refine wp_val (v := (.pointer (some ⟨bg, og + i, none⟩))) (w' := W) ?_ (hK _ _ (hJ.pure (i := 30) (by decide) (Below.refl _ _)))
      · skip
        have e39 : A.tmps[39]?.getD undef = (.slice (some ⟨bg, og, none⟩) g.length f) := (by rw [hA]; kernel_rfl : A.tmps[39]?.getD undef = us 28).trans (hJ.val 28 (by decide) (hon 28 (by decide +kernel)))
        have e40 : A.tmps[40]?.getD undef = (.int .i64 (i : Int)) := (by rw [hA]; kernel_rfl : A.tmps[40]?.getD undef = us 29).trans (hJ.val 29 (by decide) (hon 29 (by decide +kernel)))
        clear hA hK hon hJ
        go_simp
    · have hi' := Option.some.inj hi
      subst hi'
      refine want_yes (wanted_none rfl) ?_
      refine wp_val (v := (.int .i64 z2)) (w' := W) ?_ (hK _ _ (hJ.pure (i := 31) (by decide) (Below.refl _ _)))
      · skip
        have e41 : A.tmps[41]?.getD undef = (.pointer (some ⟨bg, og + i, none⟩)) := (by rw [hA]; kernel_rfl : A.tmps[41]?.getD undef = us 30).trans (hJ.val 30 (by decide) (hon 30 (by decide +kernel)))
        obtain ⟨cc0, cc1, cc2, cc3, cc4, cc5, cc6, cc7⟩ := Hmk.out W hJ.bel
        clear hA hK hon hJ
        go_simp
    · have hi' := Option.some.inj hi
      subst hi'
      refine want_yes (wanted_none rfl) ?_
      refine wp_val (v := (.int .i64 ((y1 - (y2 - z1)) - z2))) (w' := W) ?_ (hK _ _ (hJ.pure (i := 32) (by decide) (Below.refl _ _)))
      · skip
        have e38 : A.tmps[38]?.getD undef = (.int .i64 (y1 - (y2 - z1))) := (by rw [hA]; kernel_rfl : A.tmps[38]?.getD undef = us 27).trans (hJ.val 27 (by decide) (hon 27 (by decide +kernel)))
        have e42 : A.tmps[42]?.getD undef = (.int .i64 z2) := (by rw [hA]; kernel_rfl : A.tmps[42]?.getD undef = us 31).trans (hJ.val 31 (by decide) (hon 31 (by decide +kernel)))
        clear hA hK hon hJ
        go_simp
    · have hi' := Option.some.inj hi
      subst hi'
      refine want_yes (wanted_none rfl) ?_
      refine wp_val (v := (.int .i64 ((y1 - (y2 - z1)) - z2))) (w' := W) ?_ (hK _ _ (hJ.pure (i := 33) (by decide) (Below.refl _ _)))
      · skip
        have e43 : A.tmps[43]?.getD undef = (.int .i64 ((y1 - (y2 - z1)) - z2)) := (by rw [hA]; kernel_rfl : A.tmps[43]?.getD undef = us 32).trans (hJ.val 32 (by decide) (hon 32 (by decide +kernel)))
        clear hA hK hon hJ
        go_simp
  · intro us D wd hJ hall
    have uL : us 33 = (.int .i64 ((y1 - (y2 - z1)) - z2)) := hJ.val 33 (by decide) (hall 33 (by decide))
    have hb := hJ.bel
    clear hJ hall Hmk
    simp only [actL, slotL, putL, List.setIfInBounds_toArray, List.set_cons_zero, List.set_cons_succ, Nat.zero_add, Nat.reduceAdd, uL]
    clear uL
    go_wp2_with fail
    go_ret
    exact ⟨by simp [results, Tryz.results44], hB.trans (hb.mono hB.size)⟩
def boolN : Value → Nat
  | .bool true => 1
  | _ => 0
theorem offM_eq {v : List (List Int)} {up : Bool} {w : World} {b B c : Nat} {g : List Int} (h : Own w b (some ⟨B, 0, none⟩) c g) (hl : g.length = v.length) : offM v up w B = offW v up g v.length := by
  unfold offM
  refine offW_congr v.length fun j hj => ?_
  have e : iget ((List.range v.length).map (cellI w B)) j = cellI w B j := by simp [iget, hj]
  rw [e]
  have := h.at (j := j) (by omega)
  unfold cellI
  rw [this]
set_option maxHeartbeats 4000000 in
set_option maxRecDepth 100000 in
theorem settle_any (p q : Option Addr) (c d : Nat) (v : List (List Int)) (r : Int) (up : Bool) (w : World) (hx : Mat w p c v) (hy : Ints w q d (bestA v)) (hv : Bids v) :
    Calls Tryz.prog 23 #[.agg #[.slice p v.length c, .int .i64 r], .slice q v.length d, .bool up] w fun e w' => ∃ s f, e = .returned (.slice s v.length f) ∧ Own w' w.heap.size s f (tgtG v up) ∧ Below w.heap.size w w' := by
  obtain ⟨W0, hW0⟩ : ∃ W, w.alloc (.cells #[.slice p v.length c, .int .i64 r] 24) = W := ⟨_, rfl⟩
  have hB := below_alloc hW0
  have bX : BoxV W0 w.heap.size [.slice p v.length c, .int .i64 r] := BoxV.new rfl hW0
  have mX := hx.below hB (Nat.le_refl _)
  have mA := hy.below hB (Nat.le_refl _)
  have hA := (bestA_best hv.1).1
  obtain ⟨B, hBB⟩ : ∃ B, W0.heap.size = B := ⟨_, rfl⟩
  have hwB : w.heap.size < B := by rw [← hBB, ← hW0]; simp
  have h0 := hv.1
  have h6 := hv.2.1
  have HEn : Hid (∀ W g i k, Below B W0 W → Ints W (some ⟨B, 0, none⟩) v.length g → Way v up g → i < v.length → k < v.length → Calls Tryz.prog 44 #[.agg #[.slice p v.length c, .int .i64 r], .slice q v.length d, .slice (some ⟨B, 0, none⟩) v.length v.length, .int .i64 (i : Int), .int .i64 (k : Int)] W fun e w' => e = .returned (.int .i64 (lackI v g i k)) ∧ Below W.heap.size W w') := fun W g i k hW hg hway hi hk => by
    have h := envied_any p q (some ⟨B, 0, none⟩) c d v.length v r (bestA v) g i k W (mX.below hW (Nat.le_of_eq hBB)) (mA.below hW (Nat.le_of_eq hBB)) hg hv hA hway.len (fun i hi => way_small hv hway hi) hi hk
    rw [hA.1, hway.len] at h
    exact h
  have HBx : Hid (∀ W, Below B W0 W → W.cell? ⟨w.heap.size, 0, none⟩ = some (.slice p v.length c) ∧ W.cell? ⟨w.heap.size, 1, none⟩ = some (.int .i64 r)) := fun W hW => ⟨(hW.cell (p := ⟨w.heap.size, 0, none⟩) hwB).trans (bX.cell 0 _ rfl), (hW.cell (p := ⟨w.heap.size, 1, none⟩) hwB).trans (bX.cell 1 _ rfl)⟩
  have HW0 := Lib.hid hW0
  have HBB := Lib.hid hBB
  have HB := Lib.hid hB
  have Hv := Lib.hid hv
  clear hW0 hx hy mX mA bX hA hBB hB hv
  go_enter Tryz.func23, Tryz.ntmps23
  go_wp2_with (at_make; rw [HW0.out]; refine wpList_mk rfl (.tmp 13) (.tmp 13) rfl B v.length rfl rfl (by omega) (Nat.le_of_eq HBB.out.symm) ?_; intro w2 hO2 hg2 hs2)
  have hB2 : Below B W0 w2 := (Below.refl _ _).grown hg2 (by have := HBB.out; omega) (fun k e => by cases e)
  rw [HBB.out] at hO2 ⊢
  have HO2 := Lib.hid hO2
  have HB2 := Lib.hid hB2
  clear hO2 hg2 hs2 hB2
  go_loopw [8] (fun m wr => ∃ (mb : Bool) (g : List Int), m = .bool mb ∧ Way v up g ∧ (mb = false → g = tgtG v up) ∧ Own wr B (some ⟨B, 0, none⟩) v.length g ∧ Below B W0 wr) (fun m wr => 2 * offM v up wr B + boolN m)
  case atStart => exact ⟨true, _, rfl, way_zero Hv.out up, fun e => Bool.noConfusion e, HO2.out, HB2.out⟩
  case round =>
    obtain ⟨mb, g0, rfl, hway, hend, hO, hBr⟩ := hrel
    cases mb with
    | false =>
      have he := hend rfl
      subst he
      have HO := Lib.hid hO
      have HBr := Lib.hid hBr
      clear hway hend hO hBr
      go_wp2_with fail
      go_ret
      exact ⟨some ⟨B, 0, none⟩, v.length, rfl, HO.out.lower (by omega), HB.out.trans (HBr.out.mono (by omega))⟩
    | true =>
      have HM0 : Hid (offM v up wr B = offW v up g0 v.length) := offM_eq hO hway.len
      have Hway := Lib.hid hway
      have HO := Lib.hid hO
      have HBr := Lib.hid hBr
      clear hway hend hO hBr
      obtain ⟨wa, rfl⟩ : ∃ W, W = wr := ⟨_, rfl⟩
      go_wp2_with fail
      go_loopw [8, 9] (fun m t wi => ∃ (mb : Bool) (i : Nat) (g : List Int), i ≤ v.length ∧ m = .bool mb ∧ t = .int .i64 i ∧ Pass v up g0 g mb i 0 ∧ Own wi B (some ⟨B, 0, none⟩) v.length g ∧ Below B W0 wi) (fun _ t _ => v.length - (intOf t).toNat)
      case atStart => exact ⟨false, 0, g0, by omega, rfl, rfl, Pass.start Hway.out, HO.out, HBr.out⟩
      case round =>
        obtain ⟨mb, i, g, hi, rfl, rfl, hP, hO, hBr⟩ := hrel
        by_cases hil : i < v.length
        · have hi1 : (i : Int) < v.length := by omega
          have HP := Lib.hid hP
          have HO := Lib.hid hO
          have HBr := Lib.hid hBr
          clear hP hO hBr
          go_wp2_with fail
          go_loopw [8, 10] (fun m t wk => ∃ (mb : Bool) (k : Nat) (g : List Int), k ≤ v.length ∧ m = .bool mb ∧ t = .int .i64 k ∧ Pass v up g0 g mb i k ∧ Own wk B (some ⟨B, 0, none⟩) v.length g ∧ Below B W0 wk) (fun _ t _ => v.length - (intOf t).toNat)
          case atStart => exact ⟨mb, 0, g, by omega, rfl, rfl, HP.out, HO.out, HBr.out⟩
          case round =>
            obtain ⟨mb, k, g, hk, rfl, rfl, hP, hO, hBr⟩ := hrel
            by_cases hkl : k < v.length
            · have hk1 : (k : Int) < v.length := by omega
              obtain ⟨kX0, kX1⟩ := HBx.out wr hBr
              have hszr : B ≤ wr.heap.size := by have := hBr.size; have := HBB.out; omega
              have hE := HEn.out wr g i k hBr hO.ints hP.way hil hkl
              have Hsame := Lib.hid (fun h => hP.same (i := i) (k := k) h)
              have Hstep := Lib.hid (fun h => hP.step Hv.out hil hkl h)
              have Hlen := Lib.hid hP.way.len
              obtain ⟨L, hL⟩ : ∃ L, lackI v g i k = L := ⟨_, rfl⟩
              rw [hL] at hE
              have HL := Lib.hid hL
              have HE := Lib.hid hE
              have HO := Lib.hid hO
              have HBr := Lib.hid hBr
              clear hP hE hL hO hBr
              go_wp2_with fail
              refine HE.out.mono ?_
              rintro e w3 ⟨rfl, hb⟩
              have hO3 := HO.out.below hb (Nat.le_refl _)
              have hB3 := HBr.out.trans (hb.mono hszr)
              clear hb kX0 kX1
              by_cases hL0 : L ≤ 0
              · have hP2 := Hsame.out (by rw [HL.out]; exact hL0)
                have HP2 := Lib.hid hP2
                have HO3 := Lib.hid hO3
                have HB3 := Lib.hid hB3
                clear hP2 hO3 hB3
                go_wp2_with fail
                go_roundw
                case rel => exact ⟨mb, k + 1, g, by omega, rfl, by go_num, HP2.out, HO3.out, HB3.out⟩
                case measure => (simp [intOf] <;> omega)
              · have hP2 := Hstep.out (by rw [HL.out]; omega)
                have hci := hO3.at (j := i) (by rw [Hlen.out]; exact hil)
                have hck := hO3.at (j := k) (by rw [Hlen.out]; exact hkl)
                have hfi := hO3.free i
                have hfk := hO3.free k
                cases up with
                | true =>
                  have es : stpG v true g i k = g.set i (iget g i + L) := by simp [stpG, HL.out]
                  rw [es] at hP2
                  have hb2 := way_small Hv.out hP2.way hil
                  rw [iget_setW (by rw [Hlen.out]; exact hil), if_pos rfl] at hb2
                  have HP2 := Lib.hid hP2
                  have HO3 := Lib.hid hO3
                  have HB3 := Lib.hid hB3
                  obtain ⟨z, hz⟩ : ∃ z, iget g i = z := ⟨_, rfl⟩
                  have Hz := Lib.hid hz
                  rw [hz] at hci hb2
                  have hwz : IntKind.i64.wrap (z + L) = z + L := IntWalk.i64_in _ (by omega)
                  have hin : in64 (z + L) := ⟨by omega, by omega⟩
                  clear hP2 hO3 hB3 es hz hck hfk
                  go_wp2_with fail
                  go_roundw
                  case rel => exact ⟨true, k + 1, g.set i (z + L), by omega, rfl, by go_num, Hz.out ▸ HP2.out, (HO3.out.set i hin).1, HB3.out.setCell (p := ⟨B, i, none⟩) (Nat.le_refl _) _⟩
                  case measure => (simp [intOf] <;> omega)
                | false =>
                  have es : stpG v false g i k = g.set k (iget g k - L) := by simp [stpG, HL.out]
                  rw [es] at hP2
                  have hb2 := way_small Hv.out hP2.way hkl
                  rw [iget_setW (by rw [Hlen.out]; exact hkl), if_pos rfl] at hb2
                  have HP2 := Lib.hid hP2
                  have HO3 := Lib.hid hO3
                  have HB3 := Lib.hid hB3
                  obtain ⟨z, hz⟩ : ∃ z, iget g k = z := ⟨_, rfl⟩
                  have Hz := Lib.hid hz
                  rw [hz] at hck hb2
                  have hwz : IntKind.i64.wrap (z - L) = z - L := IntWalk.i64_in _ (by omega)
                  have hin : in64 (z - L) := ⟨by omega, by omega⟩
                  clear hP2 hO3 hB3 es hz hci hfi
                  go_wp2_with fail
                  go_roundw
                  case rel => exact ⟨true, k + 1, g.set k (z - L), by omega, rfl, by go_num, Hz.out ▸ HP2.out, (HO3.out.set k hin).1, HB3.out.setCell (p := ⟨B, k, none⟩) (Nat.le_refl _) _⟩
                  case measure => (simp [intOf] <;> omega)
            · have hk1 : ¬ (k : Int) < v.length := by omega
              obtain rfl : v.length = k := by omega
              have HP := Lib.hid hP.row
              have HO := Lib.hid hO
              have HBr := Lib.hid hBr
              clear hP hO hBr
              go_wp2_with fail
              go_roundw
              case rel => exact ⟨mb, i + 1, g, by omega, rfl, by go_num, HP.out, HO.out, HBr.out⟩
              case measure => (simp [intOf] <;> omega)
        · have hi1 : ¬ (i : Int) < v.length := by omega
          obtain rfl : v.length = i := by omega
          have HP := Lib.hid hP
          have HO := Lib.hid hO
          have HBr := Lib.hid hBr
          have HM1 : Hid (offM v up wr B = offW v up g v.length) := offM_eq hO hP.way.len
          clear hP hO hBr
          go_wp2_with fail
          go_roundw
          case rel => exact ⟨mb, g, rfl, HP.out.way, fun e => by subst e; exact HP.out.done Hv.out, HO.out, HBr.out⟩
          case measure =>
            rw [HM0.out, HM1.out]
            cases mb with
            | true => have := HP.out.yes rfl; simp only [boolN]; omega
            | false => have := (HP.out.no rfl).1; rw [this]; simp only [boolN]; omega

end Go.Proofs.YtllcbcanohdepaaGreat
