/- The walks of cmp.Compare, cmp.Or and nash's Cmp, times and product; no condition but sizes.  (Printed by wip/gencmp.py.) -/
import Derived.Test.YtmcncflieoolmaaGreatTopTopGoodsm24
import Derived.Test.YtmcncflieoolmaaGreatTopTopGoodsm10
import Derived.Test.YtmcncflieoolmaaGreatTopTopGoodsm3
import Derived.Deep.DeepCutAuto
import Derived.Test.YtmcncflieoolmaaGreatTopTopGoodsm14
/- The walks of cmp.Compare, cmp.Or and nash's Cmp, times and product; no condition but sizes.  (Printed by wip/gencmp.py.) -/
namespace Go.Proofs.YtmcncflieoolmaaGreat
set_option linter.unusedVariables false
set_option linter.unusedSimpArgs false
open Go.ChangeShapes Go.WideShapes Go.ChangeAt Go.RowKit Go.Deep

theorem nc18 {i : Nat} (h : i < 18) : i = 0 ∨ i = 1 ∨ i = 2 ∨ i = 3 ∨ i = 4 ∨ i = 5 ∨ i = 6 ∨ i = 7 ∨ i = 8 ∨ i = 9 ∨ i = 10 ∨ i = 11 ∨ i = 12 ∨ i = 13 ∨ i = 14 ∨ i = 15 ∨ i = 16 ∨ i = 17 := by omega
def cmp3 (x y : Int) : Int := if x < y then -1 else if y < x then 1 else 0
theorem cmp3_in (x y : Int) : in64 (cmp3 x y) := by unfold cmp3; split <;> (try split) <;> exact ⟨by decide, by decide⟩
def or3 (x y z : Int) : Int := if x ≠ 0 then x else if y ≠ 0 then y else z
theorem isNaN_any (x : Int) (w : World) : Calls Tryz.prog 94 #[.int .i64 x] w fun e w' => e = .returned (.bool false) ∧ w' = w := by
  have h : (x != x) = false := by simp
  go_enter Tryz.func94, Tryz.ntmps94
  go_wp2_with fail
  go_ret
  exact ⟨rfl, rfl⟩
theorem isNaN64_any (x : Int) (w : World) : Calls Tryz.prog 124 #[.int .i64 x] w fun e w' => e = .returned (.bool false) ∧ w' = w := by
  have h : (x != x) = false := by simp
  go_enter Tryz.func124, Tryz.ntmps124
  go_wp2_with fail
  go_ret
  exact ⟨rfl, rfl⟩
set_option maxHeartbeats 800000 in
theorem compare_any (x y : Int) (w : World) : Calls Tryz.prog 54 #[.int .i64 x, .int .i64 y] w fun e w' => e = .returned (.int .i64 (cmp3 x y)) ∧ w' = w := by
  have h1 := Lib.hid (isNaN_any x w)
  have h2 := Lib.hid (isNaN_any y w)
  by_cases hlt : x < y
  · have hR : Hid (cmp3 x y = -1) := if_pos hlt
    have hd : decide (x < y) = true := by rw [decide_eq_true_iff]; exact hlt
    go_enter Tryz.func54, Tryz.ntmps54
    go_wp2_with fail
    refine h1.out.mono ?_
    rintro e w' ⟨rfl, rfl⟩
    go_wp2_with fail
    refine h2.out.mono ?_
    rintro e w2 ⟨rfl, rfl⟩
    go_wp2_with fail
    go_ret
    exact ⟨by rw [hR.out]; rfl, rfl⟩
  · have hd : decide (x < y) = false := by rw [decide_eq_false_iff_not]; exact hlt
    by_cases hgt : y < x
    · have hR : Hid (cmp3 x y = 1) := by unfold Hid cmp3; rw [if_neg hlt, if_pos hgt]
      have hd2 : decide (y < x) = true := by rw [decide_eq_true_iff]; exact hgt
      go_enter Tryz.func54, Tryz.ntmps54
      go_wp2_with fail
      refine h1.out.mono ?_
      rintro e w' ⟨rfl, rfl⟩
      go_wp2_with fail
      refine h2.out.mono ?_
      rintro e w2 ⟨rfl, rfl⟩
      go_wp2_with fail
      go_ret
      exact ⟨by rw [hR.out]; rfl, rfl⟩
    · have hR : Hid (cmp3 x y = 0) := by unfold Hid cmp3; rw [if_neg hlt, if_neg hgt]
      have hd2 : decide (y < x) = false := by rw [decide_eq_false_iff_not]; exact hgt
      go_enter Tryz.func54, Tryz.ntmps54
      go_wp2_with fail
      refine h1.out.mono ?_
      rintro e w' ⟨rfl, rfl⟩
      go_wp2_with fail
      refine h2.out.mono ?_
      rintro e w2 ⟨rfl, rfl⟩
      go_wp2_with fail
      go_ret
      exact ⟨by rw [hR.out]; rfl, rfl⟩
set_option maxHeartbeats 800000 in
theorem compare64_any (x y : Int) (w : World) : Calls Tryz.prog 110 #[.int .i64 x, .int .i64 y] w fun e w' => e = .returned (.int .i64 (cmp3 x y)) ∧ w' = w := by
  have h1 := Lib.hid (isNaN64_any x w)
  have h2 := Lib.hid (isNaN64_any y w)
  by_cases hlt : x < y
  · have hR : Hid (cmp3 x y = -1) := if_pos hlt
    have hd : decide (x < y) = true := by rw [decide_eq_true_iff]; exact hlt
    go_enter Tryz.func110, Tryz.ntmps110
    go_wp2_with fail
    refine h1.out.mono ?_
    rintro e w' ⟨rfl, rfl⟩
    go_wp2_with fail
    refine h2.out.mono ?_
    rintro e w2 ⟨rfl, rfl⟩
    go_wp2_with fail
    go_ret
    exact ⟨by rw [hR.out]; rfl, rfl⟩
  · have hd : decide (x < y) = false := by rw [decide_eq_false_iff_not]; exact hlt
    by_cases hgt : y < x
    · have hR : Hid (cmp3 x y = 1) := by unfold Hid cmp3; rw [if_neg hlt, if_pos hgt]
      have hd2 : decide (y < x) = true := by rw [decide_eq_true_iff]; exact hgt
      go_enter Tryz.func110, Tryz.ntmps110
      go_wp2_with fail
      refine h1.out.mono ?_
      rintro e w' ⟨rfl, rfl⟩
      go_wp2_with fail
      refine h2.out.mono ?_
      rintro e w2 ⟨rfl, rfl⟩
      go_wp2_with fail
      go_ret
      exact ⟨by rw [hR.out]; rfl, rfl⟩
    · have hR : Hid (cmp3 x y = 0) := by unfold Hid cmp3; rw [if_neg hlt, if_neg hgt]
      have hd2 : decide (y < x) = false := by rw [decide_eq_false_iff_not]; exact hgt
      go_enter Tryz.func110, Tryz.ntmps110
      go_wp2_with fail
      refine h1.out.mono ?_
      rintro e w' ⟨rfl, rfl⟩
      go_wp2_with fail
      refine h2.out.mono ?_
      rintro e w2 ⟨rfl, rfl⟩
      go_wp2_with fail
      go_ret
      exact ⟨by rw [hR.out]; rfl, rfl⟩
/-- A row that was laid literally. -/
def ExtI (xs : List Int) (u : Value) (W : World) : Prop := ∃ b, u = .slice (some ⟨b, 0, none⟩) 3 3 ∧ Ints W (some ⟨b, 0, none⟩) 3 xs
theorem lit3_ints (W : World) {x y z : Int} (hx : in64 x) (hy : in64 y) (hz : in64 z) : Ints (W.alloc (.cells #[.int .i64 x, .int .i64 y, .int .i64 z] 3)) (some ⟨W.heap.size, 0, none⟩) 3 [x, y, z] :=
  (Own.lit W 0 (Nat.zero_le _) [x, y, z] (by simp) (fun j hj => by
    match j, hj with
    | 0, _ => exact hx
    | 1, _ => exact hy
    | 2, _ => exact hz)).ints
set_option maxHeartbeats 1600000 in
theorem or3_any (b : Nat) (x y z : Int) (w : World) (T : True) (h : Ints w (some ⟨b, 0, none⟩) 3 [x, y, z]) : Calls Tryz.prog 109 #[.slice (some ⟨b, 0, none⟩) 3 3] w fun e w' => e = .returned (.int .i64 (or3 x y z)) ∧ Below w.heap.size w w' := by
  have c0 : w.cell? ⟨b, 0, none⟩ = some (.int .i64 x) := h.at (j := 0) (by simp)
  have c1 : w.cell? ⟨b, 1, none⟩ = some (.int .i64 y) := h.at (j := 1) (by simp)
  have c2 : w.cell? ⟨b, 2, none⟩ = some (.int .i64 z) := h.at (j := 2) (by simp)
  have HI := Lib.hid h
  clear h
  go_enter Tryz.func109, Tryz.ntmps109
  go_wp2_with fail
  go_loop [8] (fun t => ∃ k : Nat, k ≤ 3 ∧ t = .int .i64 k ∧ Hid (∀ j, j < k → iget [x, y, z] j = 0)) (fun t => 3 - (intOf t).toNat)
  case atStart => exact ⟨0, Nat.zero_le _, rfl, fun j hj => by omega⟩
  case round =>
    obtain ⟨k, hk, rfl, h0⟩ := hrel
    by_cases hlt : k < 3
    · have hk1 : (k : Int) < 3 := by omega
      have hc : w.cell? ⟨b, k, none⟩ = some (.int .i64 (iget [x, y, z] k)) := by have := HI.out.at (j := k) hlt; rwa [Nat.zero_add] at this
      obtain ⟨u, eu⟩ : ∃ u, iget [x, y, z] k = u := ⟨_, rfl⟩
      rw [eu] at hc
      have Heu := Lib.hid eu
      clear eu
      by_cases hu : u = 0
      · have hb : (u != 0) = false := by simpa using hu
        have hN := Lib.hid (snoc_all' (P := fun j => iget [x, y, z] j = 0) h0.out (by rw [Heu.out]; exact hu))
        clear hu
        go_wp2_with fail
        go_round
        case rel => exact ⟨k + 1, by omega, by go_num, hN.out⟩
        case measure => simp [intOf]; omega
      · have hb : (u != 0) = true := by simpa using hu
        have hR : Hid (or3 x y z = u) := by
          unfold Hid or3
          have a0 : 0 < k → x = 0 := fun h => h0.out 0 h
          have a1 : 1 < k → y = 0 := fun h => h0.out 1 h
          have hk3 : k = 0 ∨ k = 1 ∨ k = 2 := by omega
          rcases hk3 with rfl | rfl | rfl
          · have e : x = u := Heu.out
            rw [if_pos (by omega), e]
          · have e : y = u := Heu.out
            rw [if_neg (by have := a0 (by omega); omega), if_pos (by omega), e]
          · have e : z = u := Heu.out
            rw [if_neg (by have := a0 (by omega); omega), if_neg (by have := a1 (by omega); omega), e]
        clear hu
        go_wp2_with fail
        go_ret
        exact ⟨by rw [hR.out]; rfl, Below.refl _ _⟩
    · have hk1 : ¬ (k : Int) < 3 := by omega
      have hR : Hid (or3 x y z = 0) := by
        have a0 : x = 0 := h0.out 0 (by omega)
        have a1 : y = 0 := h0.out 1 (by omega)
        have a2 : z = 0 := h0.out 2 (by omega)
        unfold Hid or3
        rw [a0, a1, a2]; rfl
      go_wp2_with fail
      go_ret
      exact ⟨by rw [hR.out]; rfl, Below.refl _ _⟩
set_option maxRecDepth 100000 in
set_option maxHeartbeats 8000000 in
theorem nashCmp_any (c1 h1 l1 c2 h2 l2 : Int) (w : World) : Calls Tryz.prog 71 #[.agg #[.int .i64 c1, .int .i64 h1, .int .i64 l1], .agg #[.int .i64 c2, .int .i64 h2, .int .i64 l2]] w fun e w' => e = .returned (.int .i64 (or3 (cmp3 c1 c2) (cmp3 h1 h2) (cmp3 l1 l2))) ∧ Below w.heap.size w w' := by
  obtain ⟨W0, hW0⟩ : ∃ W, w.alloc (.cells #[.int .i64 c1, .int .i64 h1, .int .i64 l1] 41) = W := ⟨_, rfl⟩
  obtain ⟨W1, hW1⟩ : ∃ W, W0.alloc (.cells #[.int .i64 c2, .int .i64 h2, .int .i64 l2] 41) = W := ⟨_, rfl⟩
  have hB0 := below_alloc hW0
  have hB1 := below_alloc hW1
  have hs0 : W0.heap.size = w.heap.size + 1 := by rw [← hW0]; simp
  have b0 : BoxV W1 w.heap.size [.int .i64 c1, .int .i64 h1, .int .i64 l1] := (BoxV.new rfl hW0).below hB1
  have b1 : BoxV W1 (w.heap.size + 1) [.int .i64 c2, .int .i64 h2, .int .i64 l2] := BoxV.new hs0 hW1
  have hBw : Below w.heap.size w W1 := hB0.trans (hB1.mono hB0.size)
  have Hmk : Hid (∀ W, Below W1.heap.size W1 W → W.cell? ⟨w.heap.size, 0, none⟩ = some (.int .i64 c1) ∧ W.cell? ⟨w.heap.size, 1, none⟩ = some (.int .i64 h1) ∧ W.cell? ⟨w.heap.size, 2, none⟩ = some (.int .i64 l1) ∧ W.cell? ⟨w.heap.size + 1, 0, none⟩ = some (.int .i64 c2) ∧ W.cell? ⟨w.heap.size + 1, 1, none⟩ = some (.int .i64 h2) ∧ W.cell? ⟨w.heap.size + 1, 2, none⟩ = some (.int .i64 l2)) := fun W h =>
    ⟨(b0.below h).cell 0 _ rfl, (b0.below h).cell 1 _ rfl, (b0.below h).cell 2 _ rfl, (b1.below h).cell 0 _ rfl, (b1.below h).cell 1 _ rfl, (b1.below h).cell 2 _ rfl⟩
  have HW0 := Lib.hid hW0
  have HW1 := Lib.hid hW1
  clear hW0 hW1 hB0 hB1 hs0 b0 b1
  go_enter Tryz.func71, Tryz.ntmps71
  go_upto_region 1 with (fail)
  rw [HW0.out, HW1.out]
  refine wp_region_inv (by kernel_rfl) (by decide +kernel) (by decide +kernel) _ _ (ManyE W1 [] (fun kk => match kk with | 0 => (.pointer (some ⟨w.heap.size, 0, none⟩)) | 1 => (.int .i64 c1) | 2 => (.pointer (some ⟨w.heap.size + 1, 0, none⟩)) | 3 => (.int .i64 c2) | 4 => (.int .i64 (cmp3 c1 c2)) | 5 => (.pointer (some ⟨w.heap.size, 1, none⟩)) | 6 => (.int .i64 h1) | 7 => (.pointer (some ⟨w.heap.size + 1, 1, none⟩)) | 8 => (.int .i64 h2) | 9 => (.int .i64 (cmp3 h1 h2)) | 10 => (.pointer (some ⟨w.heap.size, 2, none⟩)) | 11 => (.int .i64 l1) | 12 => (.pointer (some ⟨w.heap.size + 1, 2, none⟩)) | 13 => (.int .i64 l2) | 14 => (.int .i64 (cmp3 l1 l2)) | 16 => (.int .i64 (or3 (cmp3 c1 c2) (cmp3 h1 h2) (cmp3 l1 l2))) | 17 => (.int .i64 (or3 (cmp3 c1 c2) (cmp3 h1 h2) (cmp3 l1 l2))) | _ => undef) (fun _ => undef) (fun _ => undef) 15 16 [17] (ExtI [cmp3 c1 c2, cmp3 h1 h2, cmp3 l1 l2])) ?_ ?_ ?_
  · exact fun us => ManyE.start us
  · intro us D W i o A hA hi hJ hnD hon K hK
    have hlt : i < 18 := (Array.getElem?_eq_some_iff.1 hi).1
    rcases nc18 hlt with rfl | rfl | rfl | rfl | rfl | rfl | rfl | rfl | rfl | rfl | rfl | rfl | rfl | rfl | rfl | rfl | rfl | rfl
    · have hi' := Option.some.inj hi
      subst hi'
      refine wp_val (v := (.pointer (some ⟨w.heap.size, 0, none⟩))) (w' := W) ?_ (hK _ _ (hJ.pure (i := 0) (by decide) (by decide) (fun _ h => h) (Below.refl _ _)))
      · skip
        have e2 : A.tmps[2]?.getD undef = (.pointer (some ⟨w.heap.size, 0, none⟩)) := by rw [hA]; kernel_rfl
        clear hA hK hon hJ
        go_simp
    · have hi' := Option.some.inj hi
      subst hi'
      refine wp_val (v := (.int .i64 c1)) (w' := W) ?_ (hK _ _ (hJ.pure (i := 1) (by decide) (by decide) (fun _ h => h) (Below.refl _ _)))
      · skip
        have e5 : A.tmps[5]?.getD undef = (.pointer (some ⟨w.heap.size, 0, none⟩)) := (by rw [hA]; kernel_rfl : A.tmps[5]?.getD undef = us 0).trans (hJ.value 0 (by decide) (hon 0 (by decide +kernel)))
        obtain ⟨cc0, cc1, cc2, cc3, cc4, cc5⟩ := Hmk.out W hJ.bel
        clear hA hK hon hJ
        go_simp
    · have hi' := Option.some.inj hi
      subst hi'
      refine wp_val (v := (.pointer (some ⟨w.heap.size + 1, 0, none⟩))) (w' := W) ?_ (hK _ _ (hJ.pure (i := 2) (by decide) (by decide) (fun _ h => h) (Below.refl _ _)))
      · skip
        have e3 : A.tmps[3]?.getD undef = (.pointer (some ⟨w.heap.size + 1, 0, none⟩)) := by rw [hA]; kernel_rfl
        clear hA hK hon hJ
        go_simp
    · have hi' := Option.some.inj hi
      subst hi'
      refine wp_val (v := (.int .i64 c2)) (w' := W) ?_ (hK _ _ (hJ.pure (i := 3) (by decide) (by decide) (fun _ h => h) (Below.refl _ _)))
      · skip
        have e7 : A.tmps[7]?.getD undef = (.pointer (some ⟨w.heap.size + 1, 0, none⟩)) := (by rw [hA]; kernel_rfl : A.tmps[7]?.getD undef = us 2).trans (hJ.value 2 (by decide) (hon 2 (by decide +kernel)))
        obtain ⟨cc0, cc1, cc2, cc3, cc4, cc5⟩ := Hmk.out W hJ.bel
        clear hA hK hon hJ
        go_simp
    · have hi' := Option.some.inj hi
      subst hi'
      refine wp_enter (f := 54) (args := #[(.int .i64 c1), (.int .i64 c2)]) (w' := W) ?_ ((compare_any c1 c2 W).mono ?_)
      · skip
        have e6 : A.tmps[6]?.getD undef = (.int .i64 c1) := (by rw [hA]; kernel_rfl : A.tmps[6]?.getD undef = us 1).trans (hJ.value 1 (by decide) (hon 1 (by decide +kernel)))
        have e8 : A.tmps[8]?.getD undef = (.int .i64 c2) := (by rw [hA]; kernel_rfl : A.tmps[8]?.getD undef = us 3).trans (hJ.value 3 (by decide) (hon 3 (by decide +kernel)))
        clear hA hK hon hJ
        go_simp
      · rintro r' wC ⟨rfl, rfl⟩
        exact ⟨_, rfl, hK _ _ (hJ.pure (i := 4) (by decide) (by decide) (fun _ h => h) (Below.refl _ _))⟩
    · have hi' := Option.some.inj hi
      subst hi'
      refine wp_val (v := (.pointer (some ⟨w.heap.size, 1, none⟩))) (w' := W) ?_ (hK _ _ (hJ.pure (i := 5) (by decide) (by decide) (fun _ h => h) (Below.refl _ _)))
      · skip
        have e2 : A.tmps[2]?.getD undef = (.pointer (some ⟨w.heap.size, 0, none⟩)) := by rw [hA]; kernel_rfl
        clear hA hK hon hJ
        go_simp
    · have hi' := Option.some.inj hi
      subst hi'
      refine wp_val (v := (.int .i64 h1)) (w' := W) ?_ (hK _ _ (hJ.pure (i := 6) (by decide) (by decide) (fun _ h => h) (Below.refl _ _)))
      · skip
        have e10 : A.tmps[10]?.getD undef = (.pointer (some ⟨w.heap.size, 1, none⟩)) := (by rw [hA]; kernel_rfl : A.tmps[10]?.getD undef = us 5).trans (hJ.value 5 (by decide) (hon 5 (by decide +kernel)))
        obtain ⟨cc0, cc1, cc2, cc3, cc4, cc5⟩ := Hmk.out W hJ.bel
        clear hA hK hon hJ
        go_simp
    · have hi' := Option.some.inj hi
      subst hi'
      refine wp_val (v := (.pointer (some ⟨w.heap.size + 1, 1, none⟩))) (w' := W) ?_ (hK _ _ (hJ.pure (i := 7) (by decide) (by decide) (fun _ h => h) (Below.refl _ _)))
      · skip
        have e3 : A.tmps[3]?.getD undef = (.pointer (some ⟨w.heap.size + 1, 0, none⟩)) := by rw [hA]; kernel_rfl
        clear hA hK hon hJ
        go_simp
    · have hi' := Option.some.inj hi
      subst hi'
      refine wp_val (v := (.int .i64 h2)) (w' := W) ?_ (hK _ _ (hJ.pure (i := 8) (by decide) (by decide) (fun _ h => h) (Below.refl _ _)))
      · skip
        have e12 : A.tmps[12]?.getD undef = (.pointer (some ⟨w.heap.size + 1, 1, none⟩)) := (by rw [hA]; kernel_rfl : A.tmps[12]?.getD undef = us 7).trans (hJ.value 7 (by decide) (hon 7 (by decide +kernel)))
        obtain ⟨cc0, cc1, cc2, cc3, cc4, cc5⟩ := Hmk.out W hJ.bel
        clear hA hK hon hJ
        go_simp
    · have hi' := Option.some.inj hi
      subst hi'
      refine wp_enter (f := 110) (args := #[(.int .i64 h1), (.int .i64 h2)]) (w' := W) ?_ ((compare64_any h1 h2 W).mono ?_)
      · skip
        have e11 : A.tmps[11]?.getD undef = (.int .i64 h1) := (by rw [hA]; kernel_rfl : A.tmps[11]?.getD undef = us 6).trans (hJ.value 6 (by decide) (hon 6 (by decide +kernel)))
        have e13 : A.tmps[13]?.getD undef = (.int .i64 h2) := (by rw [hA]; kernel_rfl : A.tmps[13]?.getD undef = us 8).trans (hJ.value 8 (by decide) (hon 8 (by decide +kernel)))
        clear hA hK hon hJ
        go_simp
      · rintro r' wC ⟨rfl, rfl⟩
        exact ⟨_, rfl, hK _ _ (hJ.pure (i := 9) (by decide) (by decide) (fun _ h => h) (Below.refl _ _))⟩
    · have hi' := Option.some.inj hi
      subst hi'
      refine wp_val (v := (.pointer (some ⟨w.heap.size, 2, none⟩))) (w' := W) ?_ (hK _ _ (hJ.pure (i := 10) (by decide) (by decide) (fun _ h => h) (Below.refl _ _)))
      · skip
        have e2 : A.tmps[2]?.getD undef = (.pointer (some ⟨w.heap.size, 0, none⟩)) := by rw [hA]; kernel_rfl
        clear hA hK hon hJ
        go_simp
    · have hi' := Option.some.inj hi
      subst hi'
      refine wp_val (v := (.int .i64 l1)) (w' := W) ?_ (hK _ _ (hJ.pure (i := 11) (by decide) (by decide) (fun _ h => h) (Below.refl _ _)))
      · skip
        have e15 : A.tmps[15]?.getD undef = (.pointer (some ⟨w.heap.size, 2, none⟩)) := (by rw [hA]; kernel_rfl : A.tmps[15]?.getD undef = us 10).trans (hJ.value 10 (by decide) (hon 10 (by decide +kernel)))
        obtain ⟨cc0, cc1, cc2, cc3, cc4, cc5⟩ := Hmk.out W hJ.bel
        clear hA hK hon hJ
        go_simp
    · have hi' := Option.some.inj hi
      subst hi'
      refine wp_val (v := (.pointer (some ⟨w.heap.size + 1, 2, none⟩))) (w' := W) ?_ (hK _ _ (hJ.pure (i := 12) (by decide) (by decide) (fun _ h => h) (Below.refl _ _)))
      · skip
        have e3 : A.tmps[3]?.getD undef = (.pointer (some ⟨w.heap.size + 1, 0, none⟩)) := by rw [hA]; kernel_rfl
        clear hA hK hon hJ
        go_simp
    · have hi' := Option.some.inj hi
      subst hi'
      refine wp_val (v := (.int .i64 l2)) (w' := W) ?_ (hK _ _ (hJ.pure (i := 13) (by decide) (by decide) (fun _ h => h) (Below.refl _ _)))
      · skip
        have e17 : A.tmps[17]?.getD undef = (.pointer (some ⟨w.heap.size + 1, 2, none⟩)) := (by rw [hA]; kernel_rfl : A.tmps[17]?.getD undef = us 12).trans (hJ.value 12 (by decide) (hon 12 (by decide +kernel)))
        obtain ⟨cc0, cc1, cc2, cc3, cc4, cc5⟩ := Hmk.out W hJ.bel
        clear hA hK hon hJ
        go_simp
    · have hi' := Option.some.inj hi
      subst hi'
      refine wp_enter (f := 110) (args := #[(.int .i64 l1), (.int .i64 l2)]) (w' := W) ?_ ((compare64_any l1 l2 W).mono ?_)
      · skip
        have e16 : A.tmps[16]?.getD undef = (.int .i64 l1) := (by rw [hA]; kernel_rfl : A.tmps[16]?.getD undef = us 11).trans (hJ.value 11 (by decide) (hon 11 (by decide +kernel)))
        have e18 : A.tmps[18]?.getD undef = (.int .i64 l2) := (by rw [hA]; kernel_rfl : A.tmps[18]?.getD undef = us 13).trans (hJ.value 13 (by decide) (hon 13 (by decide +kernel)))
        clear hA hK hon hJ
        go_simp
      · rintro r' wC ⟨rfl, rfl⟩
        exact ⟨_, rfl, hK _ _ (hJ.pure (i := 14) (by decide) (by decide) (fun _ h => h) (Below.refl _ _))⟩
    · have hi' := Option.some.inj hi
      subst hi'
      have hsz := hJ.bel.size
      refine wp_val (v := .slice (some ⟨W.heap.size, 0, none⟩) 3 3) (w' := W.alloc (.cells #[.int .i64 (cmp3 c1 c2), .int .i64 (cmp3 h1 h2), .int .i64 (cmp3 l1 l2)] 3)) ?_ (hK _ _ (hJ.first (by decide) (by decide) (by decide) _ ⟨_, rfl, lit3_ints W (cmp3_in _ _) (cmp3_in _ _) (cmp3_in _ _)⟩ ((Below.refl _ _).alloc (Nat.le_refl _) _)))
      · skip
        have e9 : A.tmps[9]?.getD undef = (.int .i64 (cmp3 c1 c2)) := (by rw [hA]; kernel_rfl : A.tmps[9]?.getD undef = us 4).trans (hJ.value 4 (by decide) (hon 4 (by decide +kernel)))
        have e14 : A.tmps[14]?.getD undef = (.int .i64 (cmp3 h1 h2)) := (by rw [hA]; kernel_rfl : A.tmps[14]?.getD undef = us 9).trans (hJ.value 9 (by decide) (hon 9 (by decide +kernel)))
        have e19 : A.tmps[19]?.getD undef = (.int .i64 (cmp3 l1 l2)) := (by rw [hA]; kernel_rfl : A.tmps[19]?.getD undef = us 14).trans (hJ.value 14 (by decide) (hon 14 (by decide +kernel)))
        clear hA hK hon hJ
        go_simp
    · have hi' := Option.some.inj hi
      subst hi'
      obtain ⟨b, hz, hI⟩ := hJ.ext (hon 15 (by decide +kernel)) hnD
      refine wp_enter (f := 109) (args := #[.slice (some ⟨b, 0, none⟩) 3 3]) (w' := W) ?_ ((or3_any _ _ _ _ W trivial hI).mono ?_)
      · skip
        have e20 : A.tmps[20]?.getD undef = (.slice (some ⟨b, 0, none⟩) 3 3) := (by rw [hA]; kernel_rfl : A.tmps[20]?.getD undef = us 15).trans hz
        clear hA hK hon hJ
        go_simp
      · rintro r' wC ⟨rfl, hbC⟩
        exact ⟨_, rfl, hK _ _ (hJ.use (by decide) (by decide) hbC)⟩
    · have hi' := Option.some.inj hi
      subst hi'
      have hc : D 16 := (hon 16 (by decide +kernel))
      refine wp_val (v := (.int .i64 (or3 (cmp3 c1 c2) (cmp3 h1 h2) (cmp3 l1 l2)))) (w' := W) ?_ (hK _ _ (hJ.later (i := 17) (by decide) hc (by decide) (Below.refl _ _)))
      · skip
        have e21 : A.tmps[21]?.getD undef = (.int .i64 (or3 (cmp3 c1 c2) (cmp3 h1 h2) (cmp3 l1 l2))) := (by rw [hA]; kernel_rfl : A.tmps[21]?.getD undef = us 16).trans (hJ.value 16 (by decide) (hon 16 (by decide +kernel)))
        clear hA hK hon hJ
        go_simp
  · intro us D W hJ hall
    have u17 : us 17 = (.int .i64 (or3 (cmp3 c1 c2) (cmp3 h1 h2) (cmp3 l1 l2))) := hJ.value 17 (by decide) (hall 17 (by decide))
    have hb := hJ.bel
    clear hJ hall Hmk
    simp only [actL, slotL, putL, List.setIfInBounds_toArray, List.set_cons_zero, List.set_cons_succ, Nat.zero_add, Nat.reduceAdd, u17]
    clear u17
    go_wp2_with fail
    go_ret
    exact ⟨rfl, hBw.trans (hb.mono hBw.size)⟩
end Go.Proofs.YtmcncflieoolmaaGreat

/- The walks of nash's times and product; no condition but sizes. -/
namespace Go.Proofs.YtmcncflieoolmaaGreat
set_option linter.unusedVariables false
set_option linter.unusedSimpArgs false
open Go.ChangeShapes Go.WideShapes Go.ChangeAt Go.RowKit Go.Deep

/-- A product as the program holds it. -/
def pvV (c P : Int) : List Value := [.int .i64 c, .int .i64 (P / 1000000000000), .int .i64 (P % 1000000000000)]
theorem prod_div {P x : Int} : (P * x) / 1000000000000 = P / 1000000000000 * x + (P % 1000000000000 * x) / 1000000000000 := by
  have h := Int.mul_ediv_add_emod P 1000000000000
  have e : P * x = P % 1000000000000 * x + 1000000000000 * (P / 1000000000000 * x) := by
    have e2 : P * x = (1000000000000 * (P / 1000000000000) + P % 1000000000000) * x := by rw [h]
    rw [e2, Int.add_mul, Int.mul_assoc]; omega
  rw [e, Int.add_mul_ediv_left _ _ (by decide)]; omega
theorem prod_mod {P x : Int} : (P * x) % 1000000000000 = (P % 1000000000000 * x) % 1000000000000 := by
  rw [Int.mul_emod, Int.mul_emod (P % 1000000000000) x, Int.emod_emod_of_dvd _ (Int.dvd_refl _)]
set_option maxHeartbeats 1600000 in
theorem times_any (c P x : Int) (w : World) (hc : 0 ≤ c ∧ c ≤ 100) (hP : 0 ≤ P) (hx : 0 ≤ x ∧ x ≤ 10000) (hPx : 0 < x → P ≤ 1000000000000) :
    Calls Tryz.prog 108 #[.agg (pvV c P).toArray, .int .i64 x] w fun e w' => e = .returned (.agg (if 0 < x then (pvV (c + 1) (P * x)).toArray else (pvV c P).toArray)) ∧ Below w.heap.size w w' := by
  obtain ⟨W0, hW0⟩ : ∃ W, w.alloc (.cells #[.int .i64 c, .int .i64 (P / 1000000000000), .int .i64 (P % 1000000000000)] 41) = W := ⟨_, rfl⟩
  obtain ⟨W1, hW1⟩ : ∃ W, W0.alloc (.cells #[.int .i64 0, .int .i64 0, .int .i64 0] 41) = W := ⟨_, rfl⟩
  have hB0 := below_alloc hW0
  have hB1 := below_alloc hW1
  have hs0 : W0.heap.size = w.heap.size + 1 := by rw [← hW0]; simp
  have b0 : BoxV W1 w.heap.size [.int .i64 c, .int .i64 (P / 1000000000000), .int .i64 (P % 1000000000000)] := (BoxV.new rfl hW0).below hB1
  have a1 : Arr W1 (w.heap.size + 1) [.int .i64 0, .int .i64 0, .int .i64 0] 41 := Arr.new hs0 hW1
  have hBw : Below w.heap.size w W1 := hB0.trans (hB1.mono hB0.size)
  have c0 := b0.cell 0 _ rfl
  have c1 := b0.cell 1 _ rfl
  have c2 := b0.cell 2 _ rfl
  have z0 := a1.cell (j := 0) rfl
  have z1 := a1.cell (j := 1) rfl
  have z2 := a1.cell (j := 2) rfl
  have f0 := a1.free 0
  have f1 := a1.free 1
  have f2 := a1.free 2
  have HW0 := Lib.hid hW0
  have HW1 := Lib.hid hW1
  have hl1 : 0 ≤ P % 1000000000000 := Int.emod_nonneg _ (by decide)
  have hl2 : P % 1000000000000 < 1000000000000 := Int.emod_lt_of_pos _ (by decide)
  have HA1 := Lib.hid a1
  clear hW0 hW1 hB0 hB1 hs0 b0 a1
  by_cases h0 : 0 < x
  · have hd : decide (x ≤ 0) = false := by rw [decide_eq_false_iff_not]; omega
    have hP12 := hPx h0
    have hh1 : 0 ≤ P / 1000000000000 := Int.ediv_nonneg hP (by decide)
    have hh2 : P / 1000000000000 ≤ 1 := by omega
    have HD := Lib.hid (prod_div (P := P) (x := x))
    have HM := Lib.hid (prod_mod (P := P) (x := x))
    obtain ⟨L, hL⟩ : ∃ L, P % 1000000000000 = L := ⟨_, rfl⟩
    obtain ⟨Q, hQ⟩ : ∃ Q, P / 1000000000000 = Q := ⟨_, rfl⟩
    have HL := Lib.hid hL
    have HQ := Lib.hid hQ
    rw [hL] at c2 hl1 hl2 HD HM
    rw [hQ] at c1 hh1 hh2 HD
    have hlx1 : 0 ≤ L * x := Int.mul_nonneg hl1 (by omega)
    have hlx2 : L * x ≤ 10000000000000000 := Int.le_trans (Int.mul_le_mul_of_nonneg_right (Int.le_of_lt hl2) (by omega)) (by omega)
    have hqx1 : 0 ≤ Q * x := Int.mul_nonneg hh1 (by omega)
    have hqx2 : Q * x ≤ 10000 := Int.le_trans (Int.mul_le_mul_of_nonneg_right hh2 (by omega)) (by omega)
    have hw1 : IntKind.i64.wrap (L * x) = L * x := IntWalk.i64_in _ (by omega)
    have hw3 : IntKind.i64.wrap (Q * x) = Q * x := IntWalk.i64_in _ (by omega)
    obtain ⟨lx, hlx⟩ : ∃ y, L * x = y := ⟨_, rfl⟩
    obtain ⟨qx, hqx⟩ : ∃ y, Q * x = y := ⟨_, rfl⟩
    rw [hlx] at hw1 hlx1 hlx2 HD HM
    rw [hqx] at hw3 hqx1 hqx2 HD
    have ht1 : Int.tdiv lx 1000000000000 = lx / 1000000000000 := Int.tdiv_eq_ediv_of_nonneg hlx1
    have ht2 : Int.tmod lx 1000000000000 = lx % 1000000000000 := Int.tmod_eq_emod_of_nonneg hlx1
    have hw4 : IntKind.i64.wrap (qx + lx / 1000000000000) = qx + lx / 1000000000000 := IntWalk.i64_in _ (by omega)
    have hw5 : IntKind.i64.wrap (c + 1) = c + 1 := IntWalk.i64_in _ (by omega)
    have hw6 : IntKind.i64.wrap (lx / 1000000000000) = lx / 1000000000000 := IntWalk.i64_in _ (by omega)
    have hw7 : IntKind.i64.wrap (lx % 1000000000000) = lx % 1000000000000 := IntWalk.i64_in _ (by omega)
    rw [if_pos h0]
    unfold pvV
    rw [HD.out, HM.out, hL, hQ]
    clear hL hQ h0 hP hPx hP12
    go_enter Tryz.func108, Tryz.ntmps108
    go_upto_region 1 with (fail)
    go_wp2_with fail
    refine bodyPost_ret (v := .agg #[.int .i64 (c + 1), .int .i64 (qx + lx / 1000000000000), .int .i64 (lx % 1000000000000)]) (by simp [results, Tryz.results108, go_sem]) rfl ⟨rfl, ?_⟩
    exact ((Below.refl _ _).alloc (Nat.le_refl _) _).alloc (by simp) _
  · have hd : decide (x ≤ 0) = true := by rw [decide_eq_true_iff]; omega
    rw [if_neg h0]
    unfold pvV
    obtain ⟨L, hL⟩ : ∃ L, P % 1000000000000 = L := ⟨_, rfl⟩
    obtain ⟨Q, hQ⟩ : ∃ Q, P / 1000000000000 = Q := ⟨_, rfl⟩
    rw [hL] at c2 ⊢
    rw [hQ] at c1 ⊢
    rw [hL, hQ] at HW0
    clear hL hQ h0 hP hPx
    go_enter Tryz.func108, Tryz.ntmps108
    go_upto_region 1 with (fail)
    rw [HW0.out, HW1.out]
    go_wp2_with fail
    have a3 := ((HA1.out.set (j := 0) (u := .int .i64 c)).set (j := 1) (u := .int .i64 Q)).set (j := 2) (u := .int .i64 L)
    have y0 := a3.cell (j := 0) rfl
    have y1 := a3.cell (j := 1) rfl
    have y2 := a3.cell (j := 2) rfl
    have hBf : Below w.heap.size w (((W1.setCell ⟨w.heap.size + 1, 0, none⟩ (.int .i64 c)).setCell ⟨w.heap.size + 1, 1, none⟩ (.int .i64 Q)).setCell ⟨w.heap.size + 1, 2, none⟩ (.int .i64 L)) := ((hBw.setCell (p := ⟨w.heap.size + 1, 0, none⟩) (by simp) _).setCell (p := ⟨w.heap.size + 1, 1, none⟩) (by simp) _).setCell (p := ⟨w.heap.size + 1, 2, none⟩) (by simp) _
    generalize (((W1.setCell ⟨w.heap.size + 1, 0, none⟩ (.int .i64 c)).setCell ⟨w.heap.size + 1, 1, none⟩ (.int .i64 Q)).setCell ⟨w.heap.size + 1, 2, none⟩ (.int .i64 L)) = W9 at *
    refine bodyPost_ret (v := .agg #[.int .i64 c, .int .i64 Q, .int .i64 L]) (by simp [results, Tryz.results108, go_sem, y0, y1, y2]) rfl ⟨rfl, hBf⟩

/-- How many of the first k values are positive; their product. -/
def pcnt (l : List Int) : Nat → Int
  | 0 => 0
  | k + 1 => if 0 < iget l k then pcnt l k + 1 else pcnt l k
def pprd (l : List Int) : Nat → Int
  | 0 => 1
  | k + 1 => if 0 < iget l k then pprd l k * iget l k else pprd l k
theorem pcnt_in (l : List Int) : ∀ k, 0 ≤ pcnt l k ∧ pcnt l k ≤ k
  | 0 => ⟨Int.le_refl _, Int.le_refl _⟩
  | k + 1 => by
    have := pcnt_in l k
    rw [pcnt]; split <;> omega
theorem pprd_pos (l : List Int) : ∀ k, 1 ≤ pprd l k
  | 0 => Int.le_refl _
  | k + 1 => by
    have := pprd_pos l k
    rw [pprd]; split
    · rename_i h
      have := Int.mul_le_mul this (show 1 ≤ iget l k by omega) (by decide) (by omega)
      omega
    · exact this
theorem pprd_le {l : List Int} : ∀ k, (∀ j, j < k → iget l j ≤ 10000) → pprd l k ≤ 10000 ^ k
  | 0, _ => by simp [pprd]
  | k + 1, h => by
    have ih := pprd_le k (fun j hj => h j (by omega))
    have hk := h k (by omega)
    have hp := pprd_pos l k
    have e : (10000 : Int) ^ (k + 1) = 10000 ^ k * 10000 := Int.pow_succ ..
    rw [pprd, e]
    split
    · exact Int.mul_le_mul ih hk (by omega) (by omega)
    · omega
set_option maxHeartbeats 1600000 in
theorem product_any (p : Option Addr) (d : Nat) (l : List Int) (w : World) (hx : Ints w p d l) (hl : l.length ≤ 4) (hb : ∀ j, j < l.length → 0 ≤ iget l j ∧ iget l j ≤ 10000) :
    Calls Tryz.prog 70 #[.slice p l.length d] w fun e w' => e = .returned (.agg (pvV (pcnt l l.length) (pprd l l.length)).toArray) ∧ Below w.heap.size w w' := by
  obtain ⟨W0, hW0⟩ : ∃ W, w.alloc (.cells #[.int .i64 0, .int .i64 0, .int .i64 0] 41) = W := ⟨_, rfl⟩
  obtain ⟨W1, hW1⟩ : ∃ W, W0.alloc (.cells #[.int .i64 0, .int .i64 0, .int .i64 1] 41) = W := ⟨_, rfl⟩
  have hB0 := below_alloc hW0
  have hB1 := below_alloc hW1
  have hs0 : W0.heap.size = w.heap.size + 1 := by rw [← hW0]; simp
  have hs1 : W1.heap.size = w.heap.size + 2 := by rw [← hW1]; simp [hs0]
  have a0 : Arr W1 w.heap.size [.int .i64 0, .int .i64 0, .int .i64 0] 41 := (show Arr W0 w.heap.size [.int .i64 0, .int .i64 0, .int .i64 0] 41 from Arr.new rfl hW0).below hB1 (by omega)
  have a1 : Arr W1 (w.heap.size + 1) (pvV (pcnt l 0) (pprd l 0)) 41 := Arr.new hs0 hW1
  have hBw : Below w.heap.size w W1 := hB0.trans (hB1.mono hB0.size)
  have HW0 := Lib.hid hW0
  have HW1 := Lib.hid hW1
  have Hb := Lib.hid hb
  clear hW0 hW1 hB0 hB1 hs0 hb
  go_enter Tryz.func70, Tryz.ntmps70
  go_upto_region 2 with (fail)
  rw [HW0.out, HW1.out]
  go_wp2_with fail
  go_loopw [9] (fun t wr => ∃ k : Nat, k ≤ l.length ∧ t = .int .i64 k ∧ Arr wr (w.heap.size + 1) (pvV (pcnt l k) (pprd l k)) 41 ∧ Arr wr w.heap.size [.int .i64 0, .int .i64 0, .int .i64 0] 41 ∧ Below w.heap.size w wr) (fun t _ => l.length - (intOf t).toNat)
  case atStart => exact ⟨0, Nat.zero_le _, rfl, a1, a0, hBw⟩
  case round =>
    clear a0 a1
    obtain ⟨k, hk, rfl, a1, a0, hbr⟩ := hrel
    by_cases hlt : k < l.length
    · have hk1 : (k : Int) < l.length := by omega
      obtain ⟨b, o, rfl, _, hc⟩ := (hx.below hbr (Nat.le_refl _)).get hlt
      have h0 := Hb.out k hlt
      have hp1 := pprd_pos l k
      have hp2 := pprd_le (l := l) k (fun j hj => (Hb.out j (by omega)).2)
      have hcn := pcnt_in l k
      have hp3 : pprd l k ≤ 1000000000000 := by
        have hk3 : k = 0 ∨ k = 1 ∨ k = 2 ∨ k = 3 := by omega
        rcases hk3 with rfl | rfl | rfl | rfl <;> (simp only [Int.reducePow] at hp2; omega)
      have HT : Hid (Calls Tryz.prog 108 #[.agg #[.int .i64 (pcnt l k), .int .i64 (pprd l k / 1000000000000), .int .i64 (pprd l k % 1000000000000)], .int .i64 (iget l k)] wr fun e w' => e = .returned (.agg #[.int .i64 (pcnt l (k + 1)), .int .i64 (pprd l (k + 1) / 1000000000000), .int .i64 (pprd l (k + 1) % 1000000000000)]) ∧ Below wr.heap.size wr w') :=
        (times_any (pcnt l k) (pprd l k) (iget l k) wr (by omega) (by omega) h0 (fun _ => hp3)).mono fun e w' ⟨he, hb⟩ => ⟨by rw [he, pcnt, pprd]; split <;> rfl, hb⟩
      have y0 := a1.cell (j := 0) rfl
      have y1 := a1.cell (j := 1) rfl
      have y2 := a1.cell (j := 2) rfl
      generalize iget l k = u at *
      generalize pcnt l k = C0 at *
      generalize pprd l k / 1000000000000 = H0 at *
      generalize pprd l k % 1000000000000 = L0 at *
      obtain ⟨C1, hC1⟩ : ∃ x, pcnt l (k + 1) = x := ⟨_, rfl⟩
      obtain ⟨H1, hH1⟩ : ∃ x, pprd l (k + 1) / 1000000000000 = x := ⟨_, rfl⟩
      obtain ⟨L1, hL1⟩ : ∃ x, pprd l (k + 1) % 1000000000000 = x := ⟨_, rfl⟩
      rw [hC1, hH1, hL1] at HT
      have HE : Hid (pvV (pcnt l (k + 1)) (pprd l (k + 1)) = [.int .i64 C1, .int .i64 H1, .int .i64 L1]) := by unfold Hid pvV; rw [hC1, hH1, hL1]
      clear hp1 hp2 hp3 hcn hC1 hH1 hL1 h0
      go_wp2_with fail
      refine HT.out.mono ?_
      rintro e w3 ⟨rfl, hb3⟩
      have b1 := a1.below hb3 a1.lt
      have b0 := a0.below hb3 a0.lt
      have z0 := b1.cell (j := 0) rfl
      have z1 := b1.cell (j := 1) rfl
      have z2 := b1.cell (j := 2) rfl
      have f0 := b1.free 0
      have f1 := b1.free 1
      have f2 := b1.free 2
      have HB3 := Lib.hid (hbr.trans (hb3.mono hbr.size))
      have HB1 := Lib.hid b1
      have HB0 := Lib.hid b0
      clear a1 a0 b1 b0 hb3 y0 y1 y2
      go_wp2_with fail
      go_roundw
      case rel => exact ⟨k + 1, by omega, by go_num, by rw [HE.out]; exact ((HB1.out.set (j := 0) (u := .int .i64 C1)).set (j := 1) (u := .int .i64 H1)).set (j := 2) (u := .int .i64 L1), ((HB0.out.other (by omega)).other (by omega)).other (by omega), ((HB3.out.setCell (p := ⟨w.heap.size + 1, 0, none⟩) (by simp) _).setCell (p := ⟨w.heap.size + 1, 1, none⟩) (by simp) _).setCell (p := ⟨w.heap.size + 1, 2, none⟩) (by simp) _⟩
      case measure => simp [intOf]; omega
    · have hk1 : ¬ (k : Int) < l.length := by omega
      obtain rfl : k = l.length := by omega
      have y0 := a1.cell (j := 0) rfl
      have y1 := a1.cell (j := 1) rfl
      have y2 := a1.cell (j := 2) rfl
      have z0 := a0.cell (j := 0) rfl
      have z1 := a0.cell (j := 1) rfl
      have z2 := a0.cell (j := 2) rfl
      have f0 := a0.free 0
      have f1 := a0.free 1
      have f2 := a0.free 2
      obtain ⟨C1, hC1⟩ : ∃ x, pcnt l l.length = x := ⟨_, rfl⟩
      obtain ⟨H1, hH1⟩ : ∃ x, pprd l l.length / 1000000000000 = x := ⟨_, rfl⟩
      obtain ⟨L1, hL1⟩ : ∃ x, pprd l l.length % 1000000000000 = x := ⟨_, rfl⟩
      have HE : Hid (pvV (pcnt l l.length) (pprd l l.length) = [.int .i64 C1, .int .i64 H1, .int .i64 L1]) := by unfold Hid pvV; rw [hC1, hH1, hL1]
      rw [hC1] at y0
      rw [hH1] at y1
      rw [hL1] at y2
      clear hC1 hH1 hL1
      have HA0 := Lib.hid a0
      have HBr := Lib.hid hbr
      clear a0 a1 hbr
      go_wp2_with fail
      have a3 := ((HA0.out.set (j := 0) (u := .int .i64 C1)).set (j := 1) (u := .int .i64 H1)).set (j := 2) (u := .int .i64 L1)
      have x0 := a3.cell (j := 0) rfl
      have x1 := a3.cell (j := 1) rfl
      have x2 := a3.cell (j := 2) rfl
      have hBf : Below w.heap.size w (((wr.setCell ⟨w.heap.size, 0, none⟩ (.int .i64 C1)).setCell ⟨w.heap.size, 1, none⟩ (.int .i64 H1)).setCell ⟨w.heap.size, 2, none⟩ (.int .i64 L1)) := ((HBr.out.setCell (p := ⟨w.heap.size, 0, none⟩) (Nat.le_refl _) _).setCell (p := ⟨w.heap.size, 1, none⟩) (Nat.le_refl _) _).setCell (p := ⟨w.heap.size, 2, none⟩) (Nat.le_refl _) _
      generalize (((wr.setCell ⟨w.heap.size, 0, none⟩ (.int .i64 C1)).setCell ⟨w.heap.size, 1, none⟩ (.int .i64 H1)).setCell ⟨w.heap.size, 2, none⟩ (.int .i64 L1)) = W9 at *
      refine bodyPost_ret (v := .agg #[.int .i64 C1, .int .i64 H1, .int .i64 L1]) (by simp [results, Tryz.results70, go_sem, x0, x1, x2]) rfl ⟨by rw [HE.out], hBf⟩
end Go.Proofs.YtmcncflieoolmaaGreat

/- The walk of slices.Max at a list that is not empty. -/
namespace Go.Proofs.YtmcncflieoolmaaGreat
set_option linter.unusedVariables false
set_option linter.unusedSimpArgs false
open Go.ChangeShapes Go.WideShapes Go.ChangeAt Go.RowKit Go.Deep

def highTo (xs : List Int) : Nat → Int
  | 0 => iget xs 0
  | k + 1 => max (highTo xs k) (iget xs k)
theorem highTo_one (xs : List Int) : highTo xs 1 = iget xs 0 := by simp [highTo]
theorem highTo_ge (xs : List Int) : ∀ k j, j < k → iget xs j ≤ highTo xs k
  | k + 1, j, h => by
    rw [highTo]
    by_cases e : j = k
    · subst e; omega
    · have := highTo_ge xs k j (by omega); omega
theorem highTo_mem (xs : List Int) : ∀ k, 1 ≤ k → ∃ j, j < k ∧ highTo xs k = iget xs j
  | k + 1, _ => by
    by_cases h0 : k = 0
    · subst h0; exact ⟨0, by omega, highTo_one xs⟩
    · obtain ⟨j, hj, he⟩ := highTo_mem xs k (by omega)
      rw [highTo]
      by_cases h : iget xs k ≤ highTo xs k
      · exact ⟨j, by omega, by omega⟩
      · exact ⟨k, by omega, by omega⟩
set_option maxHeartbeats 800000 in
theorem sMax_any (p : Option Addr) (c : Nat) (xs : List Int) (w : World) (hx : Ints w p c xs) (h0 : 0 < xs.length) :
    Calls Tryz.prog 114 #[.slice p xs.length c] w fun e w' => e = .returned (.int .i64 (highTo xs xs.length)) ∧ w' = w := by
  have hl1 := hx.length_le
  obtain ⟨b, o, rfl, _, hc0⟩ := hx.get h0
  rw [Nat.add_zero] at hc0
  have hd : decide ((xs.length : Int) < 1) = false := by rw [decide_eq_false_iff_not]; omega
  have h01 : (0 : Int) < xs.length := by omega
  have H1 := Lib.hid (highTo_one xs)
  go_enter Tryz.func114, Tryz.ntmps114
  go_wp2_with fail
  go_loop [3, 4] (fun s t => ∃ k : Nat, 1 ≤ k ∧ k ≤ xs.length ∧ t = .int .i64 k ∧ s = .int .i64 (highTo xs k)) (fun _ t => xs.length - (intOf t).toNat)
  case atStart => exact ⟨1, Nat.le_refl _, h0, rfl, by rw [H1.out]⟩
  case round =>
    obtain ⟨k, hk0, hk, rfl, rfl⟩ := hrel
    by_cases hlt : k < xs.length
    · have hk1 : (k : Int) < xs.length := by omega
      have hc := hx.at hlt
      have HS : Hid (highTo xs (k + 1) = max (highTo xs k) (iget xs k)) := rfl
      generalize highTo xs k = y at *
      generalize iget xs k = z at *
      by_cases hyz : y ≤ z
      · have hm : max y z = z := by omega
        rw [hm] at HS
        go_wp2_with fail
        go_round
        case rel => exact ⟨k + 1, by omega, by omega, by go_num, by rw [HS.out] <;> first | rfl | (congr 1; omega)⟩
        case measure => (simp [intOf] <;> omega)
      · have hm : max y z = y := by omega
        rw [hm] at HS
        go_wp2_with fail
        go_round
        case rel => exact ⟨k + 1, by omega, by omega, by go_num, by rw [HS.out] <;> first | rfl | (congr 1; omega)⟩
        case measure => (simp [intOf] <;> omega)
    · have hk1 : ¬ (k : Int) < xs.length := by omega
      obtain rfl : k = xs.length := by omega
      go_wp2_with fail
      go_ret
      exact ⟨rfl, rfl⟩
end Go.Proofs.YtmcncflieoolmaaGreat
