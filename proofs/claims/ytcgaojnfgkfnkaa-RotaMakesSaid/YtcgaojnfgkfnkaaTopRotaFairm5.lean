/- The walk of rota.Even, for all counts.  (Printed by wip/geneven.py.) -/
import Derived.Test.YtcgaojnfgkfnkaaTopRotaAddsm1
import Derived.Test.YtcgaojnfgkfnkaaTopRotaFairm4
import Derived.Test.YtcgaojnfgkfnkaaTopRotaCheapestm4
import Derived.Test.YtcgaojnfgkfnkaaTopRotaCheapestm6
/- The walk of rota.Even, for all counts.  (Printed by wip/geneven.py.) -/
namespace Go.Proofs.Ytcgaojnfgkfnkaa
set_option linter.unusedVariables false
set_option linter.unusedSimpArgs false
open Go.ChangeShapes Go.WideShapes Go.ChangeAt Go.RowKit Go.Deep

theorem lt8e {i : Nat} (h : i < 8) : i = 0 ∨ i = 1 ∨ i = 2 ∨ i = 3 ∨ i = 4 ∨ i = 5 ∨ i = 6 ∨ i = 7 := by omega
theorem catN_two (R C : List Int) : catN [R, C] 2 = R ++ C := by simp [catN, rget]
set_option maxHeartbeats 16000000 in
set_option maxRecDepth 100000 in
theorem even32_any (p : Option Addr) (c : Nat) (v : List (List Int)) (w : World) (hx : Mat w p c v) :
    Calls Try.prog 15 #[.slice p v.length c] w fun e w' => e = .returned (.tuple #[.bool (evenB v), .int .i64 (chk32 v)]) ∧ Below w.heap.size w w' := by
  have CK := Lib.hid (check_any p c v w hx)
  by_cases hC : chk32 v ≠ 0
  · have HR := Lib.hid (evenB_bad hC)
    obtain ⟨E, eE⟩ : ∃ E, chk32 v = E := ⟨_, rfl⟩
    rw [eE] at CK hC ⊢
    have hb : (E != 0) = true := by rw [bne_iff_ne]; exact hC
    clear eE hC
    go_enter Try.func15, Try.ntmps15
    go_wp2_with fail
    refine CK.out.mono ?_
    rintro e w1 ⟨rfl, hb1⟩
    go_wp2_with fail
    go_ret2
    rw [HR.out]
    exact ⟨rfl, hb1⟩
  replace hC : chk32 v = 0 := Classical.not_not.1 hC
  have HR := Lib.hid (evenB_ok hC)
  have Hv := Lib.hid (CntM.of_chk hC)
  have h1 : 1 ≤ v.length := (chk32_zero hC).2.1
  have hl12 := Hv.out.len
  rw [hC] at CK ⊢
  clear hC
  have mkI : ∀ W, (Instr.makeSlice 23 (.int .i64 (v.length : Int)) (.int .i64 (v.length : Int))).run Try.prog W = .ok (.slice (some ⟨W.heap.size, 0, none⟩) v.length v.length) (W.alloc (.cells (zI v.length) 3)) := fun W => run_zI _ (by omega) W
  go_enter Try.func15, Try.ntmps15
  go_wp2_with fail
  refine CK.out.mono ?_
  rintro e wb ⟨rfl, hBr⟩
  have hx1 := hx.below hBr (Nat.le_refl _)
  clear CK hx
  go_upto_region 4 with (fail)
  refine wp_region_inv (by kernel_rfl) (by decide +kernel) (by decide +kernel) _ _ (MkJ 0 wb (fun k => match k with | 0 => some (.slice p v.length c) | 1 => some (.int .i64 (v.length : Int)) | 3 => some (.slice p v.length c) | 4 => some (.int .i64 (v.length : Int)) | _ => none) (fun k => match k with | 2 => some (v.length, iF fun _ => 0) | 5 => some (v.length, iF fun _ => 0) | _ => none) (fun k => match k with | 6 => some 2 | 7 => some 5 | _ => none)) ?_ ?_ ?_
  · exact fun us => MkJ.start us
  · intro us D W i o A hA hi hJ hnD hon K hK
    have hlt : i < 8 := (Array.getElem?_eq_some_iff.1 hi).1
    rcases lt8e hlt with rfl | rfl | rfl | rfl | rfl | rfl | rfl | rfl
    · have hi' := Option.some.inj hi
      subst hi'
      refine wp_val (v := (.slice p v.length c)) (w' := W) ?_ (hK _ _ (hJ.pure (i := 0) rfl rfl rfl hnD))
      · skip
        have e0 : A.tmps[0]?.getD undef = (.slice p v.length c) := by rw [hA]; kernel_rfl
        clear hA hK hon hJ
        go_simp
    · have hi' := Option.some.inj hi
      subst hi'
      refine wp_val (v := (.int .i64 (v.length : Int))) (w' := W) ?_ (hK _ _ (hJ.pure (i := 1) rfl rfl rfl hnD))
      · skip
        have e18 : A.tmps[18]?.getD undef = (.slice p v.length c) := (by rw [hA]; kernel_rfl : A.tmps[18]?.getD undef = us 0).trans (hJ.val 0 _ rfl (hon 0 (by decide +kernel)))
        clear hA hK hon hJ
        go_simp
    · have hi' := Option.some.inj hi
      subst hi'
      refine wp_val (v := .slice (some ⟨W.heap.size, 0, none⟩) v.length v.length) (w' := W.alloc (.cells (zI v.length) 3)) ?_ (hK _ _ (hJ.make (i := 2) rfl rfl rfl hnD (RowF.new fun k hk => zI_get hk)))
      · skip
        have e19 : A.tmps[19]?.getD undef = (.int .i64 (v.length : Int)) := (by rw [hA]; kernel_rfl : A.tmps[19]?.getD undef = us 1).trans (hJ.val 1 _ rfl (hon 1 (by decide +kernel)))
        clear hA hK hon hJ
        go_simp
    · have hi' := Option.some.inj hi
      subst hi'
      refine wp_val (v := (.slice p v.length c)) (w' := W) ?_ (hK _ _ (hJ.pure (i := 3) rfl rfl rfl hnD))
      · skip
        have e0 : A.tmps[0]?.getD undef = (.slice p v.length c) := by rw [hA]; kernel_rfl
        clear hA hK hon hJ
        go_simp
    · have hi' := Option.some.inj hi
      subst hi'
      refine wp_val (v := (.int .i64 (v.length : Int))) (w' := W) ?_ (hK _ _ (hJ.pure (i := 4) rfl rfl rfl hnD))
      · skip
        have e21 : A.tmps[21]?.getD undef = (.slice p v.length c) := (by rw [hA]; kernel_rfl : A.tmps[21]?.getD undef = us 3).trans (hJ.val 3 _ rfl (hon 3 (by decide +kernel)))
        clear hA hK hon hJ
        go_simp
    · have hi' := Option.some.inj hi
      subst hi'
      refine wp_val (v := .slice (some ⟨W.heap.size, 0, none⟩) v.length v.length) (w' := W.alloc (.cells (zI v.length) 3)) ?_ (hK _ _ (hJ.make (i := 5) rfl rfl rfl hnD (RowF.new fun k hk => zI_get hk)))
      · skip
        have e22 : A.tmps[22]?.getD undef = (.int .i64 (v.length : Int)) := (by rw [hA]; kernel_rfl : A.tmps[22]?.getD undef = us 4).trans (hJ.val 4 _ rfl (hon 4 (by decide +kernel)))
        clear hA hK hon hJ
        go_simp
    · have hi' := Option.some.inj hi
      subst hi'
      refine wp_val (v := us 2) (w' := W) ?_ (hK _ _ (hJ.copy (i := 6) rfl rfl rfl (hon 2 (by decide +kernel)) hnD))
      · skip
        have e20 : A.tmps[20]?.getD undef = us 2 := by rw [hA]; kernel_rfl
        clear hA hK hon hJ
        go_simp
    · have hi' := Option.some.inj hi
      subst hi'
      refine wp_val (v := us 5) (w' := W) ?_ (hK _ _ (hJ.copy (i := 7) rfl rfl rfl (hon 5 (by decide +kernel)) hnD))
      · skip
        have e23 : A.tmps[23]?.getD undef = us 5 := by rw [hA]; kernel_rfl
        clear hA hK hon hJ
        go_simp
  · intro us D W3 hJ hall
    obtain ⟨gr, R1, R2, R3⟩ := hJ.made 2 _ _ rfl (hall 2 (by decide))
    obtain ⟨gc, C1, C2, C3⟩ := hJ.made 5 _ _ rfl (hall 5 (by decide))
    have hne := hJ.dis 2 5 gr gc _ _ (hall 2 (by decide)) (hall 5 (by decide)) (by decide) (by simp) (by simp) R1 C1
    have e6 := (hJ.cop 6 2 rfl (hall 6 (by decide))).2
    have e7 := (hJ.cop 7 5 rfl (hall 7 (by decide))).2
    rw [R1] at e6
    rw [C1] at e7
    have hbel := hJ.bel
    have hB3 : Below w.heap.size w W3 := hBr.trans (hbel.mono hBr.size)
    have hgr : wb.heap.size ≤ gr := by omega
    have hgc : wb.heap.size ≤ gc := by omega
    have r0 : RowF W3 gr v.length (iF (rowF v 0 0)) := by rw [rowF_zero]; exact R3
    have c0 : RowF W3 gc v.length (iF (colF v 0 0)) := by rw [colF_zero]; exact C3
    have Hne := Lib.hid hne
    have hbW : Below wb.heap.size wb W3 := hbel
    have HsW := Lib.hid hBr.size
    have Hx : Hid (∀ W, Below wb.heap.size wb W → Mat W p c v) := fun W h => hx1.below h (Nat.le_refl _)
    have HBr := Lib.hid hBr
    clear hJ hall R1 R2 R3 C1 C2 C3 hne hbel hB3 hx1 hBr mkI
    simp only [actL, slotL, putL, List.setIfInBounds_toArray, List.set_cons_zero, List.set_cons_succ, Nat.zero_add, Nat.reduceAdd, e6, e7]
    clear e6 e7
    go_wp2_with fail
    go_loopw [26] (fun ii wk => ∃ i : Nat, i ≤ v.length ∧ ii = .int .i64 i ∧ RowF wk gr v.length (iF (rowF v i 0)) ∧ RowF wk gc v.length (iF (colF v i 0)) ∧ Below wb.heap.size wb wk) (fun ii _ => v.length - (intOf ii).toNat)
    case atStart => exact ⟨0, by omega, rfl, r0, c0, hbW⟩
    case round =>
      clear r0 c0 hbW
      obtain ⟨i, hi, rfl, hR, hC, hB⟩ := hrel
      by_cases hlt : i < v.length
      · have hi1 : (i : Int) < v.length := by omega
        obtain ⟨b, o, e, _, q1, d1, hc, hI⟩ := (Hx.out _ hB).get hlt
        have hrl := Hv.out.row i hlt
        rw [hrl] at hc
        have HI : Hid (∀ W, Below wb.heap.size wb W → ∀ k, k < v.length → ∃ b o, q1 = some ⟨b, o, none⟩ ∧ W.cell? ⟨b, o + k, none⟩ = some (.int .i64 (iget (rget v i) k))) := fun W hW k hk => by
          obtain ⟨b2, o2, e2, _, q2, d2, hc2, hI2⟩ := (Hx.out _ hW).get hlt
          cases e.symm.trans e2
          rw [hrl] at hc2
          have hq : q1 = q2 := by
            have hlt1 : b < wb.heap.size := by
              obtain ⟨b3, o3, e3, h3, _⟩ := (Hx.out wb (Below.refl _ _)).get hlt
              cases e.symm.trans e3; exact h3
            have a1 := hB.cell (p := ⟨b, o + i, none⟩) hlt1
            have a2 := hW.cell (p := ⟨b, o + i, none⟩) hlt1
            rw [hc] at a1
            rw [hc2] at a2
            rw [← a1] at a2
            simp at a2
            exact a2.1.symm
          subst hq
          obtain ⟨b4, o4, e4, _, h4⟩ := hI2.get (j := k) (by rw [hrl]; exact hk)
          exact ⟨b4, o4, e4, h4⟩
        subst e
        clear hI hrl
        go_wp2_with fail
        go_loopw [33] (fun kk wk => ∃ k : Nat, k ≤ v.length ∧ kk = .int .i64 k ∧ RowF wk gr v.length (iF (rowF v i k)) ∧ RowF wk gc v.length (iF (colF v i k)) ∧ Below wb.heap.size wb wk) (fun kk _ => v.length - (intOf kk).toNat)
        case atStart => exact ⟨0, by omega, rfl, hR, hC, hB⟩
        case round =>
          clear hR hC hB hc
          obtain ⟨k, hk, rfl, hR, hC, hB⟩ := hrel
          by_cases hkl : k < v.length
          · have hk1 : (k : Int) < v.length := by omega
            obtain ⟨b4, o4, rfl, h4⟩ := HI.out _ hB k hkl
            have cR : wr.cell? ⟨gr, i, none⟩ = some (.int .i64 (rowF v i k i)) := hR.cell i hlt
            have fR := hR.live i hlt
            have cC : wr.cell? ⟨gc, k, none⟩ = some (.int .i64 (colF v i k k)) := hC.cell k hkl
            have fC := hC.live k hkl
            rw [rowF_at] at cR
            rw [colF_at] at cC
            have b1 := sum_cnt (fun k h => Hv.out.cb i k hlt h) k hk
            have b2 := sum_cnt (fun a h => Hv.out.cb a k h hkl) i hi
            have e1 := Hv.out.cb i k hlt hkl
            have sR := rowF_step v i k
            have sC := colF_step v i k
            obtain ⟨X, eX⟩ : ∃ X, sumTo (fun k => iget (rget v i) k) k = X := ⟨_, rfl⟩
            obtain ⟨Y, eY⟩ : ∃ X, sumTo (fun a => iget (rget v a) k) i = X := ⟨_, rfl⟩
            obtain ⟨U, eU⟩ : ∃ X, iget (rget v i) k = X := ⟨_, rfl⟩
            rw [eX, eU] at sR
            rw [eY, eU] at sC
            rw [eX] at b1 cR
            rw [eY] at b2 cC
            rw [eU] at e1 h4
            have w1 : IntKind.i64.wrap (X + U) = X + U := IntWalk.i64_in _ (by omega)
            have w2 : IntKind.i64.wrap (Y + U) = Y + U := IntWalk.i64_in _ (by omega)
            have hR2 := (hR.set (.int .i64 (X + U)) hlt).other (g' := gc) (j := k) (v := .int .i64 (Y + U)) (fun e => Hne.out e.symm)
            have hC2 := (hC.other (g' := gr) (j := i) (v := .int .i64 (X + U)) Hne.out).set (.int .i64 (Y + U)) hkl
            rw [iF_upd, sR] at hR2
            rw [iF_upd, sC] at hC2
            have hB2 := (hB.setCell (p := ⟨gr, i, none⟩) hgr (.int .i64 (X + U))).setCell (p := ⟨gc, k, none⟩) hgc (.int .i64 (Y + U))
            have cC2 : (wr.setCell ⟨gr, i, none⟩ (.int .i64 (X + U))).cell? ⟨gc, k, none⟩ = some (.int .i64 Y) := (World.cell?_setCell_other _ _ _ _ (fun e => Hne.out (by cases e; rfl))).trans cC
            have fC2 : (wr.setCell ⟨gr, i, none⟩ (.int .i64 (X + U))).frozen? ⟨gc, k, none⟩ = false := by rw [World.frozen?_setCell]; exact fC
            clear b1 b2 e1 sR sC eX eY eU hR hC hB
            go_wp2_with fail
            go_roundw
            case rel => exact ⟨k + 1, by omega, by go_num, hR2, hC2, hB2⟩
            case measure => simp [intOf]; omega
          · have hk1 : ¬ (k : Int) < v.length := by omega
            obtain rfl : k = v.length := by omega
            rw [rowF_next] at hR
            have hC2 : RowF wr gc v.length (iF (colF v (i + 1) 0)) := hC.congr fun k hk => by simp [iF, colF_next v i hk]
            clear hC
            go_wp2_with fail
            go_roundw
            case rel => exact ⟨i + 1, by omega, by go_num, hR, hC2, hB⟩
            case measure => simp [intOf]; omega
      · have hi1 : ¬ (i : Int) < v.length := by omega
        obtain rfl : i = v.length := by omega
        have iR := ints_rowF (hR.congr (f' := iF (rowS v)) fun j hj => by simp [iF, rowF_all v hj]) (fun j hj => by have hq : 0 ≤ rowS v j ∧ rowS v j ≤ 400 * v.length := sum_cnt (fun k h => Hv.out.cb j k hj h) v.length (Nat.le_refl _); exact ⟨by omega, by omega⟩) (by omega)
        have iC := ints_rowF (hC.congr (f' := iF (colS v)) fun j hj => by simp [iF, colF_all]) (fun j hj => by have := sum_cnt (fun a h => Hv.out.cb a j h hj) v.length (Nat.le_refl _); unfold colS; exact ⟨by omega, by omega⟩) (by omega)
        have hBw : Below w.heap.size w wr := HBr.out.trans (hB.mono HsW.out)
        have hcl : (catN v v.length).length ≤ 100000 := by
          rw [catN_len Hv.out.row _ (Nat.le_refl _)]
          have := Nat.mul_le_mul hl12 hl12; omega
        have CA := Lib.hid (concat_any p c v wr (Hx.out _ hB) hcl)
        have hcl0 : 0 < (catN v v.length).length := by rw [catN_len Hv.out.row _ (Nat.le_refl _)]; exact Nat.mul_pos (by omega) (by omega)
        have hIff := lvl_iff Hv.out h1
        have hcb : ∀ x ∈ catN v v.length, 0 ≤ x ∧ x ≤ 400 := fun x hx => by
          obtain ⟨i, hi, hm⟩ := (mem_catN _).1 hx
          obtain ⟨k, hk, rfl⟩ := mem_iget hm
          exact Hv.out.cb i k hi (by rw [← Hv.out.row i hi]; exact hk)
        have hlo := hcb _ (lowTo_in hcl0)
        have hhi := hcb _ (highTo_in hcl0)
        obtain ⟨K, eK⟩ : ∃ K, catN v v.length = K := ⟨_, rfl⟩
        rw [eK] at CA hcl0 hIff hlo hhi
        have HIff := Lib.hid hIff
        clear hR hC hIff hcb eK hcl
        go_wp2_with fail
        refine CA.out.mono ?_
        rintro e w4 ⟨pk, ck, rfl, hOK, hb4⟩
        have iR4 := iR.below hb4 (Nat.le_refl _)
        have iC4 := iC.below hb4 (Nat.le_refl _)
        have hB4 := hBw.trans (hb4.mono hBw.size)
        have hML := Mat.lit w4 [(some ⟨gr, 0, none⟩, v.length, (List.range v.length).map (rowS v)), (some ⟨gc, 0, none⟩, v.length, (List.range v.length).map (colS v))] (by simp) (fun r hr => by
          rcases List.mem_cons.1 hr with rfl | hr
          · exact iR4
          · rw [List.mem_singleton] at hr; subst hr; exact iC4)
        simp only [List.map_cons, List.map_nil, List.length_map, List.length_range, List.length_cons, List.length_nil] at hML
        obtain ⟨W5, hW5⟩ : ∃ W, w4.alloc (.cells #[.slice (some ⟨gr, 0, none⟩) v.length v.length, .slice (some ⟨gc, 0, none⟩) v.length v.length] 23) = W := ⟨_, rfl⟩
        have hM5 : Mat W5 (some ⟨w4.heap.size, 0, none⟩) 2 [(List.range v.length).map (rowS v), (List.range v.length).map (colS v)] := by rw [← hW5]; exact hML
        have hb5 := below_alloc hW5
        have hK5 := hOK.ints.below hb5 (Nat.le_refl _)
        have hB5 := hB4.trans (hb5.mono hB4.size)
        have CB0 := concat_any (some ⟨w4.heap.size, 0, none⟩) 2 _ W5 hM5 (by show (catN [_, _] 2).length ≤ 100000; rw [catN_two]; simp; omega)
        have e5 : catN [(List.range v.length).map (rowS v), (List.range v.length).map (colS v)] [(List.range v.length).map (rowS v), (List.range v.length).map (colS v)].length = sumsL v := catN_two _ _
        rw [e5] at CB0
        have CB : Hid (Calls Try.prog 32 #[.slice (some ⟨w4.heap.size, 0, none⟩) 2 2] W5 (Gives W5 (sumsL v))) := CB0
        have hsl0 : 0 < (sumsL v).length := by rw [sumsL_len]; omega
        obtain ⟨S, eS⟩ : ∃ S, sumsL v = S := ⟨_, rfl⟩
        rw [eS] at CB hsl0 HIff
        clear iR iC iR4 iC4 hML hM5 CB0 e5 eS hOK hb4 hb5 hB4 hBw hB CA
        go_wp2_with fail
        refine CB.out.mono ?_
        rintro e w6 ⟨ps, cs, rfl, hOS, hb6⟩
        have hB6 := hB5.trans (hb6.mono hB5.size)
        have iS := hOS.ints
        have iK := hK5.below hb6 (Nat.le_refl _)
        have m1 := Lib.hid (sMin_any ps cs S w6 iS hsl0)
        have m2 := Lib.hid (sMax_any ps cs S w6 iS hsl0)
        have m3 := Lib.hid (sMax_any pk ck K w6 iK hcl0)
        have m4 := Lib.hid (sMin_any pk ck K w6 iK hcl0)
        obtain ⟨x1, f1⟩ : ∃ x, lowTo S S.length = x := ⟨_, rfl⟩
        obtain ⟨x2, f2⟩ : ∃ x, highTo S S.length = x := ⟨_, rfl⟩
        obtain ⟨x3, f3⟩ : ∃ x, highTo K K.length = x := ⟨_, rfl⟩
        obtain ⟨x4, f4⟩ : ∃ x, lowTo K K.length = x := ⟨_, rfl⟩
        rw [f1] at m1
        rw [f2] at m2
        rw [f3] at m3 hhi
        rw [f4] at m4 hlo
        rw [f1, f2, f3, f4] at HIff
        have hw : IntKind.i64.wrap (x3 - x4) = x3 - x4 := IntWalk.i64_in _ (by omega)
        clear f1 f2 f3 f4 hOS hK5 hb6 iS iK hlo hhi CB
        by_cases hq : x1 = x2
        · have hq1 : (x1 == x2) = true := by simpa using hq
          have HE : Hid (lvlB v = decide (x3 - x4 ≤ 1)) := by
            unfold Hid
            by_cases h : x3 - x4 ≤ 1
            · rw [decide_eq_true h, lvlB_true]; exact HIff.out.2 ⟨hq, h⟩
            · rw [decide_eq_false h]; exact lvlB_false fun h2 => h (HIff.out.1 h2).2
          clear hq
          go_wp2_with fail
          refine m1.out.mono ?_
          rintro e w7 ⟨rfl, hw7⟩
          subst w7
          go_wp2_with fail
          refine m2.out.mono ?_
          rintro e w7 ⟨rfl, hw7⟩
          subst w7
          go_wp2_with fail
          refine m3.out.mono ?_
          rintro e w7 ⟨rfl, hw7⟩
          subst w7
          go_wp2_with fail
          refine m4.out.mono ?_
          rintro e w7 ⟨rfl, hw7⟩
          subst w7
          go_wp2_with fail
          go_ret2
          rw [HR.out, HE.out]
          exact ⟨rfl, hB6⟩
        · have hq1 : (x1 == x2) = false := by rw [beq_eq_false_iff_ne]; exact hq
          have HE : Hid (lvlB v = false) := lvlB_false fun h => hq (HIff.out.1 h).1
          clear hq
          go_wp2_with fail
          refine m1.out.mono ?_
          rintro e w7 ⟨rfl, hw7⟩
          subst w7
          go_wp2_with fail
          refine m2.out.mono ?_
          rintro e w7 ⟨rfl, hw7⟩
          subst w7
          go_wp2_with fail
          go_ret2
          rw [HR.out, HE.out]
          exact ⟨rfl, hB6⟩
end Go.Proofs.Ytcgaojnfgkfnkaa
