/- The walk of the law's leased: a valid lease of the best assignment, without envy, fits all that is told of the flat.  (Printed by wip/gentopl.py.) -/
import Derived.Test.YtmcncflieoolmaaTopTopRentm24
import Derived.Test.YtmcncflieoolmaaTopTopRentm25
import Derived.Test.YtmcncflieoolmaaTopTopRentm18
import Derived.Test.YtmcncflieoolmaaTopTopRentm9
import Derived.Test.YtmcncflieoolmaaTopTopRentm22
import Derived.Test.YtmcncflieoolmaaTopTopRentm21
import Derived.Test.YtmcncflieoolmaaTopTopRentm10
import Derived.Test.YtmcncflieoolmaaTopTopRentm16
import Derived.Deep.DeepCutAuto
/- The walk of the law's leased: a valid lease of the best assignment, without envy, fits all that is told of the flat.  (Printed by wip/gentopl.py.) -/
namespace Go.Proofs.Ytmcncflieoolmaa
set_option linter.unusedVariables false
set_option linter.unusedSimpArgs false
open Go.ChangeShapes Go.WideShapes Go.ChangeAt Go.RowKit Go.Deep

theorem rt14 {i : Nat} (h : i < 14) : i = 0 ∨ i = 1 ∨ i = 2 ∨ i = 3 ∨ i = 4 ∨ i = 5 ∨ i = 6 ∨ i = 7 ∨ i = 8 ∨ i = 9 ∨ i = 10 ∨ i = 11 ∨ i = 12 ∨ i = 13 := by omega
theorem rt15 {i : Nat} (h : i < 15) : i = 0 ∨ i = 1 ∨ i = 2 ∨ i = 3 ∨ i = 4 ∨ i = 5 ∨ i = 6 ∨ i = 7 ∨ i = 8 ∨ i = 9 ∨ i = 10 ∨ i = 11 ∨ i = 12 ∨ i = 13 ∨ i = 14 := by omega
theorem rt18 {i : Nat} (h : i < 18) : i = 0 ∨ i = 1 ∨ i = 2 ∨ i = 3 ∨ i = 4 ∨ i = 5 ∨ i = 6 ∨ i = 7 ∨ i = 8 ∨ i = 9 ∨ i = 10 ∨ i = 11 ∨ i = 12 ∨ i = 13 ∨ i = 14 ∨ i = 15 ∨ i = 16 ∨ i = 17 := by omega
theorem range_ok (p : Option Addr) (c : Nat) (v : List (List Int)) (r : Int) (j : Nat) (w : World) (hx : Mat w p c v) (hc : chkR v r = 0) (hj : j < v.length) :
    Calls Try.prog 13 #[.agg #[.slice p v.length c, .int .i64 r], .int .i64 (j : Int)] w fun e w' => e = .returned (.tuple #[.agg #[.int .i64 (rN (lowI v r j v.length) v.length), .int .i64 (rD (lowI v r j v.length) v.length)], .agg #[.int .i64 (rN (highI v r j v.length) v.length), .int .i64 (rD (highI v r j v.length) v.length)], .int .i64 0]) ∧ Below w.heap.size w w' := by
  have h6 := (chkR_zero.1 hc).1.2.1
  have h := roomRange_any p c v r j w hx ⟨by omega, by omega⟩
  obtain ⟨s1, s2, s3⟩ := rng_in (v := v) (r := r) hc hj
  rw [s1, s2, s3] at h
  unfold ratV at h
  exact h
theorem stake_ok (p : Option Addr) (c : Nat) (v : List (List Int)) (r : Int) (i : Nat) (w : World) (hx : Mat w p c v) (hc : chkR v r = 0) (hi : i < v.length) :
    Calls Try.prog 28 #[.agg #[.slice p v.length c, .int .i64 r], .int .i64 (i : Int)] w fun e w' => e = .returned (.tuple #[.agg #[.int .i64 (rN (stLo v r i) v.length), .int .i64 (rD (stLo v r i) v.length)], .agg #[.int .i64 (rN (stHi v r i) v.length), .int .i64 (rD (stHi v r i) v.length)], .int .i64 0]) ∧ Below w.heap.size w w' := by
  have h6 := (chkR_zero.1 hc).1.2.1
  have h := rentStake_any p c v r i w hx ⟨by omega, by omega⟩
  obtain ⟨s1, s2, s3⟩ := sk_in (v := v) (r := r) hc hi
  rw [s1, s2, s3] at h
  unfold ratV at h
  exact h
theorem valueT_ok (p q : Option Addr) (c d : Nat) (v : List (List Int)) (a : List Int) (w : World) (hv : Bids v) (hA : IsA a v.length) (hx : Mat w p c v) (hy : Ints w q d a) :
    Calls Try.prog 32 #[.slice p v.length c, .slice q a.length d] w fun e w' => e = .returned (.tuple #[.int .i64 (worthI v a), .int .i64 0]) ∧ Below w.heap.size w w' := by
  have h6 := hv.2.1
  have hl := hA.1
  refine (valueTop_any p q c d v a w hx hy (by omega)).mono ?_
  rintro e w' ⟨rfl, hb⟩
  exact ⟨by rw [show valN v a = worthI v a by unfold valN; rw [if_pos ⟨hv, hA⟩], show valE v a = 0 by unfold valE; rw [if_pos hv, if_pos hA]], hb⟩
theorem provesT_ok (p q r : Option Addr) (c d f : Nat) (v : List (List Int)) (a pr : List Int) (w : World) (hv : Bids v) (hA : IsA a v.length) (hP : PricedP pr v.length) (hx : Mat w p c v) (hy : Ints w q d a) (hz : Ints w r f pr) :
    Calls Try.prog 31 #[.slice p v.length c, .slice q a.length d, .slice r pr.length f] w fun e w' => e = .returned (.tuple #[.bool (contentB v a pr), .int .i64 0]) ∧ Below w.heap.size w w' := by
  have h6 := hv.2.1
  have hl := hA.1
  refine (proves_any p q r c d f v a pr w hx hy hz (by omega)).mono ?_
  rintro e w' ⟨rfl, hb⟩
  obtain ⟨e1, e2⟩ := prvB_on hv ⟨hA, hP⟩
  exact ⟨by rw [e1, e2], hb⟩
/-- What lies from the flat and the lease on. -/
structure TopS (w W : World) (p q s : Option Addr) (c d f : Nat) (v : List (List Int)) (r : Int) (X Y : List Int) (z : Nat) : Prop where
  bX : BoxV W w.heap.size [.slice p v.length c, .int .i64 r]
  bL : BoxV W (w.heap.size + 1) [.slice q X.length d, .slice s Y.length f, .int .i64 z]
  mX : Mat W p c v
  mA : Ints W q d X
  mP : Ints W s f Y
  hB : Below w.heap.size w W
theorem TopS.step {w W W' : World} {p q s : Option Addr} {c d f : Nat} {v : List (List Int)} {r : Int} {X Y : List Int} {z : Nat} (h : TopS w W p q s c d f v r X Y z) (hb : Below W.heap.size W W') : TopS w W' p q s c d f v r X Y z :=
  ⟨h.bX.below hb, h.bL.below hb, h.mX.below hb (Nat.le_refl _), h.mA.below hb (Nat.le_refl _), h.mP.below hb (Nat.le_refl _), h.hB.trans (hb.mono h.hB.size)⟩
theorem rat60 {x : Int} {n : Nat} {M : Int} (h : -M ≤ x ∧ x ≤ M) : True := trivial

set_option maxHeartbeats 16000000 in
set_option maxRecDepth 100000 in
theorem leasedTop_any (p q s : Option Addr) (c d f : Nat) (v : List (List Int)) (r : Int) (X Y : List Int) (z : Nat) (w : World) (hx : Mat w p c v) (hy : Ints w q d X) (hz : Ints w s f Y) (hX : X = bestA v) (hv : vldR v r X Y z = 0) (hef : EF v X (iget Y) z) :
    Calls Try.prog 9 #[.agg #[.slice p v.length c, .int .i64 r], .agg #[.slice q X.length d, .slice s Y.length f, .int .i64 z]] w fun e w' => e = .returned (.bool true) ∧ Below w.heap.size w w' := by
  obtain ⟨Wx, hWx⟩ : ∃ W, w.alloc (.cells #[.slice p v.length c, .int .i64 r] 24) = W := ⟨_, rfl⟩
  obtain ⟨W0, hW0⟩ : ∃ W, Wx.alloc (.cells #[.slice q X.length d, .slice s Y.length f, .int .i64 z] 29) = W := ⟨_, rfl⟩
  have hB1 := below_alloc hWx
  have hB2 := below_alloc hW0
  have hs : Wx.heap.size = w.heap.size + 1 := by rw [← hWx]; simp
  have hB : Below w.heap.size w W0 := hB1.trans (hB2.mono hB1.size)
  have hS : TopS w W0 p q s c d f v r X Y z := ⟨(BoxV.new rfl hWx).below hB2, BoxV.new hs hW0, hx.below hB (Nat.le_refl _), hy.below hB (Nat.le_refl _), hz.below hB (Nat.le_refl _), hB⟩
  have HWx := Lib.hid hWx
  have HW0 := Lib.hid hW0
  clear hWx hW0 hB1 hB2 hs hx hy hz hB
  obtain ⟨hc, hVP⟩ := vld_zero.1 hv
  have hg := good_of hv
  have h0 := hg.bids.1
  have h6 := hg.six
  have hz1 : (1 : Int) ≤ z := hg.z1
  have hz2 : (z : Int) ≤ 60 := hg.z2
  have Hc := Lib.hid hc
  have Hv := Lib.hid hv
  have Hef := Lib.hid hef
  have Hg := Lib.hid hg
  have HXl := Lib.hid hg.alen
  have HYl := Lib.hid hg.plen
  have HX := Lib.hid hX
  have Hsum : Hid (sumTo (iget Y) v.length = r * z) := by have := hVP.2.2.2.2.2; rw [hg.plen] at this; exact this
  have HnE : Hid (envsL v r X Y z = []) := (envs_nil hv).2 hef
  clear hc hVP hg hv hef hX
  go_enter Try.func9, Try.ntmps9
  go_upto_region 1 with (fail)
  rw [HWx.out, HW0.out]
  have cX0 := hS.bX.cell 0 _ rfl
  have cX1 := hS.bX.cell 1 _ rfl
  have cL0 := hS.bL.cell 0 _ rfl
  have cL1 := hS.bL.cell 1 _ rfl
  have cL2 := hS.bL.cell 2 _ rfl
  go_wp2_with fail
  refine ((by have h := refValid_any p q s c d f v r X Y z W0 hS.mX hS.mA hS.mP; rw [Hv.out] at h; exact h : Calls Try.prog 24 #[.agg #[.slice p v.length c, .int .i64 r], .agg #[.slice q X.length d, .slice s Y.length f, .int .i64 z]] W0 fun e w' => e = .returned (.int .i64 0) ∧ Below W0.heap.size W0 w').mono ?_)
  rintro e w1 ⟨rfl, hb⟩
  replace hS := hS.step hb
  clear hb cX0 cX1 cL0 cL1 cL2
  have cX0 := hS.bX.cell 0 _ rfl
  have cX1 := hS.bX.cell 1 _ rfl
  have cL0 := hS.bL.cell 0 _ rfl
  have cL1 := hS.bL.cell 1 _ rfl
  have cL2 := hS.bL.cell 2 _ rfl
  go_wp2_with fail
  refine ((by have h := roomEnvies_any p q s c d f v r X Y z w1 hS.mX hS.mA hS.mP (by have := HXl.out; omega); rw [Hv.out, HnE.out] at h; exact h : Calls Try.prog 25 #[.agg #[.slice p v.length c, .int .i64 r], .agg #[.slice q X.length d, .slice s Y.length f, .int .i64 z]] w1 fun e w' => ∃ p' c', e = .returned (.tuple #[.slice p' 0 c', .int .i64 0]) ∧ OwnP w' w1.heap.size p' c' [] ∧ Below w1.heap.size w1 w').mono ?_)
  rintro e w2 ⟨pe, ce, rfl, _, hb⟩
  replace hS := hS.step hb
  clear hb cX0 cX1 cL0 cL1 cL2
  obtain ⟨by0, oy, rfl, _, hcy⟩ := hS.mP.get (j := 0) (by rw [HYl.out]; exact h0)
  rw [Nat.add_zero] at hcy
  have hl0 : (0 : Int) < Y.length := by rw [HYl.out]; omega
  have cX0 := hS.bX.cell 0 _ rfl
  have cX1 := hS.bX.cell 1 _ rfl
  have cL0 := hS.bL.cell 0 _ rfl
  have cL1 := hS.bL.cell 1 _ rfl
  have cL2 := hS.bL.cell 2 _ rfl
  go_wp2_with fail
  have HS := Lib.hid hS
  clear hS hcy cX0 cX1 cL0 cL1 cL2
  go_loopw [8, 9] (fun l t wr => ∃ j : Nat, j ≤ v.length ∧ l = .int .i64 (lowTo Y j) ∧ t = .int .i64 j ∧ Below w2.heap.size w2 wr) (fun _ t _ => v.length - (intOf t).toNat)
  case atStart => exact ⟨0, Nat.zero_le _, rfl, rfl, Below.refl _ _⟩
  case round =>
    obtain ⟨j, hj, rfl, rfl, hbr⟩ := hrel
    have hS := HS.out.step hbr
    by_cases hjl : j < v.length
    · have hj1 : (j : Int) < v.length := by omega
      have h0n : (0 : Nat) < v.length := by omega
      have hcj := hS.mP.at (j := j) (by rw [HYl.out]; exact hjl)
      have hjY : (j : Int) < Y.length := by rw [HYl.out]; omega
      have hpb := Hg.out.price j hjl
      obtain ⟨t1, t2⟩ := range_of h0n Hg.out.isA (by omega) Hef.out Hsum.out hjl
      have b1 := lowI_bd Hg.out.bids (chkR_zero.1 Hc.out).2.1 (chkR_zero.1 Hc.out).2.2 hjl (Nat.le_refl v.length)
      have b2 := highI_bd Hg.out.bids (chkR_zero.1 Hc.out).2.1 (chkR_zero.1 Hc.out).2.2 hjl (Nat.le_refl v.length)
      have HcY2 : Hid (∀ W : World, Ints W (some ⟨by0, oy, none⟩) f Y → W.cell? ⟨by0, oy + j, none⟩ = some (.int .i64 (iget Y j))) := fun W h => h.at (j := j) (by rw [HYl.out]; exact hjl)
      have hRg' := fun W (h : Mat W p c v) => range_ok p c v r j W h Hc.out hjl
      have hlo : Hid (lowTo Y (j + 1) = min (lowTo Y j) (iget Y j)) := rfl
      obtain ⟨L', hL'⟩ : ∃ x, lowTo Y (j + 1) = x := ⟨_, rfl⟩
      rw [hL'] at hlo
      have HL' := Lib.hid hL'
      clear hL'
      generalize lowI v r j v.length = y1 at *
      generalize highI v r j v.length = y2 at *
      generalize iget Y j = P1 at *
      generalize lowTo Y j = L at *
      have m1 : min L P1 = L' := hlo.out.symm
      have m2 : (if P1 < L then P1 else L) = L' := by rw [hlo.out]; split <;> omega
      have m3 : (if L ≤ P1 then L else P1) = L' := by rw [hlo.out]; split <;> omega
      have hC1 := fun W => checkRat_any y1 v.length W (by omega) ⟨h0n, by omega⟩
      have hC2 := fun W => checkRat_any y2 v.length W (by omega) ⟨h0n, by omega⟩
      have hL1 := fun W => lessRat_any P1 y1 z v.length W (by omega) (by omega) (by omega) ⟨h0n, by omega⟩
      have hL2 := fun W => lessRat_any y2 P1 v.length z W (by omega) (by omega) ⟨h0n, by omega⟩ (by omega)
      have hM := fun W => refMake_any P1 z W (by omega) (by omega) (by omega) (by omega)
      rw [show decide (P1 * (v.length : Int) < y1 * z) = false by rw [decide_eq_false_iff_not]; omega] at hL1
      rw [show decide (y2 * (z : Int) < P1 * v.length) = false by rw [decide_eq_false_iff_not]; omega] at hL2
      unfold ratV at hM
      obtain ⟨A1, hA1⟩ : ∃ x, rN y1 v.length = x := ⟨_, rfl⟩
      obtain ⟨A2, hA2⟩ : ∃ x, rD y1 v.length = x := ⟨_, rfl⟩
      obtain ⟨B1, hB1⟩ : ∃ x, rN y2 v.length = x := ⟨_, rfl⟩
      obtain ⟨B2, hB2⟩ : ∃ x, rD y2 v.length = x := ⟨_, rfl⟩
      obtain ⟨C1, hC1'⟩ : ∃ x, rN P1 z = x := ⟨_, rfl⟩
      obtain ⟨C2, hC2'⟩ : ∃ x, rD P1 z = x := ⟨_, rfl⟩
      rw [hA1, hA2] at hC1 hL1 hRg'
      rw [hB1, hB2] at hC2 hL2 hRg'
      rw [hC1', hC2'] at hL1 hL2 hM
      have HRg := Lib.hid hRg'
      have HC1 := Lib.hid hC1
      have HC2 := Lib.hid hC2
      have HL1 := Lib.hid hL1
      have HL2 := Lib.hid hL2
      have HM := Lib.hid hM
      clear t1 t2 b1 b2 hC1 hC2 hL1 hL2 hM hRg' hA1 hA2 hB1 hB2 hC1' hC2' hlo
      have cX0 := hS.bX.cell 0 _ rfl
      have cX1 := hS.bX.cell 1 _ rfl
      have cL0 := hS.bL.cell 0 _ rfl
      have cL1 := hS.bL.cell 1 _ rfl
      have cL2 := hS.bL.cell 2 _ rfl
      go_wp2_with fail
      refine (HRg.out _ hS.mX).mono ?_
      rintro e wd ⟨rfl, hb⟩
      obtain ⟨Wea, hWea⟩ : ∃ W, wd.alloc (.cells #[.int .i64 A1, .int .i64 A2] 35) = W := ⟨_, rfl⟩
      obtain ⟨We, hWe⟩ : ∃ W, Wea.alloc (.cells #[.int .i64 B1, .int .i64 B2] 35) = W := ⟨_, rfl⟩
      have hb1 := below_alloc hWea
      have hb2 := below_alloc hWe
      have hs1 : Wea.heap.size = wd.heap.size + 1 := by rw [← hWea]; simp
      have bA : BoxV We wd.heap.size [.int .i64 A1, .int .i64 A2] := (BoxV.new rfl hWea).below hb2
      have bB : BoxV We (wd.heap.size + 1) [.int .i64 B1, .int .i64 B2] := BoxV.new hs1 hWe
      have hbe := hb.trans ((hb1.trans (hb2.mono hb1.size)).mono hb.size)
      have hbW : Below w2.heap.size w2 We := hbr.trans (hbe.mono hbr.size)
      have hS2 := hS.step hbe
      have HWea := Lib.hid hWea
      have HWe := Lib.hid hWe
      clear hb hb1 hb2 hs1 hWea hWe hbe hcj cX0 cX1 cL0 cL1 cL2 hS
      have hcj := HcY2.out _ hS2.mP
      have lL := hS2.bL.lt
      have cX0 := hS2.bX.cell 0 _ rfl
      have cX1 := hS2.bX.cell 1 _ rfl
      have cL0 := hS2.bL.cell 0 _ rfl
      have cL1 := hS2.bL.cell 1 _ rfl
      have cL2 := hS2.bL.cell 2 _ rfl
      go_upto_region 13 with (fail)
      rw [HWea.out, HWe.out]
      have Hmk : Hid (∀ W, Below We.heap.size We W → W.cell? ⟨w.heap.size + 1, 1, none⟩ = some (.slice (some ⟨by0, oy, none⟩) Y.length f) ∧ W.cell? ⟨w.heap.size + 1, 2, none⟩ = some (.int .i64 (z : Int)) ∧ W.cell? ⟨by0, oy + j, none⟩ = some (.int .i64 P1)) := fun W hG =>
        ⟨(hG.cell (p := ⟨w.heap.size + 1, 1, none⟩) lL).trans cL1, (hG.cell (p := ⟨w.heap.size + 1, 2, none⟩) lL).trans cL2, (hG.cell (World.block_lt_of_cell? _ _ hcj)).trans hcj⟩
      clear cX0 cX1 cL0 cL1 cL2 hcj lL hS2
      refine wp_region_invG (by kernel_rfl) (by decide +kernel) (by decide +kernel) _ _ (ManyJ We [(11, 12)] (fun kk => match kk with | 0 => (.pointer (some ⟨w.heap.size + 1, 1, none⟩)) | 1 => (.slice (some ⟨by0, oy, none⟩) Y.length f) | 2 => (.int .i64 (j : Int)) | 3 => (.pointer (some ⟨by0, oy + j, none⟩)) | 4 => (.int .i64 P1) | 5 => (.pointer (some ⟨w.heap.size + 1, 2, none⟩)) | 6 => (.int .i64 (z : Int)) | 7 => (.tuple #[(.agg #[(.int .i64 C1), (.int .i64 C2)]), (.int .i64 0)]) | 8 => (.tuple #[(.agg #[(.int .i64 C1), (.int .i64 C2)]), (.int .i64 0)]) | 9 => (.agg #[(.int .i64 C1), (.int .i64 C2)]) | 10 => (.int .i64 0) | 13 => (.int .i64 0) | _ => undef) (fun kk => match kk with | 11 => (.int .i64 C1) | _ => undef) (fun kk => match kk with | 11 => (.int .i64 C2) | _ => undef)) ?_ ?_ ?_
      · exact fun us => ManyJ.start us
      · intro us D W i o A hA hi hJ hnD hon K hK
        have hlt : i < 14 := (Array.getElem?_eq_some_iff.1 hi).1
        rcases rt14 hlt with rfl | rfl | rfl | rfl | rfl | rfl | rfl | rfl | rfl | rfl | rfl | rfl | rfl | rfl
        · have hi' := Option.some.inj hi
          subst hi'
          refine want_yes (wanted_none rfl) ?_
          refine wp_val (v := (.pointer (some ⟨w.heap.size + 1, 1, none⟩))) (w' := W) ?_ (hK _ _ (hJ.pure (i := 0) (by decide) (Below.refl _ _)))
          · skip
            have e3 : A.tmps[3]?.getD undef = (.pointer (some ⟨w.heap.size + 1, 0, none⟩)) := by rw [hA]; kernel_rfl
            clear hA hK hon hJ
            go_simp
        · have hi' := Option.some.inj hi
          subst hi'
          refine want_yes (wanted_none rfl) ?_
          refine wp_val (v := (.slice (some ⟨by0, oy, none⟩) Y.length f)) (w' := W) ?_ (hK _ _ (hJ.pure (i := 1) (by decide) (Below.refl _ _)))
          · skip
            have e77 : A.tmps[77]?.getD undef = (.pointer (some ⟨w.heap.size + 1, 1, none⟩)) := (by rw [hA]; kernel_rfl : A.tmps[77]?.getD undef = us 0).trans (hJ.val 0 (by decide) (hon 0 (by decide +kernel)))
            obtain ⟨cc0, cc1, cc2⟩ := Hmk.out W hJ.bel
            clear hA hK hon hJ
            go_simp
        · have hi' := Option.some.inj hi
          subst hi'
          refine want_yes (wanted_none rfl) ?_
          refine wp_val (v := (.int .i64 (j : Int))) (w' := W) ?_ (hK _ _ (hJ.pure (i := 2) (by decide) (Below.refl _ _)))
          · skip
            have e9 : A.tmps[9]?.getD undef = (.int .i64 (j : Int)) := by rw [hA]; kernel_rfl
            clear hA hK hon hJ
            go_simp
        · have hi' := Option.some.inj hi
          subst hi'
          refine want_yes (wanted_none rfl) ?_
          refine wp_val (v := (.pointer (some ⟨by0, oy + j, none⟩))) (w' := W) ?_ (hK _ _ (hJ.pure (i := 3) (by decide) (Below.refl _ _)))
          · skip
            have e78 : A.tmps[78]?.getD undef = (.slice (some ⟨by0, oy, none⟩) Y.length f) := (by rw [hA]; kernel_rfl : A.tmps[78]?.getD undef = us 1).trans (hJ.val 1 (by decide) (hon 1 (by decide +kernel)))
            have e79 : A.tmps[79]?.getD undef = (.int .i64 (j : Int)) := (by rw [hA]; kernel_rfl : A.tmps[79]?.getD undef = us 2).trans (hJ.val 2 (by decide) (hon 2 (by decide +kernel)))
            clear hA hK hon hJ
            go_simp
        · have hi' := Option.some.inj hi
          subst hi'
          refine want_yes (wanted_none rfl) ?_
          refine wp_val (v := (.int .i64 P1)) (w' := W) ?_ (hK _ _ (hJ.pure (i := 4) (by decide) (Below.refl _ _)))
          · skip
            have e80 : A.tmps[80]?.getD undef = (.pointer (some ⟨by0, oy + j, none⟩)) := (by rw [hA]; kernel_rfl : A.tmps[80]?.getD undef = us 3).trans (hJ.val 3 (by decide) (hon 3 (by decide +kernel)))
            obtain ⟨cc0, cc1, cc2⟩ := Hmk.out W hJ.bel
            clear hA hK hon hJ
            go_simp
        · have hi' := Option.some.inj hi
          subst hi'
          refine want_yes (wanted_none rfl) ?_
          refine wp_val (v := (.pointer (some ⟨w.heap.size + 1, 2, none⟩))) (w' := W) ?_ (hK _ _ (hJ.pure (i := 5) (by decide) (Below.refl _ _)))
          · skip
            have e3 : A.tmps[3]?.getD undef = (.pointer (some ⟨w.heap.size + 1, 0, none⟩)) := by rw [hA]; kernel_rfl
            clear hA hK hon hJ
            go_simp
        · have hi' := Option.some.inj hi
          subst hi'
          refine want_yes (wanted_none rfl) ?_
          refine wp_val (v := (.int .i64 (z : Int))) (w' := W) ?_ (hK _ _ (hJ.pure (i := 6) (by decide) (Below.refl _ _)))
          · skip
            have e82 : A.tmps[82]?.getD undef = (.pointer (some ⟨w.heap.size + 1, 2, none⟩)) := (by rw [hA]; kernel_rfl : A.tmps[82]?.getD undef = us 5).trans (hJ.val 5 (by decide) (hon 5 (by decide +kernel)))
            obtain ⟨cc0, cc1, cc2⟩ := Hmk.out W hJ.bel
            clear hA hK hon hJ
            go_simp
        · have hi' := Option.some.inj hi
          subst hi'
          refine want_yes (wanted_none rfl) ?_
          refine wp_enter (f := 26) (args := #[.int .i64 P1, .int .i64 (z : Int)]) (w' := W) ?_ ((HM.out W).mono ?_)
          · skip
            have e81 : A.tmps[81]?.getD undef = (.int .i64 P1) := (by rw [hA]; kernel_rfl : A.tmps[81]?.getD undef = us 4).trans (hJ.val 4 (by decide) (hon 4 (by decide +kernel)))
            have e83 : A.tmps[83]?.getD undef = (.int .i64 (z : Int)) := (by rw [hA]; kernel_rfl : A.tmps[83]?.getD undef = us 6).trans (hJ.val 6 (by decide) (hon 6 (by decide +kernel)))
            clear hA hK hon hJ
            go_simp
          · rintro r' wC ⟨rfl, hbC⟩
            exact ⟨_, rfl, hK _ _ (hJ.pure (i := 7) (by decide) hbC)⟩
        · have hi' := Option.some.inj hi
          subst hi'
          refine want_yes (wanted_none rfl) ?_
          refine wp_val (v := (.tuple #[(.agg #[(.int .i64 C1), (.int .i64 C2)]), (.int .i64 0)])) (w' := W) ?_ (hK _ _ (hJ.pure (i := 8) (by decide) (Below.refl _ _)))
          · skip
            have e84 : A.tmps[84]?.getD undef = (.tuple #[(.agg #[(.int .i64 C1), (.int .i64 C2)]), (.int .i64 0)]) := (by rw [hA]; kernel_rfl : A.tmps[84]?.getD undef = us 7).trans (hJ.val 7 (by decide) (hon 7 (by decide +kernel)))
            clear hA hK hon hJ
            go_simp
        · have hi' := Option.some.inj hi
          subst hi'
          refine want_yes (wanted_none rfl) ?_
          refine wp_val (v := (.agg #[(.int .i64 C1), (.int .i64 C2)])) (w' := W) ?_ (hK _ _ (hJ.pure (i := 9) (by decide) (Below.refl _ _)))
          · skip
            have e76 : A.tmps[76]?.getD undef = (.tuple #[(.agg #[(.int .i64 C1), (.int .i64 C2)]), (.int .i64 0)]) := (by rw [hA]; kernel_rfl : A.tmps[76]?.getD undef = us 8).trans (hJ.val 8 (by decide) (hon 8 (by decide +kernel)))
            clear hA hK hon hJ
            go_simp
        · have hi' := Option.some.inj hi
          subst hi'
          refine want_yes (wanted_none rfl) ?_
          refine wp_val (v := (.int .i64 0)) (w' := W) ?_ (hK _ _ (hJ.pure (i := 10) (by decide) (Below.refl _ _)))
          · skip
            have e76 : A.tmps[76]?.getD undef = (.tuple #[(.agg #[(.int .i64 C1), (.int .i64 C2)]), (.int .i64 0)]) := (by rw [hA]; kernel_rfl : A.tmps[76]?.getD undef = us 8).trans (hJ.val 8 (by decide) (hon 8 (by decide +kernel)))
            clear hA hK hon hJ
            go_simp
        · have hi' := Option.some.inj hi
          subst hi'
          refine want_yes (wanted_none rfl) ?_
          refine wp_val (v := .pointer (some ⟨W.heap.size, 0, none⟩)) (w' := W.alloc (.cells #[.int .i64 0, .int .i64 0] 35)) ?_ (hK _ _ (hJ.alloc (ai := 11) (si := 12) (by decide) (by decide) hnD _ _ _))
          · skip
            clear hA hK hon hJ
            go_simp
        · have hi' := Option.some.inj hi
          subst hi'
          refine want_yes (wanted_none rfl) ?_
          obtain ⟨g, x', y', hg, _, hlt, ht, _⟩ := hJ.blk (11, 12) (by decide) (hon 11 (by decide +kernel))
          refine wp_skip (w' := (W.setCell ⟨g, 0, none⟩ (.int .i64 C1)).setCell ⟨g, 1, none⟩ (.int .i64 C2)) ?_ (hK _ _ (hJ.store (ai := 11) (si := 12) (by decide) (by decide) (hon 11 (by decide +kernel)) hg undef))
          · skip
            have e13 : A.tmps[13]?.getD undef = .pointer (some ⟨g, 0, none⟩) := (by rw [hA]; kernel_rfl : A.tmps[13]?.getD undef = us 11).trans hg
            have e85 : A.tmps[85]?.getD undef = (.agg #[(.int .i64 C1), (.int .i64 C2)]) := (by rw [hA]; kernel_rfl : A.tmps[85]?.getD undef = us 9).trans (hJ.val 9 (by decide) (hon 9 (by decide +kernel)))
            have c0 := ht.c0
            have c1 := ht.c1
            have f0 := ht.f0
            have f1 := ht.f1
            clear ht
            clear hA hK hon hJ
            go_simp
        · have hi' := Option.some.inj hi
          subst hi'
          refine want_yes (wanted_none rfl) ?_
          refine wp_val (v := (.int .i64 0)) (w' := W) ?_ (hK _ _ (hJ.pure (i := 13) (by decide) (Below.refl _ _)))
          · skip
            have e86 : A.tmps[86]?.getD undef = (.int .i64 0) := (by rw [hA]; kernel_rfl : A.tmps[86]?.getD undef = us 10).trans (hJ.val 10 (by decide) (hon 10 (by decide +kernel)))
            clear hA hK hon hJ
            go_simp
      · intro us D wf hJ hall
        obtain ⟨g1, u13, g1l, g1h, t13⟩ := hJ.get (ai := 11) (si := 12) (by decide) (hall 11 (by decide)) (hall 12 (by decide))
        have u14 : us 13 = (.int .i64 0) := hJ.val 13 (by decide) (hall 13 (by decide))
        have hb := hJ.bel
        clear hJ hall Hmk HM HRg HcY2
        have bA := bA.below hb
        have bB := bB.below hb
        have bC := boxOf2 g1h t13
        have hbW := hbW.trans (hb.mono hbW.size)
        clear hb t13 g1l g1h
        simp only [actL, slotL, putL, List.setIfInBounds_toArray, List.set_cons_zero, List.set_cons_succ, Nat.zero_add, Nat.reduceAdd, u13, u14]
        clear u13 u14
        have kA0 := bA.cell 0 _ rfl
        have kA1 := bA.cell 1 _ rfl
        have kB0 := bB.cell 0 _ rfl
        have kB1 := bB.cell 1 _ rfl
        have kC0 := bC.cell 0 _ rfl
        have kC1 := bC.cell 1 _ rfl
        go_wp2_with fail
        refine (HC1.out _).mono ?_
        rintro e wq0 ⟨rfl, hb⟩
        clear kA0 kA1 kB0 kB1 kC0 kC1
        replace bA := bA.below hb
        replace bB := bB.below hb
        replace bC := bC.below hb
        replace hbW := hbW.trans (hb.mono hbW.size)
        clear hb
        have kA0 := bA.cell 0 _ rfl
        have kA1 := bA.cell 1 _ rfl
        have kB0 := bB.cell 0 _ rfl
        have kB1 := bB.cell 1 _ rfl
        have kC0 := bC.cell 0 _ rfl
        have kC1 := bC.cell 1 _ rfl
        go_wp2_with fail
        refine (HC2.out _).mono ?_
        rintro e wq1 ⟨rfl, hb⟩
        clear kA0 kA1 kB0 kB1 kC0 kC1
        replace bA := bA.below hb
        replace bB := bB.below hb
        replace bC := bC.below hb
        replace hbW := hbW.trans (hb.mono hbW.size)
        clear hb
        have kA0 := bA.cell 0 _ rfl
        have kA1 := bA.cell 1 _ rfl
        have kB0 := bB.cell 0 _ rfl
        have kB1 := bB.cell 1 _ rfl
        have kC0 := bC.cell 0 _ rfl
        have kC1 := bC.cell 1 _ rfl
        go_wp2_with fail
        refine (HL1.out _).mono ?_
        rintro e wq2 ⟨rfl, hb⟩
        clear kA0 kA1 kB0 kB1 kC0 kC1
        replace bA := bA.below hb
        replace bB := bB.below hb
        replace bC := bC.below hb
        replace hbW := hbW.trans (hb.mono hbW.size)
        clear hb
        have kA0 := bA.cell 0 _ rfl
        have kA1 := bA.cell 1 _ rfl
        have kB0 := bB.cell 0 _ rfl
        have kB1 := bB.cell 1 _ rfl
        have kC0 := bC.cell 0 _ rfl
        have kC1 := bC.cell 1 _ rfl
        go_wp2_with fail
        refine (HL2.out _).mono ?_
        rintro e wq3 ⟨rfl, hb⟩
        clear kA0 kA1 kB0 kB1 kC0 kC1
        replace bA := bA.below hb
        replace bB := bB.below hb
        replace bC := bC.below hb
        replace hbW := hbW.trans (hb.mono hbW.size)
        clear hb
        go_wp2_with fail
        go_roundw
        case rel => exact ⟨j + 1, by omega, by rw [HL'.out], by go_num, hbW⟩
        case measure => (simp [intOf] <;> omega)
    · have hj1 : ¬ (j : Int) < v.length := by omega
      obtain rfl : v.length = j := by omega
      have HS2 := Lib.hid hS
      clear hS hbr HS
      obtain ⟨wa, rfl⟩ : ∃ W, W = wr := ⟨_, rfl⟩
      go_wp2_with fail
      go_loopw [15] (fun t wr => ∃ i : Nat, i ≤ v.length ∧ t = .int .i64 i ∧ Below wa.heap.size wa wr) (fun t _ => v.length - (intOf t).toNat)
      case atStart => exact ⟨0, Nat.zero_le _, rfl, Below.refl _ _⟩
      case round =>
        obtain ⟨i, hi, rfl, hbr⟩ := hrel
        have hS := HS2.out.step hbr
        by_cases hil : i < v.length
        · have hi1 : (i : Int) < v.length := by omega
          have h0n : (0 : Nat) < v.length := by omega
          obtain ⟨⟨sl1, sl2⟩, sh1, sh2⟩ := stk_bd Hc.out hil
          obtain ⟨st1, st2⟩ := stake_of Hv.out Hef.out hil
          rw [← gn_best Hv.out Hef.out hil] at st1 st2
          have hRg' := fun W (h : Mat W p c v) => stake_ok p c v r i W h Hc.out hil
          obtain ⟨ba, oa, rfl, _, hca⟩ := hS.mA.get (j := i) (by rw [HXl.out]; exact hil)
          obtain ⟨a1, a2⟩ := Hg.out.itm i hil
          obtain ⟨x, hxx⟩ : ∃ x : Nat, iget X i = (x : Int) := ⟨(iget X i).toNat, by omega⟩
          have e1 : itm X i = x := by simp [itm, hxx]
          rw [e1] at a2 st1 st2
          have HcX : Hid (∀ W : World, Ints W (some ⟨ba, oa, none⟩) d X → W.cell? ⟨ba, oa + i, none⟩ = some (.int .i64 (x : Int))) := fun W h => by have := h.at (j := i) (by rw [HXl.out]; exact hil); rw [hxx] at this; exact this
          have g1 := gain_bd Hg.out hil a2
          have g7 : -700000000 ≤ gainI v Y z i x ∧ gainI v Y z i x ≤ 700000000 := by
            have h2 := (loG_spec Hv.out).2.1 i hil
            have h3 := (hiG_spec Hv.out).2.1 i hil
            have h4 := (loG_spec Hv.out).1
            have h5 := (hiG_spec Hv.out).1
            rw [e1] at h2 h3
            omega
          have HG1 := Lib.hid (fun W (hm : Mat W p c v) (hp : Ints W (some ⟨by0, oy, none⟩) f Y) => refGain_ok p (some ⟨ba, oa, none⟩) (some ⟨by0, oy, none⟩) c d f v r X Y z i x W hm hp Hg.out hil a2)
          have hC1 := fun W => checkRat_any (stLo v r i) v.length W ⟨sl1, sl2⟩ ⟨h0n, by omega⟩
          have hC2 := fun W => checkRat_any (stHi v r i) v.length W ⟨sh1, sh2⟩ ⟨h0n, by omega⟩
          have hL1 := fun W => lessRat_any (gainI v Y z i x) (stLo v r i) z v.length W g7 ⟨sl1, sl2⟩ ⟨by omega, by omega⟩ ⟨h0n, by omega⟩
          have hL2 := fun W => lessRat_any (stHi v r i) (gainI v Y z i x) v.length z W ⟨sh1, sh2⟩ g7 ⟨h0n, by omega⟩ ⟨by omega, by omega⟩
          have hM := fun W => refMake_any (gainI v Y z i x) z W (by omega) (by omega) (by omega) (by omega)
          rw [show decide (gainI v Y z i x * (v.length : Int) < stLo v r i * z) = false by rw [decide_eq_false_iff_not]; unfold stLo; omega] at hL1
          rw [show decide (stHi v r i * (z : Int) < gainI v Y z i x * v.length) = false by rw [decide_eq_false_iff_not]; unfold stHi; omega] at hL2
          unfold ratV at hM
          generalize stLo v r i = y1 at *
          generalize stHi v r i = y2 at *
          generalize gainI v Y z i x = G1 at *
          obtain ⟨A1, hA1⟩ : ∃ x, rN y1 v.length = x := ⟨_, rfl⟩
          obtain ⟨A2, hA2⟩ : ∃ x, rD y1 v.length = x := ⟨_, rfl⟩
          obtain ⟨B1, hB1⟩ : ∃ x, rN y2 v.length = x := ⟨_, rfl⟩
          obtain ⟨B2, hB2⟩ : ∃ x, rD y2 v.length = x := ⟨_, rfl⟩
          obtain ⟨C1, hC1'⟩ : ∃ x, rN G1 z = x := ⟨_, rfl⟩
          obtain ⟨C2, hC2'⟩ : ∃ x, rD G1 z = x := ⟨_, rfl⟩
          rw [hA1, hA2] at hC1 hL1 hRg'
          rw [hB1, hB2] at hC2 hL2 hRg'
          rw [hC1', hC2'] at hL1 hL2 hM
          have HRg := Lib.hid hRg'
          have HC1 := Lib.hid hC1
          have HC2 := Lib.hid hC2
          have HL1 := Lib.hid hL1
          have HL2 := Lib.hid hL2
          have HM := Lib.hid hM
          have hlA : (i : Int) < X.length := by rw [HXl.out]; omega
          clear st1 st2 hC1 hC2 hL1 hL2 hM hRg' hA1 hA2 hB1 hB2 hC1' hC2' hca hxx e1
          have cX0 := hS.bX.cell 0 _ rfl
          have cX1 := hS.bX.cell 1 _ rfl
          have cL0 := hS.bL.cell 0 _ rfl
          have cL1 := hS.bL.cell 1 _ rfl
          have cL2 := hS.bL.cell 2 _ rfl
          go_wp2_with fail
          refine (HRg.out _ hS.mX).mono ?_
          rintro e wd ⟨rfl, hb⟩
          obtain ⟨Wea, hWea⟩ : ∃ W, wd.alloc (.cells #[.int .i64 A1, .int .i64 A2] 35) = W := ⟨_, rfl⟩
          obtain ⟨We, hWe⟩ : ∃ W, Wea.alloc (.cells #[.int .i64 B1, .int .i64 B2] 35) = W := ⟨_, rfl⟩
          have hb1 := below_alloc hWea
          have hb2 := below_alloc hWe
          have hs1 : Wea.heap.size = wd.heap.size + 1 := by rw [← hWea]; simp
          have bA : BoxV We wd.heap.size [.int .i64 A1, .int .i64 A2] := (BoxV.new rfl hWea).below hb2
          have bB : BoxV We (wd.heap.size + 1) [.int .i64 B1, .int .i64 B2] := BoxV.new hs1 hWe
          have hbe := hb.trans ((hb1.trans (hb2.mono hb1.size)).mono hb.size)
          have hbW : Below wa.heap.size wa We := hbr.trans (hbe.mono hbr.size)
          have hS2 := hS.step hbe
          have HWea := Lib.hid hWea
          have HWe := Lib.hid hWe
          clear hb hb1 hb2 hs1 hWea hWe hbe cX0 cX1 cL0 cL1 cL2 hS
          have hcj := HcX.out _ hS2.mA
          have lX := hS2.bX.lt
          have lL := hS2.bL.lt
          have cX0 := hS2.bX.cell 0 _ rfl
          have cX1 := hS2.bX.cell 1 _ rfl
          have cL0 := hS2.bL.cell 0 _ rfl
          have cL1 := hS2.bL.cell 1 _ rfl
          have cL2 := hS2.bL.cell 2 _ rfl
          go_upto_region 20 with (fail)
          rw [HWea.out, HWe.out]
          have Hmk : Hid (∀ W, Below We.heap.size We W → W.cell? ⟨w.heap.size, 0, none⟩ = some (.slice p v.length c) ∧ W.cell? ⟨w.heap.size, 1, none⟩ = some (.int .i64 r) ∧ W.cell? ⟨w.heap.size + 1, 0, none⟩ = some (.slice (some ⟨ba, oa, none⟩) X.length d) ∧ W.cell? ⟨w.heap.size + 1, 1, none⟩ = some (.slice (some ⟨by0, oy, none⟩) Y.length f) ∧ W.cell? ⟨w.heap.size + 1, 2, none⟩ = some (.int .i64 (z : Int)) ∧ W.cell? ⟨ba, oa + i, none⟩ = some (.int .i64 (x : Int))) := fun W hG =>
            ⟨(hG.cell (p := ⟨w.heap.size, 0, none⟩) lX).trans cX0, (hG.cell (p := ⟨w.heap.size, 1, none⟩) lX).trans cX1, (hG.cell (p := ⟨w.heap.size + 1, 0, none⟩) lL).trans cL0, (hG.cell (p := ⟨w.heap.size + 1, 1, none⟩) lL).trans cL1, (hG.cell (p := ⟨w.heap.size + 1, 2, none⟩) lL).trans cL2, (hG.cell (World.block_lt_of_cell? _ _ hcj)).trans hcj⟩
          have HGn := Lib.hid (fun W (h : Below We.heap.size We W) => HG1.out W (hS2.mX.below h (Nat.le_refl _)) (hS2.mP.below h (Nat.le_refl _)))
          clear cX0 cX1 cL0 cL1 cL2 hcj lX lL hS2 HG1
          refine wp_region_invG (by kernel_rfl) (by decide +kernel) (by decide +kernel) _ _ (ManyJ We [(15, 16)] (fun kk => match kk with | 0 => (.agg #[(.slice p v.length c), (.int .i64 r)]) | 1 => (.agg #[(.slice (some ⟨ba, oa, none⟩) X.length d), (.slice (some ⟨by0, oy, none⟩) Y.length f), (.int .i64 (z : Int))]) | 2 => (.int .i64 (i : Int)) | 3 => (.pointer (some ⟨w.heap.size + 1, 0, none⟩)) | 4 => (.slice (some ⟨ba, oa, none⟩) X.length d) | 5 => (.int .i64 (i : Int)) | 6 => (.pointer (some ⟨ba, oa + i, none⟩)) | 7 => (.int .i64 (x : Int)) | 8 => (.int .i64 G1) | 9 => (.pointer (some ⟨w.heap.size + 1, 2, none⟩)) | 10 => (.int .i64 (z : Int)) | 11 => (.tuple #[(.agg #[(.int .i64 C1), (.int .i64 C2)]), (.int .i64 0)]) | 12 => (.tuple #[(.agg #[(.int .i64 C1), (.int .i64 C2)]), (.int .i64 0)]) | 13 => (.agg #[(.int .i64 C1), (.int .i64 C2)]) | 14 => (.int .i64 0) | 17 => (.int .i64 0) | _ => undef) (fun kk => match kk with | 15 => (.int .i64 C1) | _ => undef) (fun kk => match kk with | 15 => (.int .i64 C2) | _ => undef)) ?_ ?_ ?_
          · exact fun us => ManyJ.start us
          · intro us D W i o A hA hi hJ hnD hon K hK
            have hlt : i < 18 := (Array.getElem?_eq_some_iff.1 hi).1
            rcases rt18 hlt with rfl | rfl | rfl | rfl | rfl | rfl | rfl | rfl | rfl | rfl | rfl | rfl | rfl | rfl | rfl | rfl | rfl | rfl
            · have hi' := Option.some.inj hi
              subst hi'
              refine want_yes (wanted_none rfl) ?_
              refine wp_val (v := (.agg #[(.slice p v.length c), (.int .i64 r)])) (w' := W) ?_ (hK _ _ (hJ.pure (i := 0) (by decide) (Below.refl _ _)))
              · skip
                have e2 : A.tmps[2]?.getD undef = (.pointer (some ⟨w.heap.size, 0, none⟩)) := by rw [hA]; kernel_rfl
                obtain ⟨cc0, cc1, cc2, cc3, cc4, cc5⟩ := Hmk.out W hJ.bel
                clear hA hK hon hJ
                go_simp
            · have hi' := Option.some.inj hi
              subst hi'
              refine want_yes (wanted_none rfl) ?_
              refine wp_val (v := (.agg #[(.slice (some ⟨ba, oa, none⟩) X.length d), (.slice (some ⟨by0, oy, none⟩) Y.length f), (.int .i64 (z : Int))])) (w' := W) ?_ (hK _ _ (hJ.pure (i := 1) (by decide) (Below.refl _ _)))
              · skip
                have e3 : A.tmps[3]?.getD undef = (.pointer (some ⟨w.heap.size + 1, 0, none⟩)) := by rw [hA]; kernel_rfl
                obtain ⟨cc0, cc1, cc2, cc3, cc4, cc5⟩ := Hmk.out W hJ.bel
                clear hA hK hon hJ
                go_simp
            · have hi' := Option.some.inj hi
              subst hi'
              refine want_yes (wanted_none rfl) ?_
              refine wp_val (v := (.int .i64 (i : Int))) (w' := W) ?_ (hK _ _ (hJ.pure (i := 2) (by decide) (Below.refl _ _)))
              · skip
                have e15 : A.tmps[15]?.getD undef = (.int .i64 (i : Int)) := by rw [hA]; kernel_rfl
                clear hA hK hon hJ
                go_simp
            · have hi' := Option.some.inj hi
              subst hi'
              refine want_yes (wanted_none rfl) ?_
              refine wp_val (v := (.pointer (some ⟨w.heap.size + 1, 0, none⟩))) (w' := W) ?_ (hK _ _ (hJ.pure (i := 3) (by decide) (Below.refl _ _)))
              · skip
                have e3 : A.tmps[3]?.getD undef = (.pointer (some ⟨w.heap.size + 1, 0, none⟩)) := by rw [hA]; kernel_rfl
                clear hA hK hon hJ
                go_simp
            · have hi' := Option.some.inj hi
              subst hi'
              refine want_yes (wanted_none rfl) ?_
              refine wp_val (v := (.slice (some ⟨ba, oa, none⟩) X.length d)) (w' := W) ?_ (hK _ _ (hJ.pure (i := 4) (by decide) (Below.refl _ _)))
              · skip
                have e125 : A.tmps[125]?.getD undef = (.pointer (some ⟨w.heap.size + 1, 0, none⟩)) := (by rw [hA]; kernel_rfl : A.tmps[125]?.getD undef = us 3).trans (hJ.val 3 (by decide) (hon 3 (by decide +kernel)))
                obtain ⟨cc0, cc1, cc2, cc3, cc4, cc5⟩ := Hmk.out W hJ.bel
                clear hA hK hon hJ
                go_simp
            · have hi' := Option.some.inj hi
              subst hi'
              refine want_yes (wanted_none rfl) ?_
              refine wp_val (v := (.int .i64 (i : Int))) (w' := W) ?_ (hK _ _ (hJ.pure (i := 5) (by decide) (Below.refl _ _)))
              · skip
                have e15 : A.tmps[15]?.getD undef = (.int .i64 (i : Int)) := by rw [hA]; kernel_rfl
                clear hA hK hon hJ
                go_simp
            · have hi' := Option.some.inj hi
              subst hi'
              refine want_yes (wanted_none rfl) ?_
              refine wp_val (v := (.pointer (some ⟨ba, oa + i, none⟩))) (w' := W) ?_ (hK _ _ (hJ.pure (i := 6) (by decide) (Below.refl _ _)))
              · skip
                have e126 : A.tmps[126]?.getD undef = (.slice (some ⟨ba, oa, none⟩) X.length d) := (by rw [hA]; kernel_rfl : A.tmps[126]?.getD undef = us 4).trans (hJ.val 4 (by decide) (hon 4 (by decide +kernel)))
                have e127 : A.tmps[127]?.getD undef = (.int .i64 (i : Int)) := (by rw [hA]; kernel_rfl : A.tmps[127]?.getD undef = us 5).trans (hJ.val 5 (by decide) (hon 5 (by decide +kernel)))
                clear hA hK hon hJ
                go_simp
            · have hi' := Option.some.inj hi
              subst hi'
              refine want_yes (wanted_none rfl) ?_
              refine wp_val (v := (.int .i64 (x : Int))) (w' := W) ?_ (hK _ _ (hJ.pure (i := 7) (by decide) (Below.refl _ _)))
              · skip
                have e128 : A.tmps[128]?.getD undef = (.pointer (some ⟨ba, oa + i, none⟩)) := (by rw [hA]; kernel_rfl : A.tmps[128]?.getD undef = us 6).trans (hJ.val 6 (by decide) (hon 6 (by decide +kernel)))
                obtain ⟨cc0, cc1, cc2, cc3, cc4, cc5⟩ := Hmk.out W hJ.bel
                clear hA hK hon hJ
                go_simp
            · have hi' := Option.some.inj hi
              subst hi'
              refine want_yes (wanted_none rfl) ?_
              refine wp_enter (f := 29) (args := #[(.agg #[(.slice p v.length c), (.int .i64 r)]), (.agg #[(.slice (some ⟨ba, oa, none⟩) X.length d), (.slice (some ⟨by0, oy, none⟩) Y.length f), (.int .i64 (z : Int))]), .int .i64 (i : Int), .int .i64 (x : Int)]) (w' := W) ?_ ((HGn.out W hJ.bel).mono ?_)
              · skip
                have e122 : A.tmps[122]?.getD undef = (.agg #[(.slice p v.length c), (.int .i64 r)]) := (by rw [hA]; kernel_rfl : A.tmps[122]?.getD undef = us 0).trans (hJ.val 0 (by decide) (hon 0 (by decide +kernel)))
                have e123 : A.tmps[123]?.getD undef = (.agg #[(.slice (some ⟨ba, oa, none⟩) X.length d), (.slice (some ⟨by0, oy, none⟩) Y.length f), (.int .i64 (z : Int))]) := (by rw [hA]; kernel_rfl : A.tmps[123]?.getD undef = us 1).trans (hJ.val 1 (by decide) (hon 1 (by decide +kernel)))
                have e124 : A.tmps[124]?.getD undef = (.int .i64 (i : Int)) := (by rw [hA]; kernel_rfl : A.tmps[124]?.getD undef = us 2).trans (hJ.val 2 (by decide) (hon 2 (by decide +kernel)))
                have e129 : A.tmps[129]?.getD undef = (.int .i64 (x : Int)) := (by rw [hA]; kernel_rfl : A.tmps[129]?.getD undef = us 7).trans (hJ.val 7 (by decide) (hon 7 (by decide +kernel)))
                clear hA hK hon hJ
                go_simp
              · rintro r' wC ⟨rfl, hbC⟩
                exact ⟨_, rfl, hK _ _ (hJ.pure (i := 8) (by decide) hbC)⟩
            · have hi' := Option.some.inj hi
              subst hi'
              refine want_yes (wanted_none rfl) ?_
              refine wp_val (v := (.pointer (some ⟨w.heap.size + 1, 2, none⟩))) (w' := W) ?_ (hK _ _ (hJ.pure (i := 9) (by decide) (Below.refl _ _)))
              · skip
                have e3 : A.tmps[3]?.getD undef = (.pointer (some ⟨w.heap.size + 1, 0, none⟩)) := by rw [hA]; kernel_rfl
                clear hA hK hon hJ
                go_simp
            · have hi' := Option.some.inj hi
              subst hi'
              refine want_yes (wanted_none rfl) ?_
              refine wp_val (v := (.int .i64 (z : Int))) (w' := W) ?_ (hK _ _ (hJ.pure (i := 10) (by decide) (Below.refl _ _)))
              · skip
                have e131 : A.tmps[131]?.getD undef = (.pointer (some ⟨w.heap.size + 1, 2, none⟩)) := (by rw [hA]; kernel_rfl : A.tmps[131]?.getD undef = us 9).trans (hJ.val 9 (by decide) (hon 9 (by decide +kernel)))
                obtain ⟨cc0, cc1, cc2, cc3, cc4, cc5⟩ := Hmk.out W hJ.bel
                clear hA hK hon hJ
                go_simp
            · have hi' := Option.some.inj hi
              subst hi'
              refine want_yes (wanted_none rfl) ?_
              refine wp_enter (f := 26) (args := #[.int .i64 G1, .int .i64 (z : Int)]) (w' := W) ?_ ((HM.out W).mono ?_)
              · skip
                have e130 : A.tmps[130]?.getD undef = (.int .i64 G1) := (by rw [hA]; kernel_rfl : A.tmps[130]?.getD undef = us 8).trans (hJ.val 8 (by decide) (hon 8 (by decide +kernel)))
                have e132 : A.tmps[132]?.getD undef = (.int .i64 (z : Int)) := (by rw [hA]; kernel_rfl : A.tmps[132]?.getD undef = us 10).trans (hJ.val 10 (by decide) (hon 10 (by decide +kernel)))
                clear hA hK hon hJ
                go_simp
              · rintro r' wC ⟨rfl, hbC⟩
                exact ⟨_, rfl, hK _ _ (hJ.pure (i := 11) (by decide) hbC)⟩
            · have hi' := Option.some.inj hi
              subst hi'
              refine want_yes (wanted_none rfl) ?_
              refine wp_val (v := (.tuple #[(.agg #[(.int .i64 C1), (.int .i64 C2)]), (.int .i64 0)])) (w' := W) ?_ (hK _ _ (hJ.pure (i := 12) (by decide) (Below.refl _ _)))
              · skip
                have e133 : A.tmps[133]?.getD undef = (.tuple #[(.agg #[(.int .i64 C1), (.int .i64 C2)]), (.int .i64 0)]) := (by rw [hA]; kernel_rfl : A.tmps[133]?.getD undef = us 11).trans (hJ.val 11 (by decide) (hon 11 (by decide +kernel)))
                clear hA hK hon hJ
                go_simp
            · have hi' := Option.some.inj hi
              subst hi'
              refine want_yes (wanted_none rfl) ?_
              refine wp_val (v := (.agg #[(.int .i64 C1), (.int .i64 C2)])) (w' := W) ?_ (hK _ _ (hJ.pure (i := 13) (by decide) (Below.refl _ _)))
              · skip
                have e121 : A.tmps[121]?.getD undef = (.tuple #[(.agg #[(.int .i64 C1), (.int .i64 C2)]), (.int .i64 0)]) := (by rw [hA]; kernel_rfl : A.tmps[121]?.getD undef = us 12).trans (hJ.val 12 (by decide) (hon 12 (by decide +kernel)))
                clear hA hK hon hJ
                go_simp
            · have hi' := Option.some.inj hi
              subst hi'
              refine want_yes (wanted_none rfl) ?_
              refine wp_val (v := (.int .i64 0)) (w' := W) ?_ (hK _ _ (hJ.pure (i := 14) (by decide) (Below.refl _ _)))
              · skip
                have e121 : A.tmps[121]?.getD undef = (.tuple #[(.agg #[(.int .i64 C1), (.int .i64 C2)]), (.int .i64 0)]) := (by rw [hA]; kernel_rfl : A.tmps[121]?.getD undef = us 12).trans (hJ.val 12 (by decide) (hon 12 (by decide +kernel)))
                clear hA hK hon hJ
                go_simp
            · have hi' := Option.some.inj hi
              subst hi'
              refine want_yes (wanted_none rfl) ?_
              refine wp_val (v := .pointer (some ⟨W.heap.size, 0, none⟩)) (w' := W.alloc (.cells #[.int .i64 0, .int .i64 0] 35)) ?_ (hK _ _ (hJ.alloc (ai := 15) (si := 16) (by decide) (by decide) hnD _ _ _))
              · skip
                clear hA hK hon hJ
                go_simp
            · have hi' := Option.some.inj hi
              subst hi'
              refine want_yes (wanted_none rfl) ?_
              obtain ⟨g, x', y', hg, _, hlt, ht, _⟩ := hJ.blk (15, 16) (by decide) (hon 15 (by decide +kernel))
              refine wp_skip (w' := (W.setCell ⟨g, 0, none⟩ (.int .i64 C1)).setCell ⟨g, 1, none⟩ (.int .i64 C2)) ?_ (hK _ _ (hJ.store (ai := 15) (si := 16) (by decide) (by decide) (hon 15 (by decide +kernel)) hg undef))
              · skip
                have e19 : A.tmps[19]?.getD undef = .pointer (some ⟨g, 0, none⟩) := (by rw [hA]; kernel_rfl : A.tmps[19]?.getD undef = us 15).trans hg
                have e134 : A.tmps[134]?.getD undef = (.agg #[(.int .i64 C1), (.int .i64 C2)]) := (by rw [hA]; kernel_rfl : A.tmps[134]?.getD undef = us 13).trans (hJ.val 13 (by decide) (hon 13 (by decide +kernel)))
                have c0 := ht.c0
                have c1 := ht.c1
                have f0 := ht.f0
                have f1 := ht.f1
                clear ht
                clear hA hK hon hJ
                go_simp
            · have hi' := Option.some.inj hi
              subst hi'
              refine want_yes (wanted_none rfl) ?_
              refine wp_val (v := (.int .i64 0)) (w' := W) ?_ (hK _ _ (hJ.pure (i := 17) (by decide) (Below.refl _ _)))
              · skip
                have e135 : A.tmps[135]?.getD undef = (.int .i64 0) := (by rw [hA]; kernel_rfl : A.tmps[135]?.getD undef = us 14).trans (hJ.val 14 (by decide) (hon 14 (by decide +kernel)))
                clear hA hK hon hJ
                go_simp
          · intro us D wf hJ hall
            obtain ⟨g1, u19, g1l, g1h, t19⟩ := hJ.get (ai := 15) (si := 16) (by decide) (hall 15 (by decide)) (hall 16 (by decide))
            have u20 : us 17 = (.int .i64 0) := hJ.val 17 (by decide) (hall 17 (by decide))
            have hb := hJ.bel
            clear hJ hall Hmk HM HRg HcX HGn
            have bA := bA.below hb
            have bB := bB.below hb
            have bC := boxOf2 g1h t19
            have hbW := hbW.trans (hb.mono hbW.size)
            clear hb t19 g1l g1h
            simp only [actL, slotL, putL, List.setIfInBounds_toArray, List.set_cons_zero, List.set_cons_succ, Nat.zero_add, Nat.reduceAdd, u19, u20]
            clear u19 u20
            have kA0 := bA.cell 0 _ rfl
            have kA1 := bA.cell 1 _ rfl
            have kB0 := bB.cell 0 _ rfl
            have kB1 := bB.cell 1 _ rfl
            have kC0 := bC.cell 0 _ rfl
            have kC1 := bC.cell 1 _ rfl
            go_wp2_with fail
            refine (HC1.out _).mono ?_
            rintro e wq0 ⟨rfl, hb⟩
            clear kA0 kA1 kB0 kB1 kC0 kC1
            replace bA := bA.below hb
            replace bB := bB.below hb
            replace bC := bC.below hb
            replace hbW := hbW.trans (hb.mono hbW.size)
            clear hb
            have kA0 := bA.cell 0 _ rfl
            have kA1 := bA.cell 1 _ rfl
            have kB0 := bB.cell 0 _ rfl
            have kB1 := bB.cell 1 _ rfl
            have kC0 := bC.cell 0 _ rfl
            have kC1 := bC.cell 1 _ rfl
            go_wp2_with fail
            refine (HC2.out _).mono ?_
            rintro e wq1 ⟨rfl, hb⟩
            clear kA0 kA1 kB0 kB1 kC0 kC1
            replace bA := bA.below hb
            replace bB := bB.below hb
            replace bC := bC.below hb
            replace hbW := hbW.trans (hb.mono hbW.size)
            clear hb
            have kA0 := bA.cell 0 _ rfl
            have kA1 := bA.cell 1 _ rfl
            have kB0 := bB.cell 0 _ rfl
            have kB1 := bB.cell 1 _ rfl
            have kC0 := bC.cell 0 _ rfl
            have kC1 := bC.cell 1 _ rfl
            go_wp2_with fail
            refine (HL1.out _).mono ?_
            rintro e wq2 ⟨rfl, hb⟩
            clear kA0 kA1 kB0 kB1 kC0 kC1
            replace bA := bA.below hb
            replace bB := bB.below hb
            replace bC := bC.below hb
            replace hbW := hbW.trans (hb.mono hbW.size)
            clear hb
            have kA0 := bA.cell 0 _ rfl
            have kA1 := bA.cell 1 _ rfl
            have kB0 := bB.cell 0 _ rfl
            have kB1 := bB.cell 1 _ rfl
            have kC0 := bC.cell 0 _ rfl
            have kC1 := bC.cell 1 _ rfl
            go_wp2_with fail
            refine (HL2.out _).mono ?_
            rintro e wq3 ⟨rfl, hb⟩
            clear kA0 kA1 kB0 kB1 kC0 kC1
            replace bA := bA.below hb
            replace bB := bB.below hb
            replace bC := bC.below hb
            replace hbW := hbW.trans (hb.mono hbW.size)
            clear hb
            go_wp2_with fail
            go_roundw
            case rel => exact ⟨i + 1, by omega, by go_num, hbW⟩
            case measure => (simp [intOf] <;> omega)
        · have hi1 : ¬ (i : Int) < v.length := by omega
          obtain rfl : v.length = i := by omega
          have HS3 := Lib.hid hS
          clear hS hbr HS2
          obtain ⟨wb, rfl⟩ : ∃ W, W = wr := ⟨_, rfl⟩
          obtain ⟨B0, hB0⟩ : ∃ B, wb.heap.size = B := ⟨_, rfl⟩
          have HB0 := Lib.hid hB0
          clear hB0
          obtain ⟨i0, hi0, hn0, hn1, hn2⟩ := info_parts infoInt
          obtain ⟨L, hL⟩ : ∃ x, lowTo Y v.length = x := ⟨_, rfl⟩
          have HL := Lib.hid hL
          have hLb : -600000000 ≤ L ∧ L ≤ 600000000 := by
            obtain ⟨j, hj, e⟩ := lowTo_mem Y v.length h0
            have := Hg.out.price j hj
            omega
          rw [hL]
          clear hL
          go_wp2_with fail
          go_loopw [21, 22, 23] (fun t21 t22 t23 wr => ∃ k : Nat, k ≤ v.length ∧ t23 = .int .i64 k ∧ (∃ u p' c' Q D zs q' d', Hid (u = (sclT v z).take k) ∧ t21 = .slice p' (u : List (List Int)).length c' ∧ DMat wr B0 p' c' u Q D ∧ Hid (zs = (liftL Y v.length).take k) ∧ t22 = .slice q' (zs : List Int).length d' ∧ Own wr B0 q' d' zs ∧ Hid (∀ j, j < u.length → ∀ k', blk (Q j) = some k' → blk q' ≠ some k')) ∧ Below B0 wb wr) (fun _ _ t _ => v.length - (intOf t).toNat)
          case atStart => exact ⟨0, Nat.zero_le _, rfl, ⟨[], none, 0, fun _ => none, fun _ => 0, [], none, 0, rfl, rfl, DMat.ofNil _ _, rfl, rfl, Own.ofNil _ _, fun j hj => by simp at hj⟩, Below.refl _ _⟩
          case round =>
            obtain ⟨k, hk, rfl, ⟨u, p', c', Q, D, zs, q', d', hu, rfl, hU, hzz, rfl, hO, hAp⟩, hbr⟩ := hrel
            have hszr := hbr.size
            rw [HB0.out] at hszr
            by_cases hlt : k < v.length
            · have hk1 : (k : Int) < v.length := by omega
              obtain ⟨wo, rfl⟩ : ∃ W, W = wr := ⟨_, rfl⟩
              obtain ⟨B1, hB1⟩ : ∃ B1, wo.heap.size = B1 := ⟨_, rfl⟩
              have HB1 := Lib.hid hB1
              have hle1 : B0 ≤ B1 := by omega
              clear hB1
              have HU := Lib.hid hU
              have HO := Lib.hid hO
              have Hbr := Lib.hid hbr
              clear hU hO hbr
              go_wp2_with fail
              go_loopw [24, 25] (fun t24 t25 wj => ∃ m : Nat, m ≤ v.length ∧ t25 = .int .i64 m ∧ (∃ rr q1 d1, Hid (rr = (rget (sclT v z) k).take m) ∧ t24 = .slice q1 (rr : List Int).length d1 ∧ Own wj B1 q1 d1 rr) ∧ Below B1 wo wj) (fun _ t _ => v.length - (intOf t).toNat)
              case atStart => exact ⟨0, Nat.zero_le _, rfl, ⟨[], none, 0, rfl, rfl, Own.ofNil _ _⟩, Below.refl _ _⟩
              case round =>
                obtain ⟨m, hm, rfl, ⟨rr, q1, d1, hr, rfl, hR⟩, hbj⟩ := hrel
                have hszj := hbj.size
                rw [HB1.out] at hszj
                have hS := HS3.out.step (Hbr.out.mono (Nat.le_of_eq HB0.out))
                by_cases hml : m < v.length
                · have hm1 : (m : Int) < v.length := by omega
                  obtain ⟨bv, ov, rfl, _, qv, dv, hcv, hiv⟩ := hS.mX.get hlt
                  obtain ⟨b1, o1, rfl, _, hc1⟩ := hiv.get (j := m) (by rw [Hg.out.row k hlt]; exact hml)
                  have hy := Hg.out.bid k hlt m hml
                  have Hs := Lib.hid (sclT_snoc (v := v) (Z := z) hlt hml)
                  unfold bid at Hs
                  have hrl : (m : Int) < (rget v k).length := by rw [Hg.out.row k hlt]; omega
                  generalize iget (rget v k) m = y1 at *
                  have hyz := bz_bd (b := y1) (z := z) hy.1 hy.2 hz1 hz2
                  have hwA : IntKind.i64.wrap (y1 * (z : Int)) = y1 * z := IntWalk.i64_in _ (by omega)
                  have hy64 : in64 (y1 * (z : Int)) := ⟨by omega, by omega⟩
                  have hrr : rr.length ≤ 900000 := by rw [hr.out, List.length_take]; omega
                  have cX0 := hS.bX.cell 0 _ rfl
                  have cL2 := hS.bL.cell 2 _ rfl
                  have hlo := HB1.out
                  have Hmk : Hid (∀ W, Below B1 wo W → W.cell? ⟨w.heap.size, 0, none⟩ = some (.slice (some ⟨bv, ov, none⟩) v.length c) ∧ W.cell? ⟨w.heap.size + 1, 2, none⟩ = some (.int .i64 (z : Int)) ∧ W.cell? ⟨bv, ov + k, none⟩ = some (.slice (some ⟨b1, o1, none⟩) (rget v k).length dv) ∧ W.cell? ⟨b1, o1 + m, none⟩ = some (.int .i64 y1)) := fun W hG =>
                    ⟨(hG.cell (hlo ▸ World.block_lt_of_cell? _ _ cX0)).trans cX0, (hG.cell (hlo ▸ World.block_lt_of_cell? _ _ cL2)).trans cL2, (hG.cell (hlo ▸ World.block_lt_of_cell? _ _ hcv)).trans hcv, (hG.cell (hlo ▸ World.block_lt_of_cell? _ _ hc1)).trans hc1⟩
                  have hszB : ∀ W, Below B1 wo W → Below wr.heap.size wr W → B1 ≤ W.heap.size := fun W _ h => by have := h.size; omega
                  have kX0 := (Hmk.out wr hbj).1
                  clear cX0 cL2 hcv hiv hc1 hS hlo
                  go_wp2_with fail
                  clear kX0
                  refine wp_region_inv2 (by kernel_rfl) (by decide +kernel) (by decide +kernel) _ _ (AppS B1 wo wr 0 12 13 14 (fun kk => match kk with | 0 => (.slice q1 rr.length d1) | 1 => (.pointer (some ⟨w.heap.size, 0, none⟩)) | 2 => (.slice (some ⟨bv, ov, none⟩) v.length c) | 3 => (.int .i64 (k : Int)) | 4 => (.pointer (some ⟨bv, ov + k, none⟩)) | 5 => (.slice (some ⟨b1, o1, none⟩) (rget v k).length dv) | 6 => (.int .i64 (m : Int)) | 7 => (.pointer (some ⟨b1, o1 + m, none⟩)) | 8 => (.int .i64 y1) | 9 => (.pointer (some ⟨w.heap.size + 1, 2, none⟩)) | 10 => (.int .i64 (z : Int)) | 11 => (.int .i64 (y1 * (z : Int))) | _ => undef) (y1 * (z : Int)) rr.length (fun W p cap => Own W B1 p cap (rr ++ [(y1 * (z : Int))])) (.slice q1 rr.length d1)) ?_ ?_ ?_
                  · exact fun us hus => AppS.start us (hus 14 24 (by decide +kernel) (by simp)) hbj
                  · intro us D W i o A hA hi hJ hnD hon K hK
                    have hlt : i < 15 := (Array.getElem?_eq_some_iff.1 hi).1
                    rcases rt15 hlt with rfl | rfl | rfl | rfl | rfl | rfl | rfl | rfl | rfl | rfl | rfl | rfl | rfl | rfl | rfl
                    · have hi' := Option.some.inj hi
                      subst hi'
                      refine wp_val (v := (.slice q1 rr.length d1)) (w' := W) ?_ (hK _ _ (hJ.pure (i := 0) (by decide) (by decide) (by decide)))
                      · skip
                        have e24 : A.tmps[24]?.getD undef = (.slice q1 rr.length d1) := (by rw [hA]; kernel_rfl : A.tmps[24]?.getD undef = us 14).trans (hJ.old fun h => hnD (hJ.o1 (hJ.o2 h)).2)
                        clear hA hK hon hJ
                        go_simp
                    · have hi' := Option.some.inj hi
                      subst hi'
                      refine wp_val (v := (.pointer (some ⟨w.heap.size, 0, none⟩))) (w' := W) ?_ (hK _ _ (hJ.pure (i := 1) (by decide) (by decide) (by decide)))
                      · skip
                        have e2 : A.tmps[2]?.getD undef = (.pointer (some ⟨w.heap.size, 0, none⟩)) := by rw [hA]; kernel_rfl
                        clear hA hK hon hJ
                        go_simp
                    · have hi' := Option.some.inj hi
                      subst hi'
                      refine wp_val (v := (.slice (some ⟨bv, ov, none⟩) v.length c)) (w' := W) ?_ (hK _ _ (hJ.pure (i := 2) (by decide) (by decide) (by decide)))
                      · skip
                        have e169 : A.tmps[169]?.getD undef = (.pointer (some ⟨w.heap.size, 0, none⟩)) := (by rw [hA]; kernel_rfl : A.tmps[169]?.getD undef = us 1).trans (hJ.val 1 (by decide) (by decide) (by decide) (hon 1 (by decide +kernel)))
                        obtain ⟨cc0, cc1, cc2, cc3⟩ := Hmk.out W hJ.bel
                        clear hA hK hon hJ
                        go_simp
                    · have hi' := Option.some.inj hi
                      subst hi'
                      refine wp_val (v := (.int .i64 (k : Int))) (w' := W) ?_ (hK _ _ (hJ.pure (i := 3) (by decide) (by decide) (by decide)))
                      · skip
                        have e23 : A.tmps[23]?.getD undef = (.int .i64 (k : Int)) := by rw [hA]; kernel_rfl
                        clear hA hK hon hJ
                        go_simp
                    · have hi' := Option.some.inj hi
                      subst hi'
                      refine wp_val (v := (.pointer (some ⟨bv, ov + k, none⟩))) (w' := W) ?_ (hK _ _ (hJ.pure (i := 4) (by decide) (by decide) (by decide)))
                      · skip
                        have e170 : A.tmps[170]?.getD undef = (.slice (some ⟨bv, ov, none⟩) v.length c) := (by rw [hA]; kernel_rfl : A.tmps[170]?.getD undef = us 2).trans (hJ.val 2 (by decide) (by decide) (by decide) (hon 2 (by decide +kernel)))
                        have e171 : A.tmps[171]?.getD undef = (.int .i64 (k : Int)) := (by rw [hA]; kernel_rfl : A.tmps[171]?.getD undef = us 3).trans (hJ.val 3 (by decide) (by decide) (by decide) (hon 3 (by decide +kernel)))
                        clear hA hK hon hJ
                        go_simp
                    · have hi' := Option.some.inj hi
                      subst hi'
                      refine wp_val (v := (.slice (some ⟨b1, o1, none⟩) (rget v k).length dv)) (w' := W) ?_ (hK _ _ (hJ.pure (i := 5) (by decide) (by decide) (by decide)))
                      · skip
                        have e172 : A.tmps[172]?.getD undef = (.pointer (some ⟨bv, ov + k, none⟩)) := (by rw [hA]; kernel_rfl : A.tmps[172]?.getD undef = us 4).trans (hJ.val 4 (by decide) (by decide) (by decide) (hon 4 (by decide +kernel)))
                        obtain ⟨cc0, cc1, cc2, cc3⟩ := Hmk.out W hJ.bel
                        clear hA hK hon hJ
                        go_simp
                    · have hi' := Option.some.inj hi
                      subst hi'
                      refine wp_val (v := (.int .i64 (m : Int))) (w' := W) ?_ (hK _ _ (hJ.pure (i := 6) (by decide) (by decide) (by decide)))
                      · skip
                        have e25 : A.tmps[25]?.getD undef = (.int .i64 (m : Int)) := by rw [hA]; kernel_rfl
                        clear hA hK hon hJ
                        go_simp
                    · have hi' := Option.some.inj hi
                      subst hi'
                      refine wp_val (v := (.pointer (some ⟨b1, o1 + m, none⟩))) (w' := W) ?_ (hK _ _ (hJ.pure (i := 7) (by decide) (by decide) (by decide)))
                      · skip
                        have e173 : A.tmps[173]?.getD undef = (.slice (some ⟨b1, o1, none⟩) (rget v k).length dv) := (by rw [hA]; kernel_rfl : A.tmps[173]?.getD undef = us 5).trans (hJ.val 5 (by decide) (by decide) (by decide) (hon 5 (by decide +kernel)))
                        have e174 : A.tmps[174]?.getD undef = (.int .i64 (m : Int)) := (by rw [hA]; kernel_rfl : A.tmps[174]?.getD undef = us 6).trans (hJ.val 6 (by decide) (by decide) (by decide) (hon 6 (by decide +kernel)))
                        clear hA hK hon hJ
                        go_simp
                    · have hi' := Option.some.inj hi
                      subst hi'
                      refine wp_val (v := (.int .i64 y1)) (w' := W) ?_ (hK _ _ (hJ.pure (i := 8) (by decide) (by decide) (by decide)))
                      · skip
                        have e175 : A.tmps[175]?.getD undef = (.pointer (some ⟨b1, o1 + m, none⟩)) := (by rw [hA]; kernel_rfl : A.tmps[175]?.getD undef = us 7).trans (hJ.val 7 (by decide) (by decide) (by decide) (hon 7 (by decide +kernel)))
                        obtain ⟨cc0, cc1, cc2, cc3⟩ := Hmk.out W hJ.bel
                        clear hA hK hon hJ
                        go_simp
                    · have hi' := Option.some.inj hi
                      subst hi'
                      refine wp_val (v := (.pointer (some ⟨w.heap.size + 1, 2, none⟩))) (w' := W) ?_ (hK _ _ (hJ.pure (i := 9) (by decide) (by decide) (by decide)))
                      · skip
                        have e3 : A.tmps[3]?.getD undef = (.pointer (some ⟨w.heap.size + 1, 0, none⟩)) := by rw [hA]; kernel_rfl
                        clear hA hK hon hJ
                        go_simp
                    · have hi' := Option.some.inj hi
                      subst hi'
                      refine wp_val (v := (.int .i64 (z : Int))) (w' := W) ?_ (hK _ _ (hJ.pure (i := 10) (by decide) (by decide) (by decide)))
                      · skip
                        have e177 : A.tmps[177]?.getD undef = (.pointer (some ⟨w.heap.size + 1, 2, none⟩)) := (by rw [hA]; kernel_rfl : A.tmps[177]?.getD undef = us 9).trans (hJ.val 9 (by decide) (by decide) (by decide) (hon 9 (by decide +kernel)))
                        obtain ⟨cc0, cc1, cc2, cc3⟩ := Hmk.out W hJ.bel
                        clear hA hK hon hJ
                        go_simp
                    · have hi' := Option.some.inj hi
                      subst hi'
                      refine wp_val (v := (.int .i64 (y1 * (z : Int)))) (w' := W) ?_ (hK _ _ (hJ.pure (i := 11) (by decide) (by decide) (by decide)))
                      · skip
                        have e176 : A.tmps[176]?.getD undef = (.int .i64 y1) := (by rw [hA]; kernel_rfl : A.tmps[176]?.getD undef = us 8).trans (hJ.val 8 (by decide) (by decide) (by decide) (hon 8 (by decide +kernel)))
                        have e178 : A.tmps[178]?.getD undef = (.int .i64 (z : Int)) := (by rw [hA]; kernel_rfl : A.tmps[178]?.getD undef = us 10).trans (hJ.val 10 (by decide) (by decide) (by decide) (hon 10 (by decide +kernel)))
                        clear hA hK hon hJ
                        go_simp
                    · have hi' := Option.some.inj hi
                      subst hi'
                      have hsB := hszB W hJ.bel (hJ.pre (fun hd => hnD (hJ.o1 hd).1))
                      refine wp_val (v := .slice (some ⟨W.heap.size, 0, none⟩) 1 1) (w' := W.alloc (.cells #[.int .i64 (y1 * (z : Int))] 3)) ?_ (hK _ _ (hJ.build hnD (by decide) (by decide) hsB _))
                      · skip
                        have e179 : A.tmps[179]?.getD undef = (.int .i64 (y1 * (z : Int))) := (by rw [hA]; kernel_rfl : A.tmps[179]?.getD undef = us 11).trans (hJ.val 11 (by decide) (by decide) (by decide) (hon 11 (by decide +kernel)))
                        clear hA hK hon hJ
                        go_simp
                    · have hi' := Option.some.inj hi
                      subst hi'
                      obtain ⟨b', hb', hc'⟩ := hJ.lit (hon 12 (by decide +kernel)) hnD
                      have hP := hJ.pre hnD
                      have e168 : A.tmps[168]?.getD undef = (.slice q1 rr.length d1) := (by rw [hA]; kernel_rfl : A.tmps[168]?.getD undef = us 0).trans (hJ.val 0 (by decide) (by decide) (by decide) (hon 0 (by decide +kernel)))
                      have e180 : A.tmps[180]?.getD undef = .slice (some ⟨b', 0, none⟩) 1 1 := (by rw [hA]; kernel_rfl : A.tmps[180]?.getD undef = us 12).trans hb'
                      refine wp_append_lies _ (.tmp 168) (.tmp 180) 27 (by rfl) B1 3 i0 (.int .i64 0) 1 8 Try.underlying27 hi0 hn0 hn1 hn2 rfl (by decide) (.slice q1 rr.length d1) rr.length (rr.map (Value.int .i64)) ((evalTmp A 168).trans e168) (hR.below hP (Nat.le_refl _)).row ⟨b', 0, none⟩ 1 1 [.int .i64 (y1 * (z : Int))] ((evalTmp A 180).trans e180) rfl (newsOne hc') (by simp [Value.oneCell']) (by decide) (by simp [maxLen]; omega) (by omega) (by have := hP.size; omega) _ rfl ?_
                      intro g4 cap4 w4 hO4 hg4 hor4 hlt4
                      have hG4 : Below B1 W w4 := Below.grown (Below.refl _ _) hg4 (by have := hP.size; omega) (fun k' e => by rw [ownBlock_slice] at e; exact (hR.lt k' e).1)
                      have hF1 := own_snocR hO4 hR.rng hy64
                      have hF7 := hJ.bel.trans hG4
                      have hJ2 := hJ.append (p := some ⟨g4, 0, none⟩) (cap := cap4) hnD (hon 12 (by decide +kernel)) (hon 0 (by decide +kernel)) (by decide) (by decide) hF7 hF1
                      exact hK _ _ hJ2
                    · have hi' := Option.some.inj hi
                      subst hi'
                      obtain ⟨p', cap', hu', hF', _⟩ := hJ.mid (hon 13 (by decide +kernel))
                      refine wp_val (v := us 13) (w' := W) ?_ (hK _ _ (hJ.lay (hon 13 (by decide +kernel)) hnD (by decide) (by decide)))
                      have e181 : A.tmps[181]?.getD undef = us 13 := by rw [hA]; kernel_rfl
                      clear hA hK hon hJ
                      go_simp
                  · intro us D wd hJ hall
                    obtain ⟨p3, c3, h13, hO3, h14⟩ := hJ.mid (hall 13 (by decide))
                    have h14' := h14 (hall 14 (by decide))
                    have hb3 := hJ.bel
                    clear hJ hall h14 h13 Hmk
                    simp only [actL, slotL, putL, List.setIfInBounds_toArray, List.set_cons_zero, List.set_cons_succ, h14']
                    go_wp2_with fail
                    go_roundw
                    case rel => exact ⟨m + 1, by omega, by go_num, ⟨rr ++ [y1 * (z : Int)], _, _, by unfold Hid; rw [Hs.out, hr.out], by simp, hO3⟩, hb3⟩
                    case measure => (simp [intOf] <;> omega)
                · have hm1 : ¬ (m : Int) < v.length := by omega
                  obtain rfl : v.length = m := by omega
                  have hrw : rr = rget (sclT v z) k := by rw [hr.out, List.take_of_length_le (by rw [sclT_row_len hlt]; exact Nat.le_refl _)]
                  have hU2 := HU.out.below hbj (Nat.le_of_eq HB1.out)
                  have hO2 := HO.out.below hbj (Nat.le_of_eq HB1.out)
                  have hul : u.length ≤ 900000 := by have := congrArg List.length hu.out; rw [List.length_take] at this; omega
                  have hzl : zs.length ≤ 900000 := by have := congrArg List.length hzz.out; rw [List.length_take] at this; omega
                  have hR2 := hR.lower hle1
                  have hnew : ∀ j, j < u.length → ∀ k', blk (Q j) = some k' → blk q1 ≠ some k' := fun j hj k' e1 e2 => by
                    have h1 := (HU.out.lt j hj k' e1).2
                    have h2 := (hR.lt k' e2).1
                    have := HB1.out
                    omega
                  have hqz : ∀ k', blk q' = some k' → k' < B1 := fun k' e => by have := (HO.out.lt k' e).2; have := HB1.out; omega
                  have hq1z : ∀ k', blk q1 = some k' → blk q' ≠ some k' := fun k' e1 e2 => by have h1 := (hR.lt k' e1).1; have := hqz k' e2; omega
                  have hpz : ∀ k', blk q' = some k' → blk p' ≠ some k' := fun k' e1 e2 => by
                    rcases hU2.tmat.shape with ⟨rfl, _⟩ | ⟨g, rfl, _⟩
                    · simp [blk] at e2
                    · simp [blk] at e2
                      subst e2
                      exact top_not_row hU2.top hO2 e1
                  have hBj : Below B0 wb wr := Hbr.out.trans (hbj.mono hle1)
                  have Hrw := Lib.hid hrw
                  have hS := HS3.out.step (hBj.mono (Nat.le_of_eq HB0.out))
                  have hcY := hS.mP.at (j := k) (by rw [HYl.out]; exact hlt)
                  have cL1 := hS.bL.cell 1 _ rfl
                  have hkY : (k : Int) < Y.length := by rw [HYl.out]; omega
                  have hpb := Hg.out.price k hlt
                  have Hls := Lib.hid (liftL_snoc (Y := Y) hlt)
                  have HPk : Hid (iget Y k - lowTo Y v.length = iget Y k - L) := by unfold Hid; rw [HL.out]
                  generalize hPk : iget Y k = Pk at *
                  have hwA : IntKind.i64.wrap (Pk - L) = Pk - L := IntWalk.i64_in _ (by omega)
                  have hin : in64 (Pk - L) := ⟨by omega, by omega⟩
                  clear hrw hr hS
                  have hqsz : ∀ k', blk q' = some k' → k' < wr.heap.size := fun k' e => (hO2.lt k' e).2
                  have hQ2 : ∀ j, j < u.length → ∀ k', blk (Q j) = some k' → k' < wr.heap.size := fun j hj k' e => (hU2.lt j hj k' e).2
                  have hq1s : ∀ k', blk q1 = some k' → k' < wr.heap.size := fun k' e => (hR2.lt k' e).2
                  have hszw : B0 ≤ wr.heap.size := by omega
                  go_wp2_with (first
                    | (at_builtin; refine wpList_appOwnRow rfl (.tmp 182) (.tmp 184) rfl B0 _ _ _ Q D _ _ rr rfl rfl rfl hU2 hR2 hnew hul (by omega) ?_; intro p3 c3 w3 u3 hu3 hD3 hg3 hf3
                       have hB3 : Below B0 wb w3 := hBj.grown hg3 hszw (fun k' e => (hU2.tmat.lt k' e).1)
                       have hS3 := HS3.out.step (hB3.mono (Nat.le_of_eq HB0.out))
                       have hcY3 : w3.cell? ⟨by0, oy + k, none⟩ = some (.int .i64 Pk) := by
                         have h := hS3.mP.at (j := k) (by rw [HYl.out]; exact hlt)
                         rw [hPk] at h
                         exact h
                       have cL3 := hS3.bL.cell 1 _ rfl
                       have hO3 := hO2.keptBy hg3 hpz
                       have hsz3 : B0 ≤ w3.heap.size := Nat.le_trans hszw hg3.size)
                    | (at_builtin; refine wpList_app1 rfl (.tmp 186) (.tmp 194) rfl B0 _ _ zs (Pk - L) rfl rfl rfl hO3 hin hzl hsz3 ?_; intro p4 c4 w4 z4 hz4 hO4 hg4 hf4))
                  have hD4 := hD3.keptBy hg4 (fun k' e1 e2 => (hf3 k' e1).elim (fun e => hpz k' e2 e) (fun e => by have := hqsz k' e2; omega)) (fun j hj k' e1 e2 => by
                    by_cases hju : j < u.length
                    · simp only [hju, if_true] at e1; exact hAp j hju k' e1 e2
                    · simp only [hju, if_false] at e1; exact hq1z k' e1 e2)
                  have hB4 : Below B0 wb w4 := hB3.grown hg4 hsz3 (fun k' e => (hO2.lt k' e).1)
                  have hAp4 : ∀ j, j < u3.length → ∀ k', blk ((fun j => if j < u.length then Q j else q1) j) = some k' → blk p4 ≠ some k' := fun j hj k' e1 e2 => by
                    have hlt' : k' < wr.heap.size := by
                      by_cases hju : j < u.length
                      · simp only [hju, if_true] at e1; exact hQ2 j hju k' e1
                      · simp only [hju, if_false] at e1; exact hq1s k' e1
                    rcases hf4 k' e2 with e3 | e3
                    · by_cases hju : j < u.length
                      · simp only [hju, if_true] at e1; exact hAp j hju k' e1 e3
                      · simp only [hju, if_false] at e1; exact hq1z k' e1 e3
                    · have := hg3.size
                      omega
                  have hu5 : Hid (u3 = (sclT v z).take (k + 1)) := by unfold Hid; rw [hu3.out, hu.out, Hrw.out, take_rows _ (by rw [sclT_len]; exact hlt)]
                  have hz5 : Hid (z4 = (liftL Y v.length).take (k + 1)) := by unfold Hid; rw [hz4.out, Hls.out, hzz.out, HL.out]
                  go_roundw
                  case rel => exact ⟨k + 1, by omega, by go_num, ⟨u3, _, _, _, _, z4, _, _, hu5, rfl, hD4, hz5, rfl, hO4, hAp4⟩, hB4⟩
                  case measure => (simp [intOf] <;> omega)
            · have hk1 : ¬ (k : Int) < v.length := by omega
              obtain rfl : v.length = k := by omega
              have hul : u = sclT v z := by rw [hu.out, List.take_of_length_le (by rw [sclT_len]; exact Nat.le_refl _)]
              have hzl : zs = liftL Y v.length := by rw [hzz.out, List.take_of_length_le (by rw [liftL_len]; exact Nat.le_refl _)]
              have hln : u.length = v.length := by rw [hul, sclT_len]
              have hlz : zs.length = v.length := by rw [hzl, liftL_len]
              have hS := HS3.out.step (hbr.mono (Nat.le_of_eq HB0.out))
              have hMu := hU.mat
              have hIz := hO.ints
              have HSw := Lib.hid hS
              have Hul := Lib.hid hul
              have Hzl := Lib.hid hzl
              have Hln := Lib.hid hln
              have HCk := Lib.hid (fun W (h : Mat W p' c' u) => refCheck_any p' c' u W h)
              have HPr := Lib.hid (fun W (h : Ints W q' d' zs) => priced_any q' d' zs v.length W h)
              clear hu hzz hul hzl hU hO hAp hbr hS hln hlz
              go_wp2_with fail
              refine (HCk.out _ hMu).mono ?_
              rintro e w9 ⟨rfl, rfl⟩
              by_cases hck : chkI u = 0
              · have HBu := Lib.hid (chkI_zero.1 hck)
                rw [hck]
                clear hck
                go_wp2_with fail
                refine (HPr.out _ hIz).mono ?_
                rintro e w8 ⟨rfl, rfl⟩
                by_cases hpr : PricedP zs v.length
                · rw [show pricedB zs v.length = true by simp [pricedB, hpr]]
                  have HPP : Hid (PricedP zs u.length) := by unfold Hid; rw [Hln.out]; exact hpr
                  have HAu : Hid (IsA X u.length) := by unfold Hid; rw [Hln.out]; exact Hg.out.isA
                  have HCB : Hid (contentB u X zs = true) := contentB_true (by rw [Hul.out, Hzl.out, HX.out]; exact scl_content h0 (by rw [← HX.out]; exact Hef.out))
                  have HWo : Hid (worthI u X = worthI u (bestA u)) := by unfold Hid; rw [Hul.out, HX.out]; exact scl_best h0 hz1
                  have hS := HSw.out
                  clear hpr HSw
                  have cL0 := hS.bL.cell 0 _ rfl
                  go_wp2_with fail
                  refine (provesT_ok p' q q' c' d d' u X zs w8 HBu.out HAu.out HPP.out hMu hS.mA hIz).mono ?_
                  rintro e w7 ⟨rfl, hb⟩
                  rw [HCB.out]
                  replace hS := hS.step hb
                  replace hMu := hMu.below hb (Nat.le_refl _)
                  clear hb cL0 hIz
                  go_wp2_with fail
                  refine (best_okR p' c' u w7 hMu HBu.out).mono ?_
                  rintro e w6 ⟨pq, cq, rfl, hO, hb⟩
                  replace hS := hS.step hb
                  replace hMu := hMu.below hb (Nat.le_refl _)
                  clear hb hO
                  have cL0 := hS.bL.cell 0 _ rfl
                  go_wp2_with fail
                  refine (valueT_ok p' q c' d u X w6 HBu.out HAu.out hMu hS.mA).mono ?_
                  rintro e w5 ⟨rfl, hb⟩
                  rw [HWo.out]
                  replace hS := hS.step hb
                  clear hb cL0 hMu
                  have hMM : (worthI u (bestA u) == worthI u (bestA u)) = true := by rw [beq_iff_eq]
                  go_wp2_with fail
                  go_ret
                  exact ⟨rfl, hS.hB⟩
                · rw [show pricedB zs v.length = false by simp [pricedB, hpr]]
                  clear hpr
                  go_wp2_with fail
                  go_ret
                  exact ⟨rfl, HSw.out.hB⟩
              · have hb1 : (chkI u != 0) = true := by rw [bne_iff_ne]; exact hck
                clear hck
                go_wp2_with fail
                go_ret
                exact ⟨rfl, HSw.out.hB⟩
end Go.Proofs.Ytmcncflieoolmaa
