/- The walks of the reference's Gain and Gains, for every flat and lease; no condition but that the lease is valid (Gain). -/
import Derived.Test.YtojldecldemfaaaRoomJ
import Derived.Test.YtojldecldemfaaaRoomK
namespace Go.Proofs.Ytojldecldemfaaa
set_option linter.unusedVariables false
set_option linter.unusedSimpArgs false
open Go.ChangeShapes Go.WideShapes Go.ChangeAt Go.RowKit Go.Deep

theorem gain_bd {v : List (List Int)} {al ps : List Int} {z : Int} (hg : Good v al ps z) {i j : Nat} (hi : i < v.length) (hj : j < v.length) : -1000000000 ≤ gainI v ps z i j ∧ gainI v ps z i j ≤ 1000000000 := by
  obtain ⟨v1, v2⟩ := hg.bid i hi j hj
  obtain ⟨p1, p2⟩ := hg.price j hj
  obtain ⟨m1, m2⟩ := bz_bd v1 v2 hg.z1 hg.z2
  have e : gainI v ps z i j = iget (rget v i) j * z - iget ps j := rfl
  omega

set_option maxHeartbeats 8000000 in
set_option maxRecDepth 100000 in
theorem refGain_ok (p q s : Option Addr) (c d f : Nat) (v : List (List Int)) (r : Int) (al ps : List Int) (z : Int) (i j : Nat) (w : World) (hx : Mat w p c v) (hz : Ints w s f ps) (hg : Good v al ps z) (hi : i < v.length) (hj : j < v.length) :
    Calls Try.prog 51 #[.agg #[.slice p v.length c, .int .i64 r], .agg #[.slice q al.length d, .slice s ps.length f, .int .i64 z], .int .i64 i, .int .i64 j] w fun e w' => e = .returned (.int .i64 (gainI v ps z i j)) ∧ Below w.heap.size w w' := by
  obtain ⟨Wx, hWx⟩ : ∃ W, w.alloc (.cells #[.slice p v.length c, .int .i64 r] 24) = W := ⟨_, rfl⟩
  obtain ⟨W0, hW0⟩ : ∃ W, Wx.alloc (.cells #[.slice q al.length d, .slice s ps.length f, .int .i64 z] 28) = W := ⟨_, rfl⟩
  have hB1 := below_alloc hWx
  have hB2 := below_alloc hW0
  have bX : BoxV W0 w.heap.size [.slice p v.length c, .int .i64 r] := (BoxV.new rfl hWx).below hB2
  have hs : Wx.heap.size = w.heap.size + 1 := by rw [← hWx]; simp
  have bL : BoxV W0 (w.heap.size + 1) [.slice q al.length d, .slice s ps.length f, .int .i64 z] := BoxV.new hs hW0
  have hB : Below w.heap.size w W0 := hB1.trans (hB2.mono hB1.size)
  have mX := hx.below hB (Nat.le_refl _)
  have mP := hz.below hB (Nat.le_refl _)
  have HWx := Lib.hid hWx
  have HW0 := Lib.hid hW0
  clear hWx hW0 hB1 hB2 hs hx hz
  obtain ⟨v1, v2⟩ := hg.bid i hi j hj
  obtain ⟨p1, p2⟩ := hg.price j hj
  obtain ⟨m1, m2⟩ := bz_bd v1 v2 hg.z1 hg.z2
  have hrow := hg.row i hi
  have hpl := hg.plen
  have h6 := hg.six
  obtain ⟨b2, o2, rfl, _, qr, dr, hc2, hI⟩ := mX.get hi
  obtain ⟨b3, o3, rfl, _, hc3⟩ := hI.get (show j < (rget v i).length by rw [hrow]; exact hj)
  obtain ⟨b4, o4, rfl, _, hc4⟩ := mP.get (show j < ps.length by rw [hpl]; exact hj)
  have x0 := bX.cell 0 _ rfl
  have x1 := bX.cell 1 _ rfl
  have l0 := bL.cell 0 _ rfl
  have l1 := bL.cell 1 _ rfl
  have l2 := bL.cell 2 _ rfl
  have hi1 : (i : Int) < v.length := by omega
  have hj1 : (j : Int) < (rget v i).length := by omega
  have hj2 : (j : Int) < ps.length := by omega
  have He : Hid (gainI v ps z i j = iget (rget v i) j * z - iget ps j) := rfl
  clear hg hrow hpl
  obtain ⟨x, hxx⟩ : ∃ x, iget (rget v i) j = x := ⟨_, rfl⟩
  obtain ⟨y, hyy⟩ : ∃ y, iget ps j = y := ⟨_, rfl⟩
  rw [hxx] at hc3 v1 v2 m1 m2 He
  rw [hyy] at hc4 p1 p2 He
  clear hxx hyy
  have hw1 : IntKind.i64.wrap (x * z) = x * z := IntWalk.i64_in _ (by omega)
  have hw2 : IntKind.i64.wrap (x * z - y) = x * z - y := IntWalk.i64_in _ (by omega)
  go_enter Try.func51, Try.ntmps51
  go_wp2_with fail
  rw [HWx.out, HW0.out]
  go_quiet (fail)
  go_wp2_with fail
  go_ret
  refine ⟨ret_int ?_, hB.drewN' nq⟩
  rw [He.out]

set_option maxHeartbeats 8000000 in
set_option maxRecDepth 100000 in
theorem refGains_any (p q s : Option Addr) (c d f : Nat) (v : List (List Int)) (r : Int) (al ps : List Int) (z : Int) (w : World) (hx : Mat w p c v) (hy : Ints w q d al) (hz : Ints w s f ps) :
    Calls Try.prog 22 #[.agg #[.slice p v.length c, .int .i64 r], .agg #[.slice q al.length d, .slice s ps.length f, .int .i64 z]] w (Gives2 w (gnsL v r al ps z) (vldR v r al ps z)) := by
  obtain ⟨i0, hi0, hz0, hz1, hz2⟩ := info_parts infoInt
  obtain ⟨Wx, hWx⟩ : ∃ W, w.alloc (.cells #[.slice p v.length c, .int .i64 r] 24) = W := ⟨_, rfl⟩
  obtain ⟨W0, hW0⟩ : ∃ W, Wx.alloc (.cells #[.slice q al.length d, .slice s ps.length f, .int .i64 z] 28) = W := ⟨_, rfl⟩
  have hB1 := below_alloc hWx
  have hB2 := below_alloc hW0
  have bX : BoxV W0 w.heap.size [.slice p v.length c, .int .i64 r] := (BoxV.new rfl hWx).below hB2
  have hs : Wx.heap.size = w.heap.size + 1 := by rw [← hWx]; simp
  have bL : BoxV W0 (w.heap.size + 1) [.slice q al.length d, .slice s ps.length f, .int .i64 z] := BoxV.new hs hW0
  have hB : Below w.heap.size w W0 := hB1.trans (hB2.mono hB1.size)
  have mX := hx.below hB (Nat.le_refl _)
  have mA := hy.below hB (Nat.le_refl _)
  have mP := hz.below hB (Nat.le_refl _)
  have HWx := Lib.hid hWx
  have HW0 := Lib.hid hW0
  clear hWx hW0 hB1 hB2 hs hx hy hz
  have hvl := mX.length_le
  have hpl := mP.length_le
  go_enter Try.func22, Try.ntmps22
  go_wp2_with fail
  rw [HWx.out, HW0.out]
  refine (refValid_any p q s c d f v r al ps z _ mX mA mP).mono ?_
  rintro e w1 ⟨rfl, hb⟩
  replace mX := mX.below hb (Nat.le_refl _)
  replace mA := mA.below hb (Nat.le_refl _)
  replace mP := mP.below hb (Nat.le_refl _)
  replace bX := bX.below hb
  replace bL := bL.below hb
  replace hB := hB.trans (hb.mono hB.size)
  clear hb
  have hle := hB.size
  have x0 := bX.cell 0 _ rfl
  have x1 := bX.cell 1 _ rfl
  have l0 := bL.cell 0 _ rfl
  have l1 := bL.cell 1 _ rfl
  have l2 := bL.cell 2 _ rfl
  by_cases hC : vldR v r al ps z = 0
  · have hcz : (vldR v r al ps z != 0) = false := by rw [hC]; rfl
    have HL : Hid (gnsL v r al ps z = gainL v al ps z) := by unfold Hid gnsL; rw [if_pos hC]
    have HG := Lib.hid (good_of hC)
    have Hlen := Lib.hid (gainL_len v al ps z)
    have HC := Lib.hid hC
    clear hC
    obtain ⟨B, hBB⟩ : ∃ B, w1.heap.size = B := ⟨_, rfl⟩
    have hwB : w.heap.size ≤ B := by omega
    have hlB : w.heap.size + 1 < B := by have := bL.lt; omega
    have HBB := Lib.hid hBB
    clear hBB
    go_wp2_with fail
    clear x0 x1 l0 l1 l2
    go_loopw [6, 7] (fun s i wr => ∃ m : Nat, m ≤ v.length ∧ i = .int .i64 m ∧ (∃ zs q d, Hid (zs = (gainL v al ps z).take m) ∧ s = .slice q (zs : List Int).length d ∧ Own wr B q d zs) ∧ Below B w1 wr) (fun _ i _ => v.length - (intOf i).toNat)
    case atStart => exact ⟨0, by omega, rfl, ⟨[], none, 0, rfl, rfl, Own.ofNil _ _⟩, Below.refl _ _⟩
    case round =>
      obtain ⟨m, hm, rfl, ⟨zs, qz, dz, hzz, rfl, hO⟩, hBm⟩ := hrel
      have hsz := hBm.size
      rw [HBB.out] at hsz
      have hBm' : Below w1.heap.size w1 wr := by rw [HBB.out]; exact hBm
      have bXr := bX.below hBm'
      have x0 := bXr.cell 0 _ rfl
      by_cases hmv : m < v.length
      · have hg := HG.out
        have hml : m < al.length := by rw [hg.alen]; exact hmv
        obtain ⟨i1, i2⟩ := hg.itm m hmv
        obtain ⟨j0, hj0⟩ : ∃ j0 : Nat, iget al m = (j0 : Int) := ⟨(iget al m).toNat, by omega⟩
        have hit : itm al m = j0 := by simp [itm, hj0]
        rw [hit] at i2
        have h6 := hg.six
        have hgb := gain_bd hg hmv i2
        have Hsn : Hid ((gainL v al ps z).take (m + 1) = (gainL v al ps z).take m ++ [gainI v ps z m j0]) := by
          have h := take_snocI (l := gainL v al ps z) (k := m) (by rw [Hlen.out]; exact hml)
          rw [gainL_get hml, hit] at h
          exact h
        have mXr := mX.below hBm' (Nat.le_refl _)
        have mPr := mP.below hBm' (Nat.le_refl _)
        obtain ⟨b, o, rfl, _, hc⟩ := (mA.below hBm' (Nat.le_refl _)).get hml
        rw [hj0] at hc
        have bLr := bL.below hBm'
        have x1 := bXr.cell 1 _ rfl
        have l0 := bLr.cell 0 _ rfl
        have l1 := bLr.cell 1 _ rfl
        have l2 := bLr.cell 2 _ rfl
        have hlX := bXr.lt
        have hlL := bLr.lt
        have hm1 : (m : Int) < al.length := by omega
        have hmv1 : (m : Int) < v.length := by omega
        have hzl : zs.length ≤ 900000 := by rw [hzz.out, List.length_take]; omega
        have HGain := Lib.hid (fun W (h : Below wr.heap.size wr W) => refGain_ok p (some ⟨b, o, none⟩) s c d f v r al ps z m j0 W (mXr.below h (Nat.le_refl _)) (mPr.below h (Nat.le_refl _)) hg hmv i2)
        clear bLr bXr hg hit i1 hj0 mXr mPr
        obtain ⟨G, hGG⟩ : ∃ G, gainI v ps z m j0 = G := ⟨_, rfl⟩
        rw [hGG] at hgb Hsn HGain
        clear hGG
        have hy64 : in64 G := ⟨by omega, by omega⟩
        go_wp2_with fail
        go_region_law (first
          | (refine step_append_lies _ rfl (.tmp 22) (.tmp 32) 26 rfl B 3 i0 (.int .i64 0) 1 8 Try.underlying26 hi0 hz0 hz1 hz2 rfl (by decide) (.slice qz zs.length dz) zs.length (zs.map (Value.int .i64)) (by simp [Act.eval, Act.put]) (show Own _ B _ _ zs from by repeat (first | exact (hO.below (below_drewN wr.heap.size wr 1) (Nat.le_refl _)).below hbC (Nat.le_refl _) | exact hO.below hbC (Nat.le_refl _) | apply Own.drewN | apply Own.drew1 | apply Own.alloc)).row ⟨wC.heap.size, 0, none⟩ 1 1 [.int .i64 G] (by simp [Act.eval, Act.put]) rfl (cell_one_new _ _ _) (by simp [Value.oneCell']) (by decide) (by simp [maxLen]; omega) (by omega) (by simp; omega) _ rfl ?_; intro g cap w4 hown3 hg3 hor3 hlt3)
          | (go_simp; go_at_call 51; refine (HGain.out _ (below_drewN wr.heap.size wr 1)).mono ?_; rintro e wC ⟨rfl, hbC⟩; have hszC : wr.heap.size ≤ wC.heap.size := hbC.size))
        all_goals
          have hb4 : Below B w1 w4 := Below.grown (show Below B w1 _ from by repeat (first | exact (hBm.trans (below_drewN B wr 1)).trans (hbC.mono hsz) | apply Below.drewN' | apply Below.drew | refine Below.alloc ?_ (by first | omega | (simp; omega)) _)) hg3 (by simp; omega) (fun k' e => by rw [ownBlock_slice] at e; exact (hO.lt k' e).1)
          go_wp2_with fail
          go_roundw
          case rel => exact ⟨m + 1, by omega, by go_num, ⟨zs ++ [G], _, cap, by unfold Hid; rw [Hsn.out, hzz.out], by simp, own_snocR hown3 hO.rng hy64⟩, hb4⟩
          case measure => simp [intOf]; omega
      · have hm1 : ¬ (m : Int) < v.length := by omega
        obtain rfl : m = v.length := by omega
        have hzr : zs = gainL v al ps z := by rw [hzz.out, List.take_of_length_le (by rw [Hlen.out, HG.out.alen]; exact Nat.le_refl _)]
        subst hzr
        go_wp2_with fail
        go_ret2
        rw [HC.out]
        unfold Gives2
        rw [HL.out]
        exact ⟨qz, dz, rfl, hO.lower hwB, hB.trans (hBm'.mono hle)⟩
  · have hcz : (vldR v r al ps z != 0) = true := by rw [bne_iff_ne]; exact hC
    have HL : Hid (gnsL v r al ps z = []) := by unfold Hid gnsL; rw [if_neg hC]
    clear hC
    go_wp2_with fail
    refine (refValid_any p q s c d f v r al ps z _ mX mA mP).mono ?_
    rintro e w2 ⟨rfl, hb⟩
    go_wp2_with fail
    go_ret2
    unfold Gives2
    rw [HL.out]
    exact ⟨none, 0, rfl, Own.ofNil _ _, hB.trans (hb.mono hle)⟩
end Go.Proofs.Ytojldecldemfaaa
