/- The walk of the reference's Valid, for every flat and lease; no condition but the lists' sizes. -/
import Derived.Test.YtojldecldemfaaaRoomI
namespace Go.Proofs.Ytojldecldemfaaa
set_option linter.unusedVariables false
set_option linter.unusedSimpArgs false
open Go.ChangeShapes Go.WideShapes Go.ChangeAt Go.RowKit Go.Deep

set_option maxHeartbeats 8000000 in
set_option maxRecDepth 100000 in
theorem refValid_any (p q s : Option Addr) (c d f : Nat) (v : List (List Int)) (r : Int) (al ps : List Int) (z : Int) (w : World) (hx : Mat w p c v) (hy : Ints w q d al) (hz : Ints w s f ps) :
    Calls Try.prog 26 #[.agg #[.slice p v.length c, .int .i64 r], .agg #[.slice q al.length d, .slice s ps.length f, .int .i64 z]] w fun e w' => e = .returned (.int .i64 (vldR v r al ps z)) ∧ Below w.heap.size w w' := by
  obtain ⟨Wx, hWx⟩ : ∃ W, w.alloc (.cells #[.slice p v.length c, .int .i64 r] 24) = W := ⟨_, rfl⟩
  obtain ⟨W0, hW0⟩ : ∃ W, Wx.alloc (.cells #[.slice q al.length d, .slice s ps.length f, .int .i64 z] 28) = W := ⟨_, rfl⟩
  have hB1 := below_alloc hWx
  have hB2 := below_alloc hW0
  have bX : BoxV W0 w.heap.size [.slice p v.length c, .int .i64 r] := (BoxV.new rfl hWx).below hB2
  have hs : Wx.heap.size = w.heap.size + 1 := by rw [← hWx]; simp
  have bL : BoxV W0 (w.heap.size + 1) [.slice q al.length d, .slice s ps.length f, .int .i64 z] := BoxV.new hs hW0
  have hB : Below w.heap.size w W0 := hB1.trans (hB2.mono hB1.size)
  have mX := hx.below hB (Nat.le_refl _)
  have mA := hy.below hB (Nat.le_refl _)
  have mP := hz.below hB (Nat.le_refl _)
  have HWx := Lib.hid hWx
  have HW0 := Lib.hid hW0
  clear hWx hW0 hB1 hB2 hs hx hy hz
  have hvl := mX.length_le
  have hpl := mP.length_le
  go_enter Try.func26, Try.ntmps26
  go_wp2_with fail
  rw [HWx.out, HW0.out]
  refine (refCheckR_any p c v r _ mX).mono ?_
  rintro e w1 ⟨rfl, hb⟩
  replace mX := mX.below hb (Nat.le_refl _)
  replace mA := mA.below hb (Nat.le_refl _)
  replace mP := mP.below hb (Nat.le_refl _)
  replace bX := bX.below hb
  replace bL := bL.below hb
  replace hB := hB.trans (hb.mono hB.size)
  clear hb
  have x0 := bX.cell 0 _ rfl
  have x1 := bX.cell 1 _ rfl
  have l0 := bL.cell 0 _ rfl
  have l1 := bL.cell 1 _ rfl
  have l2 := bL.cell 2 _ rfl
  by_cases hC : chkR v r = 0
  · have hcz : (chkR v r != 0) = false := by rw [hC]; rfl
    have HC := Lib.hid hC
    clear hC
    go_wp2_with fail
    refine (assigned_any q d al v.length _ hvl mA).mono ?_
    rintro e w2 ⟨rfl, rfl⟩
    obtain ⟨hv, hr1, hr2⟩ := chkR_zero.1 HC.out
    have hv6 := hv.2.1
    by_cases hA : IsA al v.length
    · have hE : isAB al v.length = true := isAB_true hA
      have HA := Lib.hid hA
      clear hA hv
      rw [hE]
      by_cases hp : ps.length = v.length
      · have g3 : ((ps.length : Int) != (v.length : Int)) = false := by rw [hp]; simp
        have Hp := Lib.hid hp
        have hp6 : ps.length ≤ 6 := by omega
        clear hp
        by_cases hz1 : z < 1
        · have g1 : decide (z < 1) = true := by simpa using hz1
          go_wp2_with fail
          go_ret
          exact ⟨ret_int (vld_off HC.out fun h => by have := h.2.1; omega).symm, hB⟩
        have g1 : decide (z < 1) = false := by simpa using hz1
        by_cases hz2 : 60 < z
        · have g2 : decide (60 < z) = true := by simpa using hz2
          go_wp2_with fail
          go_ret
          exact ⟨ret_int (vld_off HC.out fun h => by have := h.2.2.1; omega).symm, hB⟩
        have g2 : decide (60 < z) = false := by simpa using hz2
        have hz3 : 1 ≤ z := by omega
        have hz4 : z ≤ 60 := by omega
        clear hz1 hz2
        go_wp2_with fail
        clear x0 x1 l0 l1 l2
        go_loopw [5, 6] (fun s i wr => ∃ k : Nat, k ≤ ps.length ∧ i = .int .i64 k ∧ s = .int .i64 (sumTo (iget ps) k) ∧ Hid (PriceOk z ps k) ∧ Below w2.heap.size w2 wr) (fun _ i _ => ps.length - (intOf i).toNat)
        case atStart => exact ⟨0, by omega, rfl, rfl, fun j hj => by omega, Below.refl _ _⟩
        case round =>
          obtain ⟨k, hk, rfl, rfl, ht, hb⟩ := hrel
          have HBk := Lib.hid hb
          replace mX := mX.below hb (Nat.le_refl _)
          replace mA := mA.below hb (Nat.le_refl _)
          replace mP := mP.below hb (Nat.le_refl _)
          replace bX := bX.below hb
          replace bL := bL.below hb
          replace hB := hB.trans (hb.mono hB.size)
          clear hb
          have x0 := bX.cell 0 _ rfl
          have x1 := bX.cell 1 _ rfl
          have l0 := bL.cell 0 _ rfl
          have l1 := bL.cell 1 _ rfl
          have l2 := bL.cell 2 _ rfl
          have hS := price_sum hz4 (by omega) ht.out
          by_cases hlt : k < ps.length
          · obtain ⟨b, o, rfl, _, hc⟩ := mP.get hlt
            have hk1 : (k : Int) < ps.length := by omega
            by_cases hlow : iget ps k < -10000000 * z
            · have hdl : decide (iget ps k < -10000000 * z) = true := by simpa using hlow
              have hn := Lib.hid (show ¬ VldP v r al ps z from fun h => by have := (h.2.2.2.2.1 k hlt).1; omega)
              clear hS hlow
              go_wp2_with fail
              go_quiet (fail)
              go_wp2_with fail
              go_ret
              exact ⟨ret_int (vld_off HC.out hn.out).symm, hB.drewN' nq⟩
            · have hdl : decide (iget ps k < -10000000 * z) = false := by simpa using hlow
              by_cases hhi : 10000000 * z < iget ps k
              · have hdh : decide (10000000 * z < iget ps k) = true := by simpa using hhi
                have hn := Lib.hid (show ¬ VldP v r al ps z from fun h => by have := (h.2.2.2.2.1 k hlt).2; omega)
                clear hS hlow hhi
                go_wp2_with fail
                go_quiet (fail)
                go_wp2_with fail
                go_ret
                exact ⟨ret_int (vld_off HC.out hn.out).symm, hB.drewN' nq⟩
              · have hdh : decide (10000000 * z < iget ps k) = false := by simpa using hhi
                have Hn := Lib.hid (show PriceOk z ps (k + 1) from snoc_all ht.out ⟨by omega, by omega⟩)
                have Hs : Hid (sumTo (iget ps) (k + 1) = sumTo (iget ps) k + iget ps k) := rfl
                generalize sumTo (iget ps) k = s0 at *
                obtain ⟨hS1, hS2⟩ := hS
                have e1 : -600000000 ≤ iget ps k := by omega
                have e2 : iget ps k ≤ 600000000 := by omega
                clear hlow hhi
                go_wp2_with fail
                go_quiet (fail)
                go_wp2_with fail
                go_roundw
                case rel => exact ⟨k + 1, by omega, by go_num, by rw [Hs.out], Hn, HBk.out.drewN' nq⟩
                case measure => simp [intOf]; omega
          · have hk1 : ¬ (k : Int) < ps.length := by omega
            obtain rfl : k = ps.length := by omega
            obtain ⟨m1, m2⟩ := rz_bd hr1 hr2 hz3 hz4
            rw [Int.mul_comm] at m1 m2
            have hw : IntKind.i64.wrap (z * r) = z * r := IntWalk.i64_in _ (by omega)
            by_cases hq : sumTo (iget ps) ps.length = z * r
            · have g4 : (sumTo (iget ps) ps.length != z * r) = false := by rw [hq]; simp
              have Hq := Lib.hid hq
              clear hq
              go_wp2_with fail
              go_ret
              exact ⟨ret_int (vld_ok HC.out ⟨HA.out, hz3, hz4, Hp.out, ht.out, by rw [Hq.out, Int.mul_comm]⟩).symm, hB⟩
            · have g4 : (sumTo (iget ps) ps.length != z * r) = true := by rw [bne_iff_ne]; exact hq
              have Hq := Lib.hid hq
              clear hq
              go_wp2_with fail
              go_ret
              exact ⟨ret_int (vld_off HC.out fun h => Hq.out (by rw [Int.mul_comm]; exact h.2.2.2.2.2)).symm, hB⟩
      · have g3 : ((ps.length : Int) != (v.length : Int)) = true := by rw [bne_iff_ne]; omega
        have Hp := Lib.hid hp
        clear hp
        go_wp2_with fail
        go_ret
        exact ⟨ret_int (vld_off HC.out fun h => Hp.out h.2.2.2.1).symm, hB⟩
    · have hE : isAB al v.length = false := isAB_false hA
      have HA := Lib.hid hA
      clear hA hv
      rw [hE]
      go_wp2_with fail
      go_ret
      exact ⟨ret_int (vld_off HC.out fun h => HA.out h.1).symm, hB⟩
  · have hcz : (chkR v r != 0) = true := by rw [bne_iff_ne]; exact hC
    have HC := Lib.hid hC
    clear hC
    go_wp2_with fail
    refine (refCheckR_any p c v r _ mX).mono ?_
    rintro e w2 ⟨rfl, hb⟩
    go_wp2_with fail
    go_ret
    exact ⟨ret_int (vld_bad HC.out).symm, hB.trans (hb.mono hB.size)⟩
end Go.Proofs.Ytojldecldemfaaa
