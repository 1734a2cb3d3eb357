/- The walks of chores.Burdened and of the reference's, for every chores and allocation. -/
import Derived.Test.YtiohehofnlmenaaChoresA
namespace Go.Proofs.Ytiohehofnlmenaa
set_option linter.unusedVariables false
set_option linter.unusedSimpArgs false
open Go.ChangeShapes Go.WideShapes Go.ChangeAt Go.RowKit Go.Deep

theorem times_in {y : Int} {n : Nat} (h0 : 0 ≤ y) (h1 : y ≤ 10000) (hn : n ≤ 6) : 0 ≤ y * (n : Int) ∧ y * (n : Int) ≤ 60000 := by
  have a := Int.mul_nonneg h0 (Int.natCast_nonneg n)
  have b := Int.mul_le_mul h1 (show (n : Int) ≤ 6 by omega) (Int.natCast_nonneg n) (by omega)
  omega

set_option maxHeartbeats 8000000 in
set_option maxRecDepth 100000 in
theorem choresBurdened_any (p : Option Addr) (c : Nat) (v : List (List Int)) (q : Option Addr) (d : Nat) (a : List Int) (w : World) (hx : Mat w p c v) (hi : Ints w q d a) :
    Calls Try.prog 13 #[.agg #[.slice p v.length c], .slice q a.length d] w (Gives2 w (burdL v a) (chkA v a)) := by
  obtain ⟨W0, hW0⟩ : ∃ W0, w.alloc (.cells #[.slice p v.length c] 24) = W0 := ⟨_, rfl⟩
  have hB : Below w.heap.size w W0 := below_alloc hW0
  have bX : BoxV W0 w.heap.size [.slice p v.length c] := BoxV.new rfl hW0
  have hx := hx.below hB (Nat.le_refl _)
  have hi := hi.below hB (Nat.le_refl _)
  have x0 := bX.cell 0 _ rfl
  have HW0 := Lib.hid hW0
  clear hW0
  have hl1 := hx.length_le
  have hl2 := hi.length_le
  go_enter Try.func13, Try.ntmps13
  go_wp2_with fail
  rw [HW0.out]
  refine (goodsValues_any p c v q d a _ hx hi).mono ?_
  rintro e w1 ⟨pv, cv, rfl, mV, hb1⟩
  replace hx := hx.below hb1 (Nat.le_refl _)
  replace bX := bX.below hb1
  replace x0 := bX.cell 0 _ rfl
  replace hB := hB.trans (hb1.mono hB.size)
  clear hb1
  by_cases hF : chkA v a = 0
  · have HL := Lib.hid (burdL_ok hF)
    have HF := Lib.hid hF
    rw [valsL_ok hF] at mV
    rw [valsL_ok hF, valsG_len, hF]
    obtain ⟨hg, ha⟩ := chkA_zero.1 hF
    have h0 : 0 < v.length := hg.1
    have h6 := hg.2.1
    have hm10 := hg.2.2.1
    obtain ⟨B1, hB1⟩ : ∃ B1, w1.heap.size = B1 := ⟨_, rfl⟩
    have Hg := Lib.hid hg
    have Ha := Lib.hid ha
    have HB1 := Lib.hid hB1
    have HB := Lib.hid hB
    obtain ⟨bv, ov, rfl, hbv, _, _, _, _⟩ := mV.get (j := 0) (by rw [valsG_len]; exact h0)
    obtain ⟨bx, ox, rfl, hbx, _, _, _, _⟩ := hx.get (j := 0) h0
    rw [hB1] at hbv hbx
    clear hg ha hF hB hB1
    go_wp2_with fail
    go_loopw [8, 25] (fun s t wr => ∃ m : Nat, m ≤ v.length ∧ t = .int .i64 m ∧ (∃ zs q d, Hid (zs = fUp (bP v a) m) ∧ s = .slice q (zs : List Int).length d ∧ Own wr B1 q d zs) ∧ Below B1 w1 wr) (fun _ t _ => v.length - (intOf t).toNat)
    case atStart => exact ⟨0, Nat.zero_le _, rfl, ⟨[], none, 0, rfl, rfl, Own.ofNil _ _⟩, Below.refl _ _⟩
    case round =>
      clear x0
      obtain ⟨m, hm, rfl, ⟨zs, qz, dz, hz, rfl, hO⟩, hbr⟩ := hrel
      by_cases hlt : m < v.length
      · have hm1 : (m : Int) < v.length := by omega
        have x0 := (bX.below (by rw [HB1.out]; exact hbr)).cell 0 _ rfl
        obtain ⟨qm, dm, hc, hI⟩ := mV.at (j := m) (by rw [valsG_len]; exact hlt)
        rw [valsG_row hlt] at hc hI
        rw [worthRow_len] at hc
        have hc := (hbr.cell (p := ⟨bv, ov + m, none⟩) hbv).trans hc
        obtain ⟨qx, dx, hcx, hX⟩ := hx.at (j := m) hlt
        have hcx := (hbr.cell (p := ⟨bx, ox + m, none⟩) hbx).trans hcx
        obtain ⟨b2, o2, rfl, _, hc3⟩ := (hI.below hbr (Nat.le_of_eq HB1.out)).get (j := m) (by rw [worthRow_len]; exact hlt)
        rw [worthRow_get hlt] at hc3
        have hXr := hX.below hbr (Nat.le_of_eq HB1.out)
        have hrl := Lib.hid ((Hg.out.2.2.2 m hlt).1)
        have hwy := worth_in Hg.out Ha.out hlt (m : Int)
        have hP : bP v a m = decide (allG v m < worth v a m (m : Int) * v.length) := rfl
        have Hall : Hid (allG v m = sumUp (rget v m) (rget v m).length) := rfl
        have HR1 := Lib.hid (show bP v a m = true → _ from fun h => fUp_yes (P := bP v a) (m := m) h)
        have HR2 := Lib.hid (show bP v a m = false → _ from fun h => fUp_no (P := bP v a) (m := m) h)
        have hzl : zs.length ≤ 900000 := by rw [hz.out]; have := fUp_len (bP v a) m; omega
        have hszr := hbr.size
        rw [HB1.out] at hszr
        obtain ⟨y, ey⟩ : ∃ y, worth v a m (m : Int) = y := ⟨_, rfl⟩
        rw [ey] at hc3 hwy hP
        have hty := times_in hwy.1 hwy.2 h6
        have hwr : IntKind.i64.wrap (y * (v.length : Int)) = y * v.length := IntWalk.i64_in _ (by omega)
        have HP := Lib.hid hP
        have HO := Lib.hid hO
        clear hI hX ey hP hO
        go_wp2_with fail
        go_loop [11, 36] (fun s t => ∃ k : Nat, k ≤ (rget v m).length ∧ t = .int .i64 k ∧ s = .int .i64 (sumUp (rget v m) k)) (fun _ t => (rget v m).length - (intOf t).toNat)
        case atStart => exact ⟨0, Nat.zero_le _, rfl, rfl⟩
        case round =>
          obtain ⟨k, hk, rfl, rfl⟩ := hrel
          by_cases hkl : k < (rget v m).length
          · have hk1 : (k : Int) < (rget v m).length := by omega
            obtain ⟨b3, o3, rfl, _, hc4⟩ := hXr.get hkl
            have hr1 := sumUp_in Hg.out hlt k (by have := hrl.out; omega)
            have hr2 := (Hg.out.2.2.2 m hlt).2 k hkl
            have Hst : Hid (sumUp (rget v m) (k + 1) = sumUp (rget v m) k + iget (rget v m) k) := rfl
            have hk10 : k ≤ 10 := by have := hrl.out; omega
            generalize sumUp (rget v m) k = s1 at *
            generalize iget (rget v m) k = s2 at *
            go_wp2_with fail
            go_round
            case rel => exact ⟨k + 1, by omega, by go_num, by rw [Hst.out]⟩
            case measure => (simp [intOf] <;> omega)
          · have hk1 : ¬ (k : Int) < (rget v m).length := by omega
            obtain rfl : k = (rget v m).length := by omega
            rw [← Hall.out]
            obtain ⟨S, eS⟩ : ∃ S, allG v m = S := ⟨_, rfl⟩
            rw [eS] at HP ⊢
            clear eS Hall
            cases hd : decide (S < y * (v.length : Int)) with
            | true =>
              have HR := Lib.hid (HR1.out (HP.out.trans hd))
              have hm64 : in64 (m : Int) := ⟨by omega, by omega⟩
              go_wp2_with (at_builtin; refine wpList_app1 rfl (.tmp 53) (.tmp 55) rfl B1 _ _ zs (m : Int) rfl rfl rfl HO.out hm64 hzl hszr ?_; intro p3 c3 w3 u3 hu3 hO3 hg3 hf3)
              go_roundw
              case rel => exact ⟨m + 1, by omega, by go_num, ⟨u3, _, _, by unfold Hid; rw [hu3.out, hz.out, HR.out], rfl, hO3⟩, hbr.grown hg3 hszr (fun k' e => (HO.out.lt k' e).1)⟩
              case measure => (simp [intOf] <;> omega)
            | false =>
              have HR := Lib.hid (HR2.out (HP.out.trans hd))
              go_wp2_with fail
              go_roundw
              case rel => exact ⟨m + 1, by omega, by go_num, ⟨zs, _, _, by unfold Hid; rw [hz.out, HR.out], rfl, HO.out⟩, hbr⟩
              case measure => (simp [intOf] <;> omega)
      · have hm1 : ¬ (m : Int) < v.length := by omega
        obtain rfl : m = v.length := by omega
        have hzr := hz.out
        subst hzr
        have hsz := HB.out.size
        go_wp2_with fail
        go_ret2
        rw [HL.out, HF.out]
        exact ⟨qz, dz, rfl, hO.lower (by have := HB1.out; omega), HB.out.trans (hbr.mono (by have := HB1.out; omega))⟩
  · have HL := Lib.hid (burdL_err hF)
    have hz : (chkA v a != 0) = true := by rw [bne_iff_ne]; exact hF
    clear hF
    go_wp2_with fail
    go_ret2
    rw [HL.out]
    exact ⟨none, 0, rfl, Own.ofNil _ _, hB⟩

set_option maxHeartbeats 8000000 in
set_option maxRecDepth 100000 in
theorem ref24Burdened_any (p : Option Addr) (c : Nat) (v : List (List Int)) (q : Option Addr) (d : Nat) (a : List Int) (w : World) (hx : Mat w p c v) (hi : Ints w q d a) :
    Calls Try.prog 14 #[.agg #[.slice p v.length c], .slice q a.length d] w (Gives2 w (burdL v a) (chkA v a)) := by
  obtain ⟨W0, hW0⟩ : ∃ W0, w.alloc (.cells #[.slice p v.length c] 24) = W0 := ⟨_, rfl⟩
  have hB : Below w.heap.size w W0 := below_alloc hW0
  have bX : BoxV W0 w.heap.size [.slice p v.length c] := BoxV.new rfl hW0
  have hx := hx.below hB (Nat.le_refl _)
  have hi := hi.below hB (Nat.le_refl _)
  have x0 := bX.cell 0 _ rfl
  have HW0 := Lib.hid hW0
  clear hW0
  have hl1 := hx.length_le
  have hl2 := hi.length_le
  go_enter Try.func14, Try.ntmps14
  go_wp2_with fail
  rw [HW0.out]
  refine (ref16Valid_any p c v q d a _ hx hi).mono ?_
  rintro e w1 ⟨rfl, hb1⟩
  replace hx := hx.below hb1 (Nat.le_refl _)
  replace hi := hi.below hb1 (Nat.le_refl _)
  replace bX := bX.below hb1
  replace x0 := bX.cell 0 _ rfl
  replace hB := hB.trans (hb1.mono hB.size)
  clear hb1
  by_cases hF : chkA v a = 0
  · have HL := Lib.hid (burdL_ok hF)
    have HF := Lib.hid hF
    have hz : (chkA v a != 0) = false := by rw [hF]; rfl
    obtain ⟨hg, ha⟩ := chkA_zero.1 hF
    have h0 : 0 < v.length := hg.1
    have h6 := hg.2.1
    obtain ⟨B1, hB1⟩ : ∃ B1, w1.heap.size = B1 := ⟨_, rfl⟩
    have HB1 := Lib.hid hB1
    have HB := Lib.hid hB
    have Hg := Lib.hid hg
    have Ha := Lib.hid ha
    clear hg ha hF hB hB1
    go_wp2_with fail
    go_loopw [6, 7] (fun s t wr => ∃ m : Nat, m ≤ v.length ∧ t = .int .i64 m ∧ (∃ zs q d, Hid (zs = fUp (bP v a) m) ∧ s = .slice q (zs : List Int).length d ∧ Own wr B1 q d zs) ∧ Below B1 w1 wr) (fun _ t _ => v.length - (intOf t).toNat)
    case atStart => exact ⟨0, Nat.zero_le _, rfl, ⟨[], none, 0, rfl, rfl, Own.ofNil _ _⟩, Below.refl _ _⟩
    case round =>
      clear x0
      obtain ⟨m, hm, rfl, ⟨zs, qz, dz, hz, rfl, hO⟩, hbr⟩ := hrel
      have bXr := bX.below (by rw [HB1.out]; exact hbr)
      have x0 := bXr.cell 0 _ rfl
      by_cases hlt : m < v.length
      · have hm1 : (m : Int) < v.length := by omega
        have hxr := hx.below hbr (Nat.le_of_eq HB1.out)
        have hir := hi.below hbr (Nat.le_of_eq HB1.out)
        have CA := Lib.hid (fun W (h : Below wr.heap.size wr W) => all16_any p c v m W (hxr.below h (Nat.le_refl _)) Hg.out hlt)
        have CW := Lib.hid (fun W (h : Below wr.heap.size wr W) => worth_any p c v q d a m (m : Int) W (hxr.below h (Nat.le_refl _)) (hir.below h (Nat.le_refl _)) Hg.out Ha.out hlt)
        have hwy := worth_in Hg.out Ha.out hlt (m : Int)
        have hP : bP v a m = decide (allG v m < (v.length : Int) * worth v a m (m : Int)) := by unfold bP; rw [Int.mul_comm]
        have HR1 := Lib.hid (show bP v a m = true → _ from fun h => fUp_yes (P := bP v a) (m := m) h)
        have HR2 := Lib.hid (show bP v a m = false → _ from fun h => fUp_no (P := bP v a) (m := m) h)
        have hzl : zs.length ≤ 900000 := by rw [hz.out]; have := fUp_len (bP v a) m; omega
        have hszr := hbr.size
        rw [HB1.out] at hszr
        obtain ⟨y, ey⟩ : ∃ y, worth v a m (m : Int) = y := ⟨_, rfl⟩
        obtain ⟨S, eS⟩ : ∃ S, allG v m = S := ⟨_, rfl⟩
        rw [ey] at hwy hP CW
        rw [eS] at hP CA
        have hty := times_in hwy.1 hwy.2 h6
        rw [Int.mul_comm] at hty
        have hwr : IntKind.i64.wrap ((v.length : Int) * y) = v.length * y := IntWalk.i64_in _ (by omega)
        have HP := Lib.hid hP
        have HO := Lib.hid hO
        have hlX := bXr.lt
        have Hmk : Hid (∀ W, Below wr.heap.size wr W → (W.cell? ⟨w.heap.size, 0, none⟩ = some (Value.slice p v.length c) ∧ Below wr.heap.size wr W)) := fun W hG => ⟨(hG.cell (p := ⟨w.heap.size, 0, none⟩) hlX).trans x0, hG⟩
        clear ey eS hP hO hxr hir hwy hty
        cases hd : decide (S < (v.length : Int) * y) with
        | true =>
          have HR := Lib.hid (HR1.out (HP.out.trans hd))
          have hm64 : in64 (m : Int) := ⟨by omega, by omega⟩
          go_wp2_with fail
          go_region_held3 (fun W => W.cell? ⟨w.heap.size, 0, none⟩ = some (Value.slice p v.length c) ∧ Below wr.heap.size wr W)
            (first | assumption | exact Hmk.out _ hG | exact Hmk.out _ (below_drewN wr.heap.size wr 1) | exact Hmk.out _ (Below.refl _ _))
            (first
              | (go_at_call 41; refine (CA.out _ (by go_split_ands; assumption)).mono ?_; rintro e wC ⟨rfl, hbC⟩; have hG : Below wr.heap.size wr wC := Below.trans (by go_split_ands; assumption) (hbC.mono (Below.size (B := wr.heap.size) (w := wr) (by go_split_ands; assumption))))
              | (go_at_call 42; refine (CW.out _ (by go_split_ands; assumption)).mono ?_; rintro e wC ⟨rfl, hbC⟩; have hG : Below wr.heap.size wr wC := Below.trans (by go_split_ands; assumption) (hbC.mono (Below.size (B := wr.heap.size) (w := wr) (by go_split_ands; assumption)))))
          have hO2 := HO.out.below hG (Nat.le_refl _)
          have hsz2 := Nat.le_trans hszr hG.size
          have hbr2 := hbr.trans (hG.mono hszr)
          go_wp2_with (at_builtin; refine wpList_app1 rfl (.tmp 35) (.tmp 37) rfl B1 _ _ zs (m : Int) rfl rfl rfl hO2 hm64 hzl hsz2 ?_; intro p3 c3 w3 u3 hu3 hO3 hg3 hf3)
          go_roundw
          case rel => exact ⟨m + 1, by omega, by go_num, ⟨u3, _, _, by unfold Hid; rw [hu3.out, hz.out, HR.out], rfl, hO3⟩, hbr2.grown hg3 hsz2 (fun k' e => (hO2.lt k' e).1)⟩
          case measure => (simp [intOf] <;> omega)
        | false =>
          have HR := Lib.hid (HR2.out (HP.out.trans hd))
          go_wp2_with fail
          go_region_held3 (fun W => W.cell? ⟨w.heap.size, 0, none⟩ = some (Value.slice p v.length c) ∧ Below wr.heap.size wr W)
            (first | assumption | exact Hmk.out _ hG | exact Hmk.out _ (below_drewN wr.heap.size wr 1) | exact Hmk.out _ (Below.refl _ _))
            (first
              | (go_at_call 41; refine (CA.out _ (by go_split_ands; assumption)).mono ?_; rintro e wC ⟨rfl, hbC⟩; have hG : Below wr.heap.size wr wC := Below.trans (by go_split_ands; assumption) (hbC.mono (Below.size (B := wr.heap.size) (w := wr) (by go_split_ands; assumption))))
              | (go_at_call 42; refine (CW.out _ (by go_split_ands; assumption)).mono ?_; rintro e wC ⟨rfl, hbC⟩; have hG : Below wr.heap.size wr wC := Below.trans (by go_split_ands; assumption) (hbC.mono (Below.size (B := wr.heap.size) (w := wr) (by go_split_ands; assumption)))))
          have hO2 := HO.out.below hG (Nat.le_refl _)
          have hbr2 := hbr.trans (hG.mono hszr)
          go_wp2_with fail
          go_roundw
          case rel => exact ⟨m + 1, by omega, by go_num, ⟨zs, _, _, by unfold Hid; rw [hz.out, HR.out], rfl, hO2⟩, hbr2⟩
          case measure => (simp [intOf] <;> omega)
      · have hm1 : ¬ (m : Int) < v.length := by omega
        obtain rfl : m = v.length := by omega
        have hzr := hz.out
        subst hzr
        have hsz := HB.out.size
        go_wp2_with fail
        go_ret2
        rw [HL.out, HF.out]
        exact ⟨qz, dz, rfl, hO.lower (by have := HB1.out; omega), HB.out.trans (hbr.mono (by have := HB1.out; omega))⟩
  · have HL := Lib.hid (burdL_err hF)
    have hz : (chkA v a != 0) = true := by rw [bne_iff_ne]; exact hF
    clear hF
    go_wp2_with fail
    refine (ref16Valid_any p c v q d a _ hx hi).mono ?_
    rintro e w2 ⟨rfl, hb1⟩
    replace hB := hB.trans (hb1.mono hB.size)
    go_wp2_with fail
    go_ret2
    rw [HL.out]
    exact ⟨none, 0, rfl, Own.ofNil _ _, hB⟩
end Go.Proofs.Ytiohehofnlmenaa
