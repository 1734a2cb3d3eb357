/- The walk of room.Gains, for every flat and lease; no condition but the lists' sizes. -/
import Derived.Test.YtmcncflieoolmaaTopTopRentm16
import Derived.Test.YtmcncflieoolmaaTopTopRentm12
import Derived.Test.YtmcncflieoolmaaTopTopRentm8
import Derived.Test.YtmcncflieoolmaaTopTopRentm4
import Derived.Deep.AppendLies
import Derived.Laws.StructEq
/- The walk of room.Gains, for every flat and lease; no condition but the lists' sizes. -/
namespace Go.Proofs.Ytmcncflieoolmaa
set_option linter.unusedVariables false
set_option linter.unusedSimpArgs false
open Go.ChangeShapes Go.WideShapes Go.ChangeAt Go.RowKit Go.Deep

/-- What an agent gains with a room, times the denominator; what all gain. -/
def gainI (v : List (List Int)) (ps : List Int) (z : Int) (i j : Nat) : Int := bid v i j * z - iget ps j
def gainL (v : List (List Int)) (al ps : List Int) (z : Int) : List Int := (List.range al.length).map fun i => gainI v ps z i (itm al i)
theorem gainL_len (v : List (List Int)) (al ps : List Int) (z : Int) : (gainL v al ps z).length = al.length := by simp [gainL]
theorem gainL_get {v : List (List Int)} {al ps : List Int} {z : Int} {i : Nat} (h : i < al.length) : iget (gainL v al ps z) i = gainI v ps z i (itm al i) := by
  simp [gainL, iget, h]
def gnsL (v : List (List Int)) (r : Int) (al ps : List Int) (z : Int) : List Int := if vldR v r al ps z = 0 then gainL v al ps z else []
theorem bz_bd {b z : Int} (h1 : 0 ≤ b) (h2 : b ≤ 1000000) (hz1 : 1 ≤ z) (hz2 : z ≤ 60) : 0 ≤ b * z ∧ b * z ≤ 60000000 := by
  have h3 : b * z ≤ 1000000 * z := Int.mul_le_mul_of_nonneg_right h2 (by omega)
  exact ⟨Int.mul_nonneg h1 (by omega), by omega⟩
/-- What a valid lease in a valid flat brings with it. -/
structure Good (v : List (List Int)) (al ps : List Int) (z : Int) : Prop where
  bids : Bids v
  isA : IsA al v.length
  alen : al.length = v.length
  plen : ps.length = v.length
  z1 : 1 ≤ z
  z2 : z ≤ 60
  six : v.length ≤ 6
  row : ∀ i, i < v.length → (rget v i).length = v.length
  itm : ∀ i, i < v.length → 0 ≤ iget al i ∧ itm al i < v.length
  bid : ∀ i, i < v.length → ∀ j, j < v.length → 0 ≤ iget (rget v i) j ∧ iget (rget v i) j ≤ 1000000
  price : ∀ j, j < v.length → -600000000 ≤ iget ps j ∧ iget ps j ≤ 600000000
theorem good_of {v : List (List Int)} {r : Int} {al ps : List Int} {z : Int} (h : vldR v r al ps z = 0) : Good v al ps z := by
  obtain ⟨hk, hA, hz1, hz2, hpl, hP, _⟩ := vld_zero.1 h
  obtain ⟨hv, _, _⟩ := chkR_zero.1 hk
  have hf := fits_of hv hA
  refine ⟨hv, hA, hA.1, hpl, hz1, hz2, hv.2.1, fun i hi => (hv.2.2 i hi).1, fun i hi => ?_, fun i hi j hj => (hv.2.2 i hi).2 j hj, fun j hj => ?_⟩
  · have h1 := hf.item i (by rw [hA.1]; exact hi)
    rw [(hv.2.2 i hi).1] at h1
    exact h1
  · have := hP j (by rw [hpl]; exact hj)
    omega

set_option maxHeartbeats 8000000 in
set_option maxRecDepth 100000 in
theorem roomGains_any (p q s : Option Addr) (c d f : Nat) (v : List (List Int)) (r : Int) (al ps : List Int) (z : Int) (w : World) (hx : Mat w p c v) (hy : Ints w q d al) (hz : Ints w s f ps) (hl : al.length ≤ 1000000) :
    Calls Try.prog 33 #[.agg #[.slice p v.length c, .int .i64 r], .agg #[.slice q al.length d, .slice s ps.length f, .int .i64 z]] w (Gives2 w (gnsL v r al ps z) (vldR v r al ps z)) := by
  obtain ⟨i0, hi0, hz0, hz1, hz2⟩ := info_parts infoInt
  obtain ⟨Wx, hWx⟩ : ∃ W, w.alloc (.cells #[.slice p v.length c, .int .i64 r] 24) = W := ⟨_, rfl⟩
  obtain ⟨W0, hW0⟩ : ∃ W, Wx.alloc (.cells #[.slice q al.length d, .slice s ps.length f, .int .i64 z] 29) = W := ⟨_, rfl⟩
  have hB1 := below_alloc hWx
  have hB2 := below_alloc hW0
  have bX : BoxV W0 w.heap.size [.slice p v.length c, .int .i64 r] := (BoxV.new rfl hWx).below hB2
  have hs : Wx.heap.size = w.heap.size + 1 := by rw [← hWx]; simp
  have bL : BoxV W0 (w.heap.size + 1) [.slice q al.length d, .slice s ps.length f, .int .i64 z] := BoxV.new hs hW0
  have hB : Below w.heap.size w W0 := hB1.trans (hB2.mono hB1.size)
  have mX := hx.below hB (Nat.le_refl _)
  have mA := hy.below hB (Nat.le_refl _)
  have mP := hz.below hB (Nat.le_refl _)
  have HWx := Lib.hid hWx
  have HW0 := Lib.hid hW0
  clear hWx hW0 hB1 hB2 hs hx hy hz
  have hvl := mX.length_le
  have hpl := mP.length_le
  go_enter Try.func33, Try.ntmps33
  go_wp2_with fail
  rw [HWx.out, HW0.out]
  refine (roomValid_any p q s c d f v r al ps z _ mX mA mP hl).mono ?_
  rintro e w1 ⟨rfl, hb⟩
  replace mX := mX.below hb (Nat.le_refl _)
  replace mA := mA.below hb (Nat.le_refl _)
  replace mP := mP.below hb (Nat.le_refl _)
  replace bX := bX.below hb
  replace bL := bL.below hb
  replace hB := hB.trans (hb.mono hB.size)
  clear hb
  have hle := hB.size
  by_cases hC : vldR v r al ps z = 0
  · have hcz : (vldR v r al ps z != 0) = false := by rw [hC]; rfl
    have HL : Hid (gnsL v r al ps z = gainL v al ps z) := by unfold Hid gnsL; rw [if_pos hC]
    have HG := Lib.hid (good_of hC)
    have Hlen := Lib.hid (gainL_len v al ps z)
    have HC := Lib.hid hC
    clear hC
    have l0 := bL.cell 0 _ rfl
    obtain ⟨B, hBB⟩ : ∃ B, w1.heap.size = B := ⟨_, rfl⟩
    have hwB : w.heap.size ≤ B := by omega
    have hlB : w.heap.size + 1 < B := by have := bL.lt; omega
    have HBB := Lib.hid hBB
    clear hBB
    go_wp2_with fail
    go_loopw [7, 19] (fun s i wr => ∃ m : Nat, m ≤ al.length ∧ i = .int .i64 m ∧ (∃ zs q d, Hid (zs = (gainL v al ps z).take m) ∧ s = .slice q (zs : List Int).length d ∧ Own wr B q d zs) ∧ Below B w1 wr) (fun _ i _ => al.length - (intOf i).toNat)
    case atStart => exact ⟨0, by omega, rfl, ⟨[], none, 0, rfl, rfl, Own.ofNil _ _⟩, Below.refl _ _⟩
    case round =>
      obtain ⟨m, hm, rfl, ⟨zs, qz, dz, hzz, rfl, hO⟩, hBm⟩ := hrel
      have hsz := hBm.size
      rw [HBB.out] at hsz
      have hBm' : Below w1.heap.size w1 wr := by rw [HBB.out]; exact hBm
      by_cases hml : m < al.length
      · have hg := HG.out
        have hmv : m < v.length := by rw [← hg.alen]; exact hml
        obtain ⟨i1, i2⟩ := hg.itm m hmv
        obtain ⟨j0, hj0⟩ : ∃ j0 : Nat, iget al m = (j0 : Int) := ⟨(iget al m).toNat, by omega⟩
        have hit : itm al m = j0 := by simp [itm, hj0]
        rw [hit] at i2
        have hrow := hg.row m hmv
        obtain ⟨v1, v2⟩ := hg.bid m hmv j0 i2
        obtain ⟨p1, p2⟩ := hg.price j0 i2
        have hpl2 := hg.plen
        have hz1' := hg.z1
        have hz2' := hg.z2
        have h6 := hg.six
        have Hsn : Hid ((gainL v al ps z).take (m + 1) = (gainL v al ps z).take m ++ [iget (rget v m) j0 * z - iget ps j0]) := by
          have h := take_snocI (l := gainL v al ps z) (k := m) (by rw [Hlen.out]; exact hml)
          rw [gainL_get hml, hit] at h
          exact h
        obtain ⟨b, o, rfl, hlA, hc⟩ := mA.get hml
        rw [hj0] at hc
        obtain ⟨b2, o2, rfl, hlV, qr, dr, hc2, hi⟩ := mX.get hmv
        obtain ⟨b3, o3, rfl, hlR, hc3⟩ := hi.get (show j0 < (rget v m).length by rw [hrow]; exact i2)
        obtain ⟨b4, o4, rfl, hlP, hc4⟩ := mP.get (show j0 < ps.length by rw [hpl2]; exact i2)
        have hcr := (hBm'.cell (p := ⟨b, o + m, none⟩) hlA).trans hc
        have hm1 : (m : Int) < al.length := by omega
        have hmv1 : (m : Int) < v.length := by omega
        have hj1 : (j0 : Int) < (rget v m).length := by omega
        have hj2 : (j0 : Int) < ps.length := by omega
        have hzl : zs.length ≤ 900000 := by rw [hzz.out, List.length_take]; omega
        clear hg hit i1 hj0 hpl2 hrow
        obtain ⟨x, hxx⟩ : ∃ x, iget (rget v m) j0 = x := ⟨_, rfl⟩
        obtain ⟨y, hyy⟩ : ∃ y, iget ps j0 = y := ⟨_, rfl⟩
        rw [hxx] at hc3 v1 v2 Hsn
        rw [hyy] at hc4 p1 p2 Hsn
        clear hxx hyy
        obtain ⟨m1, m2⟩ := bz_bd v1 v2 hz1' hz2'
        have hy64 : in64 (x * z - y) := ⟨by omega, by omega⟩
        have Hwr : Hid (IntKind.i64.wrap (IntKind.i64.wrap (x * z) - y) = x * z - y) := by
          unfold Hid
          rw [IntWalk.i64_in (x * z) (by omega), IntWalk.i64_in _ (by omega)]
        have k0 := bX.cell 0 _ rfl
        have k1 := bL.cell 1 _ rfl
        have k2 := bL.cell 2 _ rfl
        have hltX := bX.lt
        have hltL := bL.lt
        have hmk : ∀ W, Below B w1 W → (W.cell? ⟨w.heap.size, 0, none⟩ = some (.slice (some ⟨b2, o2, none⟩) v.length c) ∧ W.cell? ⟨w.heap.size + 1, 1, none⟩ = some (.slice (some ⟨b4, o4, none⟩) ps.length f) ∧ W.cell? ⟨w.heap.size + 1, 2, none⟩ = some (.int .i64 z) ∧ W.cell? ⟨b2, o2 + m, none⟩ = some (.slice (some ⟨b3, o3, none⟩) (rget v m).length dr) ∧ W.cell? ⟨b3, o3 + j0, none⟩ = some (.int .i64 x) ∧ W.cell? ⟨b4, o4 + j0, none⟩ = some (.int .i64 y)) := fun W hG =>
          ⟨(hG.cell (p := ⟨w.heap.size, 0, none⟩) (by simp only; omega)).trans k0, (hG.cell (p := ⟨w.heap.size + 1, 1, none⟩) hlB).trans k1, (hG.cell (p := ⟨w.heap.size + 1, 2, none⟩) hlB).trans k2, (hG.cell (p := ⟨b2, o2 + m, none⟩) (by rw [← HBB.out]; exact hlV)).trans hc2, (hG.cell (p := ⟨b3, o3 + j0, none⟩) (by rw [← HBB.out]; exact hlR)).trans hc3, (hG.cell (p := ⟨b4, o4 + j0, none⟩) (by rw [← HBB.out]; exact hlP)).trans hc4⟩
        have Hmk := Lib.hid hmk
        clear hmk k0 k1 k2 hc hc2 hc3 hc4 hltX hltL
        go_wp2_with fail
        go_region_held3 (fun W => W.cell? ⟨w.heap.size, 0, none⟩ = some (Value.slice (some ⟨b2, o2, none⟩) v.length c) ∧ W.cell? ⟨w.heap.size + 1, 1, none⟩ = some (Value.slice (some ⟨b4, o4, none⟩) ps.length f) ∧ W.cell? ⟨w.heap.size + 1, 2, none⟩ = some (Value.int .i64 z) ∧ W.cell? ⟨b2, o2 + m, none⟩ = some (Value.slice (some ⟨b3, o3, none⟩) (rget v m).length dr) ∧ W.cell? ⟨b3, o3 + j0, none⟩ = some (Value.int .i64 x) ∧ W.cell? ⟨b4, o4 + j0, none⟩ = some (Value.int .i64 y))
          (first | assumption | exact Hmk.out _ hb4 | exact Hmk.out _ (by repeat (first | exact hBm | apply Below.drewN' | apply Below.drew | refine Below.alloc ?_ (by first | omega | (simp; omega)) _)))
          (first
            | (refine step_append_lies _ rfl (.tmp 24) (.tmp 42) 27 rfl B 3 i0 (.int .i64 0) 1 8 Try.underlying27 hi0 hz0 hz1 hz2 rfl (by decide) (.slice qz zs.length dz) zs.length (zs.map (Value.int .i64)) (by simp [Act.eval, Act.put]) (show Own _ B _ _ zs from by repeat (first | exact hO | apply Own.drewN | apply Own.drew1 | apply Own.alloc)).row ⟨wr.heap.size, 0, none⟩ 1 1 [.int .i64 (IntKind.i64.wrap (IntKind.i64.wrap (x * z) - y))] (by simp [Act.eval, Act.put]) rfl (cell_one_new _ _ _) (by simp [Value.oneCell']) (by decide) (by simp [maxLen]; omega) (by omega) (by simp; omega) _ rfl ?_; intro g cap w4 hown3 hg3 hor3 hlt3; have hb4 : Below B w1 w4 := Below.grown (show Below B w1 _ from by repeat (first | exact hBm | apply Below.drewN' | apply Below.drew | refine Below.alloc ?_ (by first | omega | (simp; omega)) _)) hg3 (by simp; omega) (fun k' e => by rw [ownBlock_slice] at e; exact (hO.lt k' e).1)))
        all_goals
          rw [Hwr.out] at hown3
          go_wp2_with fail
          go_roundw
          case rel => exact ⟨m + 1, by omega, by go_num, ⟨zs ++ [x * z - y], _, cap, by unfold Hid; rw [Hsn.out, hzz.out], by simp, own_snocR hown3 hO.rng hy64⟩, hb4⟩
          case measure => simp [intOf]; omega
      · have hm1 : ¬ (m : Int) < al.length := by omega
        obtain rfl : m = al.length := by omega
        have hzr : zs = gainL v al ps z := by rw [hzz.out, List.take_of_length_le (by rw [Hlen.out]; exact Nat.le_refl _)]
        subst hzr
        go_wp2_with fail
        go_ret2
        rw [HC.out]
        unfold Gives2
        rw [HL.out]
        exact ⟨qz, dz, rfl, hO.lower hwB, hB.trans (hBm'.mono hle)⟩
  · have hcz : (vldR v r al ps z != 0) = true := by rw [bne_iff_ne]; exact hC
    have HL : Hid (gnsL v r al ps z = []) := by unfold Hid gnsL; rw [if_neg hC]
    clear hC
    go_wp2_with fail
    go_ret2
    unfold Gives2
    rw [HL.out]
    exact ⟨none, 0, rfl, Own.ofNil _ _, hB⟩
end Go.Proofs.Ytmcncflieoolmaa

/- The walk of the reference's Valid, for every flat and lease; no condition but the lists' sizes. -/
namespace Go.Proofs.Ytmcncflieoolmaa
set_option linter.unusedVariables false
set_option linter.unusedSimpArgs false
open Go.ChangeShapes Go.WideShapes Go.ChangeAt Go.RowKit Go.Deep

set_option maxHeartbeats 8000000 in
set_option maxRecDepth 100000 in
theorem refValid_any (p q s : Option Addr) (c d f : Nat) (v : List (List Int)) (r : Int) (al ps : List Int) (z : Int) (w : World) (hx : Mat w p c v) (hy : Ints w q d al) (hz : Ints w s f ps) :
    Calls Try.prog 24 #[.agg #[.slice p v.length c, .int .i64 r], .agg #[.slice q al.length d, .slice s ps.length f, .int .i64 z]] w fun e w' => e = .returned (.int .i64 (vldR v r al ps z)) ∧ Below w.heap.size w w' := by
  obtain ⟨Wx, hWx⟩ : ∃ W, w.alloc (.cells #[.slice p v.length c, .int .i64 r] 24) = W := ⟨_, rfl⟩
  obtain ⟨W0, hW0⟩ : ∃ W, Wx.alloc (.cells #[.slice q al.length d, .slice s ps.length f, .int .i64 z] 29) = W := ⟨_, rfl⟩
  have hB1 := below_alloc hWx
  have hB2 := below_alloc hW0
  have bX : BoxV W0 w.heap.size [.slice p v.length c, .int .i64 r] := (BoxV.new rfl hWx).below hB2
  have hs : Wx.heap.size = w.heap.size + 1 := by rw [← hWx]; simp
  have bL : BoxV W0 (w.heap.size + 1) [.slice q al.length d, .slice s ps.length f, .int .i64 z] := BoxV.new hs hW0
  have hB : Below w.heap.size w W0 := hB1.trans (hB2.mono hB1.size)
  have mX := hx.below hB (Nat.le_refl _)
  have mA := hy.below hB (Nat.le_refl _)
  have mP := hz.below hB (Nat.le_refl _)
  have HWx := Lib.hid hWx
  have HW0 := Lib.hid hW0
  clear hWx hW0 hB1 hB2 hs hx hy hz
  have hvl := mX.length_le
  have hpl := mP.length_le
  go_enter Try.func24, Try.ntmps24
  go_wp2_with fail
  rw [HWx.out, HW0.out]
  refine (refCheckR_any p c v r _ mX).mono ?_
  rintro e w1 ⟨rfl, hb⟩
  replace mX := mX.below hb (Nat.le_refl _)
  replace mA := mA.below hb (Nat.le_refl _)
  replace mP := mP.below hb (Nat.le_refl _)
  replace bX := bX.below hb
  replace bL := bL.below hb
  replace hB := hB.trans (hb.mono hB.size)
  clear hb
  have x0 := bX.cell 0 _ rfl
  have x1 := bX.cell 1 _ rfl
  have l0 := bL.cell 0 _ rfl
  have l1 := bL.cell 1 _ rfl
  have l2 := bL.cell 2 _ rfl
  by_cases hC : chkR v r = 0
  · have hcz : (chkR v r != 0) = false := by rw [hC]; rfl
    have HC := Lib.hid hC
    clear hC
    go_wp2_with fail
    refine (assigned_any q d al v.length _ hvl mA).mono ?_
    rintro e w2 ⟨rfl, rfl⟩
    obtain ⟨hv, hr1, hr2⟩ := chkR_zero.1 HC.out
    have hv6 := hv.2.1
    by_cases hA : IsA al v.length
    · have hE : isAB al v.length = true := isAB_true hA
      have HA := Lib.hid hA
      clear hA hv
      rw [hE]
      by_cases hp : ps.length = v.length
      · have g3 : ((ps.length : Int) != (v.length : Int)) = false := by rw [hp]; simp
        have Hp := Lib.hid hp
        have hp6 : ps.length ≤ 6 := by omega
        clear hp
        by_cases hz1 : z < 1
        · have g1 : decide (z < 1) = true := by simpa using hz1
          go_wp2_with fail
          go_ret
          exact ⟨ret_int (vld_off HC.out fun h => by have := h.2.1; omega).symm, hB⟩
        have g1 : decide (z < 1) = false := by simpa using hz1
        by_cases hz2 : 60 < z
        · have g2 : decide (60 < z) = true := by simpa using hz2
          go_wp2_with fail
          go_ret
          exact ⟨ret_int (vld_off HC.out fun h => by have := h.2.2.1; omega).symm, hB⟩
        have g2 : decide (60 < z) = false := by simpa using hz2
        have hz3 : 1 ≤ z := by omega
        have hz4 : z ≤ 60 := by omega
        clear hz1 hz2
        go_wp2_with fail
        clear x0 x1 l0 l1 l2
        go_loopw [5, 6] (fun s i wr => ∃ k : Nat, k ≤ ps.length ∧ i = .int .i64 k ∧ s = .int .i64 (sumTo (iget ps) k) ∧ Hid (PriceOk z ps k) ∧ Below w2.heap.size w2 wr) (fun _ i _ => ps.length - (intOf i).toNat)
        case atStart => exact ⟨0, by omega, rfl, rfl, fun j hj => by omega, Below.refl _ _⟩
        case round =>
          obtain ⟨k, hk, rfl, rfl, ht, hb⟩ := hrel
          have HBk := Lib.hid hb
          replace mX := mX.below hb (Nat.le_refl _)
          replace mA := mA.below hb (Nat.le_refl _)
          replace mP := mP.below hb (Nat.le_refl _)
          replace bX := bX.below hb
          replace bL := bL.below hb
          replace hB := hB.trans (hb.mono hB.size)
          clear hb
          have x0 := bX.cell 0 _ rfl
          have x1 := bX.cell 1 _ rfl
          have l0 := bL.cell 0 _ rfl
          have l1 := bL.cell 1 _ rfl
          have l2 := bL.cell 2 _ rfl
          have hS := price_sum hz4 (by omega) ht.out
          by_cases hlt : k < ps.length
          · obtain ⟨b, o, rfl, _, hc⟩ := mP.get hlt
            have hk1 : (k : Int) < ps.length := by omega
            by_cases hlow : iget ps k < -10000000 * z
            · have hdl : decide (iget ps k < -10000000 * z) = true := by simpa using hlow
              have hn := Lib.hid (show ¬ VldP v r al ps z from fun h => by have := (h.2.2.2.2.1 k hlt).1; omega)
              clear hS hlow
              go_wp2_with fail
              go_quiet (fail)
              go_wp2_with fail
              go_ret
              exact ⟨ret_int (vld_off HC.out hn.out).symm, hB.drewN' nq⟩
            · have hdl : decide (iget ps k < -10000000 * z) = false := by simpa using hlow
              by_cases hhi : 10000000 * z < iget ps k
              · have hdh : decide (10000000 * z < iget ps k) = true := by simpa using hhi
                have hn := Lib.hid (show ¬ VldP v r al ps z from fun h => by have := (h.2.2.2.2.1 k hlt).2; omega)
                clear hS hlow hhi
                go_wp2_with fail
                go_quiet (fail)
                go_wp2_with fail
                go_ret
                exact ⟨ret_int (vld_off HC.out hn.out).symm, hB.drewN' nq⟩
              · have hdh : decide (10000000 * z < iget ps k) = false := by simpa using hhi
                have Hn := Lib.hid (show PriceOk z ps (k + 1) from snoc_all ht.out ⟨by omega, by omega⟩)
                have Hs : Hid (sumTo (iget ps) (k + 1) = sumTo (iget ps) k + iget ps k) := rfl
                generalize sumTo (iget ps) k = s0 at *
                obtain ⟨hS1, hS2⟩ := hS
                have e1 : -600000000 ≤ iget ps k := by omega
                have e2 : iget ps k ≤ 600000000 := by omega
                clear hlow hhi
                go_wp2_with fail
                go_quiet (fail)
                go_wp2_with fail
                go_roundw
                case rel => exact ⟨k + 1, by omega, by go_num, by rw [Hs.out], Hn, HBk.out.drewN' nq⟩
                case measure => simp [intOf]; omega
          · have hk1 : ¬ (k : Int) < ps.length := by omega
            obtain rfl : k = ps.length := by omega
            obtain ⟨m1, m2⟩ := rz_bd hr1 hr2 hz3 hz4
            rw [Int.mul_comm] at m1 m2
            have hw : IntKind.i64.wrap (z * r) = z * r := IntWalk.i64_in _ (by omega)
            by_cases hq : sumTo (iget ps) ps.length = z * r
            · have g4 : (sumTo (iget ps) ps.length != z * r) = false := by rw [hq]; simp
              have Hq := Lib.hid hq
              clear hq
              go_wp2_with fail
              go_ret
              exact ⟨ret_int (vld_ok HC.out ⟨HA.out, hz3, hz4, Hp.out, ht.out, by rw [Hq.out, Int.mul_comm]⟩).symm, hB⟩
            · have g4 : (sumTo (iget ps) ps.length != z * r) = true := by rw [bne_iff_ne]; exact hq
              have Hq := Lib.hid hq
              clear hq
              go_wp2_with fail
              go_ret
              exact ⟨ret_int (vld_off HC.out fun h => Hq.out (by rw [Int.mul_comm]; exact h.2.2.2.2.2)).symm, hB⟩
      · have g3 : ((ps.length : Int) != (v.length : Int)) = true := by rw [bne_iff_ne]; omega
        have Hp := Lib.hid hp
        clear hp
        go_wp2_with fail
        go_ret
        exact ⟨ret_int (vld_off HC.out fun h => Hp.out h.2.2.2.1).symm, hB⟩
    · have hE : isAB al v.length = false := isAB_false hA
      have HA := Lib.hid hA
      clear hA hv
      rw [hE]
      go_wp2_with fail
      go_ret
      exact ⟨ret_int (vld_off HC.out fun h => HA.out h.1).symm, hB⟩
  · have hcz : (chkR v r != 0) = true := by rw [bne_iff_ne]; exact hC
    have HC := Lib.hid hC
    clear hC
    go_wp2_with fail
    refine (refCheckR_any p c v r _ mX).mono ?_
    rintro e w2 ⟨rfl, hb⟩
    go_wp2_with fail
    go_ret
    exact ⟨ret_int (vld_bad HC.out).symm, hB.trans (hb.mono hB.size)⟩
end Go.Proofs.Ytmcncflieoolmaa

/- The walks of the reference's Gain and Gains, for every flat and lease; no condition but that the lease is valid (Gain). -/
namespace Go.Proofs.Ytmcncflieoolmaa
set_option linter.unusedVariables false
set_option linter.unusedSimpArgs false
open Go.ChangeShapes Go.WideShapes Go.ChangeAt Go.RowKit Go.Deep

theorem gain_bd {v : List (List Int)} {al ps : List Int} {z : Int} (hg : Good v al ps z) {i j : Nat} (hi : i < v.length) (hj : j < v.length) : -1000000000 ≤ gainI v ps z i j ∧ gainI v ps z i j ≤ 1000000000 := by
  obtain ⟨v1, v2⟩ := hg.bid i hi j hj
  obtain ⟨p1, p2⟩ := hg.price j hj
  obtain ⟨m1, m2⟩ := bz_bd v1 v2 hg.z1 hg.z2
  have e : gainI v ps z i j = iget (rget v i) j * z - iget ps j := rfl
  omega

set_option maxHeartbeats 8000000 in
set_option maxRecDepth 100000 in
theorem refGain_ok (p q s : Option Addr) (c d f : Nat) (v : List (List Int)) (r : Int) (al ps : List Int) (z : Int) (i j : Nat) (w : World) (hx : Mat w p c v) (hz : Ints w s f ps) (hg : Good v al ps z) (hi : i < v.length) (hj : j < v.length) :
    Calls Try.prog 29 #[.agg #[.slice p v.length c, .int .i64 r], .agg #[.slice q al.length d, .slice s ps.length f, .int .i64 z], .int .i64 i, .int .i64 j] w fun e w' => e = .returned (.int .i64 (gainI v ps z i j)) ∧ Below w.heap.size w w' := by
  obtain ⟨Wx, hWx⟩ : ∃ W, w.alloc (.cells #[.slice p v.length c, .int .i64 r] 24) = W := ⟨_, rfl⟩
  obtain ⟨W0, hW0⟩ : ∃ W, Wx.alloc (.cells #[.slice q al.length d, .slice s ps.length f, .int .i64 z] 29) = W := ⟨_, rfl⟩
  have hB1 := below_alloc hWx
  have hB2 := below_alloc hW0
  have bX : BoxV W0 w.heap.size [.slice p v.length c, .int .i64 r] := (BoxV.new rfl hWx).below hB2
  have hs : Wx.heap.size = w.heap.size + 1 := by rw [← hWx]; simp
  have bL : BoxV W0 (w.heap.size + 1) [.slice q al.length d, .slice s ps.length f, .int .i64 z] := BoxV.new hs hW0
  have hB : Below w.heap.size w W0 := hB1.trans (hB2.mono hB1.size)
  have mX := hx.below hB (Nat.le_refl _)
  have mP := hz.below hB (Nat.le_refl _)
  have HWx := Lib.hid hWx
  have HW0 := Lib.hid hW0
  clear hWx hW0 hB1 hB2 hs hx hz
  obtain ⟨v1, v2⟩ := hg.bid i hi j hj
  obtain ⟨p1, p2⟩ := hg.price j hj
  obtain ⟨m1, m2⟩ := bz_bd v1 v2 hg.z1 hg.z2
  have hrow := hg.row i hi
  have hpl := hg.plen
  have h6 := hg.six
  obtain ⟨b2, o2, rfl, _, qr, dr, hc2, hI⟩ := mX.get hi
  obtain ⟨b3, o3, rfl, _, hc3⟩ := hI.get (show j < (rget v i).length by rw [hrow]; exact hj)
  obtain ⟨b4, o4, rfl, _, hc4⟩ := mP.get (show j < ps.length by rw [hpl]; exact hj)
  have x0 := bX.cell 0 _ rfl
  have x1 := bX.cell 1 _ rfl
  have l0 := bL.cell 0 _ rfl
  have l1 := bL.cell 1 _ rfl
  have l2 := bL.cell 2 _ rfl
  have hi1 : (i : Int) < v.length := by omega
  have hj1 : (j : Int) < (rget v i).length := by omega
  have hj2 : (j : Int) < ps.length := by omega
  have He : Hid (gainI v ps z i j = iget (rget v i) j * z - iget ps j) := rfl
  clear hg hrow hpl
  obtain ⟨x, hxx⟩ : ∃ x, iget (rget v i) j = x := ⟨_, rfl⟩
  obtain ⟨y, hyy⟩ : ∃ y, iget ps j = y := ⟨_, rfl⟩
  rw [hxx] at hc3 v1 v2 m1 m2 He
  rw [hyy] at hc4 p1 p2 He
  clear hxx hyy
  have hw1 : IntKind.i64.wrap (x * z) = x * z := IntWalk.i64_in _ (by omega)
  have hw2 : IntKind.i64.wrap (x * z - y) = x * z - y := IntWalk.i64_in _ (by omega)
  go_enter Try.func29, Try.ntmps29
  go_wp2_with fail
  rw [HWx.out, HW0.out]
  go_quiet (fail)
  go_wp2_with fail
  go_ret
  refine ⟨ret_int ?_, hB.drewN' nq⟩
  rw [He.out]

end Go.Proofs.Ytmcncflieoolmaa

/- Rows of pairs that a call itself makes: how they are read, appended to, compared; no condition but sizes. -/
namespace Go.Proofs.Ytmcncflieoolmaa
set_option linter.unusedVariables false
set_option linter.unusedSimpArgs false
open Go.ChangeShapes Go.WideShapes Go.ChangeAt Go.RowKit Go.Deep

theorem infoPair : (Try.prog.info? 84).map (fun i => (i.zero, i.size, i.bytes)) = some (some (.agg #[.int .i64 0, .int .i64 0]), 2, 16) := by kernel_rfl
/-- The cells of a list of pairs. -/
def cellsP (xs : List (Nat × Nat)) : List Value := xs.flatMap fun x => [.int .i64 x.1, .int .i64 x.2]
def pget (xs : List (Nat × Nat)) (j : Nat) : Nat × Nat := xs.getD j (0, 0)
theorem cellsP_append (xs ys : List (Nat × Nat)) : cellsP (xs ++ ys) = cellsP xs ++ cellsP ys := by simp [cellsP]
theorem cellsP_get : ∀ (xs : List (Nat × Nat)) (j : Nat), j < xs.length → (cellsP xs)[j * 2]? = some (.int .i64 (pget xs j).1) ∧ (cellsP xs)[j * 2 + 1]? = some (.int .i64 (pget xs j).2)
  | x :: xs, 0, _ => ⟨rfl, rfl⟩
  | x :: xs, j + 1, h => by
    have ih := cellsP_get xs j (by simpa using h)
    have e : cellsP (x :: xs) = Value.int .i64 x.1 :: Value.int .i64 x.2 :: cellsP xs := rfl
    have e1 : (j + 1) * 2 = j * 2 + 1 + 1 := by omega
    have e2 : pget (x :: xs) (j + 1) = pget xs j := rfl
    rw [e, e1, e2, List.getElem?_cons_succ, List.getElem?_cons_succ, List.getElem?_cons_succ, List.getElem?_cons_succ]
    exact ih

/-- The slice (p, xs.length, c) is a row of the call's own, in a block from base on, and holds the pairs xs. -/
structure OwnP (w : World) (base : Nat) (p : Option Addr) (c : Nat) (xs : List (Nat × Nat)) : Prop where
  row : w.ownsRow base 84 2 (.slice p xs.length c) xs.length (cellsP xs)
theorem OwnP.ofNil (w : World) (base : Nat) : OwnP w base none 0 [] := ⟨World.ownsRow_nil w base _ _⟩
theorem OwnP.lt {w : World} {base : Nat} {p : Option Addr} {c : Nat} {xs : List (Nat × Nat)} (h : OwnP w base p c xs) : ∀ k, blk p = some k → base ≤ k ∧ k < w.heap.size := fun k hk => h.row.lt k (by rw [ownBlock_slice]; exact hk)
theorem OwnP.lower {w : World} {base base' : Nat} {p : Option Addr} {c : Nat} {xs : List (Nat × Nat)} (h : OwnP w base p c xs) (hb : base' ≤ base) : OwnP w base' p c xs := by
  refine ⟨⟨h.row.1, ?_⟩⟩
  rcases h.row.2 with h1 | ⟨g, cap, cur, h1, h2, r⟩
  · exact .inl h1
  · exact .inr ⟨g, cap, cur, h1, Nat.le_trans hb h2, r⟩
theorem OwnP.keptBy {w w' : World} {base : Nat} {p : Option Addr} {c : Nat} {xs : List (Nat × Nat)} (h : OwnP w base p c xs) {row : Option Nat} (hg : w.grownBy w' row) (hne : ∀ k, blk p = some k → row ≠ some k) : OwnP w' base p c xs :=
  ⟨h.row.kept hg (by
    rw [ownBlock_slice]
    cases hb : blk p with
    | none => exact .inl rfl
    | some k => exact .inr fun e => hne k hb e.symm)⟩
theorem OwnP.below {w w' : World} {base B : Nat} {p : Option Addr} {c : Nat} {xs : List (Nat × Nat)} (h : OwnP w base p c xs) (hb : Below B w w') (hB : w.heap.size ≤ B) : OwnP w' base p c xs :=
  h.keptBy (grownBy_of_below hb hB none) (fun _ _ h => by cases h)
theorem OwnP.drew {w w' : World} {base : Nat} {p : Option Addr} {c : Nat} {xs : List (Nat × Nat)} (h : OwnP w base p c xs) (hw : ∃ n, w' = w.drewN n) : OwnP w' base p c xs := by
  obtain ⟨n, rfl⟩ := hw
  exact h.below (below_drewN w.heap.size w n) (Nat.le_refl _)
theorem OwnP.alloc {w : World} {base : Nat} {p : Option Addr} {c : Nat} {xs : List (Nat × Nat)} (h : OwnP w base p c xs) (o : Obj) : OwnP (w.alloc o) base p c xs := ⟨h.row.alloc o⟩
theorem OwnP.cap {w : World} {base : Nat} {p : Option Addr} {c : Nat} {xs : List (Nat × Nat)} (h : OwnP w base p c xs) : xs.length ≤ 9223372036854775807 := by
  rcases h.row.2 with ⟨_, h2⟩ | ⟨g, cap, cur, _, _, _, h4, h5, _, _⟩
  · omega
  · simp only [maxLen] at h5; omega
theorem OwnP.get {w : World} {base : Nat} {p : Option Addr} {c : Nat} {xs : List (Nat × Nat)} (h : OwnP w base p c xs) {j : Nat} (hj : j < xs.length) :
    ∃ g, p = some ⟨g, 0, none⟩ ∧ base ≤ g ∧ g < w.heap.size ∧ w.cell? ⟨g, j * 2, none⟩ = some (.int .i64 (pget xs j).1) ∧ w.cell? ⟨g, j * 2 + 1, none⟩ = some (.int .i64 (pget xs j).2) := by
  obtain ⟨g, cap, hv, hb, hlt⟩ := h.row.form (by omega)
  simp only [Value.slice.injEq] at hv
  obtain ⟨rfl, _, rfl⟩ := hv
  obtain ⟨e1, e2⟩ := cellsP_get xs j hj
  exact ⟨g, rfl, hb, hlt, (h.row.cellAt (j * 2) (by omega)).trans e1, (h.row.cellAt (j * 2 + 1) (by omega)).trans e2⟩

/-- 'append(s, [2]int{i, k})', the pair laid in a new block. -/
theorem wpList_appP {w : World} {ops : Array Oper} {rest : List Oper} {o : Oper} {a : Act} {Q : Exit → Act → World → Prop} (hgd : o.guard = none) (s x : Operand)
    (ho : o.op = .call { callee := .builtin .append, args := #[s, x], argTypes := #[56, 56] })
    (base : Nat) (p : Option Addr) (c : Nat) (xs : List (Nat × Nat)) (y0 y1 : Nat) (hs : a.eval s = .slice p xs.length c) {B : Nat} (hx : a.eval x = .slice (some ⟨B, 0, none⟩) 1 1) (hB : w.heap.size = B) (hown : OwnP w base p c xs)
    (hsz : xs.length ≤ 900000) (hbase : base ≤ w.heap.size)
    (h : ∀ p' c' w' zs, Hid (zs = xs ++ [(y0, y1)]) → OwnP w' base p' c' zs → w.grownBy w' (blk p) → Fresh w p p' → wpList Try.prog ops Q rest (a.put o.dst (.slice p' zs.length c')) w') : wpList Try.prog ops Q (o :: rest) a (w.alloc (.cells #[.int .i64 y0, .int .i64 y1] 84)) := by
  subst hB
  refine wpList_appG (w := w.alloc (.cells #[.int .i64 y0, .int .i64 y1] 84)) hgd s x 56 84 ho (.agg #[.int .i64 0, .int .i64 0]) 2 16 Try.underlying56 infoPair (by kernel_rfl) (by decide) base p (some ⟨w.heap.size, 0, none⟩) xs.length 1 c 1 (cellsP xs) [.int .i64 y0, .int .i64 y1] hs hx (hown.row.alloc _)
    (fun e => (by cases e)) rfl ?_ (by simp [Value.oneCell']) (by simp [maxLen]; omega) (by omega) (by simp; omega) ?_
  · rintro ad ⟨⟩ j u hu
    rw [add_plain, World.cell?_alloc_at _ _ _ _ rfl]
    simpa using hu
  · intro p' c' w' h2 h3 h4
    have hg : w.grownBy w' (blk p) := ⟨h3.os, h3.tape, h3.output, by have := h3.size; simp at this; omega, fun k hk hne => by
      rw [h3.block k (by simp; omega) hne]
      exact Below.heap_alloc _ _ _ hk⟩
    have hfr : Fresh w p p' := fun k hk => by
      rcases h4 k hk with h5 | h5
      · exact .inl h5
      · exact .inr (by simp at h5; omega)
    have := h p' c' w' (xs ++ [(y0, y1)]) rfl ⟨by rw [List.length_append, cellsP_append]; exact h2⟩ hg hfr
    rw [List.length_append] at this
    exact this

/-- Two pairs compared. -/
theorem eqPair (a b c d : Int) (w : World) : (Op.equalIn 10000 84 (.agg #[.int .i64 a, .int .i64 b]) (.agg #[.int .i64 c, .int .i64 d])).run Try.prog w = .ok (a == c && b == d) w := by
  have u3 := Try.underlying3
  have a3 := Try.isAgg3
  have z3 := Try.sizeOf3
  rw [show (10000 : Nat) = 9999 + 1 from rfl, Op.equalIn]
  simp only [Sem.run_bind, run_underlying Try.underlying84, Result.andThen_ok]
  simp only [Std.Legacy.Range.forIn_eq_forIn_range', Std.Legacy.Range.size, Nat.sub_zero, Nat.add_sub_cancel, Nat.div_one, List.range'_succ, List.range'_zero, List.forIn_cons, List.forIn_nil]
  go_simp
  by_cases h1 : a = c <;> by_cases h2 : b = d <;> simp [h1, h2]

end Go.Proofs.Ytmcncflieoolmaa
