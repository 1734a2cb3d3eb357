/- The walk of the reference's Envies, for every flat and lease; no condition but the lists' sizes. -/
import Derived.Test.YtllcbcanohdepaaTopRentNamesm20
import Derived.Deep.RegionHeld3
import Derived.Test.YtllcbcanohdepaaTopRentNamesm9
import Derived.Deep.DeepCutAuto
import Derived.Test.YtllcbcanohdepaaTopRentNamesm7
import Derived.Test.YtllcbcanohdepaaTopRentNamesm11
import Derived.Test.YtllcbcanohdepaaTopRentNamesm6
import Derived.Test.YtllcbcanohdepaaTopRentNamesm4
import Derived.Maps.RangeWalk
import Derived.RangeFuncOwn
import Derived.Test.YtllcbcanohdepaaTopRentNamesm2
import Derived.Test.YtllcbcanohdepaaTopRentNamesm12
import Derived.Test.YtllcbcanohdepaaTopRentNamesm24
/- The walk of the reference's Envies, for every flat and lease; no condition but the lists' sizes. -/
namespace Go.Proofs.Ytllcbcanohdepaa
set_option linter.unusedVariables false
set_option linter.unusedSimpArgs false
open Go.ChangeShapes Go.WideShapes Go.ChangeAt Go.RowKit Go.Deep

set_option maxHeartbeats 8000000 in
set_option maxRecDepth 100000 in
theorem refEnvies_any (p q s : Option Addr) (c d f : Nat) (v : List (List Int)) (r : Int) (al ps : List Int) (z : Int) (w : World) (hx : Mat w p c v) (hy : Ints w q d al) (hz : Ints w s f ps) :
    Calls Try.prog 34 #[.agg #[.slice p v.length c, .int .i64 r], .agg #[.slice q al.length d, .slice s ps.length f, .int .i64 z]] w fun e w' => ∃ p' c', e = .returned (.tuple #[.slice p' (envsL v r al ps z).length c', .int .i64 (vldR v r al ps z)]) ∧ OwnP w' w.heap.size p' c' (envsL v r al ps z) ∧ Below w.heap.size w w' := by
  obtain ⟨Wx, hWx⟩ : ∃ W, w.alloc (.cells #[.slice p v.length c, .int .i64 r] 24) = W := ⟨_, rfl⟩
  obtain ⟨W0, hW0⟩ : ∃ W, Wx.alloc (.cells #[.slice q al.length d, .slice s ps.length f, .int .i64 z] 27) = W := ⟨_, rfl⟩
  have hB1 := below_alloc hWx
  have hB2 := below_alloc hW0
  have bX : BoxV W0 w.heap.size [.slice p v.length c, .int .i64 r] := (BoxV.new rfl hWx).below hB2
  have hs : Wx.heap.size = w.heap.size + 1 := by rw [← hWx]; simp
  have bL : BoxV W0 (w.heap.size + 1) [.slice q al.length d, .slice s ps.length f, .int .i64 z] := BoxV.new hs hW0
  have hB : Below w.heap.size w W0 := hB1.trans (hB2.mono hB1.size)
  have mX := hx.below hB (Nat.le_refl _)
  have mA := hy.below hB (Nat.le_refl _)
  have mP := hz.below hB (Nat.le_refl _)
  have HWx := Lib.hid hWx
  have HW0 := Lib.hid hW0
  clear hWx hW0 hB1 hB2 hs hx hy hz
  have hvl := mX.length_le
  have hpl := mP.length_le
  go_enter Try.func34, Try.ntmps34
  go_wp2_with fail
  rw [HWx.out, HW0.out]
  refine (refValid_any p q s c d f v r al ps z _ mX mA mP).mono ?_
  rintro e w1 ⟨rfl, hb⟩
  replace mX := mX.below hb (Nat.le_refl _)
  replace mA := mA.below hb (Nat.le_refl _)
  replace mP := mP.below hb (Nat.le_refl _)
  replace bX := bX.below hb
  replace bL := bL.below hb
  replace hB := hB.trans (hb.mono hB.size)
  clear hb
  have hle := hB.size
  have x0 := bX.cell 0 _ rfl
  have x1 := bX.cell 1 _ rfl
  have l0 := bL.cell 0 _ rfl
  have l1 := bL.cell 1 _ rfl
  have l2 := bL.cell 2 _ rfl
  by_cases hC : vldR v r al ps z = 0
  · have hcz : (vldR v r al ps z != 0) = false := by rw [hC]; rfl
    have HL : Hid (envsL v r al ps z = envTo v al ps z v.length v.length) := by unfold Hid envsL; rw [if_pos hC]
    have HG := Lib.hid (good_of hC)
    have HC := Lib.hid hC
    clear hC
    obtain ⟨B, hBB⟩ : ∃ B, w1.heap.size = B := ⟨_, rfl⟩
    have hwB : w.heap.size ≤ B := by omega
    have hlB : w.heap.size + 1 < B := by have := bL.lt; omega
    have HBB := Lib.hid hBB
    clear hBB
    go_wp2_with fail
    clear x0 x1 l0 l1 l2
    go_loopw [6, 7] (fun s i wr => ∃ m : Nat, m ≤ v.length ∧ i = .int .i64 m ∧ (∃ zs q d, Hid (zs = envTo v al ps z m v.length) ∧ s = .slice q (zs : List (Nat × Nat)).length d ∧ OwnP wr B q d zs) ∧ Below B w1 wr) (fun _ i _ => v.length - (intOf i).toNat)
    case atStart => exact ⟨0, by omega, rfl, ⟨[], none, 0, rfl, rfl, OwnP.ofNil _ _⟩, Below.refl _ _⟩
    case round =>
      obtain ⟨m, hm, rfl, ⟨zs, qz, dz, hzz, rfl, hO⟩, hBm⟩ := hrel
      have hBm' : Below w1.heap.size w1 wr := by rw [HBB.out]; exact hBm
      have bXr := bX.below hBm'
      have x0 := bXr.cell 0 _ rfl
      by_cases hmv : m < v.length
      · have hmv1 : (m : Int) < v.length := by omega
        have hzm := hzz.out
        go_wp2_with fail
        clear x0 bXr hBm'
        go_loopw [6, 8] (fun s i wk => ∃ k : Nat, k ≤ v.length ∧ i = .int .i64 k ∧ (∃ ys q d, Hid (ys = envTo v al ps z m v.length ++ envRow v al ps z m k) ∧ s = .slice q (ys : List (Nat × Nat)).length d ∧ OwnP wk B q d ys) ∧ Below B w1 wk) (fun _ i _ => v.length - (intOf i).toNat)
        case atStart => exact ⟨0, by omega, rfl, ⟨zs, qz, dz, by unfold Hid; rw [envRow_zero, List.append_nil]; exact hzm, rfl, hO⟩, hBm⟩
        case round =>
          clear hO hBm hzm hzz
          obtain ⟨k, hk, rfl, ⟨ys, qy, dy, hyy, rfl, hO⟩, hBm⟩ := hrel
          have hsz := hBm.size
          rw [HBB.out] at hsz
          have hBm' : Below w1.heap.size w1 wr := by rw [HBB.out]; exact hBm
          have bXr := bX.below hBm'
          have bLr := bL.below hBm'
          have x0 := bXr.cell 0 _ rfl
          by_cases hkv : k < v.length
          · have hkv1 : (k : Int) < v.length := by omega
            have hg := HG.out
            have hkA : k < al.length := by rw [hg.alen]; exact hkv
            have hmA : m < al.length := by rw [hg.alen]; exact hmv
            obtain ⟨i1, i2⟩ := hg.itm k hkv
            obtain ⟨i3, i4⟩ := hg.itm m hmv
            obtain ⟨j0, hj0⟩ : ∃ j0 : Nat, iget al k = (j0 : Int) := ⟨(iget al k).toNat, by omega⟩
            obtain ⟨j1, hj1⟩ : ∃ j1 : Nat, iget al m = (j1 : Int) := ⟨(iget al m).toNat, by omega⟩
            have hit : itm al k = j0 := by simp [itm, hj0]
            have hit1 : itm al m = j1 := by simp [itm, hj1]
            rw [hit] at i2
            rw [hit1] at i4
            have hE : envB v al ps z m k = decide (gainI v ps z m j1 < gainI v ps z m j0) := by unfold envB; rw [hit, hit1]
            have mXr := mX.below hBm' (Nat.le_refl _)
            have mAr := mA.below hBm' (Nat.le_refl _)
            have mPr := mP.below hBm' (Nat.le_refl _)
            have hcm := mAr.get hmA
            obtain ⟨b, o, rfl, hlA, hc⟩ := mAr.get hkA
            obtain ⟨b', o', hbo, _, hc1⟩ := hcm
            obtain ⟨rfl, rfl⟩ : b = b' ∧ o = o' := by simpa using hbo
            clear hbo
            rw [hj0] at hc
            rw [hj1] at hc1
            have x1 := bXr.cell 1 _ rfl
            have l0 := bLr.cell 0 _ rfl
            have l1 := bLr.cell 1 _ rfl
            have l2 := bLr.cell 2 _ rfl
            have hkA1 : (k : Int) < al.length := by omega
            have hmA1 : (m : Int) < al.length := by omega
            have HGj0 := Lib.hid (fun W (h : Below wr.heap.size wr W) => refGain_ok p (some ⟨b, o, none⟩) s c d f v r al ps z m j0 W (mXr.below h (Nat.le_refl _)) (mPr.below h (Nat.le_refl _)) hg hmv i2)
            have HGj1 := Lib.hid (fun W (h : Below wr.heap.size wr W) => refGain_ok p (some ⟨b, o, none⟩) s c d f v r al ps z m j1 W (mXr.below h (Nat.le_refl _)) (mPr.below h (Nat.le_refl _)) hg hmv i4)
            have Hmk : Hid (∀ W, Below wr.heap.size wr W → (W.cell? ⟨w.heap.size, 0, none⟩ = some (Value.slice p v.length c) ∧ W.cell? ⟨w.heap.size, 1, none⟩ = some (Value.int .i64 r) ∧ W.cell? ⟨w.heap.size + 1, 0, none⟩ = some (Value.slice (some ⟨b, o, none⟩) al.length d) ∧ W.cell? ⟨w.heap.size + 1, 1, none⟩ = some (Value.slice s ps.length f) ∧ W.cell? ⟨w.heap.size + 1, 2, none⟩ = some (Value.int .i64 z) ∧ W.cell? ⟨b, o + k, none⟩ = some (Value.int .i64 j0) ∧ W.cell? ⟨b, o + m, none⟩ = some (Value.int .i64 j1) ∧ Below wr.heap.size wr W)) := fun W hG => ⟨(hG.cell (p := ⟨w.heap.size, 0, none⟩) bXr.lt).trans x0, (hG.cell (p := ⟨w.heap.size, 1, none⟩) bXr.lt).trans x1, (hG.cell (p := ⟨w.heap.size + 1, 0, none⟩) bLr.lt).trans l0, (hG.cell (p := ⟨w.heap.size + 1, 1, none⟩) bLr.lt).trans l1, (hG.cell (p := ⟨w.heap.size + 1, 2, none⟩) bLr.lt).trans l2, (hG.cell (p := ⟨b, o + k, none⟩) hlA).trans hc, (hG.cell (p := ⟨b, o + m, none⟩) hlA).trans hc1, hG⟩
            obtain ⟨G1, hG1⟩ : ∃ G1, gainI v ps z m j0 = G1 := ⟨_, rfl⟩
            obtain ⟨G0, hG0⟩ : ∃ G0, gainI v ps z m j1 = G0 := ⟨_, rfl⟩
            rw [hG1, hG0] at hE
            rw [hG1] at HGj0
            rw [hG0] at HGj1
            have HE := Lib.hid hE
            have h6 := hg.six
            clear hG1 hG0 hg hit hit1 hj0 hj1 hE mXr mAr mPr i1 i2 i3 i4
            have hyl : ys.length ≤ 900000 := by
              rw [hyy.out, List.length_append]
              have h1 := envTo_len v al ps z m v.length
              have h2 := envRow_len v al ps z m k
              have h3 : m * v.length ≤ 6 * 6 := Nat.mul_le_mul (by omega) h6
              omega
            by_cases hgt : G0 < G1
            · have hd : decide (G0 < G1) = true := by simpa using hgt
              have HR : Hid (envRow v al ps z m (k + 1) = envRow v al ps z m k ++ [(m, k)]) := envRow_yes (by rw [HE.out, hd])
              clear hgt
              go_wp2_with fail
              go_region_held3 (fun W => W.cell? ⟨w.heap.size, 0, none⟩ = some (Value.slice p v.length c) ∧ W.cell? ⟨w.heap.size, 1, none⟩ = some (Value.int .i64 r) ∧ W.cell? ⟨w.heap.size + 1, 0, none⟩ = some (Value.slice (some ⟨b, o, none⟩) al.length d) ∧ W.cell? ⟨w.heap.size + 1, 1, none⟩ = some (Value.slice s ps.length f) ∧ W.cell? ⟨w.heap.size + 1, 2, none⟩ = some (Value.int .i64 z) ∧ W.cell? ⟨b, o + k, none⟩ = some (Value.int .i64 j0) ∧ W.cell? ⟨b, o + m, none⟩ = some (Value.int .i64 j1) ∧ Below wr.heap.size wr W)
                (first | assumption | exact Hmk.out _ hG | exact Hmk.out _ (below_drewN wr.heap.size wr 1) | exact Hmk.out _ (Below.refl _ _))
                (first
                  | (go_at_call_of 19 (Value.int .i64 (j0 : Int)); refine (HGj0.out _ (by go_split_ands; assumption)).mono ?_; rintro e wC ⟨rfl, hbC⟩; have hG : Below wr.heap.size wr wC := Below.trans (by go_split_ands; assumption) (hbC.mono (Below.size (B := wr.heap.size) (w := wr) (by go_split_ands; assumption))))
                  | (go_at_call_of 19 (Value.int .i64 (j1 : Int)); refine (HGj1.out _ (by go_split_ands; assumption)).mono ?_; rintro e wC ⟨rfl, hbC⟩; have hG : Below wr.heap.size wr wC := Below.trans (by go_split_ands; assumption) (hbC.mono (Below.size (B := wr.heap.size) (w := wr) (by go_split_ands; assumption)))))
              go_wp2_with (at_builtin; refine wpList_appP rfl (.tmp 49) (.tmp 53) rfl B _ _ ys m k rfl rfl rfl (hO.below hG (Nat.le_refl _)) hyl (by have := hG.size; omega) ?_; intro p3 c3 w3 u3 hu3 hO3 hg3 hf3)
              go_roundw
              case rel => exact ⟨k + 1, by omega, by go_num, ⟨u3, _, _, by unfold Hid; rw [hu3.out, hyy.out, HR.out, List.append_assoc], rfl, hO3⟩, (hBm.trans (hG.mono hsz)).grown hg3 (by have := hG.size; omega) (fun k' e => (hO.lt k' e).1)⟩
              case measure => simp [intOf]; omega
            · have hd : decide (G0 < G1) = false := by simpa using hgt
              have HR : Hid (envRow v al ps z m (k + 1) = envRow v al ps z m k) := envRow_no (by rw [HE.out, hd])
              clear hgt
              go_wp2_with fail
              go_region_held3 (fun W => W.cell? ⟨w.heap.size, 0, none⟩ = some (Value.slice p v.length c) ∧ W.cell? ⟨w.heap.size, 1, none⟩ = some (Value.int .i64 r) ∧ W.cell? ⟨w.heap.size + 1, 0, none⟩ = some (Value.slice (some ⟨b, o, none⟩) al.length d) ∧ W.cell? ⟨w.heap.size + 1, 1, none⟩ = some (Value.slice s ps.length f) ∧ W.cell? ⟨w.heap.size + 1, 2, none⟩ = some (Value.int .i64 z) ∧ W.cell? ⟨b, o + k, none⟩ = some (Value.int .i64 j0) ∧ W.cell? ⟨b, o + m, none⟩ = some (Value.int .i64 j1) ∧ Below wr.heap.size wr W)
                (first | assumption | exact Hmk.out _ hG | exact Hmk.out _ (below_drewN wr.heap.size wr 1) | exact Hmk.out _ (Below.refl _ _))
                (first
                  | (go_at_call_of 19 (Value.int .i64 (j0 : Int)); refine (HGj0.out _ (by go_split_ands; assumption)).mono ?_; rintro e wC ⟨rfl, hbC⟩; have hG : Below wr.heap.size wr wC := Below.trans (by go_split_ands; assumption) (hbC.mono (Below.size (B := wr.heap.size) (w := wr) (by go_split_ands; assumption))))
                  | (go_at_call_of 19 (Value.int .i64 (j1 : Int)); refine (HGj1.out _ (by go_split_ands; assumption)).mono ?_; rintro e wC ⟨rfl, hbC⟩; have hG : Below wr.heap.size wr wC := Below.trans (by go_split_ands; assumption) (hbC.mono (Below.size (B := wr.heap.size) (w := wr) (by go_split_ands; assumption)))))
              go_wp2_with fail
              go_roundw
              case rel => exact ⟨k + 1, by omega, by go_num, ⟨ys, _, _, by unfold Hid; rw [hyy.out, HR.out], rfl, hO.below hG (Nat.le_refl _)⟩, hBm.trans (hG.mono hsz)⟩
              case measure => simp [intOf]; omega
          · have hkv1 : ¬ (k : Int) < v.length := by omega
            obtain rfl : k = v.length := by omega
            have HS := Lib.hid (envTo_succ v al ps z m v.length)
            go_wp2_with fail
            go_roundw
            case rel => exact ⟨m + 1, by omega, by go_num, ⟨ys, _, _, by unfold Hid; rw [hyy.out, HS.out], rfl, hO⟩, hBm⟩
            case measure => simp [intOf]; omega
      · have hmv1 : ¬ (m : Int) < v.length := by omega
        obtain rfl : m = v.length := by omega
        have hzr := hzz.out
        subst hzr
        go_wp2_with fail
        go_ret2
        rw [HC.out, HL.out]
        exact ⟨qz, dz, rfl, hO.lower hwB, hB.trans (hBm'.mono hle)⟩
  · have hcz : (vldR v r al ps z != 0) = true := by rw [bne_iff_ne]; exact hC
    have HL : Hid (envsL v r al ps z = []) := by unfold Hid envsL; rw [if_neg hC]
    clear hC
    go_wp2_with fail
    refine (refValid_any p q s c d f v r al ps z _ mX mA mP).mono ?_
    rintro e w2 ⟨rfl, hb⟩
    go_wp2_with fail
    go_ret2
    rw [HL.out]
    exact ⟨none, 0, rfl, OwnP.ofNil _ _, hB.trans (hb.mono hle)⟩
end Go.Proofs.Ytllcbcanohdepaa

/- The walk of the reference's Range, for every flat and room. -/
namespace Go.Proofs.Ytllcbcanohdepaa
set_option linter.unusedVariables false
set_option linter.unusedSimpArgs false
open Go.ChangeShapes Go.WideShapes Go.ChangeAt Go.RowKit Go.Deep

end Go.Proofs.Ytllcbcanohdepaa

/- Leases without envy and the links of the rooms, in plain words; no program. -/
namespace Go.Proofs.Ytllcbcanohdepaa
set_option linter.unusedVariables false
set_option linter.unusedSimpArgs false

/-- Prices p over d under which nobody wants another's room. -/
def EF (v : List (List Int)) (a : List Int) (p : Nat → Int) (d : Int) : Prop := ∀ i, i < v.length → ∀ j, j < v.length → bid v i j * d - p j ≤ bid v i (itm a i) * d - p (itm a i)
theorem sum_gain {v : List (List Int)} {a : List Int} (h : IsA a v.length) (p : Nat → Int) (d : Int) :
    sumTo (fun i => bid v i (itm a i) * d - p (itm a i)) v.length = d * worthI v a - sumTo p v.length := by
  have hw : worthI v a = sumTo (fun i => bid v i (itm a i)) v.length := by unfold worthI; rw [h.1]
  rw [sumTo_sub, (isA_per h).sum p, hw, ← sumTo_mul]
  congr 1
  exact sumTo_congr fun i hi => Int.mul_comm _ _
theorem sum_zero {f : Nat → Int} {n : Nat} (h : ∀ i, i < n → 0 ≤ f i) (h0 : sumTo f n ≤ 0) : ∀ i, i < n → f i = 0 := fun i hi => by
  have := sumTo_single_le h hi
  have := h i hi
  omega
theorem mul_le_cancel {d x y : Int} (hd : 0 < d) (h : d * x ≤ d * y) : x ≤ y := Int.le_of_mul_le_mul_left h hd
/-- Without envy an assignment is one of the best; and its prices do for the best one. -/
theorem ef_best {v : List (List Int)} {a b : List Int} (hb : IsBest v b) (h0 : 0 < v.length) (ha : IsA a v.length) {p : Nat → Int} {d : Int} (hd : 0 < d) (h : EF v a p d) : worthI v a = worthI v b ∧ EF v b p d := by
  have hs1 := sum_gain ha p d
  have hs2 := sum_gain hb.1 p d
  have hle : sumTo (fun i => bid v i (itm b i) * d - p (itm b i)) v.length ≤ sumTo (fun i => bid v i (itm a i) * d - p (itm a i)) v.length := sumTo_le fun i hi => h i hi _ ((isA_lt hb.1 i hi).2)
  have hm := hb.max ha h0
  have hw : worthI v b ≤ worthI v a := mul_le_cancel hd (by omega)
  have he : worthI v a = worthI v b := by omega
  refine ⟨he, fun i hi j hj => ?_⟩
  have hz := sum_zero (f := fun i => (bid v i (itm a i) * d - p (itm a i)) - (bid v i (itm b i) * d - p (itm b i))) (n := v.length) (fun i hi => by
    have := h i hi _ ((isA_lt hb.1 i hi).2)
    omega) (by rw [sumTo_sub, hs1, hs2, he]; omega) i hi
  have := h i hi j hj
  have hz' : (bid v i (itm a i) * d - p (itm a i)) - (bid v i (itm b i) * d - p (itm b i)) = 0 := hz
  omega
theorem ef_other {v : List (List Int)} {a b : List Int} (hb : IsA b v.length) (ha : IsA a v.length) {p : Nat → Int} {d : Int} (h : EF v b p d) (he : worthI v a = worthI v b) : EF v a p d := by
  have hs1 := sum_gain ha p d
  have hs2 := sum_gain hb p d
  intro i hi j hj
  have hz := sum_zero (f := fun i => (bid v i (itm b i) * d - p (itm b i)) - (bid v i (itm a i) * d - p (itm a i))) (n := v.length) (fun i hi => by
    have := h i hi _ ((isA_lt ha i hi).2)
    omega) (by rw [sumTo_sub, hs1, hs2, he]; omega) i hi
  have := h i hi j hj
  have hz' : (bid v i (itm b i) * d - p (itm b i)) - (bid v i (itm a i) * d - p (itm a i)) = 0 := hz
  omega
/-- Prices that follow the links of neighbours. -/
def Pot (w : Nat → Nat → Int) (n : Nat) (p : Nat → Int) (d : Int) : Prop := ∀ y z, y < n → z < n → p y + w y z * d ≤ p z
theorem ef_pot {v : List (List Int)} {b : List Int} (hb : IsA b v.length) {p : Nat → Int} {d : Int} : EF v b p d ↔ Pot (wl v b) v.length p d := by
  constructor
  · intro h y z hy hz
    obtain ⟨i, hi, rfl⟩ := (isA_per hb).surj hy
    rw [wl_of hb hi, Int.sub_mul]
    have := h i hi z hz
    omega
  · intro h i hi j hj
    have := h (itm b i) j (isA_lt hb i hi).2 hj
    rw [wl_of hb hi, Int.sub_mul] at this
    omega
theorem psum_scale (w : Nat → Nat → Int) (d : Int) : ∀ (L : List Nat) (x : Nat), psum (fun x y => w x y * d) x L = psum w x L * d
  | [], _ => by simp [psum]
  | y :: L, x => by rw [psum, psum, psum_scale w d L y, Int.add_mul]
/-- .. follow the links of all. -/
theorem pot_link {w : Nat → Nat → Int} {n : Nat} {g : Nat → Nat → Int} (hC : Clo w n g) (hw : ∀ x, w x x = 0) {p : Nat → Int} {d : Int} (hd : 0 ≤ d) : Pot w n p d ↔ ∀ j k, j < n → k < n → g j k * d ≤ p k - p j := by
  constructor
  · intro h j k hj hk
    obtain ⟨L, hL, rfl, e⟩ := hC.path j k hj hk
    have := psum_le (w := fun x y => w x y * d) (n := n) (h := p) (fun y z hy hz => h y z hy hz) L j hL.lt
    rw [psum_scale, e] at this
    exact this
  · intro h y z hy hz
    by_cases e : y = z
    · subst e; rw [hw]; omega
    · have h1 := hC.most y [z] ⟨by simp [e], fun q hq => by
        rcases List.mem_cons.1 hq with rfl | hq
        · exact hy
        · simp at hq; subst hq; exact hz⟩
      have h2 : w y z ≤ g y z := by simpa [psum, lastOf] using h1
      have h3 := h y z hy hz
      have h4 := Int.mul_le_mul_of_nonneg_right h2 hd
      omega
theorem wl_self (v : List (List Int)) (a : List Int) (x : Nat) : wl v a x x = 0 := wt_self _ _ _ _
/-- The stage's theorem: without envy exactly if the assignment is one of the best and the prices follow the links. -/
theorem ef_iff {v : List (List Int)} {a : List Int} (h0 : 0 < v.length) (ha : IsA a v.length) {p : Nat → Int} {d : Int} (hd : 0 < d) :
    EF v a p d ↔ worthI v a = worthI v (bestA v) ∧ ∀ j k, j < v.length → k < v.length → lnkS (wl v (bestA v)) v.length j k * d ≤ p k - p j := by
  have hb := bestA_best h0
  rw [← pot_link (lnkS_clo (wl v (bestA v)) v.length) (wl_self v (bestA v)) (Int.le_of_lt hd), ← ef_pot hb.1]
  exact ⟨fun h => ef_best hb h0 ha hd h, fun h => ef_other hb.1 ha h.2 h.1⟩
/-- Prices may be raised together, and taken over another number. -/
theorem ef_scale {v : List (List Int)} {a : List Int} {p q : Nat → Int} {d e k c : Int} (hk : 0 < k) (hd : d = k * e) (hp : ∀ j, j < v.length → p j = k * q j + c) (ha : IsA a v.length) : EF v a p d ↔ EF v a q e := by
  subst hd
  have hx : ∀ i j, i < v.length → j < v.length → bid v i j * (k * e) - p j = k * (bid v i j * e - q j) - c := fun i j hi hj => by
    rw [hp j hj, Int.mul_sub, Int.mul_left_comm]; omega
  constructor
  · intro h i hi j hj
    have := h i hi j hj
    rw [hx i j hi hj, hx i _ hi (isA_lt ha i hi).2] at this
    exact mul_le_cancel hk (by omega)
  · intro h i hi j hj
    have := Int.mul_le_mul_of_nonneg_left (h i hi j hj) (Int.le_of_lt hk)
    rw [hx i j hi hj, hx i _ hi (isA_lt ha i hi).2]
    omega
/-- The least prices are without envy. -/
theorem ef_least {v : List (List Int)} (h0 : 0 < v.length) : EF v (bestA v) (fun j => leastP (wl v (bestA v)) v.length j) 1 := by
  have hb := bestA_best h0
  rw [ef_pot hb.1]
  intro y z hy hz
  have := leastP_step hb h0 hy hz
  show leastP (wl v (bestA v)) v.length y + wl v (bestA v) y z * 1 ≤ leastP (wl v (bestA v)) v.length z
  rw [Int.mul_one]; exact this
end Go.Proofs.Ytllcbcanohdepaa

/- Lists that a text lays out itself, and the best assignment of given numbers, by looking at all; no condition. -/
namespace Go.Proofs.Ytllcbcanohdepaa
open Go.ChangeShapes Go.WideShapes Go.ChangeAt Go.RowKit Go.Deep
set_option linter.unusedVariables false
set_option linter.unusedSimpArgs false

theorem Ints.lit (w : World) (xs : List Int) (hsz : xs.length ≤ 1000000) (hr : ∀ x ∈ xs, in64 x) :
    Ints (w.alloc (.cells (xs.map (Value.int .i64)).toArray 3)) (some ⟨w.heap.size, 0, none⟩) xs.length xs :=
  (Own.lit w w.heap.size (Nat.le_refl _) xs hsz (fun j hj => hr _ (iget_mem hj))).ints

theorem Mat.lit (w : World) (rows : List (Option Addr × Nat × List Int)) (hsz : rows.length ≤ 1000000) (hr : ∀ r ∈ rows, Ints w r.1 r.2.1 r.2.2) :
    Mat (w.alloc (.cells (rows.map fun r => Value.slice r.1 r.2.2.length r.2.1).toArray 25)) (some ⟨w.heap.size, 0, none⟩) rows.length (rows.map fun r => r.2.2) := by
  have hb : Below w.heap.size w (w.alloc (.cells (rows.map fun r => Value.slice r.1 r.2.2.length r.2.1).toArray 25)) := (Below.refl _ w).alloc (Nat.le_refl _) _
  have hn := World.alloc_heap_new w (.cells (rows.map fun r => Value.slice r.1 r.2.2.length r.2.1).toArray 25)
  refine ⟨by simp, by omega, fun h => (by cases h), ?_, ?_⟩
  · rintro a ⟨⟩ _
    exact ⟨rfl, by simp⟩
  · rintro b o ⟨⟩ j hj
    have hj' : j < rows.length := by simpa using hj
    have hg : rget (rows.map fun r => r.2.2) j = rows[j].2.2 := by rw [rget_of hj]; simp
    refine ⟨rows[j].1, rows[j].2.1, ?_, ?_⟩
    · simp only [World.cell?]
      rw [hn, hg, Nat.zero_add]
      simp [hj']
    · rw [hg]
      exact (hr _ (List.getElem_mem hj')).below hb (Nat.le_refl _)

/-- All lists of m numbers below n. -/
def allD (n : Nat) : Nat → List (List Int)
  | 0 => [[]]
  | m + 1 => (allD n m).flatMap fun l => (List.range n).map fun (j : Nat) => (j : Int) :: l
theorem mem_allD {n : Nat} : ∀ (m : Nat) (l : List Int), l.length = m → (∀ x ∈ l, 0 ≤ x ∧ x < n) → l ∈ allD n m := by
  intro m
  induction m with
  | zero => intro l hl _; obtain rfl := List.eq_nil_of_length_eq_zero hl; simp [allD]
  | succ m ih =>
    intro l hl hd
    cases l with
    | nil => simp at hl
    | cons x t =>
      simp only [allD, List.mem_flatMap, List.mem_map, List.mem_range]
      refine ⟨t, ih t (by simpa using hl) (fun y hy => hd y (List.mem_cons_of_mem _ hy)), x.toNat, ?_, ?_⟩
      · have := hd x (List.mem_cons_self ..); omega
      · have := hd x (List.mem_cons_self ..)
        rw [show ((x.toNat : Nat) : Int) = x from by omega]
def lltB (a b : List Int) : Bool := (List.range a.length).any fun i => ((List.range i).all fun j => iget a j == iget b j) && decide (iget a i < iget b i)
theorem llt_of {a b : List Int} (h : lltB a b = true) : llt a b := by
  unfold lltB at h
  obtain ⟨i, hi, h2⟩ := List.any_eq_true.1 h
  rw [Bool.and_eq_true] at h2
  refine ⟨i, by simpa using hi, fun j hj => ?_, by simpa using h2.2⟩
  have := List.all_eq_true.1 h2.1 j (by simpa using hj)
  simpa using this
/-- Looks at all lists: a is the best assignment. -/
def bestChk (v : List (List Int)) (a : List Int) : Bool :=
  isAB a v.length && (allD v.length v.length).all fun x => !isAB x v.length || decide (worthI v x < worthI v a) || (decide (worthI v x = worthI v a) && (x == a || lltB a x))
theorem isBest_of_chk {v : List (List Int)} {a : List Int} (h : bestChk v a = true) : IsBest v a := by
  unfold bestChk at h
  rw [Bool.and_eq_true] at h
  have hA : IsA a v.length := by simpa [isAB] using h.1
  refine ⟨hA, .inr ⟨hA, fun x hx => ?_⟩⟩
  have hm : x ∈ allD v.length v.length := mem_allD _ _ hx.1 (fun y hy => by
    obtain ⟨j, hj, rfl⟩ := List.getElem_of_mem hy
    have := isA_digits hx j hj
    rwa [iget_of hj] at this)
  have h2 := List.all_eq_true.1 h.2 x hm
  have hxb : isAB x v.length = true := by simp [isAB, hx]
  rw [hxb] at h2
  simp only [Bool.not_true, Bool.false_or, Bool.or_eq_true, Bool.and_eq_true, decide_eq_true_iff, beq_iff_eq] at h2
  rcases h2 with h3 | ⟨h3, h4 | h4⟩
  · exact .inl h3
  · exact .inr ⟨h3, .inl h4⟩
  · exact .inr ⟨h3, .inr (llt_of h4)⟩
end Go.Proofs.Ytllcbcanohdepaa

/- Room's functions at given flats and leases, for examples; links that can be reckoned; no condition but what each says. -/
namespace Go.Proofs.Ytllcbcanohdepaa
set_option linter.unusedVariables false
set_option linter.unusedSimpArgs false
open Go.ChangeShapes Go.WideShapes Go.ChangeAt Go.RowKit Go.Deep

/-- Who has room j. -/
def owC (a : List Int) (j : Nat) : Nat := (firstC (fun i => decide (itm a i = j)) a.length)
where
  firstC (P : Nat → Bool) (n : Nat) : Nat := ((List.range n).find? P).getD 0
theorem owC_of {a : List Int} {n : Nat} (h : IsA a n) {i : Nat} (hi : i < n) : owC a (itm a i) = i := by
  unfold owC owC.firstC
  cases hf : (List.range a.length).find? (fun k => decide (itm a k = itm a i)) with
  | none =>
    have := List.find?_eq_none.1 hf i (List.mem_range.2 (by rw [h.1]; exact hi))
    simp at this
  | some k =>
    have h1 := List.find?_some hf
    have h2 := List.mem_range.1 (List.mem_of_find?_eq_some hf)
    rw [decide_eq_true_iff] at h1
    exact (isA_per h).inj k i (by rw [← h.1]; exact h2) hi h1
def wlC (v : List (List Int)) (a : List Int) (j k : Nat) : Int := bid v (owC a j) k - bid v (owC a j) j
theorem wlC_eq {v : List (List Int)} {a : List Int} (h : IsA a v.length) {j : Nat} (hj : j < v.length) (k : Nat) : wl v a j k = wlC v a j k := by
  obtain ⟨i, hi, rfl⟩ := (isA_per h).surj hj
  rw [wl_of h hi]
  unfold wlC
  rw [owC_of h hi]
def linkC (v : List (List Int)) (a : List Int) : List (List Int) := fwB v.length ((List.range v.length).map fun j => (List.range v.length).map fun k => wlC v a j k) v.length
theorem linkC_eq {v : List (List Int)} {a : List Int} (hb : IsBest v a) (h0 : 0 < v.length) : linkL v a = linkC v a := by
  rw [← fw_links hb h0]
  unfold linkC link0
  congr 1
  refine List.map_congr_left fun j hj => List.map_congr_left fun k _ => wlC_eq hb.1 (List.mem_range.1 hj) k
/-- What can be reckoned of the even lease and the ranges, the best assignment being known. -/
def rawC (v : List (List Int)) (a : List Int) (r : Int) : List Int := (List.range v.length).map fun j => iget (bfR v a v.length) j * v.length + (r - sumTo (iget (bfR v a v.length)) v.length)
theorem rawC_eq {v : List (List Int)} {a : List Int} (hb : IsBest v a) (h0 : 0 < v.length) (r : Int) : rawP v r = rawC v a r := by
  unfold rawP restI rawC
  rw [bestA_eq hb, bfR_least hb h0]
theorem even_e {v : List (List Int)} {a ps : List Int} {r z : Int} (hb : IsBest v a) (h0 : 0 < v.length) (hc : chkR v r = 0) (h1 : lowL v.length (rawC v a r) = ps) (h2 : lowN v.length (rawC v a r) = z) : evenX v r = a ∧ evenY v r = ps ∧ evenZ v r = z := by
  unfold evenX evenY evenZ
  rw [if_pos hc, if_pos hc, if_pos hc, bestA_eq hb, rawC_eq hb h0, h1, h2]
  exact ⟨rfl, rfl, rfl⟩
theorem links_e {v D : List (List Int)} {a : List Int} {r : Int} (hb : IsBest v a) (h0 : 0 < v.length) (hc : chkR v r = 0) (h1 : linkC v a = D) : linksL v r = D := by
  unfold linksL
  rw [if_pos hc, bestA_eq hb, linkC_eq hb h0, h1]
theorem range_e {v : List (List Int)} {a : List Int} {r : Int} {j : Nat} (hb : IsBest v a) (h0 : 0 < v.length) (hc : chkR v r = 0) (hj : j < v.length) {x y p q : Int}
    (h1 : rN (r + sumTo (fun i => bid (linkC v a) i j) v.length) v.length = x) (h2 : rD (r + sumTo (fun i => bid (linkC v a) i j) v.length) v.length = y)
    (h3 : rN (r - sumTo (fun i => bid (linkC v a) j i) v.length) v.length = p) (h4 : rD (r - sumTo (fun i => bid (linkC v a) j i) v.length) v.length = q) :
    rngLo v r j = .agg #[.int .i64 x, .int .i64 y] ∧ rngHi v r j = .agg #[.int .i64 p, .int .i64 q] ∧ rngE v r j = 0 := by
  obtain ⟨e1, e2, e3⟩ := rng_in (v := v) (r := r) hc hj
  rw [e1, e2, e3]
  unfold ratV lowI highI
  rw [bestA_eq hb, linkC_eq hb h0, h1, h2, h3, h4]
  exact ⟨rfl, rfl, rfl⟩

theorem roomCheck_e {p : Option Addr} {c n : Nat} {v : List (List Int)} {r e : Int} {w : World} (h : chkR v r = e) (hx : Mat w p c v) (hv : v.length = n := by rfl) :
    Calls Try.prog 51 #[.agg #[.slice p n c, .int .i64 r]] w fun e' w' => e' = .returned (.int .i64 e) ∧ Below w.heap.size w w' := by
  subst hv h; exact roomCheck_any p c v r w hx
theorem roomLinks_e {p : Option Addr} {c n m : Nat} {v D : List (List Int)} {r e : Int} {w : World} (h : linksL v r = D) (he : chkR v r = e) (hx : Mat w p c v) (hv : v.length = n := by rfl) (h1 : D.length = m := by rfl) :
    Calls Try.prog 40 #[.agg #[.slice p n c, .int .i64 r]] w fun e' w' => ∃ q d, e' = .returned (.tuple #[.slice q m d, .int .i64 e]) ∧ Mat w' q d D ∧ Below w.heap.size w w' := by
  subst hv h he h1
  refine (roomLinks_any p c v r w hx).mono ?_
  rintro e w' ⟨q, d, Q, D, h1, h2, h3⟩
  exact ⟨q, d, h1, h2.mat, h3⟩
theorem roomRange_e {p : Option Addr} {c n : Nat} {v : List (List Int)} {r j e : Int} {x y p' q' : Int} {w : World} (h : rngLo v r j = .agg #[.int .i64 x, .int .i64 y] ∧ rngHi v r j = .agg #[.int .i64 p', .int .i64 q'] ∧ rngE v r j = e) (hx : Mat w p c v) (hv : v.length = n := by rfl) (hj : in64B j = true := by decide) :
    Calls Try.prog 28 #[.agg #[.slice p n c, .int .i64 r], .int .i64 j] w fun e' w' => e' = .returned (.tuple #[.agg #[.int .i64 x, .int .i64 y], .agg #[.int .i64 p', .int .i64 q'], .int .i64 e]) ∧ Below w.heap.size w w' := by
  subst hv
  have hj2 : in64 j := by simp [in64B] at hj; exact hj
  refine (roomRange_any p c v r j w hx hj2).mono ?_
  rintro e w' ⟨h1, h2⟩
  rw [h.1, h.2.1, h.2.2] at h1
  exact ⟨h1, h2⟩
theorem roomValid_e {p q s : Option Addr} {c d f n m k : Nat} {v : List (List Int)} {r z e : Int} {al ps : List Int} {w : World} (h : vldR v r al ps z = e) (hx : Mat w p c v) (hy : Ints w q d al) (hz : Ints w s f ps) (hv : v.length = n := by rfl) (h1 : al.length = m := by rfl) (h2 : ps.length = k := by rfl) (hl : m ≤ 1000000 := by decide) :
    Calls Try.prog 44 #[.agg #[.slice p n c, .int .i64 r], .agg #[.slice q m d, .slice s k f, .int .i64 z]] w fun e' w' => e' = .returned (.int .i64 e) ∧ Below w.heap.size w w' := by
  subst hv h1 h2 h
  exact roomValid_any p q s c d f v r al ps z w hx hy hz hl
theorem roomGains_e {p q s : Option Addr} {c d f n m k ng : Nat} {v : List (List Int)} {r z e : Int} {al ps gs : List Int} {w : World} (h : vldR v r al ps z = e) (hg : gnsL v r al ps z = gs) (hx : Mat w p c v) (hy : Ints w q d al) (hz : Ints w s f ps) (hv : v.length = n := by rfl) (h1 : al.length = m := by rfl) (h2 : ps.length = k := by rfl) (hl : m ≤ 1000000 := by decide) (h3 : gs.length = ng := by rfl) :
    Calls Try.prog 25 #[.agg #[.slice p n c, .int .i64 r], .agg #[.slice q m d, .slice s k f, .int .i64 z]] w fun e' w' => ∃ q' d', e' = .returned (.tuple #[.slice q' ng d', .int .i64 e]) ∧ Ints w' q' d' gs ∧ Below w.heap.size w w' := by
  subst hv h1 h2 h hg h3
  refine (roomGains_any p q s c d f v r al ps z w hx hy hz hl).mono ?_
  rintro e w' ⟨q', d', h1, h2, h3⟩
  exact ⟨q', d', h1, h2.ints, h3⟩
/-- A literal row of pairs. -/
theorem ownP_lit (w : World) (xs : List (Nat × Nat)) (hsz : xs.length ≤ 1000000) :
    OwnP (w.alloc (.cells (cellsP xs).toArray 81)) w.heap.size (some ⟨w.heap.size, 0, none⟩) xs.length xs := by
  have hl : (cellsP xs).length = xs.length * 2 := by
    clear hsz
    induction xs with
    | nil => rfl
    | cons x xs ih => simp only [cellsP, List.flatMap_cons, List.length_append, List.length_cons, List.length_nil] at ih ⊢; omega
  refine ⟨?_⟩
  have := World.ownsRow_lit (e := 81) (size := 2) (base := w.heap.size) w (cellsP xs).toArray xs.length (Nat.le_refl _) (by simp [maxLen]; omega) (by simp [hl])
  simpa using this
/-- The chapter's flat. -/
def GV14 : List (List Int) := [[5, 3], [4, 1]]
theorem gv14_best : IsBest GV14 [1, 0] := isBest_of_chk (by decide +kernel)
theorem gv14_chk : chkR GV14 5 = 0 := by decide +kernel
theorem gv14_even : evenX GV14 5 = [1, 0] ∧ evenY GV14 5 = [7, 3] ∧ evenZ GV14 5 = 2 := even_e gv14_best (by decide) gv14_chk (by decide +kernel) (by decide +kernel)
theorem gv14_links : linksL GV14 5 = [[0, -3], [2, 0]] := links_e gv14_best (by decide) gv14_chk (by decide +kernel)
theorem gv14_range : rngLo GV14 5 (0 : Nat) = .agg #[.int .i64 7, .int .i64 2] ∧ rngHi GV14 5 (0 : Nat) = .agg #[.int .i64 4, .int .i64 1] ∧ rngE GV14 5 (0 : Nat) = 0 :=
  range_e gv14_best (by decide) gv14_chk (by decide) (by decide +kernel) (by decide +kernel) (by decide +kernel) (by decide +kernel)
end Go.Proofs.Ytllcbcanohdepaa
