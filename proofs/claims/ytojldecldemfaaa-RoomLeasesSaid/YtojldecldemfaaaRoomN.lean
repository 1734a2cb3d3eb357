/- The walk of the reference's Envies, for every flat and lease; no condition but the lists' sizes. -/
import Derived.Test.YtojldecldemfaaaRoomM
import Derived.Deep.RegionHeld3
namespace Go.Proofs.Ytojldecldemfaaa
set_option linter.unusedVariables false
set_option linter.unusedSimpArgs false
open Go.ChangeShapes Go.WideShapes Go.ChangeAt Go.RowKit Go.Deep

set_option maxHeartbeats 8000000 in
set_option maxRecDepth 100000 in
theorem refEnvies_any (p q s : Option Addr) (c d f : Nat) (v : List (List Int)) (r : Int) (al ps : List Int) (z : Int) (w : World) (hx : Mat w p c v) (hy : Ints w q d al) (hz : Ints w s f ps) :
    Calls Try.prog 24 #[.agg #[.slice p v.length c, .int .i64 r], .agg #[.slice q al.length d, .slice s ps.length f, .int .i64 z]] w fun e w' => ∃ p' c', e = .returned (.tuple #[.slice p' (envsL v r al ps z).length c', .int .i64 (vldR v r al ps z)]) ∧ OwnP w' w.heap.size p' c' (envsL v r al ps z) ∧ Below w.heap.size w w' := by
  obtain ⟨Wx, hWx⟩ : ∃ W, w.alloc (.cells #[.slice p v.length c, .int .i64 r] 24) = W := ⟨_, rfl⟩
  obtain ⟨W0, hW0⟩ : ∃ W, Wx.alloc (.cells #[.slice q al.length d, .slice s ps.length f, .int .i64 z] 28) = W := ⟨_, rfl⟩
  have hB1 := below_alloc hWx
  have hB2 := below_alloc hW0
  have bX : BoxV W0 w.heap.size [.slice p v.length c, .int .i64 r] := (BoxV.new rfl hWx).below hB2
  have hs : Wx.heap.size = w.heap.size + 1 := by rw [← hWx]; simp
  have bL : BoxV W0 (w.heap.size + 1) [.slice q al.length d, .slice s ps.length f, .int .i64 z] := BoxV.new hs hW0
  have hB : Below w.heap.size w W0 := hB1.trans (hB2.mono hB1.size)
  have mX := hx.below hB (Nat.le_refl _)
  have mA := hy.below hB (Nat.le_refl _)
  have mP := hz.below hB (Nat.le_refl _)
  have HWx := Lib.hid hWx
  have HW0 := Lib.hid hW0
  clear hWx hW0 hB1 hB2 hs hx hy hz
  have hvl := mX.length_le
  have hpl := mP.length_le
  go_enter Try.func24, Try.ntmps24
  go_wp2_with fail
  rw [HWx.out, HW0.out]
  refine (refValid_any p q s c d f v r al ps z _ mX mA mP).mono ?_
  rintro e w1 ⟨rfl, hb⟩
  replace mX := mX.below hb (Nat.le_refl _)
  replace mA := mA.below hb (Nat.le_refl _)
  replace mP := mP.below hb (Nat.le_refl _)
  replace bX := bX.below hb
  replace bL := bL.below hb
  replace hB := hB.trans (hb.mono hB.size)
  clear hb
  have hle := hB.size
  have x0 := bX.cell 0 _ rfl
  have x1 := bX.cell 1 _ rfl
  have l0 := bL.cell 0 _ rfl
  have l1 := bL.cell 1 _ rfl
  have l2 := bL.cell 2 _ rfl
  by_cases hC : vldR v r al ps z = 0
  · have hcz : (vldR v r al ps z != 0) = false := by rw [hC]; rfl
    have HL : Hid (envsL v r al ps z = envTo v al ps z v.length v.length) := by unfold Hid envsL; rw [if_pos hC]
    have HG := Lib.hid (good_of hC)
    have HC := Lib.hid hC
    clear hC
    obtain ⟨B, hBB⟩ : ∃ B, w1.heap.size = B := ⟨_, rfl⟩
    have hwB : w.heap.size ≤ B := by omega
    have hlB : w.heap.size + 1 < B := by have := bL.lt; omega
    have HBB := Lib.hid hBB
    clear hBB
    go_wp2_with fail
    clear x0 x1 l0 l1 l2
    go_loopw [6, 7] (fun s i wr => ∃ m : Nat, m ≤ v.length ∧ i = .int .i64 m ∧ (∃ zs q d, Hid (zs = envTo v al ps z m v.length) ∧ s = .slice q (zs : List (Nat × Nat)).length d ∧ OwnP wr B q d zs) ∧ Below B w1 wr) (fun _ i _ => v.length - (intOf i).toNat)
    case atStart => exact ⟨0, by omega, rfl, ⟨[], none, 0, rfl, rfl, OwnP.ofNil _ _⟩, Below.refl _ _⟩
    case round =>
      obtain ⟨m, hm, rfl, ⟨zs, qz, dz, hzz, rfl, hO⟩, hBm⟩ := hrel
      have hBm' : Below w1.heap.size w1 wr := by rw [HBB.out]; exact hBm
      have bXr := bX.below hBm'
      have x0 := bXr.cell 0 _ rfl
      by_cases hmv : m < v.length
      · have hmv1 : (m : Int) < v.length := by omega
        have hzm := hzz.out
        go_wp2_with fail
        clear x0 bXr hBm'
        go_loopw [6, 8] (fun s i wk => ∃ k : Nat, k ≤ v.length ∧ i = .int .i64 k ∧ (∃ ys q d, Hid (ys = envTo v al ps z m v.length ++ envRow v al ps z m k) ∧ s = .slice q (ys : List (Nat × Nat)).length d ∧ OwnP wk B q d ys) ∧ Below B w1 wk) (fun _ i _ => v.length - (intOf i).toNat)
        case atStart => exact ⟨0, by omega, rfl, ⟨zs, qz, dz, by unfold Hid; rw [envRow_zero, List.append_nil]; exact hzm, rfl, hO⟩, hBm⟩
        case round =>
          clear hO hBm hzm hzz
          obtain ⟨k, hk, rfl, ⟨ys, qy, dy, hyy, rfl, hO⟩, hBm⟩ := hrel
          have hsz := hBm.size
          rw [HBB.out] at hsz
          have hBm' : Below w1.heap.size w1 wr := by rw [HBB.out]; exact hBm
          have bXr := bX.below hBm'
          have bLr := bL.below hBm'
          have x0 := bXr.cell 0 _ rfl
          by_cases hkv : k < v.length
          · have hkv1 : (k : Int) < v.length := by omega
            have hg := HG.out
            have hkA : k < al.length := by rw [hg.alen]; exact hkv
            have hmA : m < al.length := by rw [hg.alen]; exact hmv
            obtain ⟨i1, i2⟩ := hg.itm k hkv
            obtain ⟨i3, i4⟩ := hg.itm m hmv
            obtain ⟨j0, hj0⟩ : ∃ j0 : Nat, iget al k = (j0 : Int) := ⟨(iget al k).toNat, by omega⟩
            obtain ⟨j1, hj1⟩ : ∃ j1 : Nat, iget al m = (j1 : Int) := ⟨(iget al m).toNat, by omega⟩
            have hit : itm al k = j0 := by simp [itm, hj0]
            have hit1 : itm al m = j1 := by simp [itm, hj1]
            rw [hit] at i2
            rw [hit1] at i4
            have hE : envB v al ps z m k = decide (gainI v ps z m j1 < gainI v ps z m j0) := by unfold envB; rw [hit, hit1]
            have mXr := mX.below hBm' (Nat.le_refl _)
            have mAr := mA.below hBm' (Nat.le_refl _)
            have mPr := mP.below hBm' (Nat.le_refl _)
            have hcm := mAr.get hmA
            obtain ⟨b, o, rfl, hlA, hc⟩ := mAr.get hkA
            obtain ⟨b', o', hbo, _, hc1⟩ := hcm
            obtain ⟨rfl, rfl⟩ : b = b' ∧ o = o' := by simpa using hbo
            clear hbo
            rw [hj0] at hc
            rw [hj1] at hc1
            have x1 := bXr.cell 1 _ rfl
            have l0 := bLr.cell 0 _ rfl
            have l1 := bLr.cell 1 _ rfl
            have l2 := bLr.cell 2 _ rfl
            have hkA1 : (k : Int) < al.length := by omega
            have hmA1 : (m : Int) < al.length := by omega
            have HGj0 := Lib.hid (fun W (h : Below wr.heap.size wr W) => refGain_ok p (some ⟨b, o, none⟩) s c d f v r al ps z m j0 W (mXr.below h (Nat.le_refl _)) (mPr.below h (Nat.le_refl _)) hg hmv i2)
            have HGj1 := Lib.hid (fun W (h : Below wr.heap.size wr W) => refGain_ok p (some ⟨b, o, none⟩) s c d f v r al ps z m j1 W (mXr.below h (Nat.le_refl _)) (mPr.below h (Nat.le_refl _)) hg hmv i4)
            have Hmk : Hid (∀ W, Below wr.heap.size wr W → (W.cell? ⟨w.heap.size, 0, none⟩ = some (Value.slice p v.length c) ∧ W.cell? ⟨w.heap.size, 1, none⟩ = some (Value.int .i64 r) ∧ W.cell? ⟨w.heap.size + 1, 0, none⟩ = some (Value.slice (some ⟨b, o, none⟩) al.length d) ∧ W.cell? ⟨w.heap.size + 1, 1, none⟩ = some (Value.slice s ps.length f) ∧ W.cell? ⟨w.heap.size + 1, 2, none⟩ = some (Value.int .i64 z) ∧ W.cell? ⟨b, o + k, none⟩ = some (Value.int .i64 j0) ∧ W.cell? ⟨b, o + m, none⟩ = some (Value.int .i64 j1) ∧ Below wr.heap.size wr W)) := fun W hG => ⟨(hG.cell (p := ⟨w.heap.size, 0, none⟩) bXr.lt).trans x0, (hG.cell (p := ⟨w.heap.size, 1, none⟩) bXr.lt).trans x1, (hG.cell (p := ⟨w.heap.size + 1, 0, none⟩) bLr.lt).trans l0, (hG.cell (p := ⟨w.heap.size + 1, 1, none⟩) bLr.lt).trans l1, (hG.cell (p := ⟨w.heap.size + 1, 2, none⟩) bLr.lt).trans l2, (hG.cell (p := ⟨b, o + k, none⟩) hlA).trans hc, (hG.cell (p := ⟨b, o + m, none⟩) hlA).trans hc1, hG⟩
            obtain ⟨G1, hG1⟩ : ∃ G1, gainI v ps z m j0 = G1 := ⟨_, rfl⟩
            obtain ⟨G0, hG0⟩ : ∃ G0, gainI v ps z m j1 = G0 := ⟨_, rfl⟩
            rw [hG1, hG0] at hE
            rw [hG1] at HGj0
            rw [hG0] at HGj1
            have HE := Lib.hid hE
            have h6 := hg.six
            clear hG1 hG0 hg hit hit1 hj0 hj1 hE mXr mAr mPr i1 i2 i3 i4
            have hyl : ys.length ≤ 900000 := by
              rw [hyy.out, List.length_append]
              have h1 := envTo_len v al ps z m v.length
              have h2 := envRow_len v al ps z m k
              have h3 : m * v.length ≤ 6 * 6 := Nat.mul_le_mul (by omega) h6
              omega
            by_cases hgt : G0 < G1
            · have hd : decide (G0 < G1) = true := by simpa using hgt
              have HR : Hid (envRow v al ps z m (k + 1) = envRow v al ps z m k ++ [(m, k)]) := envRow_yes (by rw [HE.out, hd])
              clear hgt
              go_wp2_with fail
              go_region_held3 (fun W => W.cell? ⟨w.heap.size, 0, none⟩ = some (Value.slice p v.length c) ∧ W.cell? ⟨w.heap.size, 1, none⟩ = some (Value.int .i64 r) ∧ W.cell? ⟨w.heap.size + 1, 0, none⟩ = some (Value.slice (some ⟨b, o, none⟩) al.length d) ∧ W.cell? ⟨w.heap.size + 1, 1, none⟩ = some (Value.slice s ps.length f) ∧ W.cell? ⟨w.heap.size + 1, 2, none⟩ = some (Value.int .i64 z) ∧ W.cell? ⟨b, o + k, none⟩ = some (Value.int .i64 j0) ∧ W.cell? ⟨b, o + m, none⟩ = some (Value.int .i64 j1) ∧ Below wr.heap.size wr W)
                (first | assumption | exact Hmk.out _ hG | exact Hmk.out _ (below_drewN wr.heap.size wr 1) | exact Hmk.out _ (Below.refl _ _))
                (first
                  | (go_at_call_of 51 (Value.int .i64 (j0 : Int)); refine (HGj0.out _ (by go_split_ands; assumption)).mono ?_; rintro e wC ⟨rfl, hbC⟩; have hG : Below wr.heap.size wr wC := Below.trans (by go_split_ands; assumption) (hbC.mono (Below.size (B := wr.heap.size) (w := wr) (by go_split_ands; assumption))))
                  | (go_at_call_of 51 (Value.int .i64 (j1 : Int)); refine (HGj1.out _ (by go_split_ands; assumption)).mono ?_; rintro e wC ⟨rfl, hbC⟩; have hG : Below wr.heap.size wr wC := Below.trans (by go_split_ands; assumption) (hbC.mono (Below.size (B := wr.heap.size) (w := wr) (by go_split_ands; assumption)))))
              go_wp2_with (at_builtin; refine wpList_appP rfl (.tmp 49) (.tmp 53) rfl B _ _ ys m k rfl rfl rfl (hO.below hG (Nat.le_refl _)) hyl (by have := hG.size; omega) ?_; intro p3 c3 w3 u3 hu3 hO3 hg3 hf3)
              go_roundw
              case rel => exact ⟨k + 1, by omega, by go_num, ⟨u3, _, _, by unfold Hid; rw [hu3.out, hyy.out, HR.out, List.append_assoc], rfl, hO3⟩, (hBm.trans (hG.mono hsz)).grown hg3 (by have := hG.size; omega) (fun k' e => (hO.lt k' e).1)⟩
              case measure => simp [intOf]; omega
            · have hd : decide (G0 < G1) = false := by simpa using hgt
              have HR : Hid (envRow v al ps z m (k + 1) = envRow v al ps z m k) := envRow_no (by rw [HE.out, hd])
              clear hgt
              go_wp2_with fail
              go_region_held3 (fun W => W.cell? ⟨w.heap.size, 0, none⟩ = some (Value.slice p v.length c) ∧ W.cell? ⟨w.heap.size, 1, none⟩ = some (Value.int .i64 r) ∧ W.cell? ⟨w.heap.size + 1, 0, none⟩ = some (Value.slice (some ⟨b, o, none⟩) al.length d) ∧ W.cell? ⟨w.heap.size + 1, 1, none⟩ = some (Value.slice s ps.length f) ∧ W.cell? ⟨w.heap.size + 1, 2, none⟩ = some (Value.int .i64 z) ∧ W.cell? ⟨b, o + k, none⟩ = some (Value.int .i64 j0) ∧ W.cell? ⟨b, o + m, none⟩ = some (Value.int .i64 j1) ∧ Below wr.heap.size wr W)
                (first | assumption | exact Hmk.out _ hG | exact Hmk.out _ (below_drewN wr.heap.size wr 1) | exact Hmk.out _ (Below.refl _ _))
                (first
                  | (go_at_call_of 51 (Value.int .i64 (j0 : Int)); refine (HGj0.out _ (by go_split_ands; assumption)).mono ?_; rintro e wC ⟨rfl, hbC⟩; have hG : Below wr.heap.size wr wC := Below.trans (by go_split_ands; assumption) (hbC.mono (Below.size (B := wr.heap.size) (w := wr) (by go_split_ands; assumption))))
                  | (go_at_call_of 51 (Value.int .i64 (j1 : Int)); refine (HGj1.out _ (by go_split_ands; assumption)).mono ?_; rintro e wC ⟨rfl, hbC⟩; have hG : Below wr.heap.size wr wC := Below.trans (by go_split_ands; assumption) (hbC.mono (Below.size (B := wr.heap.size) (w := wr) (by go_split_ands; assumption)))))
              go_wp2_with fail
              go_roundw
              case rel => exact ⟨k + 1, by omega, by go_num, ⟨ys, _, _, by unfold Hid; rw [hyy.out, HR.out], rfl, hO.below hG (Nat.le_refl _)⟩, hBm.trans (hG.mono hsz)⟩
              case measure => simp [intOf]; omega
          · have hkv1 : ¬ (k : Int) < v.length := by omega
            obtain rfl : k = v.length := by omega
            have HS := Lib.hid (envTo_succ v al ps z m v.length)
            go_wp2_with fail
            go_roundw
            case rel => exact ⟨m + 1, by omega, by go_num, ⟨ys, _, _, by unfold Hid; rw [hyy.out, HS.out], rfl, hO⟩, hBm⟩
            case measure => simp [intOf]; omega
      · have hmv1 : ¬ (m : Int) < v.length := by omega
        obtain rfl : m = v.length := by omega
        have hzr := hzz.out
        subst hzr
        go_wp2_with fail
        go_ret2
        rw [HC.out, HL.out]
        exact ⟨qz, dz, rfl, hO.lower hwB, hB.trans (hBm'.mono hle)⟩
  · have hcz : (vldR v r al ps z != 0) = true := by rw [bne_iff_ne]; exact hC
    have HL : Hid (envsL v r al ps z = []) := by unfold Hid envsL; rw [if_neg hC]
    clear hC
    go_wp2_with fail
    refine (refValid_any p q s c d f v r al ps z _ mX mA mP).mono ?_
    rintro e w2 ⟨rfl, hb⟩
    go_wp2_with fail
    go_ret2
    rw [HL.out]
    exact ⟨none, 0, rfl, OwnP.ofNil _ _, hB.trans (hb.mono hle)⟩
end Go.Proofs.Ytojldecldemfaaa
