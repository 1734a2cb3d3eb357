/- The walk of the law RoomLeases: for every flat and lease it returns true, and changes nothing that was there. -/
import Derived.Test.YtojldecldemfaaaRoomN
import Derived.Deep.DeepCutAuto
import Derived.Deep.RegionHeld3
namespace Go.Proofs.Ytojldecldemfaaa
set_option linter.unusedVariables false
set_option linter.unusedSimpArgs false
open Go.ChangeShapes Go.WideShapes Go.ChangeAt Go.RowKit Go.Deep

set_option maxHeartbeats 8000000 in
set_option maxRecDepth 100000 in
theorem roomLeases_walk (p : Option Addr) (c : Nat) (v : List (List Int)) (r : Int) (q : Option Addr) (d : Nat) (al : List Int) (s : Option Addr) (f : Nat) (ps : List Int) (z : Int) (w : World) (hx : Mat w p c v) (hr64 : in64 r) (hy : Ints w q d al) (hz : Ints w s f ps) (hz64 : in64 z) :
    Calls Try.prog 4 #[.agg #[.slice p v.length c, .int .i64 r], .agg #[.slice q al.length d, .slice s ps.length f, .int .i64 z]] w fun e w' => e = .returned (.bool true) ∧ Below w.heap.size w w' := by
  obtain ⟨Wx, hWx⟩ : ∃ W, w.alloc (.cells #[.slice p v.length c, .int .i64 r] 24) = W := ⟨_, rfl⟩
  obtain ⟨W0, hW0⟩ : ∃ W, Wx.alloc (.cells #[.slice q al.length d, .slice s ps.length f, .int .i64 z] 28) = W := ⟨_, rfl⟩
  have hB1 := below_alloc hWx
  have hB2 := below_alloc hW0
  have bX : BoxV W0 w.heap.size [.slice p v.length c, .int .i64 r] := (BoxV.new rfl hWx).below hB2
  have hs : Wx.heap.size = w.heap.size + 1 := by rw [← hWx]; simp
  have bL : BoxV W0 (w.heap.size + 1) [.slice q al.length d, .slice s ps.length f, .int .i64 z] := BoxV.new hs hW0
  have hB : Below w.heap.size w W0 := hB1.trans (hB2.mono hB1.size)
  have mX := hx.below hB (Nat.le_refl _)
  have mA := hy.below hB (Nat.le_refl _)
  have mP := hz.below hB (Nat.le_refl _)
  have HWx := Lib.hid hWx
  have HW0 := Lib.hid hW0
  clear hWx hW0 hB1 hB2 hs hx hy hz
  by_cases hG : greatL v al ps = true
  · go_enter Try.func4, Try.ntmps4
    go_wp2_with fail
    rw [HWx.out, HW0.out]
    refine (greatR_any p q s c d f v r al ps z W0 mX).mono ?_
    rintro e w1 ⟨rfl, hb⟩
    rw [hG]
    go_wp2_with fail
    go_ret
    exact ⟨rfl, hB.trans (hb.mono hB.size)⟩
  · have hg : greatL v al ps = false := by simpa using hG
    have hl : al.length ≤ 1000000 := by
      have : ¬ 50 < al.length := fun h => hG (greatL_true (.inr (.inl h)))
      omega
    have Hg := Lib.hid hg
    clear hG hg
    go_enter Try.func4, Try.ntmps4
    go_wp2_with fail
    rw [HWx.out, HW0.out]
    refine (greatR_any p q s c d f v r al ps z W0 mX).mono ?_
    rintro e w1 ⟨rfl, hb⟩
    rw [Hg.out]
    replace mX := mX.below hb (Nat.le_refl _)
    replace mA := mA.below hb (Nat.le_refl _)
    replace mP := mP.below hb (Nat.le_refl _)
    replace bX := bX.below hb
    replace bL := bL.below hb
    replace hB := hB.trans (hb.mono hB.size)
    clear hb
    have kbX_0 := bX.cell 0 _ rfl
    have kbX_1 := bX.cell 1 _ rfl
    have lbX := bX.lt
    have kbL_0 := bL.cell 0 _ rfl
    have kbL_1 := bL.cell 1 _ rfl
    have kbL_2 := bL.cell 2 _ rfl
    have lbL := bL.lt
    go_wp2_with fail
    refine (roomGains_any p q s c d f v r al ps z _ mX mA mP hl).mono ?_
    rintro e wA ⟨pa, ca, rfl, oA, hb⟩
    clear kbX_0 kbX_1 lbX kbL_0 kbL_1 kbL_2 lbL
    replace mX := mX.below hb (Nat.le_refl _)
    replace mA := mA.below hb (Nat.le_refl _)
    replace mP := mP.below hb (Nat.le_refl _)
    replace bX := bX.below hb
    replace bL := bL.below hb
    replace hB := hB.trans (hb.mono hB.size)
    clear hb
    have iA := oA.ints
    clear oA
    obtain ⟨E, hE⟩ : ∃ q, vldR v r al ps z = q := ⟨_, rfl⟩
    obtain ⟨X, hX⟩ : ∃ q, gnsL v r al ps z = q := ⟨_, rfl⟩
    obtain ⟨Y, hY⟩ : ∃ q, envsL v r al ps z = q := ⟨_, rfl⟩
    rw [hX] at iA ⊢
    rw [hE]
    have HE := Lib.hid hE
    have HX := Lib.hid hX
    have HY := Lib.hid hY
    clear hE hX hY
    have kbX_0 := bX.cell 0 _ rfl
    have kbX_1 := bX.cell 1 _ rfl
    have lbX := bX.lt
    have kbL_0 := bL.cell 0 _ rfl
    have kbL_1 := bL.cell 1 _ rfl
    have kbL_2 := bL.cell 2 _ rfl
    have lbL := bL.lt
    go_wp2_with fail
    have hC := refGains_any p q s c d f v r al ps z _ mX mA mP
    rw [HE.out, HX.out] at hC
    refine hC.mono ?_
    clear hC
    rintro e wB ⟨pb, cb, rfl, oB, hb⟩
    clear kbX_0 kbX_1 lbX kbL_0 kbL_1 kbL_2 lbL
    replace mX := mX.below hb (Nat.le_refl _)
    replace mA := mA.below hb (Nat.le_refl _)
    replace mP := mP.below hb (Nat.le_refl _)
    replace bX := bX.below hb
    replace bL := bL.below hb
    replace iA := iA.below hb (Nat.le_refl _)
    replace hB := hB.trans (hb.mono hB.size)
    clear hb
    have iB := oB.ints
    clear oB
    have kbX_0 := bX.cell 0 _ rfl
    have kbX_1 := bX.cell 1 _ rfl
    have lbX := bX.lt
    have kbL_0 := bL.cell 0 _ rfl
    have kbL_1 := bL.cell 1 _ rfl
    have kbL_2 := bL.cell 2 _ rfl
    have lbL := bL.lt
    go_wp2_with fail
    have hC := roomEnvies_any p q s c d f v r al ps z _ mX mA mP hl
    rw [HE.out, HY.out] at hC
    refine hC.mono ?_
    clear hC
    rintro e wC ⟨pc, cc, rfl, oC, hb⟩
    clear kbX_0 kbX_1 lbX kbL_0 kbL_1 kbL_2 lbL
    replace mX := mX.below hb (Nat.le_refl _)
    replace mA := mA.below hb (Nat.le_refl _)
    replace mP := mP.below hb (Nat.le_refl _)
    replace bX := bX.below hb
    replace bL := bL.below hb
    replace iA := iA.below hb (Nat.le_refl _)
    replace iB := iB.below hb (Nat.le_refl _)
    replace hB := hB.trans (hb.mono hB.size)
    clear hb
    have kbX_0 := bX.cell 0 _ rfl
    have kbX_1 := bX.cell 1 _ rfl
    have lbX := bX.lt
    have kbL_0 := bL.cell 0 _ rfl
    have kbL_1 := bL.cell 1 _ rfl
    have kbL_2 := bL.cell 2 _ rfl
    have lbL := bL.lt
    go_wp2_with fail
    have hC := refEnvies_any p q s c d f v r al ps z _ mX mA mP
    rw [HE.out, HY.out] at hC
    refine hC.mono ?_
    clear hC
    rintro e wD ⟨pd, cd, rfl, oD, hb⟩
    clear kbX_0 kbX_1 lbX kbL_0 kbL_1 kbL_2 lbL
    replace mX := mX.below hb (Nat.le_refl _)
    replace mA := mA.below hb (Nat.le_refl _)
    replace mP := mP.below hb (Nat.le_refl _)
    replace bX := bX.below hb
    replace bL := bL.below hb
    replace iA := iA.below hb (Nat.le_refl _)
    replace iB := iB.below hb (Nat.le_refl _)
    replace oC := oC.below hb (Nat.le_refl _)
    replace hB := hB.trans (hb.mono hB.size)
    clear hb
    have kbX_0 := bX.cell 0 _ rfl
    have kbX_1 := bX.cell 1 _ rfl
    have lbX := bX.lt
    have kbL_0 := bL.cell 0 _ rfl
    have kbL_1 := bL.cell 1 _ rfl
    have kbL_2 := bL.cell 2 _ rfl
    have lbL := bL.lt
    have hV1 := Lib.hid (fun W (h : Below wD.heap.size wD W) => roomValid_any p q s c d f v r al ps z W (mX.below h (Nat.le_refl _)) (mA.below h (Nat.le_refl _)) (mP.below h (Nat.le_refl _)) hl)
    have hV2 := Lib.hid (fun W (h : Below wD.heap.size wD W) => refValid_any p q s c d f v r al ps z W (mX.below h (Nat.le_refl _)) (mA.below h (Nat.le_refl _)) (mP.below h (Nat.le_refl _)))
    rw [HE.out] at hV1 hV2
    go_wp2_with fail
    go_region_held3 (fun W => W.cell? ⟨w.heap.size, 0, none⟩ = some (Value.slice p v.length c) ∧ W.cell? ⟨w.heap.size, 1, none⟩ = some (Value.int .i64 r) ∧ W.cell? ⟨w.heap.size + 1, 0, none⟩ = some (Value.slice q al.length d) ∧ W.cell? ⟨w.heap.size + 1, 1, none⟩ = some (Value.slice s ps.length f) ∧ W.cell? ⟨w.heap.size + 1, 2, none⟩ = some (Value.int .i64 z) ∧ Below wD.heap.size wD W)
      (first | assumption | exact ⟨(hG.cell (p := ⟨w.heap.size, 0, none⟩) lbX).trans kbX_0, (hG.cell (p := ⟨w.heap.size, 1, none⟩) lbX).trans kbX_1, (hG.cell (p := ⟨w.heap.size + 1, 0, none⟩) lbL).trans kbL_0, (hG.cell (p := ⟨w.heap.size + 1, 1, none⟩) lbL).trans kbL_1, (hG.cell (p := ⟨w.heap.size + 1, 2, none⟩) lbL).trans kbL_2, hG⟩ | exact ⟨kbX_0, kbX_1, kbL_0, kbL_1, kbL_2, below_drewN _ _ 1⟩ | exact ⟨kbX_0, kbX_1, kbL_0, kbL_1, kbL_2, Below.refl _ _⟩)
      (first
        | (go_at_call 25; refine (hV1.out _ (by go_split_ands; assumption)).mono ?_; rintro e w' ⟨rfl, hb⟩; have hG : Below wD.heap.size wD w' := Below.trans (by go_split_ands; assumption) (hb.mono (Below.size (B := wD.heap.size) (w := wD) (by go_split_ands; assumption))))
        | (go_at_call 26; refine (hV2.out _ (by go_split_ands; assumption)).mono ?_; rintro e w' ⟨rfl, hb⟩; have hG : Below wD.heap.size wD w' := Below.trans (by go_split_ands; assumption) (hb.mono (Below.size (B := wD.heap.size) (w := wD) (by go_split_ands; assumption))))
        | (go_at_call 27; refine (sameI_true (xs := X) (ys := X) rfl rfl rfl (iA.below (by go_split_ands; assumption) (Nat.le_refl _)) (iB.below (by go_split_ands; assumption) (Nat.le_refl _))).mono ?_; rintro e w' ⟨rfl, hw⟩; have hG : Below wD.heap.size wD w' := Below.drewP (by go_split_ands; assumption) hw)
        | (go_at_call 28; refine (samePairs_any pc pd cc cd _ _ Y _ (oC.below (by go_split_ands; assumption) (Nat.le_refl _)) (oD.below (by go_split_ands; assumption) (Nat.le_refl _))).mono ?_; rintro e w' ⟨rfl, hw⟩; have hG : Below wD.heap.size wD w' := Below.drewP (by go_split_ands; assumption) hw))
    go_wp2_with fail
    go_ret
    exact ⟨rfl, hB.trans (Below.mono (by assumption) hB.size)⟩
end Go.Proofs.Ytojldecldemfaaa
