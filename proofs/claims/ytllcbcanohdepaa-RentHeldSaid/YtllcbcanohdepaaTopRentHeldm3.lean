/- The walk of the law RentHeld: for every flat and lease it returns true, and changes nothing that was there.  (Printed by wip/genrentheld.py.) -/
import Derived.Test.YtllcbcanohdepaaTopRentBestm8
import Derived.Test.YtllcbcanohdepaaTopRentNamesm28
import Derived.Test.YtllcbcanohdepaaTopRentNamesm25
import Derived.Deep.DeepCutAuto
import Derived.Deep.RegionHeld3
namespace Go.Proofs.Ytllcbcanohdepaa
set_option linter.unusedVariables false
set_option linter.unusedSimpArgs false
open Go.ChangeShapes Go.WideShapes Go.ChangeAt Go.RowKit Go.Deep

theorem rh18 {i : Nat} (h : i < 18) : i = 0 ∨ i = 1 ∨ i = 2 ∨ i = 3 ∨ i = 4 ∨ i = 5 ∨ i = 6 ∨ i = 7 ∨ i = 8 ∨ i = 9 ∨ i = 10 ∨ i = 11 ∨ i = 12 ∨ i = 13 ∨ i = 14 ∨ i = 15 ∨ i = 16 ∨ i = 17 := by omega
/-- What lies from the flat, the given lease and the fair lease on. -/
structure HeldS (w W : World) (S M : Nat) (p q s q1 s1 : Option Addr) (c d f d1 f1 : Nat) (v : List (List Int)) (r : Int) (al ps X Y : List Int) (z : Int) (Z : Nat) : Prop where
  bX : BoxV W S [.slice p v.length c, .int .i64 r]
  bL : BoxV W (S + 1) [.slice q al.length d, .slice s ps.length f, .int .i64 z]
  bM : BoxV W M [.slice q1 X.length d1, .slice s1 Y.length f1, .int .i64 Z]
  mX : Mat W p c v
  mA : Ints W q d al
  mP : Ints W s f ps
  i1 : Ints W q1 d1 X
  i2 : Ints W s1 f1 Y
  hB : Below w.heap.size w W
theorem HeldS.step {w W W' : World} {S M : Nat} {p q s q1 s1 : Option Addr} {c d f d1 f1 : Nat} {v : List (List Int)} {r : Int} {al ps X Y : List Int} {z : Int} {Z : Nat} (h : HeldS w W S M p q s q1 s1 c d f d1 f1 v r al ps X Y z Z) (hb : Below W.heap.size W W') : HeldS w W' S M p q s q1 s1 c d f d1 f1 v r al ps X Y z Z :=
  ⟨h.bX.below hb, h.bL.below hb, h.bM.below hb, h.mX.below hb (Nat.le_refl _), h.mA.below hb (Nat.le_refl _), h.mP.below hb (Nat.le_refl _), h.i1.below hb (Nat.le_refl _), h.i2.below hb (Nat.le_refl _), h.hB.trans (hb.mono h.hB.size)⟩
set_option maxHeartbeats 1600000 in
set_option maxRecDepth 100000 in
theorem rentHeld_early (p : Option Addr) (c : Nat) (v : List (List Int)) (r : Int) (q : Option Addr) (d : Nat) (al : List Int) (s : Option Addr) (f : Nat) (ps : List Int) (z : Int) (w : World) (hx : Mat w p c v) (hr64 : in64 r) (hy : Ints w q d al) (hz : Ints w s f ps) (hz64 : in64 z) (hc : chkR v r ≠ 0) :
    Calls Try.prog 6 #[.agg #[.slice p v.length c, .int .i64 r], .agg #[.slice q al.length d, .slice s ps.length f, .int .i64 z]] w fun e w' => e = .returned (.bool true) ∧ Below w.heap.size w w' := by
  obtain ⟨Wx, hWx⟩ : ∃ W, w.alloc (.cells #[.slice p v.length c, .int .i64 r] 24) = W := ⟨_, rfl⟩
  obtain ⟨W0, hW0⟩ : ∃ W, Wx.alloc (.cells #[.slice q al.length d, .slice s ps.length f, .int .i64 z] 27) = W := ⟨_, rfl⟩
  have hB1 := below_alloc hWx
  have hB2 := below_alloc hW0
  have bX : BoxV W0 w.heap.size [.slice p v.length c, .int .i64 r] := (BoxV.new rfl hWx).below hB2
  have hs : Wx.heap.size = w.heap.size + 1 := by rw [← hWx]; simp
  have bL : BoxV W0 (w.heap.size + 1) [.slice q al.length d, .slice s ps.length f, .int .i64 z] := BoxV.new hs hW0
  have hB : Below w.heap.size w W0 := hB1.trans (hB2.mono hB1.size)
  have mX := hx.below hB (Nat.le_refl _)
  have mA := hy.below hB (Nat.le_refl _)
  have mP := hz.below hB (Nat.le_refl _)
  have hlx := hx.length_le
  have hly := hy.length_le
  have hlz := hz.length_le
  have HWx := Lib.hid hWx
  have HW0 := Lib.hid hW0
  clear hWx hW0 hB1 hB2 hs hx hy hz
  have hf : fit15 v r = false := by unfold fit15; rw [decide_eq_false_iff_not]; exact hc
  have hF := fun W (h : Mat W p c v) => fit15_any p c v r W h
  rw [hf] at hF
  have HF := Lib.hid hF
  clear hF hf hc
  go_enter Try.func6, Try.ntmps6
  go_wp2_with fail
  rw [HWx.out, HW0.out]
  refine (alive15_any _).mono ?_
  rintro e w1 ⟨rfl, hb⟩
  replace bX := bX.below hb
  have k0 := bX.cell 0 _ rfl
  have k1 := bX.cell 1 _ rfl
  replace mX := mX.below hb (Nat.le_refl _)
  replace hB := hB.trans (hb.mono hB.size)
  clear hb
  go_wp2_with fail
  refine (HF.out _ mX).mono ?_
  rintro e w2 ⟨rfl, hb⟩
  go_wp2_with fail
  go_ret
  exact ⟨rfl, hB.trans (hb.mono hB.size)⟩

set_option maxHeartbeats 16000000 in
set_option maxRecDepth 100000 in
theorem rentHeld_main (p : Option Addr) (c : Nat) (v : List (List Int)) (r : Int) (q : Option Addr) (d : Nat) (al : List Int) (s : Option Addr) (f : Nat) (ps : List Int) (z : Int) (w : World) (hx : Mat w p c v) (hr64 : in64 r) (hy : Ints w q d al) (hz : Ints w s f ps) (hz64 : in64 z) (hc : chkR v r = 0) :
    Calls Try.prog 6 #[.agg #[.slice p v.length c, .int .i64 r], .agg #[.slice q al.length d, .slice s ps.length f, .int .i64 z]] w fun e w' => e = .returned (.bool true) ∧ Below w.heap.size w w' := by
  obtain ⟨Wx, hWx⟩ : ∃ W, w.alloc (.cells #[.slice p v.length c, .int .i64 r] 24) = W := ⟨_, rfl⟩
  obtain ⟨W0, hW0⟩ : ∃ W, Wx.alloc (.cells #[.slice q al.length d, .slice s ps.length f, .int .i64 z] 27) = W := ⟨_, rfl⟩
  have hB1 := below_alloc hWx
  have hB2 := below_alloc hW0
  have bX : BoxV W0 w.heap.size [.slice p v.length c, .int .i64 r] := (BoxV.new rfl hWx).below hB2
  have hs : Wx.heap.size = w.heap.size + 1 := by rw [← hWx]; simp
  have bL : BoxV W0 (w.heap.size + 1) [.slice q al.length d, .slice s ps.length f, .int .i64 z] := BoxV.new hs hW0
  have hB : Below w.heap.size w W0 := hB1.trans (hB2.mono hB1.size)
  have mX := hx.below hB (Nat.le_refl _)
  have mA := hy.below hB (Nat.le_refl _)
  have mP := hz.below hB (Nat.le_refl _)
  have hlx := hx.length_le
  have hly := hy.length_le
  have hlz := hz.length_le
  have HWx := Lib.hid hWx
  have HW0 := Lib.hid hW0
  clear hWx hW0 hB1 hB2 hs hx hy hz
  have hf : fit15 v r = true := by unfold fit15; rw [decide_eq_true_iff]; exact hc
  have hF := fun W (h : Mat W p c v) => fit15_any p c v r W h
  rw [hf] at hF
  have hE := fun W (h : Mat W p c v) => rentFair_any p c v r W h
  have hBd := (chkR_zero.1 hc).1
  obtain ⟨hev, hfr⟩ := lea_vld (g := fairG v) hc (fair_gp hBd)
  have eX0 : bestI v r = bestA v := (lea_parts (g := fairG v) hc).1
  obtain ⟨X, eX⟩ : ∃ x, bestA v = x := ⟨_, rfl⟩
  obtain ⟨Y, eY⟩ : ∃ x, leaY v r (fairG v) = x := ⟨_, rfl⟩
  obtain ⟨Z, eZ⟩ : ∃ x : Nat, leaZ v r (fairG v) = x := ⟨(leaZ v r (fairG v)).toNat, by have := (vld_zero.1 hev).2.2.1; omega⟩
  have hheld := fun i (hi : i < v.length) => held_law hc eZ hi
  rw [eX0, eX, eY, eZ, hc] at hE
  rw [eX, eY, eZ] at hev hfr
  simp only [eX, eY] at hheld
  have hV1 := fun W q1 d1 s1 f1 (h : Mat W p c v) (h1 : Ints W q1 d1 X) (h2 : Ints W s1 f1 Y) => refValid_any p q1 s1 c d1 f1 v r X Y Z W h h1 h2
  rw [hev] at hV1
  have hV := fun W (h : Mat W p c v) (h1 : Ints W q d al) (h2 : Ints W s f ps) => refValid_any p q s c d f v r al ps z W h h1 h2
  have hVF := fun W (h : Mat W p c v) (h1 : Ints W q d al) (h2 : Ints W s f ps) => free14_any p q s c d f v r al ps z W h h1 h2
  have HF := Lib.hid hF
  have HE := Lib.hid hE
  have HV1 := Lib.hid hV1
  have HBd := Lib.hid hBd
  have Hev := Lib.hid hev
  have HeX := Lib.hid eX
  have Hc := Lib.hid hc
  have Hgm := Lib.hid (good_of hev)
  have HX0 := Lib.hid (good_of hev).alen
  have HHd := Lib.hid hheld
  have HV := Lib.hid hV
  have HVF := Lib.hid hVF
  have h6 := hBd.2.1
  have hv0 := hBd.1
  have Hsk := Lib.hid (fun W i (hi : i < v.length) (hm : Mat W p c v) => (by
    have h := rentStake_any p c v r i W hm ⟨by omega, by omega⟩
    obtain ⟨s1, s2, s3⟩ := sk_in (v := v) (r := r) hc hi
    rw [s1, s2, s3] at h
    unfold ratV at h
    exact h : Calls Try.prog 12 #[.agg #[.slice p v.length c, .int .i64 r], .int .i64 (i : Int)] W fun e w' => e = .returned (.tuple #[.agg #[.int .i64 (rN (stLo v r i) v.length), .int .i64 (rD (stLo v r i) v.length)], .agg #[.int .i64 (rN (stHi v r i) v.length), .int .i64 (rD (stHi v r i) v.length)], .int .i64 0]) ∧ Below W.heap.size W w'))
  have HSb := Lib.hid (fun i (hi : i < v.length) => stk_bd Hc.out hi)
  clear hc hheld
  clear hF hE hV1 hf hev hfr hBd eX eY eZ eX0 hV hVF
  go_enter Try.func6, Try.ntmps6
  go_wp2_with fail
  rw [HWx.out, HW0.out]
  refine (alive15_any _).mono ?_
  rintro e w1 ⟨rfl, hb⟩
  replace mX := mX.below hb (Nat.le_refl _)
  replace mA := mA.below hb (Nat.le_refl _)
  replace mP := mP.below hb (Nat.le_refl _)
  replace bX := bX.below hb
  replace bL := bL.below hb
  replace hB := hB.trans (hb.mono hB.size)
  clear hb
  have kbX_0 := bX.cell 0 _ rfl
  have kbX_1 := bX.cell 1 _ rfl
  have lbX := bX.lt
  have kbL_0 := bL.cell 0 _ rfl
  have kbL_1 := bL.cell 1 _ rfl
  have kbL_2 := bL.cell 2 _ rfl
  have lbL := bL.lt
  go_wp2_with fail
  refine (HF.out _ mX).mono ?_
  rintro e w2 ⟨rfl, hb⟩
  clear kbX_0 kbX_1 lbX kbL_0 kbL_1 kbL_2 lbL
  replace mX := mX.below hb (Nat.le_refl _)
  replace mA := mA.below hb (Nat.le_refl _)
  replace mP := mP.below hb (Nat.le_refl _)
  replace bX := bX.below hb
  replace bL := bL.below hb
  replace hB := hB.trans (hb.mono hB.size)
  clear hb
  have kbX_0 := bX.cell 0 _ rfl
  have kbX_1 := bX.cell 1 _ rfl
  have lbX := bX.lt
  have kbL_0 := bL.cell 0 _ rfl
  have kbL_1 := bL.cell 1 _ rfl
  have kbL_2 := bL.cell 2 _ rfl
  have lbL := bL.lt
  go_wp2_with fail
  refine (HE.out _ mX).mono ?_
  rintro e w3 ⟨q1, d1, s1, f1, rfl, i1, i2, hb⟩
  clear kbX_0 kbX_1 lbX kbL_0 kbL_1 kbL_2 lbL
  replace mX := mX.below hb (Nat.le_refl _)
  replace mA := mA.below hb (Nat.le_refl _)
  replace mP := mP.below hb (Nat.le_refl _)
  replace bX := bX.below hb
  replace bL := bL.below hb
  replace hB := hB.trans (hb.mono hB.size)
  clear hb
  obtain ⟨W4, hW4⟩ : ∃ W, w3.alloc (.cells #[.slice q1 X.length d1, .slice s1 Y.length f1, .int .i64 Z] 27) = W := ⟨_, rfl⟩
  have hb : Below w3.heap.size w3 W4 := below_alloc hW4
  have bM : BoxV W4 w3.heap.size [.slice q1 X.length d1, .slice s1 Y.length f1, .int .i64 Z] := BoxV.new rfl hW4
  have HW4 := Lib.hid hW4
  replace mX := mX.below hb (Nat.le_refl _)
  replace mA := mA.below hb (Nat.le_refl _)
  replace mP := mP.below hb (Nat.le_refl _)
  replace bX := bX.below hb
  replace bL := bL.below hb
  replace i1 := i1.below hb (Nat.le_refl _)
  replace i2 := i2.below hb (Nat.le_refl _)
  replace hB := hB.trans (hb.mono hB.size)
  clear hb hW4
  go_upto_region 5 with (fail)
  rw [HW4.out]
  have kbX_0 := bX.cell 0 _ rfl
  have kbX_1 := bX.cell 1 _ rfl
  have lbX := bX.lt
  have kbL_0 := bL.cell 0 _ rfl
  have kbL_1 := bL.cell 1 _ rfl
  have kbL_2 := bL.cell 2 _ rfl
  have lbL := bL.lt
  have kbM_0 := bM.cell 0 _ rfl
  have kbM_1 := bM.cell 1 _ rfl
  have kbM_2 := bM.cell 2 _ rfl
  have lbM := bM.lt
  go_wp2_with fail
  refine (HV1.out _ _ _ _ _ mX i1 i2).mono ?_
  rintro e w5 ⟨rfl, hb⟩
  clear kbX_0 kbX_1 lbX kbL_0 kbL_1 kbL_2 lbL kbM_0 kbM_1 kbM_2 lbM
  replace mX := mX.below hb (Nat.le_refl _)
  replace mA := mA.below hb (Nat.le_refl _)
  replace mP := mP.below hb (Nat.le_refl _)
  replace bX := bX.below hb
  replace bL := bL.below hb
  replace i1 := i1.below hb (Nat.le_refl _)
  replace i2 := i2.below hb (Nat.le_refl _)
  replace bM := bM.below hb
  replace hB := hB.trans (hb.mono hB.size)
  clear hb
  have hH : HeldS w w5 w.heap.size w3.heap.size p q s q1 s1 c d f d1 f1 v r al ps X Y z Z := ⟨bX, bL, bM, mX, mA, mP, i1, i2, hB⟩
  clear bX bL bM mX mA mP i1 i2 hB
  have HH := Lib.hid hH
  have k0 := hH.bX.cell 0 _ rfl
  clear hH
  obtain ⟨xs, hxs⟩ : ∃ x, gainL v X Y Z = x := ⟨_, rfl⟩
  have Hxs := Lib.hid hxs
  have HxI := Lib.hid (fun i (hi : i < v.length) => (hxs ▸ gainL_get (by rw [HX0.out]; exact hi) : iget xs i = gainI v Y Z i (itm X i)))
  have HLo := Lib.hid (show loG v X Y Z = lstI xs v.length by unfold loG lstI; rw [if_neg (by omega), hxs])
  clear hxs
  go_wp2_with fail
  clear k0
  go_loopw [8, 9] (fun l t wr => ∃ i : Nat, i ≤ v.length ∧ l = .int .i64 (lstI xs i) ∧ t = .int .i64 i ∧ Below w5.heap.size w5 wr) (fun _ t _ => v.length - (intOf t).toNat)
  case atStart => exact ⟨0, Nat.zero_le _, rfl, rfl, Below.refl _ _⟩
  case round =>
    obtain ⟨i, hi, rfl, rfl, hbr⟩ := hrel
    by_cases hil : i < v.length
    · have hi1 : (i : Int) < v.length := by omega
      have hS := HH.out.step hbr
      obtain ⟨bx, ox, rfl, _, hcx⟩ := hS.i1.get (j := i) (by rw [HX0.out]; exact hil)
      obtain ⟨b1, b2⟩ := Hgm.out.itm i hil
      obtain ⟨x2, hxx⟩ : ∃ x : Nat, iget X i = (x : Int) := ⟨(iget X i).toNat, by omega⟩
      have e2 : itm X i = x2 := by simp [itm, hxx]
      rw [hxx] at hcx
      rw [e2] at b2
      have g2 := gain_bd Hgm.out hil b2
      have HG2 := Lib.hid (fun W (hb : Below wr.heap.size wr W) => refGain_ok p (some ⟨bx, ox, none⟩) s1 c d1 f1 v r X Y Z i x2 W (hS.mX.below hb (Nat.le_refl _)) (hS.i2.below hb (Nat.le_refl _)) Hgm.out hil b2)
      have cX0 := hS.bX.cell 0 _ rfl
      have cX1 := hS.bX.cell 1 _ rfl
      have cM0 := hS.bM.cell 0 _ rfl
      have cM1 := hS.bM.cell 1 _ rfl
      have cM2 := hS.bM.cell 2 _ rfl
      have lx := hS.bX.lt
      have lm := hS.bM.lt
      have Hmk : Hid (∀ W, Below wr.heap.size wr W → (W.cell? ⟨w.heap.size, 0, none⟩ = some (.slice p v.length c) ∧ W.cell? ⟨w.heap.size, 1, none⟩ = some (.int .i64 r) ∧ W.cell? ⟨w3.heap.size, 0, none⟩ = some (.slice (some ⟨bx, ox, none⟩) X.length d1) ∧ W.cell? ⟨w3.heap.size, 1, none⟩ = some (.slice s1 Y.length f1) ∧ W.cell? ⟨w3.heap.size, 2, none⟩ = some (.int .i64 (Z : Int)) ∧ W.cell? ⟨bx, ox + i, none⟩ = some (.int .i64 (x2 : Int)) ∧ Below wr.heap.size wr W)) := fun W hG =>
        ⟨(hG.cell (p := ⟨w.heap.size, 0, none⟩) lx).trans cX0, (hG.cell (p := ⟨w.heap.size, 1, none⟩) lx).trans cX1, (hG.cell (p := ⟨w3.heap.size, 0, none⟩) lm).trans cM0, (hG.cell (p := ⟨w3.heap.size, 1, none⟩) lm).trans cM1, (hG.cell (p := ⟨w3.heap.size, 2, none⟩) lm).trans cM2, (hG.cell (World.block_lt_of_cell? _ _ hcx)).trans hcx, hG⟩
      have hlX : (i : Int) < X.length := by rw [HX0.out]; omega
      clear cX1 cM0 cM1 cM2 lx lm hcx hxx
      have hxi := HxI.out i hil
      rw [e2] at hxi
      generalize gainI v Y Z i x2 = G at *
      have Hxi := Lib.hid hxi
      clear hS hxi e2
      have key : ∃ L : Int, lstI xs (i + 1) = L ∧ ((i = 0 ∧ L = G) ∨ (i ≠ 0 ∧ G < lstI xs i ∧ L = G) ∨ (i ≠ 0 ∧ ¬ G < lstI xs i ∧ L = lstI xs i)) := by
        refine ⟨_, rfl, ?_⟩
        by_cases h0 : i = 0
        · subst h0; exact .inl ⟨rfl, by rw [lstI_one, Hxi.out]⟩
        · by_cases h1 : G < lstI xs i
          · exact .inr (.inl ⟨h0, h1, by rw [lstI_low h0 (by rw [Hxi.out]; exact h1), Hxi.out]⟩)
          · exact .inr (.inr ⟨h0, h1, lstI_same h0 (by rw [Hxi.out]; exact h1)⟩)
      obtain ⟨L, hL, hcs⟩ := key
      have HL := Lib.hid hL
      clear hL
      generalize lstI xs i = l0 at *
      rcases hcs with ⟨h0, rfl⟩ | ⟨h0, h1, rfl⟩ | ⟨h0, h1, rfl⟩
      · skip
        have hd0 : ((i : Int) == 0) = true := by rw [beq_iff_eq]; omega
        clear h0
        go_wp2_with fail
        go_region_held3 (fun W => W.cell? ⟨w.heap.size, 0, none⟩ = some (.slice p v.length c) ∧ W.cell? ⟨w.heap.size, 1, none⟩ = some (.int .i64 r) ∧ W.cell? ⟨w3.heap.size, 0, none⟩ = some (.slice (some ⟨bx, ox, none⟩) X.length d1) ∧ W.cell? ⟨w3.heap.size, 1, none⟩ = some (.slice s1 Y.length f1) ∧ W.cell? ⟨w3.heap.size, 2, none⟩ = some (.int .i64 (Z : Int)) ∧ W.cell? ⟨bx, ox + i, none⟩ = some (.int .i64 (x2 : Int)) ∧ Below wr.heap.size wr W)
          (first | assumption | exact Hmk.out _ hG | exact Hmk.out _ (below_drewN wr.heap.size wr 1) | exact Hmk.out _ (Below.refl _ _))
          (first
            | (go_at_call 19; refine (HG2.out _ (by go_split_ands; assumption)).mono ?_; rintro e wC ⟨rfl, hbC⟩; have hG : Below wr.heap.size wr wC := Below.trans (by go_split_ands; assumption) (hbC.mono (Below.size (B := wr.heap.size) (w := wr) (by go_split_ands; assumption)))))
        go_wp2_with fail
        go_roundw
        case rel => exact ⟨i + 1, by omega, by rw [HL.out], by go_num, hbr.trans (hG.mono hbr.size)⟩
        case measure => (simp [intOf] <;> omega)
      · skip
        have hd0 : ((i : Int) == 0) = false := by rw [beq_eq_false_iff_ne]; omega
        have hd1 : decide (L < l0) = true := by rw [decide_eq_true_iff]; exact h1
        go_wp2_with fail
        go_region_held3 (fun W => W.cell? ⟨w.heap.size, 0, none⟩ = some (.slice p v.length c) ∧ W.cell? ⟨w.heap.size, 1, none⟩ = some (.int .i64 r) ∧ W.cell? ⟨w3.heap.size, 0, none⟩ = some (.slice (some ⟨bx, ox, none⟩) X.length d1) ∧ W.cell? ⟨w3.heap.size, 1, none⟩ = some (.slice s1 Y.length f1) ∧ W.cell? ⟨w3.heap.size, 2, none⟩ = some (.int .i64 (Z : Int)) ∧ W.cell? ⟨bx, ox + i, none⟩ = some (.int .i64 (x2 : Int)) ∧ Below wr.heap.size wr W)
          (first | assumption | exact Hmk.out _ hG | exact Hmk.out _ (below_drewN wr.heap.size wr 1) | exact Hmk.out _ (Below.refl _ _))
          (first
            | (go_at_call 19; refine (HG2.out _ (by go_split_ands; assumption)).mono ?_; rintro e wC ⟨rfl, hbC⟩; have hG : Below wr.heap.size wr wC := Below.trans (by go_split_ands; assumption) (hbC.mono (Below.size (B := wr.heap.size) (w := wr) (by go_split_ands; assumption)))))
        go_wp2_with fail
        go_roundw
        case rel => exact ⟨i + 1, by omega, by rw [HL.out], by go_num, hbr.trans (hG.mono hbr.size)⟩
        case measure => (simp [intOf] <;> omega)
      · skip
        have hd0 : ((i : Int) == 0) = false := by rw [beq_eq_false_iff_ne]; omega
        have hd1 : decide (G < L) = false := by rw [decide_eq_false_iff_not]; exact h1
        go_wp2_with fail
        go_region_held3 (fun W => W.cell? ⟨w.heap.size, 0, none⟩ = some (.slice p v.length c) ∧ W.cell? ⟨w.heap.size, 1, none⟩ = some (.int .i64 r) ∧ W.cell? ⟨w3.heap.size, 0, none⟩ = some (.slice (some ⟨bx, ox, none⟩) X.length d1) ∧ W.cell? ⟨w3.heap.size, 1, none⟩ = some (.slice s1 Y.length f1) ∧ W.cell? ⟨w3.heap.size, 2, none⟩ = some (.int .i64 (Z : Int)) ∧ W.cell? ⟨bx, ox + i, none⟩ = some (.int .i64 (x2 : Int)) ∧ Below wr.heap.size wr W)
          (first | assumption | exact Hmk.out _ hG | exact Hmk.out _ (below_drewN wr.heap.size wr 1) | exact Hmk.out _ (Below.refl _ _))
          (first
            | (go_at_call 19; refine (HG2.out _ (by go_split_ands; assumption)).mono ?_; rintro e wC ⟨rfl, hbC⟩; have hG : Below wr.heap.size wr wC := Below.trans (by go_split_ands; assumption) (hbC.mono (Below.size (B := wr.heap.size) (w := wr) (by go_split_ands; assumption)))))
        go_wp2_with fail
        go_roundw
        case rel => exact ⟨i + 1, by omega, by rw [HL.out], by go_num, hbr.trans (hG.mono hbr.size)⟩
        case measure => (simp [intOf] <;> omega)
    · have hi1 : ¬ (i : Int) < v.length := by omega
      obtain rfl : v.length = i := by omega
      rw [← HLo.out]
      obtain ⟨l0, hl0⟩ : ∃ x, loG v X Y Z = x := ⟨_, rfl⟩
      rw [hl0]
      have HHd2 : Hid (∀ i, i < v.length → hldB (fun k => gainI v Y Z i (itm X k)) (gainI v Y Z i (itm X i)) l0 i v.length = true) := fun i hi => hl0 ▸ HHd.out i hi
      clear hl0 HHd HLo
      have HH0 := HH
      clear HH
      have HH := Lib.hid (HH0.out.step hbr)
      clear HH0 hbr
      obtain ⟨wa, rfl⟩ : ∃ W, W = wr := ⟨_, rfl⟩
      have k0 := HH.out.bX.cell 0 _ rfl
      go_wp2_with fail
      clear k0
      go_loopw [11] (fun t wr => ∃ i : Nat, i ≤ v.length ∧ t = .int .i64 i ∧ Below wa.heap.size wa wr) (fun t _ => v.length - (intOf t).toNat)
      case atStart => exact ⟨0, Nat.zero_le _, rfl, Below.refl _ _⟩
      case round =>
        obtain ⟨i, hi, rfl, hbr⟩ := hrel
        by_cases hil : i < v.length
        · have hi1 : (i : Int) < v.length := by omega
          have hh := HHd2.out i hil
          have hS := HH.out.step hbr
          obtain ⟨bx, ox, rfl, _, hcx⟩ := hS.i1.get (j := i) (by rw [HX0.out]; exact hil)
          obtain ⟨b1, b2⟩ := Hgm.out.itm i hil
          obtain ⟨x2, hxx⟩ : ∃ x : Nat, iget X i = (x : Int) := ⟨(iget X i).toNat, by omega⟩
          have e2 : itm X i = x2 := by simp [itm, hxx]
          rw [hxx] at hcx
          rw [e2] at b2
          have g2 := gain_bd Hgm.out hil b2
          have HG2 := Lib.hid (fun W (hb : Below wr.heap.size wr W) => refGain_ok p (some ⟨bx, ox, none⟩) s1 c d1 f1 v r X Y Z i x2 W (hS.mX.below hb (Nat.le_refl _)) (hS.i2.below hb (Nat.le_refl _)) Hgm.out hil b2)
          have cX0 := hS.bX.cell 0 _ rfl
          have cX1 := hS.bX.cell 1 _ rfl
          have cM0 := hS.bM.cell 0 _ rfl
          have cM1 := hS.bM.cell 1 _ rfl
          have cM2 := hS.bM.cell 2 _ rfl
          have lx := hS.bX.lt
          have lm := hS.bM.lt
          have Hmk : Hid (∀ W, Below wr.heap.size wr W → (W.cell? ⟨w.heap.size, 0, none⟩ = some (.slice p v.length c) ∧ W.cell? ⟨w.heap.size, 1, none⟩ = some (.int .i64 r) ∧ W.cell? ⟨w3.heap.size, 0, none⟩ = some (.slice (some ⟨bx, ox, none⟩) X.length d1) ∧ W.cell? ⟨w3.heap.size, 1, none⟩ = some (.slice s1 Y.length f1) ∧ W.cell? ⟨w3.heap.size, 2, none⟩ = some (.int .i64 (Z : Int)) ∧ W.cell? ⟨bx, ox + i, none⟩ = some (.int .i64 (x2 : Int)) ∧ Below wr.heap.size wr W)) := fun W hG =>
            ⟨(hG.cell (p := ⟨w.heap.size, 0, none⟩) lx).trans cX0, (hG.cell (p := ⟨w.heap.size, 1, none⟩) lx).trans cX1, (hG.cell (p := ⟨w3.heap.size, 0, none⟩) lm).trans cM0, (hG.cell (p := ⟨w3.heap.size, 1, none⟩) lm).trans cM1, (hG.cell (p := ⟨w3.heap.size, 2, none⟩) lm).trans cM2, (hG.cell (World.block_lt_of_cell? _ _ hcx)).trans hcx, hG⟩
          have hlX : (i : Int) < X.length := by rw [HX0.out]; omega
          clear cX1 cM0 cM1 cM2 lx lm hcx hxx
          rw [e2] at hh
          have HhE := Lib.hid hh
          generalize hG1 : gainI v Y Z i x2 = G1 at *
          clear e2 hh hG1
          go_wp2_with fail
          go_region_held3 (fun W => W.cell? ⟨w.heap.size, 0, none⟩ = some (.slice p v.length c) ∧ W.cell? ⟨w.heap.size, 1, none⟩ = some (.int .i64 r) ∧ W.cell? ⟨w3.heap.size, 0, none⟩ = some (.slice (some ⟨bx, ox, none⟩) X.length d1) ∧ W.cell? ⟨w3.heap.size, 1, none⟩ = some (.slice s1 Y.length f1) ∧ W.cell? ⟨w3.heap.size, 2, none⟩ = some (.int .i64 (Z : Int)) ∧ W.cell? ⟨bx, ox + i, none⟩ = some (.int .i64 (x2 : Int)) ∧ Below wr.heap.size wr W)
            (first | assumption | exact Hmk.out _ hG | exact Hmk.out _ (below_drewN wr.heap.size wr 1) | exact Hmk.out _ (Below.refl _ _))
            (first
              | (go_at_call 19; refine (HG2.out _ (by go_split_ands; assumption)).mono ?_; rintro e wC ⟨rfl, hbC⟩; have hG : Below wr.heap.size wr wC := Below.trans (by go_split_ands; assumption) (hbC.mono (Below.size (B := wr.heap.size) (w := wr) (by go_split_ands; assumption)))))
          have Hb1 := Lib.hid (hbr.trans (hG.mono hbr.size))
          have HH1 := Lib.hid (hS.step hG)
          clear hS hG HG2 Hmk cX0
          obtain ⟨wb, hwb⟩ : ∃ W, W = wC := ⟨_, rfl⟩
          subst hwb
          have k0 := HH1.out.bX.cell 0 _ rfl
          obtain ⟨HB, hHB⟩ : ∃ f : Nat → Bool, hldB (fun k => gainI v Y Z i (itm X k)) G1 l0 i = f := ⟨_, rfl⟩
          have HHb : Hid (∀ k, HB (k + 1) = (HB k || (decide (k ≠ i) && gainI v Y Z i (itm X k) == G1))) := fun k => by rw [← hHB]; rfl
          have hz : (G1 == l0) = HB 0 := by rw [← hHB]; rfl
          have HEnd : Hid (HB v.length = true) := by unfold Hid; rw [← hHB]; exact HhE.out
          have Hz := Lib.hid hz
          clear hz hHB HhE
          go_wp2_with fail
          clear k0
          rw [Hz.out]
          go_loopw [13, 14] (fun h t wk => ∃ k : Nat, k ≤ v.length ∧ h = .bool (HB k) ∧ t = .int .i64 k ∧ Below wb.heap.size wb wk) (fun _ t _ => v.length - (intOf t).toNat)
          case atStart => exact ⟨0, Nat.zero_le _, rfl, rfl, Below.refl _ _⟩
          case round =>
            obtain ⟨k, hk, rfl, rfl, hbk⟩ := hrel
            have cX0 := (HH1.out.step hbk).bX.cell 0 _ rfl
            by_cases hkl : k < v.length
            · have hk1 : (k : Int) < v.length := by omega
              have hnx := HHb.out k
              cases hR : HB k with
              | true =>
                have HN : Hid (HB (k + 1) = true) := by unfold Hid; rw [hnx, hR]; rfl
                clear hR hnx
                go_wp2_with fail
                go_region
                go_wp2_with fail
                go_roundw
                case rel => exact ⟨k + 1, by omega, by rw [HN.out], by go_num, hbk.drewN' _⟩
                case measure => (simp [intOf] <;> omega)
              | false =>
                rw [hR] at hnx
                by_cases hki : k = i
                · have HN : Hid (HB (k + 1) = false) := by unfold Hid; rw [hnx]; simp [hki]
                  have hne : ((k : Int) != i) = false := by rw [bne_eq_false_iff_eq]; omega
                  clear hR hnx
                  go_wp2_with fail
                  go_region
                  go_wp2_with fail
                  go_roundw
                  case rel => exact ⟨k + 1, by omega, by rw [HN.out], by go_num, hbk.drewN' _⟩
                  case measure => (simp [intOf] <;> omega)
                · have hne : ((k : Int) != i) = true := by rw [bne_iff_ne]; omega
                  clear cX0
                  have hS := HH1.out.step hbk
                  have hcx := hS.i1.at (j := k) (by rw [HX0.out]; exact hkl)
                  obtain ⟨b1, b2⟩ := Hgm.out.itm k hkl
                  obtain ⟨x3, hxx⟩ : ∃ x : Nat, iget X k = (x : Int) := ⟨(iget X k).toNat, by omega⟩
                  have e2 : itm X k = x3 := by simp [itm, hxx]
                  rw [hxx] at hcx
                  rw [e2] at b2
                  have g2 := gain_bd Hgm.out hil b2
                  have HG2 := Lib.hid (fun W (hb : Below wr.heap.size wr W) => refGain_ok p (some ⟨bx, ox, none⟩) s1 c d1 f1 v r X Y Z i x3 W (hS.mX.below hb (Nat.le_refl _)) (hS.i2.below hb (Nat.le_refl _)) Hgm.out hil b2)
                  have cX0 := hS.bX.cell 0 _ rfl
                  have cX1 := hS.bX.cell 1 _ rfl
                  have cM0 := hS.bM.cell 0 _ rfl
                  have cM1 := hS.bM.cell 1 _ rfl
                  have cM2 := hS.bM.cell 2 _ rfl
                  have lx := hS.bX.lt
                  have lm := hS.bM.lt
                  have Hmk : Hid (∀ W, Below wr.heap.size wr W → (W.cell? ⟨w.heap.size, 0, none⟩ = some (.slice p v.length c) ∧ W.cell? ⟨w.heap.size, 1, none⟩ = some (.int .i64 r) ∧ W.cell? ⟨w3.heap.size, 0, none⟩ = some (.slice (some ⟨bx, ox, none⟩) X.length d1) ∧ W.cell? ⟨w3.heap.size, 1, none⟩ = some (.slice s1 Y.length f1) ∧ W.cell? ⟨w3.heap.size, 2, none⟩ = some (.int .i64 (Z : Int)) ∧ W.cell? ⟨bx, ox + k, none⟩ = some (.int .i64 (x3 : Int)) ∧ Below wr.heap.size wr W)) := fun W hG =>
                    ⟨(hG.cell (p := ⟨w.heap.size, 0, none⟩) lx).trans cX0, (hG.cell (p := ⟨w.heap.size, 1, none⟩) lx).trans cX1, (hG.cell (p := ⟨w3.heap.size, 0, none⟩) lm).trans cM0, (hG.cell (p := ⟨w3.heap.size, 1, none⟩) lm).trans cM1, (hG.cell (p := ⟨w3.heap.size, 2, none⟩) lm).trans cM2, (hG.cell (World.block_lt_of_cell? _ _ hcx)).trans hcx, hG⟩
                  have hlX : (k : Int) < X.length := by rw [HX0.out]; omega
                  clear cX1 cM0 cM1 cM2 lx lm hcx hxx
                  rw [e2] at hnx
                  generalize gainI v Y Z i x3 = G3 at *
                  have HN : Hid (HB (k + 1) = (G3 == G1)) := by unfold Hid; rw [hnx]; simp [hki]
                  clear hR hnx hki e2 hS
                  go_wp2_with fail
                  go_region_held3 (fun W => W.cell? ⟨w.heap.size, 0, none⟩ = some (.slice p v.length c) ∧ W.cell? ⟨w.heap.size, 1, none⟩ = some (.int .i64 r) ∧ W.cell? ⟨w3.heap.size, 0, none⟩ = some (.slice (some ⟨bx, ox, none⟩) X.length d1) ∧ W.cell? ⟨w3.heap.size, 1, none⟩ = some (.slice s1 Y.length f1) ∧ W.cell? ⟨w3.heap.size, 2, none⟩ = some (.int .i64 (Z : Int)) ∧ W.cell? ⟨bx, ox + k, none⟩ = some (.int .i64 (x3 : Int)) ∧ Below wr.heap.size wr W)
                    (first | assumption | exact Hmk.out _ hG | exact Hmk.out _ (below_drewN wr.heap.size wr 1) | exact Hmk.out _ (Below.refl _ _))
                    (first
                      | (go_at_call 19; refine (HG2.out _ (by go_split_ands; assumption)).mono ?_; rintro e wC ⟨rfl, hbC⟩; have hG : Below wr.heap.size wr wC := Below.trans (by go_split_ands; assumption) (hbC.mono (Below.size (B := wr.heap.size) (w := wr) (by go_split_ands; assumption)))))
                  go_wp2_with fail
                  go_roundw
                  case rel => exact ⟨k + 1, by omega, by rw [HN.out], by go_num, hbk.trans (hG.mono hbk.size)⟩
                  case measure => (simp [intOf] <;> omega)
            · have hk1 : ¬ (k : Int) < v.length := by omega
              obtain rfl : v.length = k := by omega
              rw [HEnd.out]
              go_wp2_with fail
              go_roundw
              case rel => exact ⟨i + 1, by omega, by go_num, Hb1.out.trans (hbk.mono Hb1.out.size)⟩
              case measure => (simp [intOf] <;> omega)
        · have hi1 : ¬ (i : Int) < v.length := by omega
          obtain rfl : v.length = i := by omega
          have hS := HH.out.step hbr
          clear HHd2 HH hbr Hxs HxI
          obtain ⟨wa2, hwa2⟩ : ∃ W, W = wr := ⟨_, rfl⟩
          subst hwa2
          have cX0 := hS.bX.cell 0 _ rfl
          have cX1 := hS.bX.cell 1 _ rfl
          have cL0 := hS.bL.cell 0 _ rfl
          have cL1 := hS.bL.cell 1 _ rfl
          have cL2 := hS.bL.cell 2 _ rfl
          have HS := Lib.hid hS
          clear hS
          by_cases hA50 : 50 < al.length
          · have d1 : decide (50 < (al.length : Int)) = true := by rw [decide_eq_true_iff]; omega
            go_wp2_with fail
            go_ret
            exact ⟨rfl, HS.out.hB⟩
          · have d1 : decide (50 < (al.length : Int)) = false := by rw [decide_eq_false_iff_not]; omega
            by_cases hP50 : 50 < ps.length
            · have d2 : decide (50 < (ps.length : Int)) = true := by rw [decide_eq_true_iff]; omega
              go_wp2_with fail
              go_ret
              exact ⟨rfl, HS.out.hB⟩
            · have d2 : decide (50 < (ps.length : Int)) = false := by rw [decide_eq_false_iff_not]; omega
              by_cases hvl : vldR v r al ps z = 0
              · have HV0 : Hid (∀ W, Mat W p c v → Ints W q d al → Ints W s f ps → Calls Try.prog 16 #[.agg #[.slice p v.length c, .int .i64 r], .agg #[.slice q al.length d, .slice s ps.length f, .int .i64 z]] W fun e w' => e = .returned (.int .i64 0) ∧ Below W.heap.size W w') := fun W a b c => by have := HV.out W a b c; rw [hvl] at this; exact this
                have Hvl := Lib.hid hvl
                clear HV hvl
                cases hfr2 : freeB v r al ps z with
                | false =>
                  have HF0 : Hid (∀ W, Mat W p c v → Ints W q d al → Ints W s f ps → Calls Try.prog 17 #[.agg #[.slice p v.length c, .int .i64 r], .agg #[.slice q al.length d, .slice s ps.length f, .int .i64 z]] W fun e w' => e = .returned (.bool false) ∧ Below W.heap.size W w') := fun W a b c => by have := HVF.out W a b c; rw [hfr2] at this; exact this
                  clear hfr2 HVF
                  go_wp2_with fail
                  refine (HV0.out _ HS.out.mX HS.out.mA HS.out.mP).mono ?_
                  rintro e wb ⟨rfl, hb⟩
                  have hT := HS.out.step hb
                  clear cX0 cX1 cL0 cL1 cL2 hb
                  have cX0 := hT.bX.cell 0 _ rfl
                  have cX1 := hT.bX.cell 1 _ rfl
                  have cL0 := hT.bL.cell 0 _ rfl
                  have cL1 := hT.bL.cell 1 _ rfl
                  have cL2 := hT.bL.cell 2 _ rfl
                  have HT := Lib.hid hT
                  clear hT
                  go_wp2_with fail
                  refine (HF0.out _ HT.out.mX HT.out.mA HT.out.mP).mono ?_
                  rintro e wc ⟨rfl, hb⟩
                  go_wp2_with fail
                  go_ret
                  exact ⟨rfl, HT.out.hB.trans (hb.mono HT.out.hB.size)⟩
                | true =>
                  have HF0 : Hid (∀ W, Mat W p c v → Ints W q d al → Ints W s f ps → Calls Try.prog 17 #[.agg #[.slice p v.length c, .int .i64 r], .agg #[.slice q al.length d, .slice s ps.length f, .int .i64 z]] W fun e w' => e = .returned (.bool true) ∧ Below W.heap.size W w') := fun W a b c => by have := HVF.out W a b c; rw [hfr2] at this; exact this
                  have HEF := Lib.hid (freeB_ef hfr2).2
                  clear hfr2 HVF
                  have hz1 := (vld_zero.1 Hvl.out).2.2.1
                  have hz2 := (vld_zero.1 Hvl.out).2.2.2.1
                  obtain ⟨zn, rfl⟩ : ∃ x : Nat, z = x := ⟨z.toNat, by omega⟩
                  have Hgl := Lib.hid (good_of Hvl.out)
                  have Hl0 := Lib.hid (good_of Hvl.out).alen
                  go_wp2_with fail
                  refine (HV0.out _ HS.out.mX HS.out.mA HS.out.mP).mono ?_
                  rintro e wb ⟨rfl, hb⟩
                  have hT := HS.out.step hb
                  clear cX0 cX1 cL0 cL1 cL2 hb
                  have cX0 := hT.bX.cell 0 _ rfl
                  have cX1 := hT.bX.cell 1 _ rfl
                  have cL0 := hT.bL.cell 0 _ rfl
                  have cL1 := hT.bL.cell 1 _ rfl
                  have cL2 := hT.bL.cell 2 _ rfl
                  have HT := Lib.hid hT
                  clear hT HS
                  go_wp2_with fail
                  refine (HF0.out _ HT.out.mX HT.out.mA HT.out.mP).mono ?_
                  rintro e wc ⟨rfl, hb⟩
                  have hS := HT.out.step hb
                  clear cX0 cX1 cL0 cL1 cL2 hb HT
                  have HS := Lib.hid hS
                  have cX0 := hS.bX.cell 0 _ rfl
                  clear hS
                  go_wp2_with fail
                  clear cX0
                  go_loopw [15] (fun t wr => ∃ i : Nat, i ≤ v.length ∧ t = .int .i64 i ∧ Below wc.heap.size wc wr) (fun t _ => v.length - (intOf t).toNat)
                  case atStart => exact ⟨0, Nat.zero_le _, rfl, Below.refl _ _⟩
                  case round =>
                    obtain ⟨i, hi, rfl, hbr⟩ := hrel
                    have hT := HS.out.step hbr
                    have cX0 := hT.bX.cell 0 _ rfl
                    have cX1 := hT.bX.cell 1 _ rfl
                    by_cases hil : i < v.length
                    · have hi1 : (i : Int) < v.length := by omega
                      have h0n : (0 : Nat) < v.length := by omega
                      obtain ⟨⟨sl1, sl2⟩, sh1, sh2⟩ := HSb.out i hil
                      obtain ⟨st1, st2⟩ := stake_of Hvl.out HEF.out hil
                      rw [← gn_best Hvl.out HEF.out hil] at st1 st2
                      have hsk := Hsk.out wr i hil hT.mX
                      obtain ⟨ba, oa, rfl, _, hca⟩ := hT.mA.get (j := i) (by rw [Hl0.out]; exact hil)
                      obtain ⟨a1, a2⟩ := Hgl.out.itm i hil
                      obtain ⟨x, hxx⟩ : ∃ x : Nat, iget al i = (x : Int) := ⟨(iget al i).toNat, by omega⟩
                      have e1 : itm al i = x := by simp [itm, hxx]
                      rw [hxx] at hca
                      rw [e1] at a2 st1 st2
                      have g1 := gain_bd Hgl.out hil a2
                      have g7 : -700000000 ≤ gainI v ps zn i x ∧ gainI v ps zn i x ≤ 700000000 := by
                        have h1 := wLo_bd Hvl.out
                        have h2 := (loG_spec Hvl.out).2.1 i hil
                        have h3 := (hiG_spec Hvl.out).2.1 i hil
                        have h4 := (loG_spec Hvl.out).1
                        have h5 := (hiG_spec Hvl.out).1
                        rw [e1] at h2 h3
                        omega
                      have HG1 := Lib.hid (fun W (hb : Below wr.heap.size wr W) => refGain_ok p (some ⟨ba, oa, none⟩) s c d f v r al ps zn i x W (hT.mX.below hb (Nat.le_refl _)) (hT.mP.below hb (Nat.le_refl _)) Hgl.out hil a2)
                      have hC1 := fun W => checkRat_any (stLo v r i) v.length W ⟨sl1, sl2⟩ ⟨h0n, by omega⟩
                      have hC2 := fun W => checkRat_any (stHi v r i) v.length W ⟨sh1, sh2⟩ ⟨h0n, by omega⟩
                      have hL1 := fun W => lessRat_any (gainI v ps zn i x) (stLo v r i) zn v.length W g7 ⟨sl1, sl2⟩ ⟨by omega, by omega⟩ ⟨h0n, by omega⟩
                      have hL2 := fun W => lessRat_any (stHi v r i) (gainI v ps zn i x) v.length zn W ⟨sh1, sh2⟩ g7 ⟨h0n, by omega⟩ ⟨by omega, by omega⟩
                      have hM := fun W => refMake_any (gainI v ps zn i x) zn W (by omega) (by omega) (by omega) (by omega)
                      rw [show decide (gainI v ps zn i x * (v.length : Int) < stLo v r i * zn) = false by rw [decide_eq_false_iff_not]; unfold stLo; omega] at hL1
                      rw [show decide (stHi v r i * (zn : Int) < gainI v ps zn i x * v.length) = false by rw [decide_eq_false_iff_not]; unfold stHi; omega] at hL2
                      unfold ratV at hM
                      generalize stLo v r i = y1 at *
                      generalize stHi v r i = y2 at *
                      generalize gainI v ps zn i x = G1 at *
                      obtain ⟨A1, hA1⟩ : ∃ x, rN y1 v.length = x := ⟨_, rfl⟩
                      obtain ⟨A2, hA2⟩ : ∃ x, rD y1 v.length = x := ⟨_, rfl⟩
                      obtain ⟨B1, hB1⟩ : ∃ x, rN y2 v.length = x := ⟨_, rfl⟩
                      obtain ⟨B2, hB2⟩ : ∃ x, rD y2 v.length = x := ⟨_, rfl⟩
                      obtain ⟨C1, hC1'⟩ : ∃ x, rN G1 zn = x := ⟨_, rfl⟩
                      obtain ⟨C2, hC2'⟩ : ∃ x, rD G1 zn = x := ⟨_, rfl⟩
                      rw [hA1, hA2] at hsk hC1 hL1
                      rw [hB1, hB2] at hsk hC2 hL2
                      rw [hC1', hC2'] at hL1 hL2 hM
                      have Hsk1 := Lib.hid hsk
                      have HC1 := Lib.hid hC1
                      have HC2 := Lib.hid hC2
                      have HL1 := Lib.hid hL1
                      have HL2 := Lib.hid hL2
                      have HM := Lib.hid hM
                      have cL0 := hT.bL.cell 0 _ rfl
                      have cL1 := hT.bL.cell 1 _ rfl
                      have cL2 := hT.bL.cell 2 _ rfl
                      have lx := hT.bX.lt
                      have ll := hT.bL.lt
                      obtain ⟨wo, rfl⟩ : ∃ W, W = wr := ⟨_, rfl⟩
                      have Hmk : Hid (∀ W, Below wo.heap.size wo W → W.cell? ⟨w.heap.size, 0, none⟩ = some (.slice p v.length c) ∧ W.cell? ⟨w.heap.size, 1, none⟩ = some (.int .i64 r) ∧ W.cell? ⟨w.heap.size + 1, 0, none⟩ = some (.slice (some ⟨ba, oa, none⟩) al.length d) ∧ W.cell? ⟨w.heap.size + 1, 1, none⟩ = some (.slice s ps.length f) ∧ W.cell? ⟨w.heap.size + 1, 2, none⟩ = some (.int .i64 (zn : Int)) ∧ W.cell? ⟨ba, oa + i, none⟩ = some (.int .i64 (x : Int)) ∧ True) := fun W hG =>
                        ⟨(hG.cell (p := ⟨w.heap.size, 0, none⟩) lx).trans cX0, (hG.cell (p := ⟨w.heap.size, 1, none⟩) lx).trans cX1, (hG.cell (p := ⟨w.heap.size + 1, 0, none⟩) ll).trans cL0, (hG.cell (p := ⟨w.heap.size + 1, 1, none⟩) ll).trans cL1, (hG.cell (p := ⟨w.heap.size + 1, 2, none⟩) ll).trans cL2, (hG.cell (World.block_lt_of_cell? _ _ hca)).trans hca, trivial⟩
                      have hlA : (i : Int) < al.length := by rw [Hl0.out]; omega
                      clear hT st1 st2 hsk hC1 hC2 hL1 hL2 hM hA1 hA2 hB1 hB2 hC1' hC2' cL0 cL1 cL2 lx ll hca hxx e1
                      go_wp2_with fail
                      refine Hsk1.out.mono ?_
                      rintro e wd ⟨rfl, hb⟩
                      obtain ⟨Wea, hWea⟩ : ∃ W, wd.alloc (.cells #[.int .i64 A1, .int .i64 A2] 32) = W := ⟨_, rfl⟩
                      obtain ⟨We, hWe⟩ : ∃ W, Wea.alloc (.cells #[.int .i64 B1, .int .i64 B2] 32) = W := ⟨_, rfl⟩
                      have hb1 := below_alloc hWea
                      have hb2 := below_alloc hWe
                      have hs1 : Wea.heap.size = wd.heap.size + 1 := by rw [← hWea]; simp
                      have bA : BoxV We wd.heap.size [.int .i64 A1, .int .i64 A2] := (BoxV.new rfl hWea).below hb2
                      have bB : BoxV We (wd.heap.size + 1) [.int .i64 B1, .int .i64 B2] := BoxV.new hs1 hWe
                      have hbW : Below wo.heap.size wo We := hb.trans ((hb1.trans (hb2.mono hb1.size)).mono hb.size)
                      have HWea := Lib.hid hWea
                      have HWe := Lib.hid hWe
                      clear hb hb1 hb2 hs1 hWea hWe cX0 cX1
                      go_upto_region 31 with (fail)
                      rw [HWea.out, HWe.out]
                      refine wp_region_inv (by kernel_rfl) (by decide +kernel) (by decide +kernel) _ _ (ManyJ We [(15, 16)] (fun kk => match kk with | 0 => (.agg #[.slice p v.length c, .int .i64 r]) | 1 => (.agg #[.slice (some ⟨ba, oa, none⟩) al.length d, .slice s ps.length f, .int .i64 (zn : Int)]) | 2 => (.int .i64 (i : Int)) | 3 => (.pointer (some ⟨w.heap.size + 1, 0, none⟩)) | 4 => (.slice (some ⟨ba, oa, none⟩) al.length d) | 5 => (.int .i64 (i : Int)) | 6 => (.pointer (some ⟨ba, oa + i, none⟩)) | 7 => (.int .i64 (x : Int)) | 8 => (.int .i64 G1) | 9 => (.pointer (some ⟨w.heap.size + 1, 2, none⟩)) | 10 => (.int .i64 (zn : Int)) | 11 => (.tuple #[(.agg #[.int .i64 C1, .int .i64 C2]), .int .i64 0]) | 12 => (.tuple #[(.agg #[.int .i64 C1, .int .i64 C2]), .int .i64 0]) | 13 => (.agg #[.int .i64 C1, .int .i64 C2]) | 14 => (.int .i64 0) | 17 => (.int .i64 0) | _ => undef) (fun kk => match kk with | 15 => (.int .i64 C1) | _ => undef) (fun kk => match kk with | 15 => (.int .i64 C2) | _ => undef)) ?_ ?_ ?_
                      · exact fun us => ManyJ.start us
                      · intro us D W i o A hA hi hJ hnD hon K hK
                        have hlt : i < 18 := (Array.getElem?_eq_some_iff.1 hi).1
                        rcases rh18 hlt with rfl | rfl | rfl | rfl | rfl | rfl | rfl | rfl | rfl | rfl | rfl | rfl | rfl | rfl | rfl | rfl | rfl | rfl
                        · have hi' := Option.some.inj hi
                          subst hi'
                          refine wp_val (v := (.agg #[.slice p v.length c, .int .i64 r])) (w' := W) ?_ (hK _ _ (hJ.pure (i := 0) (by decide) (Below.refl _ _)))
                          · skip
                            have e2 : A.tmps[2]?.getD undef = (.pointer (some ⟨w.heap.size, 0, none⟩)) := by rw [hA]; kernel_rfl
                            obtain ⟨cc0, cc1, cc2, cc3, cc4, cc5, _⟩ := Hmk.out W (hbW.trans (hJ.bel.mono hbW.size))
                            clear hA hK hon hJ
                            go_simp
                        · have hi' := Option.some.inj hi
                          subst hi'
                          refine wp_val (v := (.agg #[.slice (some ⟨ba, oa, none⟩) al.length d, .slice s ps.length f, .int .i64 (zn : Int)])) (w' := W) ?_ (hK _ _ (hJ.pure (i := 1) (by decide) (Below.refl _ _)))
                          · skip
                            have e3 : A.tmps[3]?.getD undef = (.pointer (some ⟨w.heap.size + 1, 0, none⟩)) := by rw [hA]; kernel_rfl
                            obtain ⟨cc0, cc1, cc2, cc3, cc4, cc5, _⟩ := Hmk.out W (hbW.trans (hJ.bel.mono hbW.size))
                            clear hA hK hon hJ
                            go_simp
                        · have hi' := Option.some.inj hi
                          subst hi'
                          refine wp_val (v := (.int .i64 (i : Int))) (w' := W) ?_ (hK _ _ (hJ.pure (i := 2) (by decide) (Below.refl _ _)))
                          · skip
                            have e15 : A.tmps[15]?.getD undef = (.int .i64 (i : Int)) := by rw [hA]; kernel_rfl
                            clear hA hK hon hJ
                            go_simp
                        · have hi' := Option.some.inj hi
                          subst hi'
                          refine wp_val (v := (.pointer (some ⟨w.heap.size + 1, 0, none⟩))) (w' := W) ?_ (hK _ _ (hJ.pure (i := 3) (by decide) (Below.refl _ _)))
                          · skip
                            have e3 : A.tmps[3]?.getD undef = (.pointer (some ⟨w.heap.size + 1, 0, none⟩)) := by rw [hA]; kernel_rfl
                            clear hA hK hon hJ
                            go_simp
                        · have hi' := Option.some.inj hi
                          subst hi'
                          refine wp_val (v := (.slice (some ⟨ba, oa, none⟩) al.length d)) (w' := W) ?_ (hK _ _ (hJ.pure (i := 4) (by decide) (Below.refl _ _)))
                          · skip
                            have e155 : A.tmps[155]?.getD undef = (.pointer (some ⟨w.heap.size + 1, 0, none⟩)) := (by rw [hA]; kernel_rfl : A.tmps[155]?.getD undef = us 3).trans (hJ.val 3 (by decide) (hon 3 (by decide +kernel)))
                            obtain ⟨cc0, cc1, cc2, cc3, cc4, cc5, _⟩ := Hmk.out W (hbW.trans (hJ.bel.mono hbW.size))
                            clear hA hK hon hJ
                            go_simp
                        · have hi' := Option.some.inj hi
                          subst hi'
                          refine wp_val (v := (.int .i64 (i : Int))) (w' := W) ?_ (hK _ _ (hJ.pure (i := 5) (by decide) (Below.refl _ _)))
                          · skip
                            have e15 : A.tmps[15]?.getD undef = (.int .i64 (i : Int)) := by rw [hA]; kernel_rfl
                            clear hA hK hon hJ
                            go_simp
                        · have hi' := Option.some.inj hi
                          subst hi'
                          refine wp_val (v := (.pointer (some ⟨ba, oa + i, none⟩))) (w' := W) ?_ (hK _ _ (hJ.pure (i := 6) (by decide) (Below.refl _ _)))
                          · skip
                            have e156 : A.tmps[156]?.getD undef = (.slice (some ⟨ba, oa, none⟩) al.length d) := (by rw [hA]; kernel_rfl : A.tmps[156]?.getD undef = us 4).trans (hJ.val 4 (by decide) (hon 4 (by decide +kernel)))
                            have e157 : A.tmps[157]?.getD undef = (.int .i64 (i : Int)) := (by rw [hA]; kernel_rfl : A.tmps[157]?.getD undef = us 5).trans (hJ.val 5 (by decide) (hon 5 (by decide +kernel)))
                            clear hA hK hon hJ
                            go_simp
                        · have hi' := Option.some.inj hi
                          subst hi'
                          refine wp_val (v := (.int .i64 (x : Int))) (w' := W) ?_ (hK _ _ (hJ.pure (i := 7) (by decide) (Below.refl _ _)))
                          · skip
                            have e158 : A.tmps[158]?.getD undef = (.pointer (some ⟨ba, oa + i, none⟩)) := (by rw [hA]; kernel_rfl : A.tmps[158]?.getD undef = us 6).trans (hJ.val 6 (by decide) (hon 6 (by decide +kernel)))
                            obtain ⟨cc0, cc1, cc2, cc3, cc4, cc5, _⟩ := Hmk.out W (hbW.trans (hJ.bel.mono hbW.size))
                            clear hA hK hon hJ
                            go_simp
                        · have hi' := Option.some.inj hi
                          subst hi'
                          refine wp_enter (f := 19) (args := #[(.agg #[.slice p v.length c, .int .i64 r]), (.agg #[.slice (some ⟨ba, oa, none⟩) al.length d, .slice s ps.length f, .int .i64 (zn : Int)]), (.int .i64 (i : Int)), .int .i64 (x : Int)]) (w' := W) ?_ ((HG1.out W (hbW.trans (hJ.bel.mono hbW.size))).mono ?_)
                          · skip
                            have e152 : A.tmps[152]?.getD undef = (.agg #[.slice p v.length c, .int .i64 r]) := (by rw [hA]; kernel_rfl : A.tmps[152]?.getD undef = us 0).trans (hJ.val 0 (by decide) (hon 0 (by decide +kernel)))
                            have e153 : A.tmps[153]?.getD undef = (.agg #[.slice (some ⟨ba, oa, none⟩) al.length d, .slice s ps.length f, .int .i64 (zn : Int)]) := (by rw [hA]; kernel_rfl : A.tmps[153]?.getD undef = us 1).trans (hJ.val 1 (by decide) (hon 1 (by decide +kernel)))
                            have e154 : A.tmps[154]?.getD undef = (.int .i64 (i : Int)) := (by rw [hA]; kernel_rfl : A.tmps[154]?.getD undef = us 2).trans (hJ.val 2 (by decide) (hon 2 (by decide +kernel)))
                            have e159 : A.tmps[159]?.getD undef = (.int .i64 (x : Int)) := (by rw [hA]; kernel_rfl : A.tmps[159]?.getD undef = us 7).trans (hJ.val 7 (by decide) (hon 7 (by decide +kernel)))
                            clear hA hK hon hJ
                            go_simp
                          · rintro r' wC ⟨rfl, hbC⟩
                            exact ⟨_, rfl, hK _ _ (hJ.pure (i := 8) (by decide) hbC)⟩
                        · have hi' := Option.some.inj hi
                          subst hi'
                          refine wp_val (v := (.pointer (some ⟨w.heap.size + 1, 2, none⟩))) (w' := W) ?_ (hK _ _ (hJ.pure (i := 9) (by decide) (Below.refl _ _)))
                          · skip
                            have e3 : A.tmps[3]?.getD undef = (.pointer (some ⟨w.heap.size + 1, 0, none⟩)) := by rw [hA]; kernel_rfl
                            clear hA hK hon hJ
                            go_simp
                        · have hi' := Option.some.inj hi
                          subst hi'
                          refine wp_val (v := (.int .i64 (zn : Int))) (w' := W) ?_ (hK _ _ (hJ.pure (i := 10) (by decide) (Below.refl _ _)))
                          · skip
                            have e161 : A.tmps[161]?.getD undef = (.pointer (some ⟨w.heap.size + 1, 2, none⟩)) := (by rw [hA]; kernel_rfl : A.tmps[161]?.getD undef = us 9).trans (hJ.val 9 (by decide) (hon 9 (by decide +kernel)))
                            obtain ⟨cc0, cc1, cc2, cc3, cc4, cc5, _⟩ := Hmk.out W (hbW.trans (hJ.bel.mono hbW.size))
                            clear hA hK hon hJ
                            go_simp
                        · have hi' := Option.some.inj hi
                          subst hi'
                          refine wp_enter (f := 20) (args := #[.int .i64 G1, .int .i64 (zn : Int)]) (w' := W) ?_ ((HM.out W).mono ?_)
                          · skip
                            have e160 : A.tmps[160]?.getD undef = (.int .i64 G1) := (by rw [hA]; kernel_rfl : A.tmps[160]?.getD undef = us 8).trans (hJ.val 8 (by decide) (hon 8 (by decide +kernel)))
                            have e162 : A.tmps[162]?.getD undef = (.int .i64 (zn : Int)) := (by rw [hA]; kernel_rfl : A.tmps[162]?.getD undef = us 10).trans (hJ.val 10 (by decide) (hon 10 (by decide +kernel)))
                            clear hA hK hon hJ
                            go_simp
                          · rintro r' wC ⟨rfl, hbC⟩
                            exact ⟨_, rfl, hK _ _ (hJ.pure (i := 11) (by decide) hbC)⟩
                        · have hi' := Option.some.inj hi
                          subst hi'
                          refine wp_val (v := (.tuple #[(.agg #[.int .i64 C1, .int .i64 C2]), .int .i64 0])) (w' := W) ?_ (hK _ _ (hJ.pure (i := 12) (by decide) (Below.refl _ _)))
                          · skip
                            have e163 : A.tmps[163]?.getD undef = (.tuple #[(.agg #[.int .i64 C1, .int .i64 C2]), .int .i64 0]) := (by rw [hA]; kernel_rfl : A.tmps[163]?.getD undef = us 11).trans (hJ.val 11 (by decide) (hon 11 (by decide +kernel)))
                            clear hA hK hon hJ
                            go_simp
                        · have hi' := Option.some.inj hi
                          subst hi'
                          refine wp_val (v := (.agg #[.int .i64 C1, .int .i64 C2])) (w' := W) ?_ (hK _ _ (hJ.pure (i := 13) (by decide) (Below.refl _ _)))
                          · skip
                            have e151 : A.tmps[151]?.getD undef = (.tuple #[(.agg #[.int .i64 C1, .int .i64 C2]), .int .i64 0]) := (by rw [hA]; kernel_rfl : A.tmps[151]?.getD undef = us 12).trans (hJ.val 12 (by decide) (hon 12 (by decide +kernel)))
                            clear hA hK hon hJ
                            go_simp
                        · have hi' := Option.some.inj hi
                          subst hi'
                          refine wp_val (v := (.int .i64 0)) (w' := W) ?_ (hK _ _ (hJ.pure (i := 14) (by decide) (Below.refl _ _)))
                          · skip
                            have e151 : A.tmps[151]?.getD undef = (.tuple #[(.agg #[.int .i64 C1, .int .i64 C2]), .int .i64 0]) := (by rw [hA]; kernel_rfl : A.tmps[151]?.getD undef = us 12).trans (hJ.val 12 (by decide) (hon 12 (by decide +kernel)))
                            clear hA hK hon hJ
                            go_simp
                        · have hi' := Option.some.inj hi
                          subst hi'
                          refine wp_val (v := .pointer (some ⟨W.heap.size, 0, none⟩)) (w' := W.alloc (.cells #[.int .i64 0, .int .i64 0] 32)) ?_ (hK _ _ (hJ.alloc (ai := 15) (si := 16) (by decide) (by decide) hnD _ _ _))
                          · skip
                            clear hA hK hon hJ
                            go_simp
                        · have hi' := Option.some.inj hi
                          subst hi'
                          obtain ⟨g, x', y', hg, _, hlt, ht, _⟩ := hJ.blk (15, 16) (by decide) (hon 15 (by decide +kernel))
                          refine wp_skip (w' := (W.setCell ⟨g, 0, none⟩ (.int .i64 C1)).setCell ⟨g, 1, none⟩ (.int .i64 C2)) ?_ (hK _ _ (hJ.store (ai := 15) (si := 16) (by decide) (by decide) (hon 15 (by decide +kernel)) hg undef))
                          · skip
                            have e19 : A.tmps[19]?.getD undef = .pointer (some ⟨g, 0, none⟩) := (by rw [hA]; kernel_rfl : A.tmps[19]?.getD undef = us 15).trans hg
                            have e164 : A.tmps[164]?.getD undef = (.agg #[.int .i64 C1, .int .i64 C2]) := (by rw [hA]; kernel_rfl : A.tmps[164]?.getD undef = us 13).trans (hJ.val 13 (by decide) (hon 13 (by decide +kernel)))
                            have c0 := ht.c0
                            have c1 := ht.c1
                            have f0 := ht.f0
                            have f1 := ht.f1
                            clear ht
                            clear hA hK hon hJ
                            go_simp
                        · have hi' := Option.some.inj hi
                          subst hi'
                          refine wp_val (v := (.int .i64 0)) (w' := W) ?_ (hK _ _ (hJ.pure (i := 17) (by decide) (Below.refl _ _)))
                          · skip
                            have e165 : A.tmps[165]?.getD undef = (.int .i64 0) := (by rw [hA]; kernel_rfl : A.tmps[165]?.getD undef = us 14).trans (hJ.val 14 (by decide) (hon 14 (by decide +kernel)))
                            clear hA hK hon hJ
                            go_simp
                      · intro us D wf hJ hall
                        obtain ⟨g1, u19, g1l, g1h, t19⟩ := hJ.get (ai := 15) (si := 16) (by decide) (hall 15 (by decide)) (hall 16 (by decide))
                        have hb := hJ.bel
                        clear hJ hall Hmk HG1 HM Hsk1
                        have bA := bA.below hb
                        have bB := bB.below hb
                        have bC := boxOf2 g1h t19
                        have hbW := hbW.trans (hb.mono hbW.size)
                        clear hb t19 g1l g1h
                        simp only [actL, slotL, putL, List.setIfInBounds_toArray, List.set_cons_zero, List.set_cons_succ, Nat.zero_add, Nat.reduceAdd, u19]
                        clear u19
                        have kA0 := bA.cell 0 _ rfl
                        have kA1 := bA.cell 1 _ rfl
                        have kB0 := bB.cell 0 _ rfl
                        have kB1 := bB.cell 1 _ rfl
                        have kC0 := bC.cell 0 _ rfl
                        have kC1 := bC.cell 1 _ rfl
                        go_wp2_with fail
                        refine (HC1.out _).mono ?_
                        rintro e wg ⟨rfl, hb⟩
                        clear kA0 kA1 kB0 kB1 kC0 kC1
                        replace bA := bA.below hb
                        replace bB := bB.below hb
                        replace bC := bC.below hb
                        replace hbW := hbW.trans (hb.mono hbW.size)
                        clear hb
                        have kA0 := bA.cell 0 _ rfl
                        have kA1 := bA.cell 1 _ rfl
                        have kB0 := bB.cell 0 _ rfl
                        have kB1 := bB.cell 1 _ rfl
                        have kC0 := bC.cell 0 _ rfl
                        have kC1 := bC.cell 1 _ rfl
                        go_wp2_with fail
                        refine (HC2.out _).mono ?_
                        rintro e wh ⟨rfl, hb⟩
                        clear kA0 kA1 kB0 kB1 kC0 kC1
                        replace bA := bA.below hb
                        replace bB := bB.below hb
                        replace bC := bC.below hb
                        replace hbW := hbW.trans (hb.mono hbW.size)
                        clear hb
                        have kA0 := bA.cell 0 _ rfl
                        have kA1 := bA.cell 1 _ rfl
                        have kB0 := bB.cell 0 _ rfl
                        have kB1 := bB.cell 1 _ rfl
                        have kC0 := bC.cell 0 _ rfl
                        have kC1 := bC.cell 1 _ rfl
                        go_wp2_with fail
                        refine (HL1.out _).mono ?_
                        rintro e wi ⟨rfl, hb⟩
                        clear kA0 kA1 kB0 kB1 kC0 kC1
                        replace bA := bA.below hb
                        replace bB := bB.below hb
                        replace bC := bC.below hb
                        replace hbW := hbW.trans (hb.mono hbW.size)
                        clear hb
                        have kA0 := bA.cell 0 _ rfl
                        have kA1 := bA.cell 1 _ rfl
                        have kB0 := bB.cell 0 _ rfl
                        have kB1 := bB.cell 1 _ rfl
                        have kC0 := bC.cell 0 _ rfl
                        have kC1 := bC.cell 1 _ rfl
                        go_wp2_with fail
                        refine (HL2.out _).mono ?_
                        rintro e wj ⟨rfl, hb⟩
                        clear kA0 kA1 kB0 kB1 kC0 kC1
                        replace bA := bA.below hb
                        replace bB := bB.below hb
                        replace bC := bC.below hb
                        replace hbW := hbW.trans (hb.mono hbW.size)
                        clear hb
                        go_wp2_with fail
                        go_roundw
                        case rel => exact ⟨i + 1, by omega, by go_num, hbr.trans (hbW.mono hbr.size)⟩
                        case measure => (simp [intOf] <;> omega)
                    · have hi1 : ¬ (i : Int) < v.length := by omega
                      go_wp2_with fail
                      go_ret
                      exact ⟨rfl, hT.hB⟩
              · obtain ⟨E, eE⟩ : ∃ x, vldR v r al ps z = x := ⟨_, rfl⟩
                rw [eE] at hvl
                have HV0 : Hid (∀ W, Mat W p c v → Ints W q d al → Ints W s f ps → Calls Try.prog 16 #[.agg #[.slice p v.length c, .int .i64 r], .agg #[.slice q al.length d, .slice s ps.length f, .int .i64 z]] W fun e w' => e = .returned (.int .i64 E) ∧ Below W.heap.size W w') := fun W a b c => by have := HV.out W a b c; rw [eE] at this; exact this
                have hd : (E != 0) = true := by rw [bne_iff_ne]; exact hvl
                clear hvl eE HV
                go_wp2_with fail
                refine (HV0.out _ HS.out.mX HS.out.mA HS.out.mP).mono ?_
                rintro e wb ⟨rfl, hb⟩
                go_wp2_with fail
                go_ret
                exact ⟨rfl, HS.out.hB.trans (hb.mono HS.out.hB.size)⟩

theorem rentHeld_walk (p : Option Addr) (c : Nat) (v : List (List Int)) (r : Int) (q : Option Addr) (d : Nat) (al : List Int) (s : Option Addr) (f : Nat) (ps : List Int) (z : Int) (w : World) (hx : Mat w p c v) (hr64 : in64 r) (hy : Ints w q d al) (hz : Ints w s f ps) (hz64 : in64 z) : Calls Try.prog 6 #[.agg #[.slice p v.length c, .int .i64 r], .agg #[.slice q al.length d, .slice s ps.length f, .int .i64 z]] w fun e w' => e = .returned (.bool true) ∧ Below w.heap.size w w' := by
  by_cases hc : chkR v r = 0
  · exact rentHeld_main p c v r q d al s f ps z w hx hr64 hy hz hz64 hc
  · exact rentHeld_early p c v r q d al s f ps z w hx hr64 hy hz hz64 hc
end Go.Proofs.Ytllcbcanohdepaa
