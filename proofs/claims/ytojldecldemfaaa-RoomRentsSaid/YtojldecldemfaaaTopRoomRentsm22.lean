/- The walk of the law RoomRents: for every flat, other rent and room it returns true, and changes nothing that was there.  (Printed by wip/genrents.py.) -/
import Derived.Test.YtojldecldemfaaaTopRoomRentsm15
import Derived.Test.YtojldecldemfaaaTopRoomRentsm10
import Derived.Test.YtojldecldemfaaaTopRoomRentsm16
import Derived.Test.YtojldecldemfaaaTopRoomRentsm20
import Derived.Test.YtojldecldemfaaaTopRoomRentsm21
import Derived.Deep.RegionHeld3
import Derived.Deep.DeepCutAuto
/- The walk of the law RoomRents: for every flat, other rent and room it returns true, and changes nothing that was there.  (Printed by wip/genrents.py.) -/
namespace Go.Proofs.Ytojldecldemfaaa
set_option linter.unusedVariables false
set_option linter.unusedSimpArgs false
open Go.ChangeShapes Go.WideShapes Go.ChangeAt Go.RowKit Go.Deep

theorem lt14r {i : Nat} (h : i < 14) : i = 0 ∨ i = 1 ∨ i = 2 ∨ i = 3 ∨ i = 4 ∨ i = 5 ∨ i = 6 ∨ i = 7 ∨ i = 8 ∨ i = 9 ∨ i = 10 ∨ i = 11 ∨ i = 12 ∨ i = 13 := by omega
theorem boxV_two {w : World} {S : Nat} {x y : Value} (hS : S < w.heap.size) (h0 : w.cell? ⟨S, 0, none⟩ = some x) (h1 : w.cell? ⟨S, 1, none⟩ = some y) : BoxV w S [x, y] := ⟨hS, fun k v hk => by
  match k, hk with
  | 0, hk => simp at hk; subst hk; exact h0
  | 1, hk => simp at hk; subst hk; exact h1⟩

set_option maxHeartbeats 16000000 in
set_option maxRecDepth 100000 in
theorem roomRents_early1 (p : Option Addr) (c : Nat) (v : List (List Int)) (r s jj : Int) (w : World) (hx : Mat w p c v) (hr64 : in64 r) (hs64 : in64 s) (hj64 : in64 jj) (hc1 : chkR v r ≠ 0) :
    Calls Try.prog 8 #[.agg #[.slice p v.length c, .int .i64 r], .int .i64 s, .int .i64 jj] w fun e w' => e = .returned (.bool true) ∧ Below w.heap.size w w' := by
  obtain ⟨W0, hW0⟩ : ∃ W, w.alloc (.cells #[.slice p v.length c, .int .i64 r] 24) = W := ⟨_, rfl⟩
  have hB := below_alloc hW0
  have bX : BoxV W0 w.heap.size [.slice p v.length c, .int .i64 r] := BoxV.new rfl hW0
  have mX := hx.below hB (Nat.le_refl _)
  have hlx := hx.length_le
  have HW0 := Lib.hid hW0
  clear hW0 hx
  have hf1 : fit14 v r = false := by unfold fit14; rw [decide_eq_false_iff_not]; exact hc1
  have hF1 := fun W (h : Mat W p c v) => fit14_any p c v r W h
  rw [hf1] at hF1
  have HF1 := Lib.hid hF1
  clear hF1 hf1
  clear hc1
  go_enter Try.func8, Try.ntmps8
  go_wp2_with fail
  rw [HW0.out]
  refine (alive14_any _).mono ?_
  rintro e w1 ⟨rfl, hb⟩
  replace mX := mX.below hb (Nat.le_refl _)
  replace bX := bX.below hb
  replace hB := hB.trans (hb.mono hB.size)
  clear hb
  obtain ⟨W2, hW2⟩ : ∃ W, w1.alloc (.cells #[.slice p v.length c, .int .i64 s] 24) = W := ⟨_, rfl⟩
  have hb : Below w1.heap.size w1 W2 := below_alloc hW2
  have bS : BoxV W2 w1.heap.size [.slice p v.length c, .int .i64 s] := BoxV.new rfl hW2
  have HW2 := Lib.hid hW2
  clear hW2
  have kbX_0 := bX.cell 0 _ rfl
  have kbX_1 := bX.cell 1 _ rfl
  have lbX := bX.lt
  go_upto_region 3 with (fail)
  rw [HW2.out]
  clear kbX_0 kbX_1 lbX
  replace mX := mX.below hb (Nat.le_refl _)
  replace bX := bX.below hb
  replace hB := hB.trans (hb.mono hB.size)
  clear hb
  have kbX_0 := bX.cell 0 _ rfl
  have kbX_1 := bX.cell 1 _ rfl
  have lbX := bX.lt
  have kbS_0 := bS.cell 0 _ rfl
  have kbS_1 := bS.cell 1 _ rfl
  have lbS := bS.lt
  go_wp2_with fail
  refine (HF1.out _ mX).mono ?_
  rintro e w2 ⟨rfl, hb⟩
  clear kbX_0 kbX_1 lbX kbS_0 kbS_1 lbS
  replace mX := mX.below hb (Nat.le_refl _)
  replace bX := bX.below hb
  replace bS := bS.below hb
  replace hB := hB.trans (hb.mono hB.size)
  clear hb
  have kbX_0 := bX.cell 0 _ rfl
  have kbX_1 := bX.cell 1 _ rfl
  have lbX := bX.lt
  have kbS_0 := bS.cell 0 _ rfl
  have kbS_1 := bS.cell 1 _ rfl
  have lbS := bS.lt
  go_wp2_with fail
  go_ret
  exact ⟨rfl, hB⟩
set_option maxHeartbeats 16000000 in
set_option maxRecDepth 100000 in
theorem roomRents_early2 (p : Option Addr) (c : Nat) (v : List (List Int)) (r s jj : Int) (w : World) (hx : Mat w p c v) (hr64 : in64 r) (hs64 : in64 s) (hj64 : in64 jj) (hc1 : chkR v r = 0) (hc2 : chkR v s ≠ 0) :
    Calls Try.prog 8 #[.agg #[.slice p v.length c, .int .i64 r], .int .i64 s, .int .i64 jj] w fun e w' => e = .returned (.bool true) ∧ Below w.heap.size w w' := by
  obtain ⟨W0, hW0⟩ : ∃ W, w.alloc (.cells #[.slice p v.length c, .int .i64 r] 24) = W := ⟨_, rfl⟩
  have hB := below_alloc hW0
  have bX : BoxV W0 w.heap.size [.slice p v.length c, .int .i64 r] := BoxV.new rfl hW0
  have mX := hx.below hB (Nat.le_refl _)
  have hlx := hx.length_le
  have HW0 := Lib.hid hW0
  clear hW0 hx
  have hf1 : fit14 v r = true := by unfold fit14; rw [decide_eq_true_iff]; exact hc1
  have hF1 := fun W (h : Mat W p c v) => fit14_any p c v r W h
  rw [hf1] at hF1
  have HF1 := Lib.hid hF1
  clear hF1 hf1
  have hf2 : fit14 v s = false := by unfold fit14; rw [decide_eq_false_iff_not]; exact hc2
  have hF2 := fun W (h : Mat W p c v) => fit14_any p c v s W h
  rw [hf2] at hF2
  have HF2 := Lib.hid hF2
  clear hF2 hf2
  clear hc1 hc2
  go_enter Try.func8, Try.ntmps8
  go_wp2_with fail
  rw [HW0.out]
  refine (alive14_any _).mono ?_
  rintro e w1 ⟨rfl, hb⟩
  replace mX := mX.below hb (Nat.le_refl _)
  replace bX := bX.below hb
  replace hB := hB.trans (hb.mono hB.size)
  clear hb
  obtain ⟨W2, hW2⟩ : ∃ W, w1.alloc (.cells #[.slice p v.length c, .int .i64 s] 24) = W := ⟨_, rfl⟩
  have hb : Below w1.heap.size w1 W2 := below_alloc hW2
  have bS : BoxV W2 w1.heap.size [.slice p v.length c, .int .i64 s] := BoxV.new rfl hW2
  have HW2 := Lib.hid hW2
  clear hW2
  have kbX_0 := bX.cell 0 _ rfl
  have kbX_1 := bX.cell 1 _ rfl
  have lbX := bX.lt
  go_upto_region 3 with (fail)
  rw [HW2.out]
  clear kbX_0 kbX_1 lbX
  replace mX := mX.below hb (Nat.le_refl _)
  replace bX := bX.below hb
  replace hB := hB.trans (hb.mono hB.size)
  clear hb
  have kbX_0 := bX.cell 0 _ rfl
  have kbX_1 := bX.cell 1 _ rfl
  have lbX := bX.lt
  have kbS_0 := bS.cell 0 _ rfl
  have kbS_1 := bS.cell 1 _ rfl
  have lbS := bS.lt
  go_wp2_with fail
  refine (HF1.out _ mX).mono ?_
  rintro e w2 ⟨rfl, hb⟩
  clear kbX_0 kbX_1 lbX kbS_0 kbS_1 lbS
  replace mX := mX.below hb (Nat.le_refl _)
  replace bX := bX.below hb
  replace bS := bS.below hb
  replace hB := hB.trans (hb.mono hB.size)
  clear hb
  have kbX_0 := bX.cell 0 _ rfl
  have kbX_1 := bX.cell 1 _ rfl
  have lbX := bX.lt
  have kbS_0 := bS.cell 0 _ rfl
  have kbS_1 := bS.cell 1 _ rfl
  have lbS := bS.lt
  go_wp2_with fail
  refine (HF2.out _ mX).mono ?_
  rintro e w3 ⟨rfl, hb⟩
  clear kbX_0 kbX_1 lbX kbS_0 kbS_1 lbS
  replace mX := mX.below hb (Nat.le_refl _)
  replace bX := bX.below hb
  replace bS := bS.below hb
  replace hB := hB.trans (hb.mono hB.size)
  clear hb
  have kbX_0 := bX.cell 0 _ rfl
  have kbX_1 := bX.cell 1 _ rfl
  have lbX := bX.lt
  have kbS_0 := bS.cell 0 _ rfl
  have kbS_1 := bS.cell 1 _ rfl
  have lbS := bS.lt
  go_wp2_with fail
  go_ret
  exact ⟨rfl, hB⟩
set_option maxHeartbeats 16000000 in
set_option maxRecDepth 100000 in
theorem roomRents_off1 (p : Option Addr) (c : Nat) (v : List (List Int)) (r s jj : Int) (w : World) (hx : Mat w p c v) (hr64 : in64 r) (hs64 : in64 s) (hj64 : in64 jj) (hc1 : chkR v r = 0) (hc2 : chkR v s = 0) (hj : jj < 0) :
    Calls Try.prog 8 #[.agg #[.slice p v.length c, .int .i64 r], .int .i64 s, .int .i64 jj] w fun e w' => e = .returned (.bool true) ∧ Below w.heap.size w w' := by
  obtain ⟨W0, hW0⟩ : ∃ W, w.alloc (.cells #[.slice p v.length c, .int .i64 r] 24) = W := ⟨_, rfl⟩
  have hB := below_alloc hW0
  have bX : BoxV W0 w.heap.size [.slice p v.length c, .int .i64 r] := BoxV.new rfl hW0
  have mX := hx.below hB (Nat.le_refl _)
  have hlx := hx.length_le
  have HW0 := Lib.hid hW0
  clear hW0 hx
  have hf1 : fit14 v r = true := by unfold fit14; rw [decide_eq_true_iff]; exact hc1
  have hF1 := fun W (h : Mat W p c v) => fit14_any p c v r W h
  rw [hf1] at hF1
  have HF1 := Lib.hid hF1
  clear hF1 hf1
  have hf2 : fit14 v s = true := by unfold fit14; rw [decide_eq_true_iff]; exact hc2
  have hF2 := fun W (h : Mat W p c v) => fit14_any p c v s W h
  rw [hf2] at hF2
  have HF2 := Lib.hid hF2
  clear hF2 hf2
  clear hc1 hc2
  obtain ⟨_, _⟩ := hj64
  have d0 : decide (jj < 0) = true := by simpa using hj
  go_enter Try.func8, Try.ntmps8
  go_wp2_with fail
  rw [HW0.out]
  refine (alive14_any _).mono ?_
  rintro e w1 ⟨rfl, hb⟩
  replace mX := mX.below hb (Nat.le_refl _)
  replace bX := bX.below hb
  replace hB := hB.trans (hb.mono hB.size)
  clear hb
  obtain ⟨W2, hW2⟩ : ∃ W, w1.alloc (.cells #[.slice p v.length c, .int .i64 s] 24) = W := ⟨_, rfl⟩
  have hb : Below w1.heap.size w1 W2 := below_alloc hW2
  have bS : BoxV W2 w1.heap.size [.slice p v.length c, .int .i64 s] := BoxV.new rfl hW2
  have HW2 := Lib.hid hW2
  clear hW2
  have kbX_0 := bX.cell 0 _ rfl
  have kbX_1 := bX.cell 1 _ rfl
  have lbX := bX.lt
  go_upto_region 3 with (fail)
  rw [HW2.out]
  clear kbX_0 kbX_1 lbX
  replace mX := mX.below hb (Nat.le_refl _)
  replace bX := bX.below hb
  replace hB := hB.trans (hb.mono hB.size)
  clear hb
  have kbX_0 := bX.cell 0 _ rfl
  have kbX_1 := bX.cell 1 _ rfl
  have lbX := bX.lt
  have kbS_0 := bS.cell 0 _ rfl
  have kbS_1 := bS.cell 1 _ rfl
  have lbS := bS.lt
  go_wp2_with fail
  refine (HF1.out _ mX).mono ?_
  rintro e w2 ⟨rfl, hb⟩
  clear kbX_0 kbX_1 lbX kbS_0 kbS_1 lbS
  replace mX := mX.below hb (Nat.le_refl _)
  replace bX := bX.below hb
  replace bS := bS.below hb
  replace hB := hB.trans (hb.mono hB.size)
  clear hb
  have kbX_0 := bX.cell 0 _ rfl
  have kbX_1 := bX.cell 1 _ rfl
  have lbX := bX.lt
  have kbS_0 := bS.cell 0 _ rfl
  have kbS_1 := bS.cell 1 _ rfl
  have lbS := bS.lt
  go_wp2_with fail
  refine (HF2.out _ mX).mono ?_
  rintro e w3 ⟨rfl, hb⟩
  clear kbX_0 kbX_1 lbX kbS_0 kbS_1 lbS
  replace mX := mX.below hb (Nat.le_refl _)
  replace bX := bX.below hb
  replace bS := bS.below hb
  replace hB := hB.trans (hb.mono hB.size)
  clear hb
  have kbX_0 := bX.cell 0 _ rfl
  have kbX_1 := bX.cell 1 _ rfl
  have lbX := bX.lt
  have kbS_0 := bS.cell 0 _ rfl
  have kbS_1 := bS.cell 1 _ rfl
  have lbS := bS.lt
  go_wp2_with fail
  go_ret
  exact ⟨rfl, hB⟩
set_option maxHeartbeats 16000000 in
set_option maxRecDepth 100000 in
theorem roomRents_off2 (p : Option Addr) (c : Nat) (v : List (List Int)) (r s jj : Int) (w : World) (hx : Mat w p c v) (hr64 : in64 r) (hs64 : in64 s) (hj64 : in64 jj) (hc1 : chkR v r = 0) (hc2 : chkR v s = 0) (hj : 0 ≤ jj) (hj2 : (v.length : Int) ≤ jj) :
    Calls Try.prog 8 #[.agg #[.slice p v.length c, .int .i64 r], .int .i64 s, .int .i64 jj] w fun e w' => e = .returned (.bool true) ∧ Below w.heap.size w w' := by
  obtain ⟨W0, hW0⟩ : ∃ W, w.alloc (.cells #[.slice p v.length c, .int .i64 r] 24) = W := ⟨_, rfl⟩
  have hB := below_alloc hW0
  have bX : BoxV W0 w.heap.size [.slice p v.length c, .int .i64 r] := BoxV.new rfl hW0
  have mX := hx.below hB (Nat.le_refl _)
  have hlx := hx.length_le
  have HW0 := Lib.hid hW0
  clear hW0 hx
  have hf1 : fit14 v r = true := by unfold fit14; rw [decide_eq_true_iff]; exact hc1
  have hF1 := fun W (h : Mat W p c v) => fit14_any p c v r W h
  rw [hf1] at hF1
  have HF1 := Lib.hid hF1
  clear hF1 hf1
  have hf2 : fit14 v s = true := by unfold fit14; rw [decide_eq_true_iff]; exact hc2
  have hF2 := fun W (h : Mat W p c v) => fit14_any p c v s W h
  rw [hf2] at hF2
  have HF2 := Lib.hid hF2
  clear hF2 hf2
  clear hc1 hc2
  obtain ⟨_, _⟩ := hj64
  have d0 : decide (jj < 0) = false := by rw [decide_eq_false_iff_not]; omega
  have d1 : decide ((v.length : Int) ≤ jj) = true := by rw [decide_eq_true_iff]; omega
  go_enter Try.func8, Try.ntmps8
  go_wp2_with fail
  rw [HW0.out]
  refine (alive14_any _).mono ?_
  rintro e w1 ⟨rfl, hb⟩
  replace mX := mX.below hb (Nat.le_refl _)
  replace bX := bX.below hb
  replace hB := hB.trans (hb.mono hB.size)
  clear hb
  obtain ⟨W2, hW2⟩ : ∃ W, w1.alloc (.cells #[.slice p v.length c, .int .i64 s] 24) = W := ⟨_, rfl⟩
  have hb : Below w1.heap.size w1 W2 := below_alloc hW2
  have bS : BoxV W2 w1.heap.size [.slice p v.length c, .int .i64 s] := BoxV.new rfl hW2
  have HW2 := Lib.hid hW2
  clear hW2
  have kbX_0 := bX.cell 0 _ rfl
  have kbX_1 := bX.cell 1 _ rfl
  have lbX := bX.lt
  go_upto_region 3 with (fail)
  rw [HW2.out]
  clear kbX_0 kbX_1 lbX
  replace mX := mX.below hb (Nat.le_refl _)
  replace bX := bX.below hb
  replace hB := hB.trans (hb.mono hB.size)
  clear hb
  have kbX_0 := bX.cell 0 _ rfl
  have kbX_1 := bX.cell 1 _ rfl
  have lbX := bX.lt
  have kbS_0 := bS.cell 0 _ rfl
  have kbS_1 := bS.cell 1 _ rfl
  have lbS := bS.lt
  go_wp2_with fail
  refine (HF1.out _ mX).mono ?_
  rintro e w2 ⟨rfl, hb⟩
  clear kbX_0 kbX_1 lbX kbS_0 kbS_1 lbS
  replace mX := mX.below hb (Nat.le_refl _)
  replace bX := bX.below hb
  replace bS := bS.below hb
  replace hB := hB.trans (hb.mono hB.size)
  clear hb
  have kbX_0 := bX.cell 0 _ rfl
  have kbX_1 := bX.cell 1 _ rfl
  have lbX := bX.lt
  have kbS_0 := bS.cell 0 _ rfl
  have kbS_1 := bS.cell 1 _ rfl
  have lbS := bS.lt
  go_wp2_with fail
  refine (HF2.out _ mX).mono ?_
  rintro e w3 ⟨rfl, hb⟩
  clear kbX_0 kbX_1 lbX kbS_0 kbS_1 lbS
  replace mX := mX.below hb (Nat.le_refl _)
  replace bX := bX.below hb
  replace bS := bS.below hb
  replace hB := hB.trans (hb.mono hB.size)
  clear hb
  have kbX_0 := bX.cell 0 _ rfl
  have kbX_1 := bX.cell 1 _ rfl
  have lbX := bX.lt
  have kbS_0 := bS.cell 0 _ rfl
  have kbS_1 := bS.cell 1 _ rfl
  have lbS := bS.lt
  go_wp2_with fail
  go_ret
  exact ⟨rfl, hB⟩
set_option maxHeartbeats 16000000 in
set_option maxRecDepth 100000 in
theorem roomRents_main (p : Option Addr) (c : Nat) (v : List (List Int)) (r s : Int) (w : World) (hx : Mat w p c v) (hr64 : in64 r) (hs64 : in64 s) (j : Nat) (hj64 : in64 j) (hj : j < v.length) (hc1 : chkR v r = 0) (hc2 : chkR v s = 0) :
    Calls Try.prog 8 #[.agg #[.slice p v.length c, .int .i64 r], .int .i64 s, .int .i64 (j : Int)] w fun e w' => e = .returned (.bool true) ∧ Below w.heap.size w w' := by
  obtain ⟨W0, hW0⟩ : ∃ W, w.alloc (.cells #[.slice p v.length c, .int .i64 r] 24) = W := ⟨_, rfl⟩
  have hB := below_alloc hW0
  have bX : BoxV W0 w.heap.size [.slice p v.length c, .int .i64 r] := BoxV.new rfl hW0
  have mX := hx.below hB (Nat.le_refl _)
  have hlx := hx.length_le
  have HW0 := Lib.hid hW0
  clear hW0 hx
  have hf1 : fit14 v r = true := by unfold fit14; rw [decide_eq_true_iff]; exact hc1
  have hF1 := fun W (h : Mat W p c v) => fit14_any p c v r W h
  rw [hf1] at hF1
  have HF1 := Lib.hid hF1
  clear hF1 hf1
  have hf2 : fit14 v s = true := by unfold fit14; rw [decide_eq_true_iff]; exact hc2
  have hF2 := fun W (h : Mat W p c v) => fit14_any p c v s W h
  rw [hf2] at hF2
  have HF2 := Lib.hid hF2
  clear hF2 hf2
  obtain ⟨hBd, hr1, hr2⟩ := chkR_zero.1 hc1
  obtain ⟨_, hs1, hs2⟩ := chkR_zero.1 hc2
  have h0 := hBd.1
  have h6 := hBd.2.1
  have hL1 := fun W (h : Mat W p c v) => roomLinks_any p c v r W h
  have hL2 := fun W (h : Mat W p c v) => roomLinks_any p c v s W h
  have eL1 : linksL v r = linkL v (bestA v) := by unfold linksL; rw [if_pos hc1]
  have eL2 : linksL v s = linkL v (bestA v) := by unfold linksL; rw [if_pos hc2]
  rw [eL1, hc1] at hL1
  rw [eL2, hc2] at hL2
  have HL1 := Lib.hid hL1
  have HL2 := Lib.hid hL2
  obtain ⟨e1, e2, e3⟩ := rng_in (v := v) (r := r) hc1 hj
  obtain ⟨e4, e5, e6⟩ := rng_in (v := v) (r := s) hc2 hj
  have hR1 := fun W (h : Mat W p c v) => roomRange_any p c v r j W h hj64
  have hR2 := fun W (h : Mat W p c v) => roomRange_any p c v s j W h hj64
  rw [e1, e2, e3] at hR1
  rw [e4, e5, e6, lowI_move v r s, highI_move v r s] at hR2
  have low := lowI_bd hBd hr1 hr2 hj (Nat.le_refl _)
  have high := highI_bd hBd hr1 hr2 hj (Nat.le_refl _)
  have raw := raw_small hc1 hj
  obtain ⟨z1, hz1⟩ : ∃ z : Nat, lowN v.length (rawP v r) = z := ⟨_, rfl⟩
  obtain ⟨z2, hz2⟩ : ∃ z : Nat, lowN v.length (rawP v s) = z := ⟨_, rfl⟩
  obtain ⟨p1, q1⟩ := even_rat hc1 hj hz1
  obtain ⟨p2, q2⟩ := even_rat hc2 hj hz2
  rw [raw_move (r := r) (s := s) hj] at q2
  have v1 := (evenOk hc1).vld
  have v2 := (evenOk hc2).vld
  have w1' := vld_ok hc1 v1
  have w2' := vld_ok hc2 v2
  have x1 : evenX v r = bestA v := by unfold evenX; rw [if_pos hc1]
  have x2 : evenY v r = lowL v.length (rawP v r) := by unfold evenY; rw [if_pos hc1]
  have x3 : evenZ v r = z1 := by unfold evenZ; rw [if_pos hc1, hz1]
  have x4 : evenX v s = bestA v := by unfold evenX; rw [if_pos hc2]
  have x5 : evenY v s = lowL v.length (rawP v s) := by unfold evenY; rw [if_pos hc2]
  have x6 : evenZ v s = z2 := by unfold evenZ; rw [if_pos hc2, hz2]
  have hE1 := fun W (h : Mat W p c v) => roomEven_any p c v r W h
  have hE2 := fun W (h : Mat W p c v) => roomEven_any p c v s W h
  rw [x1, x2, x3, hc1] at hE1
  rw [x4, x5, x6, hc2] at hE2
  rw [hz1] at v1 w1'
  rw [hz2] at v2 w2'
  obtain ⟨Y1, eY1⟩ : ∃ x, lowL v.length (rawP v r) = x := ⟨_, rfl⟩
  obtain ⟨Y2, eY2⟩ : ∃ x, lowL v.length (rawP v s) = x := ⟨_, rfl⟩
  obtain ⟨X, eX⟩ : ∃ x, bestA v = x := ⟨_, rfl⟩
  rw [eX, eY1] at hE1 w1' v1
  rw [eX, eY2] at hE2 w2' v2
  rw [eY1] at q1
  rw [eY2] at q2
  obtain ⟨_, a1, a2, a3, a4, _⟩ := v1
  obtain ⟨_, b1, b2, b3, b4, _⟩ := v2
  have pr1 := a4 j (by omega)
  have pr2 := b4 j (by omega)
  have hV1 := fun W q1 d1 s1 f1 (h : Mat W p c v) (h1 : Ints W q1 d1 X) (h2 : Ints W s1 f1 Y1) => refValid_any p q1 s1 c d1 f1 v r X Y1 z1 W h h1 h2
  have hV2 := fun W q1 d1 s1 f1 (h : Mat W p c v) (h1 : Ints W q1 d1 X) (h2 : Ints W s1 f1 Y2) => refValid_any p q1 s1 c d1 f1 v s X Y2 z2 W h h1 h2
  rw [w1'] at hV1
  rw [w2'] at hV2
  have HE1 := Lib.hid hE1
  have HE2 := Lib.hid hE2
  have HV1 := Lib.hid hV1
  have HV2 := Lib.hid hV2
  obtain ⟨L, eLo⟩ : ∃ x, lowI v r j v.length = x := ⟨_, rfl⟩
  obtain ⟨H, eHi⟩ : ∃ x, highI v r j v.length = x := ⟨_, rfl⟩
  obtain ⟨R, eRa⟩ : ∃ x, iget (rawP v r) j = x := ⟨_, rfl⟩
  obtain ⟨P1, eP1⟩ : ∃ x, iget Y1 j = x := ⟨_, rfl⟩
  obtain ⟨P2, eP2⟩ : ∃ x, iget Y2 j = x := ⟨_, rfl⟩
  obtain ⟨M, eM⟩ : ∃ x, s - r = x := ⟨_, rfl⟩
  rw [eLo] at hR1 hR2 low
  rw [eHi] at hR1 hR2 high
  rw [eM] at hR2 q2
  rw [eRa] at raw q1 q2
  rw [eP1] at q1 pr1
  rw [eP2] at q2 pr2
  have hM : -10000000 ≤ M ∧ M ≤ 10000000 := by omega
  have hA1 := fun W => refAdd_any (rN L v.length) (rN M v.length) (v.length / rG L v.length) (v.length / rG M v.length) W (smallQ_of h0 (by omega) (by omega) (by omega)) (smallQ_of h0 (by omega) (by omega) (by omega))
  have hA2 := fun W => refAdd_any (rN H v.length) (rN M v.length) (v.length / rG H v.length) (v.length / rG M v.length) W (smallQ_of h0 (by omega) (by omega) (by omega)) (smallQ_of h0 (by omega) (by omega) (by omega))
  have hA3 := fun W => refAdd_any (rN R v.length) (rN M v.length) (v.length / rG R v.length) (v.length / rG M v.length) W (smallQ_of h0 (by omega) (by omega) (by omega)) (smallQ_of h0 (by omega) (by omega) (by omega))
  rw [rat_plus h0] at hA1 hA2 hA3
  have hMb := fun W => refMake_any M v.length W (by omega) (by omega) h0 (by omega)
  have hM1 := fun W => refMake_any P1 z1 W (by omega) (by omega) p1 (by omega)
  have hM2 := fun W => refMake_any P2 z2 W (by omega) (by omega) p2 (by omega)
  rw [q1] at hM1
  rw [q2] at hM2
  unfold ratV rD at hR1 hR2 hA1 hA2 hA3 hMb hM1 hM2
  obtain ⟨N1, en1⟩ : ∃ x, rN L v.length = x := ⟨_, rfl⟩
  obtain ⟨D1, ed1⟩ : ∃ x, v.length / rG L v.length = x := ⟨_, rfl⟩
  obtain ⟨N2, en2⟩ : ∃ x, rN H v.length = x := ⟨_, rfl⟩
  obtain ⟨D2, ed2⟩ : ∃ x, v.length / rG H v.length = x := ⟨_, rfl⟩
  obtain ⟨N3, en3⟩ : ∃ x, rN (L + M) v.length = x := ⟨_, rfl⟩
  obtain ⟨D3, ed3⟩ : ∃ x, v.length / rG (L + M) v.length = x := ⟨_, rfl⟩
  obtain ⟨N4, en4⟩ : ∃ x, rN (H + M) v.length = x := ⟨_, rfl⟩
  obtain ⟨D4, ed4⟩ : ∃ x, v.length / rG (H + M) v.length = x := ⟨_, rfl⟩
  obtain ⟨N5, en5⟩ : ∃ x, rN R v.length = x := ⟨_, rfl⟩
  obtain ⟨D5, ed5⟩ : ∃ x, v.length / rG R v.length = x := ⟨_, rfl⟩
  obtain ⟨N6, en6⟩ : ∃ x, rN (R + M) v.length = x := ⟨_, rfl⟩
  obtain ⟨D6, ed6⟩ : ∃ x, v.length / rG (R + M) v.length = x := ⟨_, rfl⟩
  obtain ⟨N7, en7⟩ : ∃ x, rN M v.length = x := ⟨_, rfl⟩
  obtain ⟨D7, ed7⟩ : ∃ x, v.length / rG M v.length = x := ⟨_, rfl⟩
  rw [en1, ed1, en2, ed2] at hR1
  rw [en3, ed3, en4, ed4] at hR2
  rw [en1, ed1, en7, ed7, en3, ed3] at hA1
  rw [en2, ed2, en7, ed7, en4, ed4] at hA2
  rw [en5, ed5, en7, ed7, en6, ed6] at hA3
  rw [en7, ed7] at hMb
  rw [en5, ed5] at hM1
  rw [en6, ed6] at hM2
  have HR1 := Lib.hid hR1
  have HR2 := Lib.hid hR2
  have HA1 := Lib.hid hA1
  have HA2 := Lib.hid hA2
  have HA3 := Lib.hid hA3
  have HMb := Lib.hid hMb
  have HM1 := Lib.hid hM1
  have HM2 := Lib.hid hM2
  have HYl1 := Lib.hid a3
  have HYl2 := Lib.hid b3
  have HP1 := Lib.hid eP1
  have HP2 := Lib.hid eP2
  have HLen := Lib.hid (linkL_len v (bestA v))
  have hw : IntKind.i64.wrap (s - r) = M := by rw [eM]; exact IntWalk.i64_in _ (by omega)
  have hw' : s - r = M := eM
  have hj0 : decide ((j : Int) < 0) = false := by simp
  have hjn : (j : Int) < v.length := by omega
  obtain ⟨_, _⟩ := hj64
  obtain ⟨K, eK⟩ : ∃ x, linkL v (bestA v) = x := ⟨_, rfl⟩
  rw [eK] at HL1 HL2 HLen
  clear hc1 hc2 hL1 hL2 eL1 eL2 e1 e2 e3 e4 e5 e6 hR1 hR2 low high raw hz1 hz2 q1 q2 a1 a2 a3 a4 b1 b2 b3 b4 pr1 pr2 w1' w2' x1 x2 x3 x4 x5 x6 hE1 hE2 hV1 hV2 eY1 eY2 eX eLo eHi eRa eP1 eP2 eM hM hA1 hA2 hA3 hMb hM1 hM2 en1 en2 en3 en4 en5 en6 en7 ed1 ed2 ed3 ed4 ed5 ed6 ed7 eK p1 p2
  go_enter Try.func8, Try.ntmps8
  go_wp2_with fail
  rw [HW0.out]
  refine (alive14_any _).mono ?_
  rintro e w1 ⟨rfl, hb⟩
  replace mX := mX.below hb (Nat.le_refl _)
  replace bX := bX.below hb
  replace hB := hB.trans (hb.mono hB.size)
  clear hb
  obtain ⟨W2, hW2⟩ : ∃ W, w1.alloc (.cells #[.slice p v.length c, .int .i64 s] 24) = W := ⟨_, rfl⟩
  have hb : Below w1.heap.size w1 W2 := below_alloc hW2
  have bS : BoxV W2 w1.heap.size [.slice p v.length c, .int .i64 s] := BoxV.new rfl hW2
  have HW2 := Lib.hid hW2
  clear hW2
  have kbX_0 := bX.cell 0 _ rfl
  have kbX_1 := bX.cell 1 _ rfl
  have lbX := bX.lt
  go_upto_region 3 with (fail)
  rw [HW2.out]
  clear kbX_0 kbX_1 lbX
  replace mX := mX.below hb (Nat.le_refl _)
  replace bX := bX.below hb
  replace hB := hB.trans (hb.mono hB.size)
  clear hb
  have kbX_0 := bX.cell 0 _ rfl
  have kbX_1 := bX.cell 1 _ rfl
  have lbX := bX.lt
  have kbS_0 := bS.cell 0 _ rfl
  have kbS_1 := bS.cell 1 _ rfl
  have lbS := bS.lt
  go_wp2_with fail
  refine (HF1.out _ mX).mono ?_
  rintro e w2 ⟨rfl, hb⟩
  clear kbX_0 kbX_1 lbX kbS_0 kbS_1 lbS
  replace mX := mX.below hb (Nat.le_refl _)
  replace bX := bX.below hb
  replace bS := bS.below hb
  replace hB := hB.trans (hb.mono hB.size)
  clear hb
  have kbX_0 := bX.cell 0 _ rfl
  have kbX_1 := bX.cell 1 _ rfl
  have lbX := bX.lt
  have kbS_0 := bS.cell 0 _ rfl
  have kbS_1 := bS.cell 1 _ rfl
  have lbS := bS.lt
  go_wp2_with fail
  refine (HF2.out _ mX).mono ?_
  rintro e w3 ⟨rfl, hb⟩
  clear kbX_0 kbX_1 lbX kbS_0 kbS_1 lbS
  replace mX := mX.below hb (Nat.le_refl _)
  replace bX := bX.below hb
  replace bS := bS.below hb
  replace hB := hB.trans (hb.mono hB.size)
  clear hb
  have kbX_0 := bX.cell 0 _ rfl
  have kbX_1 := bX.cell 1 _ rfl
  have lbX := bX.lt
  have kbS_0 := bS.cell 0 _ rfl
  have kbS_1 := bS.cell 1 _ rfl
  have lbS := bS.lt
  go_wp2_with fail
  refine (HL1.out _ mX).mono ?_
  rintro e w4 ⟨pk, ck, Q1, K1, rfl, oD, hb⟩
  clear kbX_0 kbX_1 lbX kbS_0 kbS_1 lbS
  replace mX := mX.below hb (Nat.le_refl _)
  replace bX := bX.below hb
  replace bS := bS.below hb
  replace hB := hB.trans (hb.mono hB.size)
  clear hb
  rw [HLen.out]
  have mK := oD.mat
  clear oD
  have kbX_0 := bX.cell 0 _ rfl
  have kbX_1 := bX.cell 1 _ rfl
  have lbX := bX.lt
  have kbS_0 := bS.cell 0 _ rfl
  have kbS_1 := bS.cell 1 _ rfl
  have lbS := bS.lt
  go_wp2_with fail
  refine (HL2.out _ mX).mono ?_
  rintro e w5 ⟨pl, cl, Q2, K2, rfl, oD, hb⟩
  clear kbX_0 kbX_1 lbX kbS_0 kbS_1 lbS
  replace mX := mX.below hb (Nat.le_refl _)
  replace bX := bX.below hb
  replace bS := bS.below hb
  replace mK := mK.below hb (Nat.le_refl _)
  replace hB := hB.trans (hb.mono hB.size)
  clear hb
  rw [HLen.out]
  have mL := oD.mat
  clear oD
  have kbX_0 := bX.cell 0 _ rfl
  have kbX_1 := bX.cell 1 _ rfl
  have lbX := bX.lt
  have kbS_0 := bS.cell 0 _ rfl
  have kbS_1 := bS.cell 1 _ rfl
  have lbS := bS.lt
  go_wp2_with fail
  refine (HR1.out _ mX).mono ?_
  rintro e w6 ⟨rfl, hb⟩
  clear kbX_0 kbX_1 lbX kbS_0 kbS_1 lbS
  replace mX := mX.below hb (Nat.le_refl _)
  replace bX := bX.below hb
  replace bS := bS.below hb
  replace mK := mK.below hb (Nat.le_refl _)
  replace mL := mL.below hb (Nat.le_refl _)
  replace hB := hB.trans (hb.mono hB.size)
  clear hb
  obtain ⟨WabA, hWa⟩ : ∃ W, w6.alloc (.cells #[.int .i64 N1, .int .i64 D1] 40) = W := ⟨_, rfl⟩
  obtain ⟨WbbA, hW4⟩ : ∃ W, WabA.alloc (.cells #[.int .i64 N2, .int .i64 D2] 40) = W := ⟨_, rfl⟩
  have hba := below_alloc hWa
  have hbb := below_alloc hW4
  have hsa : WabA.heap.size = w6.heap.size + 1 := by rw [← hWa]; simp
  have bA : BoxV WbbA w6.heap.size [.int .i64 N1, .int .i64 D1] := (BoxV.new rfl hWa).below hbb
  have bB : BoxV WbbA (w6.heap.size + 1) [.int .i64 N2, .int .i64 D2] := BoxV.new hsa hW4
  have hb : Below w6.heap.size w6 WbbA := hba.trans (hbb.mono hba.size)
  have HWabA := Lib.hid hWa
  have HWbbA := Lib.hid hW4
  replace mX := mX.below hb (Nat.le_refl _)
  replace bX := bX.below hb
  replace bS := bS.below hb
  replace mK := mK.below hb (Nat.le_refl _)
  replace mL := mL.below hb (Nat.le_refl _)
  replace hB := hB.trans (hb.mono hB.size)
  clear hb hba hbb hWa hW4 hsa
  go_upto_region 8 with (fail)
  rw [HWabA.out, HWbbA.out]
  have kbX_0 := bX.cell 0 _ rfl
  have kbX_1 := bX.cell 1 _ rfl
  have lbX := bX.lt
  have kbS_0 := bS.cell 0 _ rfl
  have kbS_1 := bS.cell 1 _ rfl
  have lbS := bS.lt
  have kbA_0 := bA.cell 0 _ rfl
  have kbA_1 := bA.cell 1 _ rfl
  have lbA := bA.lt
  have kbB_0 := bB.cell 0 _ rfl
  have kbB_1 := bB.cell 1 _ rfl
  have lbB := bB.lt
  go_wp2_with fail
  refine (HR2.out _ mX).mono ?_
  rintro e w7 ⟨rfl, hb⟩
  clear kbX_0 kbX_1 lbX kbS_0 kbS_1 lbS kbA_0 kbA_1 lbA kbB_0 kbB_1 lbB
  replace mX := mX.below hb (Nat.le_refl _)
  replace bX := bX.below hb
  replace bS := bS.below hb
  replace mK := mK.below hb (Nat.le_refl _)
  replace mL := mL.below hb (Nat.le_refl _)
  replace bA := bA.below hb
  replace bB := bB.below hb
  replace hB := hB.trans (hb.mono hB.size)
  clear hb
  obtain ⟨WabC, hWa⟩ : ∃ W, w7.alloc (.cells #[.int .i64 N3, .int .i64 D3] 40) = W := ⟨_, rfl⟩
  obtain ⟨WbbC, hW4⟩ : ∃ W, WabC.alloc (.cells #[.int .i64 N4, .int .i64 D4] 40) = W := ⟨_, rfl⟩
  have hba := below_alloc hWa
  have hbb := below_alloc hW4
  have hsa : WabC.heap.size = w7.heap.size + 1 := by rw [← hWa]; simp
  have bC : BoxV WbbC w7.heap.size [.int .i64 N3, .int .i64 D3] := (BoxV.new rfl hWa).below hbb
  have bD : BoxV WbbC (w7.heap.size + 1) [.int .i64 N4, .int .i64 D4] := BoxV.new hsa hW4
  have hb : Below w7.heap.size w7 WbbC := hba.trans (hbb.mono hba.size)
  have HWabC := Lib.hid hWa
  have HWbbC := Lib.hid hW4
  replace mX := mX.below hb (Nat.le_refl _)
  replace bX := bX.below hb
  replace bS := bS.below hb
  replace mK := mK.below hb (Nat.le_refl _)
  replace mL := mL.below hb (Nat.le_refl _)
  replace bA := bA.below hb
  replace bB := bB.below hb
  replace hB := hB.trans (hb.mono hB.size)
  clear hb hba hbb hWa hW4 hsa
  go_upto_region 9 with (fail)
  rw [HWabC.out, HWbbC.out]
  have kbX_0 := bX.cell 0 _ rfl
  have kbX_1 := bX.cell 1 _ rfl
  have lbX := bX.lt
  have kbS_0 := bS.cell 0 _ rfl
  have kbS_1 := bS.cell 1 _ rfl
  have lbS := bS.lt
  have kbA_0 := bA.cell 0 _ rfl
  have kbA_1 := bA.cell 1 _ rfl
  have lbA := bA.lt
  have kbB_0 := bB.cell 0 _ rfl
  have kbB_1 := bB.cell 1 _ rfl
  have lbB := bB.lt
  have kbC_0 := bC.cell 0 _ rfl
  have kbC_1 := bC.cell 1 _ rfl
  have lbC := bC.lt
  have kbD_0 := bD.cell 0 _ rfl
  have kbD_1 := bD.cell 1 _ rfl
  have lbD := bD.lt
  go_wp2_with fail
  refine (HE1.out _ mX).mono ?_
  rintro e w8 ⟨q1, d1, s1, f1, rfl, i1, i2, hb⟩
  clear kbX_0 kbX_1 lbX kbS_0 kbS_1 lbS kbA_0 kbA_1 lbA kbB_0 kbB_1 lbB kbC_0 kbC_1 lbC kbD_0 kbD_1 lbD
  replace mX := mX.below hb (Nat.le_refl _)
  replace bX := bX.below hb
  replace bS := bS.below hb
  replace mK := mK.below hb (Nat.le_refl _)
  replace mL := mL.below hb (Nat.le_refl _)
  replace bA := bA.below hb
  replace bB := bB.below hb
  replace bC := bC.below hb
  replace bD := bD.below hb
  replace hB := hB.trans (hb.mono hB.size)
  clear hb
  obtain ⟨WabM, hWa⟩ : ∃ W, w8.alloc (.cells #[.slice q1 X.length d1, .slice s1 Y1.length f1, .int .i64 z1] 28) = W := ⟨_, rfl⟩
  have hb := below_alloc hWa
  have bM : BoxV WabM w8.heap.size [.slice q1 X.length d1, .slice s1 Y1.length f1, .int .i64 z1] := BoxV.new rfl hWa
  have HWabM := Lib.hid hWa
  replace mX := mX.below hb (Nat.le_refl _)
  replace bX := bX.below hb
  replace bS := bS.below hb
  replace mK := mK.below hb (Nat.le_refl _)
  replace mL := mL.below hb (Nat.le_refl _)
  replace bA := bA.below hb
  replace bB := bB.below hb
  replace bC := bC.below hb
  replace bD := bD.below hb
  replace i1 := i1.below hb (Nat.le_refl _)
  replace i2 := i2.below hb (Nat.le_refl _)
  replace hB := hB.trans (hb.mono hB.size)
  clear hb hWa
  go_upto_region 10 with (fail)
  rw [HWabM.out]
  have kbX_0 := bX.cell 0 _ rfl
  have kbX_1 := bX.cell 1 _ rfl
  have lbX := bX.lt
  have kbS_0 := bS.cell 0 _ rfl
  have kbS_1 := bS.cell 1 _ rfl
  have lbS := bS.lt
  have kbA_0 := bA.cell 0 _ rfl
  have kbA_1 := bA.cell 1 _ rfl
  have lbA := bA.lt
  have kbB_0 := bB.cell 0 _ rfl
  have kbB_1 := bB.cell 1 _ rfl
  have lbB := bB.lt
  have kbC_0 := bC.cell 0 _ rfl
  have kbC_1 := bC.cell 1 _ rfl
  have lbC := bC.lt
  have kbD_0 := bD.cell 0 _ rfl
  have kbD_1 := bD.cell 1 _ rfl
  have lbD := bD.lt
  go_wp2_with fail
  refine (HE2.out _ mX).mono ?_
  rintro e w9 ⟨q2, d2, s2, f2, rfl, i3, i4, hb⟩
  clear kbX_0 kbX_1 lbX kbS_0 kbS_1 lbS kbA_0 kbA_1 lbA kbB_0 kbB_1 lbB kbC_0 kbC_1 lbC kbD_0 kbD_1 lbD
  replace mX := mX.below hb (Nat.le_refl _)
  replace bX := bX.below hb
  replace bS := bS.below hb
  replace mK := mK.below hb (Nat.le_refl _)
  replace mL := mL.below hb (Nat.le_refl _)
  replace bA := bA.below hb
  replace bB := bB.below hb
  replace bC := bC.below hb
  replace bD := bD.below hb
  replace i1 := i1.below hb (Nat.le_refl _)
  replace i2 := i2.below hb (Nat.le_refl _)
  replace bM := bM.below hb
  replace hB := hB.trans (hb.mono hB.size)
  clear hb
  obtain ⟨WabN, hWa⟩ : ∃ W, w9.alloc (.cells #[.slice q2 X.length d2, .slice s2 Y2.length f2, .int .i64 z2] 28) = W := ⟨_, rfl⟩
  have hb := below_alloc hWa
  have bN : BoxV WabN w9.heap.size [.slice q2 X.length d2, .slice s2 Y2.length f2, .int .i64 z2] := BoxV.new rfl hWa
  have HWabN := Lib.hid hWa
  replace mX := mX.below hb (Nat.le_refl _)
  replace bX := bX.below hb
  replace bS := bS.below hb
  replace mK := mK.below hb (Nat.le_refl _)
  replace mL := mL.below hb (Nat.le_refl _)
  replace bA := bA.below hb
  replace bB := bB.below hb
  replace bC := bC.below hb
  replace bD := bD.below hb
  replace i1 := i1.below hb (Nat.le_refl _)
  replace i2 := i2.below hb (Nat.le_refl _)
  replace bM := bM.below hb
  replace i3 := i3.below hb (Nat.le_refl _)
  replace i4 := i4.below hb (Nat.le_refl _)
  replace hB := hB.trans (hb.mono hB.size)
  clear hb hWa
  go_upto_region 11 with (fail)
  rw [HWabN.out]
  have kbX_0 := bX.cell 0 _ rfl
  have kbX_1 := bX.cell 1 _ rfl
  have lbX := bX.lt
  have kbS_0 := bS.cell 0 _ rfl
  have kbS_1 := bS.cell 1 _ rfl
  have lbS := bS.lt
  have kbA_0 := bA.cell 0 _ rfl
  have kbA_1 := bA.cell 1 _ rfl
  have lbA := bA.lt
  have kbB_0 := bB.cell 0 _ rfl
  have kbB_1 := bB.cell 1 _ rfl
  have lbB := bB.lt
  have kbC_0 := bC.cell 0 _ rfl
  have kbC_1 := bC.cell 1 _ rfl
  have lbC := bC.lt
  have kbD_0 := bD.cell 0 _ rfl
  have kbD_1 := bD.cell 1 _ rfl
  have lbD := bD.lt
  have kbM_0 := bM.cell 0 _ rfl
  have kbM_1 := bM.cell 1 _ rfl
  have kbM_2 := bM.cell 2 _ rfl
  have lbM := bM.lt
  have kbN_0 := bN.cell 0 _ rfl
  have kbN_1 := bN.cell 1 _ rfl
  have kbN_2 := bN.cell 2 _ rfl
  have lbN := bN.lt
  go_wp2_with fail
  refine (HV1.out _ _ _ _ _ mX i1 i2).mono ?_
  rintro e wa ⟨rfl, hb⟩
  clear kbX_0 kbX_1 lbX kbS_0 kbS_1 lbS kbA_0 kbA_1 lbA kbB_0 kbB_1 lbB kbC_0 kbC_1 lbC kbD_0 kbD_1 lbD kbM_0 kbM_1 kbM_2 lbM kbN_0 kbN_1 kbN_2 lbN
  replace mX := mX.below hb (Nat.le_refl _)
  replace bX := bX.below hb
  replace bS := bS.below hb
  replace mK := mK.below hb (Nat.le_refl _)
  replace mL := mL.below hb (Nat.le_refl _)
  replace bA := bA.below hb
  replace bB := bB.below hb
  replace bC := bC.below hb
  replace bD := bD.below hb
  replace i1 := i1.below hb (Nat.le_refl _)
  replace i2 := i2.below hb (Nat.le_refl _)
  replace bM := bM.below hb
  replace i3 := i3.below hb (Nat.le_refl _)
  replace i4 := i4.below hb (Nat.le_refl _)
  replace bN := bN.below hb
  replace hB := hB.trans (hb.mono hB.size)
  clear hb
  have kbX_0 := bX.cell 0 _ rfl
  have kbX_1 := bX.cell 1 _ rfl
  have lbX := bX.lt
  have kbS_0 := bS.cell 0 _ rfl
  have kbS_1 := bS.cell 1 _ rfl
  have lbS := bS.lt
  have kbA_0 := bA.cell 0 _ rfl
  have kbA_1 := bA.cell 1 _ rfl
  have lbA := bA.lt
  have kbB_0 := bB.cell 0 _ rfl
  have kbB_1 := bB.cell 1 _ rfl
  have lbB := bB.lt
  have kbC_0 := bC.cell 0 _ rfl
  have kbC_1 := bC.cell 1 _ rfl
  have lbC := bC.lt
  have kbD_0 := bD.cell 0 _ rfl
  have kbD_1 := bD.cell 1 _ rfl
  have lbD := bD.lt
  have kbM_0 := bM.cell 0 _ rfl
  have kbM_1 := bM.cell 1 _ rfl
  have kbM_2 := bM.cell 2 _ rfl
  have lbM := bM.lt
  have kbN_0 := bN.cell 0 _ rfl
  have kbN_1 := bN.cell 1 _ rfl
  have kbN_2 := bN.cell 2 _ rfl
  have lbN := bN.lt
  go_wp2_with fail
  refine (HV2.out _ _ _ _ _ mX i3 i4).mono ?_
  rintro e wb ⟨rfl, hb⟩
  clear kbX_0 kbX_1 lbX kbS_0 kbS_1 lbS kbA_0 kbA_1 lbA kbB_0 kbB_1 lbB kbC_0 kbC_1 lbC kbD_0 kbD_1 lbD kbM_0 kbM_1 kbM_2 lbM kbN_0 kbN_1 kbN_2 lbN
  replace mX := mX.below hb (Nat.le_refl _)
  replace bX := bX.below hb
  replace bS := bS.below hb
  replace mK := mK.below hb (Nat.le_refl _)
  replace mL := mL.below hb (Nat.le_refl _)
  replace bA := bA.below hb
  replace bB := bB.below hb
  replace bC := bC.below hb
  replace bD := bD.below hb
  replace i1 := i1.below hb (Nat.le_refl _)
  replace i2 := i2.below hb (Nat.le_refl _)
  replace bM := bM.below hb
  replace i3 := i3.below hb (Nat.le_refl _)
  replace i4 := i4.below hb (Nat.le_refl _)
  replace bN := bN.below hb
  replace hB := hB.trans (hb.mono hB.size)
  clear hb
  have kbX_0 := bX.cell 0 _ rfl
  have kbX_1 := bX.cell 1 _ rfl
  have lbX := bX.lt
  have kbS_0 := bS.cell 0 _ rfl
  have kbS_1 := bS.cell 1 _ rfl
  have lbS := bS.lt
  have kbA_0 := bA.cell 0 _ rfl
  have kbA_1 := bA.cell 1 _ rfl
  have lbA := bA.lt
  have kbB_0 := bB.cell 0 _ rfl
  have kbB_1 := bB.cell 1 _ rfl
  have lbB := bB.lt
  have kbC_0 := bC.cell 0 _ rfl
  have kbC_1 := bC.cell 1 _ rfl
  have lbC := bC.lt
  have kbD_0 := bD.cell 0 _ rfl
  have kbD_1 := bD.cell 1 _ rfl
  have lbD := bD.lt
  have kbM_0 := bM.cell 0 _ rfl
  have kbM_1 := bM.cell 1 _ rfl
  have kbM_2 := bM.cell 2 _ rfl
  have lbM := bM.lt
  have kbN_0 := bN.cell 0 _ rfl
  have kbN_1 := bN.cell 1 _ rfl
  have kbN_2 := bN.cell 2 _ rfl
  have lbN := bN.lt
  go_wp2_with fail
  refine (HMb.out _).mono ?_
  rintro e wc ⟨rfl, hb⟩
  clear kbX_0 kbX_1 lbX kbS_0 kbS_1 lbS kbA_0 kbA_1 lbA kbB_0 kbB_1 lbB kbC_0 kbC_1 lbC kbD_0 kbD_1 lbD kbM_0 kbM_1 kbM_2 lbM kbN_0 kbN_1 kbN_2 lbN
  replace mX := mX.below hb (Nat.le_refl _)
  replace bX := bX.below hb
  replace bS := bS.below hb
  replace mK := mK.below hb (Nat.le_refl _)
  replace mL := mL.below hb (Nat.le_refl _)
  replace bA := bA.below hb
  replace bB := bB.below hb
  replace bC := bC.below hb
  replace bD := bD.below hb
  replace i1 := i1.below hb (Nat.le_refl _)
  replace i2 := i2.below hb (Nat.le_refl _)
  replace bM := bM.below hb
  replace i3 := i3.below hb (Nat.le_refl _)
  replace i4 := i4.below hb (Nat.le_refl _)
  replace bN := bN.below hb
  replace hB := hB.trans (hb.mono hB.size)
  clear hb
  obtain ⟨WabE, hWa⟩ : ∃ W, wc.alloc (.cells #[.int .i64 N7, .int .i64 D7] 40) = W := ⟨_, rfl⟩
  have hb := below_alloc hWa
  have bE : BoxV WabE wc.heap.size [.int .i64 N7, .int .i64 D7] := BoxV.new rfl hWa
  have HWabE := Lib.hid hWa
  replace mX := mX.below hb (Nat.le_refl _)
  replace bX := bX.below hb
  replace bS := bS.below hb
  replace mK := mK.below hb (Nat.le_refl _)
  replace mL := mL.below hb (Nat.le_refl _)
  replace bA := bA.below hb
  replace bB := bB.below hb
  replace bC := bC.below hb
  replace bD := bD.below hb
  replace i1 := i1.below hb (Nat.le_refl _)
  replace i2 := i2.below hb (Nat.le_refl _)
  replace bM := bM.below hb
  replace i3 := i3.below hb (Nat.le_refl _)
  replace i4 := i4.below hb (Nat.le_refl _)
  replace bN := bN.below hb
  replace hB := hB.trans (hb.mono hB.size)
  clear hb hWa
  go_upto_region 14 with (fail)
  rw [HWabE.out]
  have kbX_0 := bX.cell 0 _ rfl
  have kbX_1 := bX.cell 1 _ rfl
  have lbX := bX.lt
  have kbS_0 := bS.cell 0 _ rfl
  have kbS_1 := bS.cell 1 _ rfl
  have lbS := bS.lt
  have kbA_0 := bA.cell 0 _ rfl
  have kbA_1 := bA.cell 1 _ rfl
  have lbA := bA.lt
  have kbB_0 := bB.cell 0 _ rfl
  have kbB_1 := bB.cell 1 _ rfl
  have lbB := bB.lt
  have kbC_0 := bC.cell 0 _ rfl
  have kbC_1 := bC.cell 1 _ rfl
  have lbC := bC.lt
  have kbD_0 := bD.cell 0 _ rfl
  have kbD_1 := bD.cell 1 _ rfl
  have lbD := bD.lt
  have kbM_0 := bM.cell 0 _ rfl
  have kbM_1 := bM.cell 1 _ rfl
  have kbM_2 := bM.cell 2 _ rfl
  have lbM := bM.lt
  have kbN_0 := bN.cell 0 _ rfl
  have kbN_1 := bN.cell 1 _ rfl
  have kbN_2 := bN.cell 2 _ rfl
  have lbN := bN.lt
  have kbE_0 := bE.cell 0 _ rfl
  have kbE_1 := bE.cell 1 _ rfl
  have lbE := bE.lt
  go_wp2_with fail
  refine (HA1.out _).mono ?_
  rintro e wd ⟨rfl, hb⟩
  clear kbX_0 kbX_1 lbX kbS_0 kbS_1 lbS kbA_0 kbA_1 lbA kbB_0 kbB_1 lbB kbC_0 kbC_1 lbC kbD_0 kbD_1 lbD kbM_0 kbM_1 kbM_2 lbM kbN_0 kbN_1 kbN_2 lbN kbE_0 kbE_1 lbE
  replace mX := mX.below hb (Nat.le_refl _)
  replace bX := bX.below hb
  replace bS := bS.below hb
  replace mK := mK.below hb (Nat.le_refl _)
  replace mL := mL.below hb (Nat.le_refl _)
  replace bA := bA.below hb
  replace bB := bB.below hb
  replace bC := bC.below hb
  replace bD := bD.below hb
  replace i1 := i1.below hb (Nat.le_refl _)
  replace i2 := i2.below hb (Nat.le_refl _)
  replace bM := bM.below hb
  replace i3 := i3.below hb (Nat.le_refl _)
  replace i4 := i4.below hb (Nat.le_refl _)
  replace bN := bN.below hb
  replace bE := bE.below hb
  replace hB := hB.trans (hb.mono hB.size)
  clear hb
  obtain ⟨WabF, hWa⟩ : ∃ W, wd.alloc (.cells #[.int .i64 N3, .int .i64 D3] 40) = W := ⟨_, rfl⟩
  have hb := below_alloc hWa
  have bF : BoxV WabF wd.heap.size [.int .i64 N3, .int .i64 D3] := BoxV.new rfl hWa
  have HWabF := Lib.hid hWa
  replace mX := mX.below hb (Nat.le_refl _)
  replace bX := bX.below hb
  replace bS := bS.below hb
  replace mK := mK.below hb (Nat.le_refl _)
  replace mL := mL.below hb (Nat.le_refl _)
  replace bA := bA.below hb
  replace bB := bB.below hb
  replace bC := bC.below hb
  replace bD := bD.below hb
  replace i1 := i1.below hb (Nat.le_refl _)
  replace i2 := i2.below hb (Nat.le_refl _)
  replace bM := bM.below hb
  replace i3 := i3.below hb (Nat.le_refl _)
  replace i4 := i4.below hb (Nat.le_refl _)
  replace bN := bN.below hb
  replace bE := bE.below hb
  replace hB := hB.trans (hb.mono hB.size)
  clear hb hWa
  go_upto_region 15 with (fail)
  rw [HWabF.out]
  have kbX_0 := bX.cell 0 _ rfl
  have kbX_1 := bX.cell 1 _ rfl
  have lbX := bX.lt
  have kbS_0 := bS.cell 0 _ rfl
  have kbS_1 := bS.cell 1 _ rfl
  have lbS := bS.lt
  have kbA_0 := bA.cell 0 _ rfl
  have kbA_1 := bA.cell 1 _ rfl
  have lbA := bA.lt
  have kbB_0 := bB.cell 0 _ rfl
  have kbB_1 := bB.cell 1 _ rfl
  have lbB := bB.lt
  have kbC_0 := bC.cell 0 _ rfl
  have kbC_1 := bC.cell 1 _ rfl
  have lbC := bC.lt
  have kbD_0 := bD.cell 0 _ rfl
  have kbD_1 := bD.cell 1 _ rfl
  have lbD := bD.lt
  have kbM_0 := bM.cell 0 _ rfl
  have kbM_1 := bM.cell 1 _ rfl
  have kbM_2 := bM.cell 2 _ rfl
  have lbM := bM.lt
  have kbN_0 := bN.cell 0 _ rfl
  have kbN_1 := bN.cell 1 _ rfl
  have kbN_2 := bN.cell 2 _ rfl
  have lbN := bN.lt
  have kbE_0 := bE.cell 0 _ rfl
  have kbE_1 := bE.cell 1 _ rfl
  have lbE := bE.lt
  have kbF_0 := bF.cell 0 _ rfl
  have kbF_1 := bF.cell 1 _ rfl
  have lbF := bF.lt
  go_wp2_with fail
  refine (HA2.out _).mono ?_
  rintro e we ⟨rfl, hb⟩
  clear kbX_0 kbX_1 lbX kbS_0 kbS_1 lbS kbA_0 kbA_1 lbA kbB_0 kbB_1 lbB kbC_0 kbC_1 lbC kbD_0 kbD_1 lbD kbM_0 kbM_1 kbM_2 lbM kbN_0 kbN_1 kbN_2 lbN kbE_0 kbE_1 lbE kbF_0 kbF_1 lbF
  replace mX := mX.below hb (Nat.le_refl _)
  replace bX := bX.below hb
  replace bS := bS.below hb
  replace mK := mK.below hb (Nat.le_refl _)
  replace mL := mL.below hb (Nat.le_refl _)
  replace bA := bA.below hb
  replace bB := bB.below hb
  replace bC := bC.below hb
  replace bD := bD.below hb
  replace i1 := i1.below hb (Nat.le_refl _)
  replace i2 := i2.below hb (Nat.le_refl _)
  replace bM := bM.below hb
  replace i3 := i3.below hb (Nat.le_refl _)
  replace i4 := i4.below hb (Nat.le_refl _)
  replace bN := bN.below hb
  replace bE := bE.below hb
  replace bF := bF.below hb
  replace hB := hB.trans (hb.mono hB.size)
  clear hb
  obtain ⟨WabG, hWa⟩ : ∃ W, we.alloc (.cells #[.int .i64 N4, .int .i64 D4] 40) = W := ⟨_, rfl⟩
  have hb := below_alloc hWa
  have bG : BoxV WabG we.heap.size [.int .i64 N4, .int .i64 D4] := BoxV.new rfl hWa
  have HWabG := Lib.hid hWa
  replace mX := mX.below hb (Nat.le_refl _)
  replace bX := bX.below hb
  replace bS := bS.below hb
  replace mK := mK.below hb (Nat.le_refl _)
  replace mL := mL.below hb (Nat.le_refl _)
  replace bA := bA.below hb
  replace bB := bB.below hb
  replace bC := bC.below hb
  replace bD := bD.below hb
  replace i1 := i1.below hb (Nat.le_refl _)
  replace i2 := i2.below hb (Nat.le_refl _)
  replace bM := bM.below hb
  replace i3 := i3.below hb (Nat.le_refl _)
  replace i4 := i4.below hb (Nat.le_refl _)
  replace bN := bN.below hb
  replace bE := bE.below hb
  replace bF := bF.below hb
  replace hB := hB.trans (hb.mono hB.size)
  clear hb hWa
  go_upto_region 16 with (fail)
  rw [HWabG.out]
  obtain ⟨bp, op, rfl, hlp, hcp⟩ := i2.get (j := j) (by rw [HYl1.out]; exact hj)
  have hjp1 : (j : Int) < Y1.length := by rw [HYl1.out]; omega
  rw [HP1.out] at hcp
  have Hmk : Hid (∀ W, Below WabG.heap.size WabG W → (W.cell? ⟨w8.heap.size, 1, none⟩ = some (.slice (some ⟨bp, op, none⟩) Y1.length f1) ∧ W.cell? ⟨w8.heap.size, 2, none⟩ = some (.int .i64 (z1 : Int)) ∧ W.cell? ⟨bp, op + j, none⟩ = some (.int .i64 P1))) := fun W hG =>
    ⟨(hG.cell (p := ⟨w8.heap.size, 1, none⟩) bM.lt).trans (bM.cell 1 _ rfl), (hG.cell (p := ⟨w8.heap.size, 2, none⟩) bM.lt).trans (bM.cell 2 _ rfl), (hG.cell (p := ⟨bp, op + j, none⟩) hlp).trans hcp⟩
  have hLT := bM.lt
  refine wp_region_inv (by kernel_rfl) (by decide +kernel) (by decide +kernel) _ _ (OneJ WabG 11 12 (fun k => match k with | 0 => (.pointer (some ⟨w8.heap.size, 1, none⟩)) | 1 => (.slice (some ⟨bp, op, none⟩) Y1.length f1) | 2 => (.int .i64 (j : Int)) | 3 => (.pointer (some ⟨bp, op + j, none⟩)) | 4 => (.int .i64 (P1 : Int)) | 5 => (.pointer (some ⟨w8.heap.size, 2, none⟩)) | 6 => (.int .i64 (z1 : Int)) | 7 => (.tuple #[.agg #[.int .i64 N5, .int .i64 (D5 : Int)], .int .i64 0]) | 8 => (.tuple #[.agg #[.int .i64 N5, .int .i64 (D5 : Int)], .int .i64 0]) | 9 => (.agg #[.int .i64 N5, .int .i64 (D5 : Int)]) | 10 => (.int .i64 (0 : Int)) | 13 => (.int .i64 (0 : Int)) | _ => undef) (.int .i64 N5) (.int .i64 (D5 : Int))) ?_ ?_ ?_
  · exact fun us => OneJ.start us
  · intro us D W i o A hA hi hJ hnD hon K hK
    have hlt : i < 14 := (Array.getElem?_eq_some_iff.1 hi).1
    rcases lt14r hlt with rfl | rfl | rfl | rfl | rfl | rfl | rfl | rfl | rfl | rfl | rfl | rfl | rfl | rfl
    · have hi' := Option.some.inj hi
      subst hi'
      refine wp_val (v := (.pointer (some ⟨w8.heap.size, 1, none⟩))) (w' := W) ?_ (hK _ _ (hJ.pure (i := 0) (by decide) (by decide) (Below.refl _ _)))
      · skip
        have e19 : A.tmps[19]?.getD undef = (.pointer (some ⟨w8.heap.size, 0, none⟩)) := by rw [hA]; kernel_rfl
        clear hA hK hon hJ
        go_simp
    · have hi' := Option.some.inj hi
      subst hi'
      refine wp_val (v := (.slice (some ⟨bp, op, none⟩) Y1.length f1)) (w' := W) ?_ (hK _ _ (hJ.pure (i := 1) (by decide) (by decide) (Below.refl _ _)))
      · skip
        have e156 : A.tmps[156]?.getD undef = (.pointer (some ⟨w8.heap.size, 1, none⟩)) := (by rw [hA]; kernel_rfl : A.tmps[156]?.getD undef = us 0).trans (hJ.val 0 (by decide) (by decide) (hon 0 (by decide +kernel)))
        obtain ⟨cc1, cc2, cc3⟩ := Hmk.out W hJ.bel
        clear hA hK hon hJ
        go_simp
    · have hi' := Option.some.inj hi
      subst hi'
      refine wp_val (v := (.int .i64 (j : Int))) (w' := W) ?_ (hK _ _ (hJ.pure (i := 2) (by decide) (by decide) (Below.refl _ _)))
      · skip
        have e2 : A.tmps[2]?.getD undef = (.int .i64 (j : Int)) := by rw [hA]; kernel_rfl
        clear hA hK hon hJ
        go_simp
    · have hi' := Option.some.inj hi
      subst hi'
      refine wp_val (v := (.pointer (some ⟨bp, op + j, none⟩))) (w' := W) ?_ (hK _ _ (hJ.pure (i := 3) (by decide) (by decide) (Below.refl _ _)))
      · skip
        have e157 : A.tmps[157]?.getD undef = (.slice (some ⟨bp, op, none⟩) Y1.length f1) := (by rw [hA]; kernel_rfl : A.tmps[157]?.getD undef = us 1).trans (hJ.val 1 (by decide) (by decide) (hon 1 (by decide +kernel)))
        have e158 : A.tmps[158]?.getD undef = (.int .i64 (j : Int)) := (by rw [hA]; kernel_rfl : A.tmps[158]?.getD undef = us 2).trans (hJ.val 2 (by decide) (by decide) (hon 2 (by decide +kernel)))
        clear hA hK hon hJ
        go_simp
    · have hi' := Option.some.inj hi
      subst hi'
      refine wp_val (v := (.int .i64 (P1 : Int))) (w' := W) ?_ (hK _ _ (hJ.pure (i := 4) (by decide) (by decide) (Below.refl _ _)))
      · skip
        have e159 : A.tmps[159]?.getD undef = (.pointer (some ⟨bp, op + j, none⟩)) := (by rw [hA]; kernel_rfl : A.tmps[159]?.getD undef = us 3).trans (hJ.val 3 (by decide) (by decide) (hon 3 (by decide +kernel)))
        obtain ⟨cc1, cc2, cc3⟩ := Hmk.out W hJ.bel
        clear hA hK hon hJ
        go_simp
    · have hi' := Option.some.inj hi
      subst hi'
      refine wp_val (v := (.pointer (some ⟨w8.heap.size, 2, none⟩))) (w' := W) ?_ (hK _ _ (hJ.pure (i := 5) (by decide) (by decide) (Below.refl _ _)))
      · skip
        have e19 : A.tmps[19]?.getD undef = (.pointer (some ⟨w8.heap.size, 0, none⟩)) := by rw [hA]; kernel_rfl
        clear hA hK hon hJ
        go_simp
    · have hi' := Option.some.inj hi
      subst hi'
      refine wp_val (v := (.int .i64 (z1 : Int))) (w' := W) ?_ (hK _ _ (hJ.pure (i := 6) (by decide) (by decide) (Below.refl _ _)))
      · skip
        have e161 : A.tmps[161]?.getD undef = (.pointer (some ⟨w8.heap.size, 2, none⟩)) := (by rw [hA]; kernel_rfl : A.tmps[161]?.getD undef = us 5).trans (hJ.val 5 (by decide) (by decide) (hon 5 (by decide +kernel)))
        obtain ⟨cc1, cc2, cc3⟩ := Hmk.out W hJ.bel
        clear hA hK hon hJ
        go_simp
    · have hi' := Option.some.inj hi
      subst hi'
      refine wp_enter (f := 37) (args := #[.int .i64 P1, .int .i64 (z1 : Int)]) (w' := W) ?_ ((HM1.out W).mono ?_)
      · skip
        have e160 : A.tmps[160]?.getD undef = (.int .i64 (P1 : Int)) := (by rw [hA]; kernel_rfl : A.tmps[160]?.getD undef = us 4).trans (hJ.val 4 (by decide) (by decide) (hon 4 (by decide +kernel)))
        have e162 : A.tmps[162]?.getD undef = (.int .i64 (z1 : Int)) := (by rw [hA]; kernel_rfl : A.tmps[162]?.getD undef = us 6).trans (hJ.val 6 (by decide) (by decide) (hon 6 (by decide +kernel)))
        clear hA hK hon hJ
        go_simp
      · rintro r' wC ⟨rfl, hbC⟩
        exact ⟨_, rfl, hK _ _ (hJ.pure (i := 7) (by decide) (by decide) hbC)⟩
    · have hi' := Option.some.inj hi
      subst hi'
      refine wp_val (v := (.tuple #[.agg #[.int .i64 N5, .int .i64 (D5 : Int)], .int .i64 0])) (w' := W) ?_ (hK _ _ (hJ.pure (i := 8) (by decide) (by decide) (Below.refl _ _)))
      · skip
        have e163 : A.tmps[163]?.getD undef = (.tuple #[.agg #[.int .i64 N5, .int .i64 (D5 : Int)], .int .i64 0]) := (by rw [hA]; kernel_rfl : A.tmps[163]?.getD undef = us 7).trans (hJ.val 7 (by decide) (by decide) (hon 7 (by decide +kernel)))
        clear hA hK hon hJ
        go_simp
    · have hi' := Option.some.inj hi
      subst hi'
      refine wp_val (v := (.agg #[.int .i64 N5, .int .i64 (D5 : Int)])) (w' := W) ?_ (hK _ _ (hJ.pure (i := 9) (by decide) (by decide) (Below.refl _ _)))
      · skip
        have e155 : A.tmps[155]?.getD undef = (.tuple #[.agg #[.int .i64 N5, .int .i64 (D5 : Int)], .int .i64 0]) := (by rw [hA]; kernel_rfl : A.tmps[155]?.getD undef = us 8).trans (hJ.val 8 (by decide) (by decide) (hon 8 (by decide +kernel)))
        clear hA hK hon hJ
        go_simp
    · have hi' := Option.some.inj hi
      subst hi'
      refine wp_val (v := (.int .i64 (0 : Int))) (w' := W) ?_ (hK _ _ (hJ.pure (i := 10) (by decide) (by decide) (Below.refl _ _)))
      · skip
        have e155 : A.tmps[155]?.getD undef = (.tuple #[.agg #[.int .i64 N5, .int .i64 (D5 : Int)], .int .i64 0]) := (by rw [hA]; kernel_rfl : A.tmps[155]?.getD undef = us 8).trans (hJ.val 8 (by decide) (by decide) (hon 8 (by decide +kernel)))
        clear hA hK hon hJ
        go_simp
    · have hi' := Option.some.inj hi
      subst hi'
      refine wp_val (v := .pointer (some ⟨W.heap.size, 0, none⟩)) (w' := W.alloc (.cells #[(.int .i64 (0 : Int)), (.int .i64 (0 : Int))] 40)) ?_ (hK _ _ (hJ.alloc hnD (by decide) _ _ _))
      · skip
        clear hA hK hon hJ
        go_simp
    · have hi' := Option.some.inj hi
      subst hi'
      obtain ⟨g, x', y', hg, _, hlt, ht, _⟩ := hJ.blk (hon 11 (by decide +kernel))
      refine wp_skip (w' := (W.setCell ⟨g, 0, none⟩ (.int .i64 N5)).setCell ⟨g, 1, none⟩ (.int .i64 (D5 : Int))) ?_ (hK _ _ (hJ.store (hon 11 (by decide +kernel)) (by decide) hg undef))
      · skip
        have e29 : A.tmps[29]?.getD undef = .pointer (some ⟨g, 0, none⟩) := (by rw [hA]; kernel_rfl : A.tmps[29]?.getD undef = us 11).trans hg
        have e164 : A.tmps[164]?.getD undef = (.agg #[.int .i64 N5, .int .i64 (D5 : Int)]) := (by rw [hA]; kernel_rfl : A.tmps[164]?.getD undef = us 9).trans (hJ.val 9 (by decide) (by decide) (hon 9 (by decide +kernel)))
        have c0 := ht.c0
        have c1 := ht.c1
        have f0 := ht.f0
        have f1 := ht.f1
        clear ht
        clear hA hK hon hJ
        go_simp
    · have hi' := Option.some.inj hi
      subst hi'
      refine wp_val (v := (.int .i64 (0 : Int))) (w' := W) ?_ (hK _ _ (hJ.pure (i := 13) (by decide) (by decide) (Below.refl _ _)))
      · skip
        have e165 : A.tmps[165]?.getD undef = (.int .i64 (0 : Int)) := (by rw [hA]; kernel_rfl : A.tmps[165]?.getD undef = us 10).trans (hJ.val 10 (by decide) (by decide) (hon 10 (by decide +kernel)))
        clear hA hK hon hJ
        go_simp
  · intro us D wf hJ hall
    obtain ⟨g1, xx, yy, hg, hg1, hg2, ht, hxy⟩ := hJ.blk (hall 11 (by decide))
    obtain ⟨rfl, rfl⟩ := hxy (hall 12 (by decide))
    have hb := hJ.bel
    have bH : BoxV wf g1 [.int .i64 N5, .int .i64 (D5 : Int)] := boxV_two hg2 ht.c0 ht.c1
    have h13 : us 13 = .int .i64 0 := hJ.val 13 (by decide) (by decide) (hall 13 (by decide))
    clear hJ hall ht
    simp only [actL, slotL, putL, List.setIfInBounds_toArray, List.set_cons_zero, List.set_cons_succ, Nat.zero_add, Nat.reduceAdd, hg, h13]
    go_wp2_with fail
    replace mX := mX.below hb (Nat.le_refl _)
    replace bX := bX.below hb
    replace bS := bS.below hb
    replace mK := mK.below hb (Nat.le_refl _)
    replace mL := mL.below hb (Nat.le_refl _)
    replace bA := bA.below hb
    replace bB := bB.below hb
    replace bC := bC.below hb
    replace bD := bD.below hb
    replace i1 := i1.below hb (Nat.le_refl _)
    replace i2 := i2.below hb (Nat.le_refl _)
    replace bM := bM.below hb
    replace i3 := i3.below hb (Nat.le_refl _)
    replace i4 := i4.below hb (Nat.le_refl _)
    replace bN := bN.below hb
    replace bE := bE.below hb
    replace bF := bF.below hb
    replace bG := bG.below hb
    replace hB := hB.trans (hb.mono hB.size)
    clear hb hg h13 hlp hcp Hmk hLT
    obtain ⟨bp, op, rfl, hlp, hcp⟩ := i4.get (j := j) (by rw [HYl2.out]; exact hj)
    have hjp2 : (j : Int) < Y2.length := by rw [HYl2.out]; omega
    rw [HP2.out] at hcp
    have Hmk : Hid (∀ W, Below wf.heap.size wf W → (W.cell? ⟨w9.heap.size, 1, none⟩ = some (.slice (some ⟨bp, op, none⟩) Y2.length f2) ∧ W.cell? ⟨w9.heap.size, 2, none⟩ = some (.int .i64 (z2 : Int)) ∧ W.cell? ⟨bp, op + j, none⟩ = some (.int .i64 P2))) := fun W hG =>
      ⟨(hG.cell (p := ⟨w9.heap.size, 1, none⟩) bN.lt).trans (bN.cell 1 _ rfl), (hG.cell (p := ⟨w9.heap.size, 2, none⟩) bN.lt).trans (bN.cell 2 _ rfl), (hG.cell (p := ⟨bp, op + j, none⟩) hlp).trans hcp⟩
    have hLT := bN.lt
    refine wp_region_inv (by kernel_rfl) (by decide +kernel) (by decide +kernel) _ _ (OneJ wf 11 12 (fun k => match k with | 0 => (.pointer (some ⟨w9.heap.size, 1, none⟩)) | 1 => (.slice (some ⟨bp, op, none⟩) Y2.length f2) | 2 => (.int .i64 (j : Int)) | 3 => (.pointer (some ⟨bp, op + j, none⟩)) | 4 => (.int .i64 (P2 : Int)) | 5 => (.pointer (some ⟨w9.heap.size, 2, none⟩)) | 6 => (.int .i64 (z2 : Int)) | 7 => (.tuple #[.agg #[.int .i64 N6, .int .i64 (D6 : Int)], .int .i64 0]) | 8 => (.tuple #[.agg #[.int .i64 N6, .int .i64 (D6 : Int)], .int .i64 0]) | 9 => (.agg #[.int .i64 N6, .int .i64 (D6 : Int)]) | 10 => (.int .i64 (0 : Int)) | 13 => (.int .i64 (0 : Int)) | _ => undef) (.int .i64 N6) (.int .i64 (D6 : Int))) ?_ ?_ ?_
    · exact fun us => OneJ.start us
    · intro us D W i o A hA hi hJ hnD hon K hK
      have hlt : i < 14 := (Array.getElem?_eq_some_iff.1 hi).1
      rcases lt14r hlt with rfl | rfl | rfl | rfl | rfl | rfl | rfl | rfl | rfl | rfl | rfl | rfl | rfl | rfl
      · have hi' := Option.some.inj hi
        subst hi'
        refine wp_val (v := (.pointer (some ⟨w9.heap.size, 1, none⟩))) (w' := W) ?_ (hK _ _ (hJ.pure (i := 0) (by decide) (by decide) (Below.refl _ _)))
        · skip
          have e21 : A.tmps[21]?.getD undef = (.pointer (some ⟨w9.heap.size, 0, none⟩)) := by rw [hA]; kernel_rfl
          clear hA hK hon hJ
          go_simp
      · have hi' := Option.some.inj hi
        subst hi'
        refine wp_val (v := (.slice (some ⟨bp, op, none⟩) Y2.length f2)) (w' := W) ?_ (hK _ _ (hJ.pure (i := 1) (by decide) (by decide) (Below.refl _ _)))
        · skip
          have e167 : A.tmps[167]?.getD undef = (.pointer (some ⟨w9.heap.size, 1, none⟩)) := (by rw [hA]; kernel_rfl : A.tmps[167]?.getD undef = us 0).trans (hJ.val 0 (by decide) (by decide) (hon 0 (by decide +kernel)))
          obtain ⟨cc1, cc2, cc3⟩ := Hmk.out W hJ.bel
          clear hA hK hon hJ
          go_simp
      · have hi' := Option.some.inj hi
        subst hi'
        refine wp_val (v := (.int .i64 (j : Int))) (w' := W) ?_ (hK _ _ (hJ.pure (i := 2) (by decide) (by decide) (Below.refl _ _)))
        · skip
          have e2 : A.tmps[2]?.getD undef = (.int .i64 (j : Int)) := by rw [hA]; kernel_rfl
          clear hA hK hon hJ
          go_simp
      · have hi' := Option.some.inj hi
        subst hi'
        refine wp_val (v := (.pointer (some ⟨bp, op + j, none⟩))) (w' := W) ?_ (hK _ _ (hJ.pure (i := 3) (by decide) (by decide) (Below.refl _ _)))
        · skip
          have e168 : A.tmps[168]?.getD undef = (.slice (some ⟨bp, op, none⟩) Y2.length f2) := (by rw [hA]; kernel_rfl : A.tmps[168]?.getD undef = us 1).trans (hJ.val 1 (by decide) (by decide) (hon 1 (by decide +kernel)))
          have e169 : A.tmps[169]?.getD undef = (.int .i64 (j : Int)) := (by rw [hA]; kernel_rfl : A.tmps[169]?.getD undef = us 2).trans (hJ.val 2 (by decide) (by decide) (hon 2 (by decide +kernel)))
          clear hA hK hon hJ
          go_simp
      · have hi' := Option.some.inj hi
        subst hi'
        refine wp_val (v := (.int .i64 (P2 : Int))) (w' := W) ?_ (hK _ _ (hJ.pure (i := 4) (by decide) (by decide) (Below.refl _ _)))
        · skip
          have e170 : A.tmps[170]?.getD undef = (.pointer (some ⟨bp, op + j, none⟩)) := (by rw [hA]; kernel_rfl : A.tmps[170]?.getD undef = us 3).trans (hJ.val 3 (by decide) (by decide) (hon 3 (by decide +kernel)))
          obtain ⟨cc1, cc2, cc3⟩ := Hmk.out W hJ.bel
          clear hA hK hon hJ
          go_simp
      · have hi' := Option.some.inj hi
        subst hi'
        refine wp_val (v := (.pointer (some ⟨w9.heap.size, 2, none⟩))) (w' := W) ?_ (hK _ _ (hJ.pure (i := 5) (by decide) (by decide) (Below.refl _ _)))
        · skip
          have e21 : A.tmps[21]?.getD undef = (.pointer (some ⟨w9.heap.size, 0, none⟩)) := by rw [hA]; kernel_rfl
          clear hA hK hon hJ
          go_simp
      · have hi' := Option.some.inj hi
        subst hi'
        refine wp_val (v := (.int .i64 (z2 : Int))) (w' := W) ?_ (hK _ _ (hJ.pure (i := 6) (by decide) (by decide) (Below.refl _ _)))
        · skip
          have e172 : A.tmps[172]?.getD undef = (.pointer (some ⟨w9.heap.size, 2, none⟩)) := (by rw [hA]; kernel_rfl : A.tmps[172]?.getD undef = us 5).trans (hJ.val 5 (by decide) (by decide) (hon 5 (by decide +kernel)))
          obtain ⟨cc1, cc2, cc3⟩ := Hmk.out W hJ.bel
          clear hA hK hon hJ
          go_simp
      · have hi' := Option.some.inj hi
        subst hi'
        refine wp_enter (f := 37) (args := #[.int .i64 P2, .int .i64 (z2 : Int)]) (w' := W) ?_ ((HM2.out W).mono ?_)
        · skip
          have e171 : A.tmps[171]?.getD undef = (.int .i64 (P2 : Int)) := (by rw [hA]; kernel_rfl : A.tmps[171]?.getD undef = us 4).trans (hJ.val 4 (by decide) (by decide) (hon 4 (by decide +kernel)))
          have e173 : A.tmps[173]?.getD undef = (.int .i64 (z2 : Int)) := (by rw [hA]; kernel_rfl : A.tmps[173]?.getD undef = us 6).trans (hJ.val 6 (by decide) (by decide) (hon 6 (by decide +kernel)))
          clear hA hK hon hJ
          go_simp
        · rintro r' wC ⟨rfl, hbC⟩
          exact ⟨_, rfl, hK _ _ (hJ.pure (i := 7) (by decide) (by decide) hbC)⟩
      · have hi' := Option.some.inj hi
        subst hi'
        refine wp_val (v := (.tuple #[.agg #[.int .i64 N6, .int .i64 (D6 : Int)], .int .i64 0])) (w' := W) ?_ (hK _ _ (hJ.pure (i := 8) (by decide) (by decide) (Below.refl _ _)))
        · skip
          have e174 : A.tmps[174]?.getD undef = (.tuple #[.agg #[.int .i64 N6, .int .i64 (D6 : Int)], .int .i64 0]) := (by rw [hA]; kernel_rfl : A.tmps[174]?.getD undef = us 7).trans (hJ.val 7 (by decide) (by decide) (hon 7 (by decide +kernel)))
          clear hA hK hon hJ
          go_simp
      · have hi' := Option.some.inj hi
        subst hi'
        refine wp_val (v := (.agg #[.int .i64 N6, .int .i64 (D6 : Int)])) (w' := W) ?_ (hK _ _ (hJ.pure (i := 9) (by decide) (by decide) (Below.refl _ _)))
        · skip
          have e166 : A.tmps[166]?.getD undef = (.tuple #[.agg #[.int .i64 N6, .int .i64 (D6 : Int)], .int .i64 0]) := (by rw [hA]; kernel_rfl : A.tmps[166]?.getD undef = us 8).trans (hJ.val 8 (by decide) (by decide) (hon 8 (by decide +kernel)))
          clear hA hK hon hJ
          go_simp
      · have hi' := Option.some.inj hi
        subst hi'
        refine wp_val (v := (.int .i64 (0 : Int))) (w' := W) ?_ (hK _ _ (hJ.pure (i := 10) (by decide) (by decide) (Below.refl _ _)))
        · skip
          have e166 : A.tmps[166]?.getD undef = (.tuple #[.agg #[.int .i64 N6, .int .i64 (D6 : Int)], .int .i64 0]) := (by rw [hA]; kernel_rfl : A.tmps[166]?.getD undef = us 8).trans (hJ.val 8 (by decide) (by decide) (hon 8 (by decide +kernel)))
          clear hA hK hon hJ
          go_simp
      · have hi' := Option.some.inj hi
        subst hi'
        refine wp_val (v := .pointer (some ⟨W.heap.size, 0, none⟩)) (w' := W.alloc (.cells #[(.int .i64 (0 : Int)), (.int .i64 (0 : Int))] 40)) ?_ (hK _ _ (hJ.alloc hnD (by decide) _ _ _))
        · skip
          clear hA hK hon hJ
          go_simp
      · have hi' := Option.some.inj hi
        subst hi'
        obtain ⟨g, x', y', hg, _, hlt, ht, _⟩ := hJ.blk (hon 11 (by decide +kernel))
        refine wp_skip (w' := (W.setCell ⟨g, 0, none⟩ (.int .i64 N6)).setCell ⟨g, 1, none⟩ (.int .i64 (D6 : Int))) ?_ (hK _ _ (hJ.store (hon 11 (by decide +kernel)) (by decide) hg undef))
        · skip
          have e31 : A.tmps[31]?.getD undef = .pointer (some ⟨g, 0, none⟩) := (by rw [hA]; kernel_rfl : A.tmps[31]?.getD undef = us 11).trans hg
          have e175 : A.tmps[175]?.getD undef = (.agg #[.int .i64 N6, .int .i64 (D6 : Int)]) := (by rw [hA]; kernel_rfl : A.tmps[175]?.getD undef = us 9).trans (hJ.val 9 (by decide) (by decide) (hon 9 (by decide +kernel)))
          have c0 := ht.c0
          have c1 := ht.c1
          have f0 := ht.f0
          have f1 := ht.f1
          clear ht
          clear hA hK hon hJ
          go_simp
      · have hi' := Option.some.inj hi
        subst hi'
        refine wp_val (v := (.int .i64 (0 : Int))) (w' := W) ?_ (hK _ _ (hJ.pure (i := 13) (by decide) (by decide) (Below.refl _ _)))
        · skip
          have e176 : A.tmps[176]?.getD undef = (.int .i64 (0 : Int)) := (by rw [hA]; kernel_rfl : A.tmps[176]?.getD undef = us 10).trans (hJ.val 10 (by decide) (by decide) (hon 10 (by decide +kernel)))
          clear hA hK hon hJ
          go_simp
    · intro us D wg hJ hall
      obtain ⟨g2, xx, yy, hg, hg1, hg2, ht, hxy⟩ := hJ.blk (hall 11 (by decide))
      obtain ⟨rfl, rfl⟩ := hxy (hall 12 (by decide))
      have hb := hJ.bel
      have bI : BoxV wg g2 [.int .i64 N6, .int .i64 (D6 : Int)] := boxV_two hg2 ht.c0 ht.c1
      have h13 : us 13 = .int .i64 0 := hJ.val 13 (by decide) (by decide) (hall 13 (by decide))
      clear hJ hall ht
      simp only [actL, slotL, putL, List.setIfInBounds_toArray, List.set_cons_zero, List.set_cons_succ, Nat.zero_add, Nat.reduceAdd, hg, h13]
      replace mX := mX.below hb (Nat.le_refl _)
      replace bX := bX.below hb
      replace bS := bS.below hb
      replace mK := mK.below hb (Nat.le_refl _)
      replace mL := mL.below hb (Nat.le_refl _)
      replace bA := bA.below hb
      replace bB := bB.below hb
      replace bC := bC.below hb
      replace bD := bD.below hb
      replace i1 := i1.below hb (Nat.le_refl _)
      replace i2 := i2.below hb (Nat.le_refl _)
      replace bM := bM.below hb
      replace i3 := i3.below hb (Nat.le_refl _)
      replace i4 := i4.below hb (Nat.le_refl _)
      replace bN := bN.below hb
      replace bE := bE.below hb
      replace bF := bF.below hb
      replace bG := bG.below hb
      replace bH := bH.below hb
      replace hB := hB.trans (hb.mono hB.size)
      clear hb hg h13 hlp hcp Hmk hLT
      have kbX_0 := bX.cell 0 _ rfl
      have kbX_1 := bX.cell 1 _ rfl
      have lbX := bX.lt
      have kbS_0 := bS.cell 0 _ rfl
      have kbS_1 := bS.cell 1 _ rfl
      have lbS := bS.lt
      have kbA_0 := bA.cell 0 _ rfl
      have kbA_1 := bA.cell 1 _ rfl
      have lbA := bA.lt
      have kbB_0 := bB.cell 0 _ rfl
      have kbB_1 := bB.cell 1 _ rfl
      have lbB := bB.lt
      have kbC_0 := bC.cell 0 _ rfl
      have kbC_1 := bC.cell 1 _ rfl
      have lbC := bC.lt
      have kbD_0 := bD.cell 0 _ rfl
      have kbD_1 := bD.cell 1 _ rfl
      have lbD := bD.lt
      have kbM_0 := bM.cell 0 _ rfl
      have kbM_1 := bM.cell 1 _ rfl
      have kbM_2 := bM.cell 2 _ rfl
      have lbM := bM.lt
      have kbN_0 := bN.cell 0 _ rfl
      have kbN_1 := bN.cell 1 _ rfl
      have kbN_2 := bN.cell 2 _ rfl
      have lbN := bN.lt
      have kbE_0 := bE.cell 0 _ rfl
      have kbE_1 := bE.cell 1 _ rfl
      have lbE := bE.lt
      have kbF_0 := bF.cell 0 _ rfl
      have kbF_1 := bF.cell 1 _ rfl
      have lbF := bF.lt
      have kbG_0 := bG.cell 0 _ rfl
      have kbG_1 := bG.cell 1 _ rfl
      have lbG := bG.lt
      have kbH_0 := bH.cell 0 _ rfl
      have kbH_1 := bH.cell 1 _ rfl
      have lbH := bH.lt
      have kbI_0 := bI.cell 0 _ rfl
      have kbI_1 := bI.cell 1 _ rfl
      have lbI := bI.lt
      go_wp2_with fail
      refine (HA3.out _).mono ?_
      rintro e wh ⟨rfl, hb⟩
      clear kbX_0 kbX_1 lbX kbS_0 kbS_1 lbS kbA_0 kbA_1 lbA kbB_0 kbB_1 lbB kbC_0 kbC_1 lbC kbD_0 kbD_1 lbD kbM_0 kbM_1 kbM_2 lbM kbN_0 kbN_1 kbN_2 lbN kbE_0 kbE_1 lbE kbF_0 kbF_1 lbF kbG_0 kbG_1 lbG kbH_0 kbH_1 lbH kbI_0 kbI_1 lbI
      replace mX := mX.below hb (Nat.le_refl _)
      replace bX := bX.below hb
      replace bS := bS.below hb
      replace mK := mK.below hb (Nat.le_refl _)
      replace mL := mL.below hb (Nat.le_refl _)
      replace bA := bA.below hb
      replace bB := bB.below hb
      replace bC := bC.below hb
      replace bD := bD.below hb
      replace i1 := i1.below hb (Nat.le_refl _)
      replace i2 := i2.below hb (Nat.le_refl _)
      replace bM := bM.below hb
      replace i3 := i3.below hb (Nat.le_refl _)
      replace i4 := i4.below hb (Nat.le_refl _)
      replace bN := bN.below hb
      replace bE := bE.below hb
      replace bF := bF.below hb
      replace bG := bG.below hb
      replace bH := bH.below hb
      replace bI := bI.below hb
      replace hB := hB.trans (hb.mono hB.size)
      clear hb
      obtain ⟨WabJ, hWa⟩ : ∃ W, wh.alloc (.cells #[.int .i64 N6, .int .i64 D6] 40) = W := ⟨_, rfl⟩
      have hb := below_alloc hWa
      have bJ : BoxV WabJ wh.heap.size [.int .i64 N6, .int .i64 D6] := BoxV.new rfl hWa
      have HWabJ := Lib.hid hWa
      replace mX := mX.below hb (Nat.le_refl _)
      replace bX := bX.below hb
      replace bS := bS.below hb
      replace mK := mK.below hb (Nat.le_refl _)
      replace mL := mL.below hb (Nat.le_refl _)
      replace bA := bA.below hb
      replace bB := bB.below hb
      replace bC := bC.below hb
      replace bD := bD.below hb
      replace i1 := i1.below hb (Nat.le_refl _)
      replace i2 := i2.below hb (Nat.le_refl _)
      replace bM := bM.below hb
      replace i3 := i3.below hb (Nat.le_refl _)
      replace i4 := i4.below hb (Nat.le_refl _)
      replace bN := bN.below hb
      replace bE := bE.below hb
      replace bF := bF.below hb
      replace bG := bG.below hb
      replace bH := bH.below hb
      replace bI := bI.below hb
      replace hB := hB.trans (hb.mono hB.size)
      clear hb hWa
      go_upto_region 19 with (fail)
      rw [HWabJ.out]
      have kbX_0 := bX.cell 0 _ rfl
      have kbX_1 := bX.cell 1 _ rfl
      have lbX := bX.lt
      have kbS_0 := bS.cell 0 _ rfl
      have kbS_1 := bS.cell 1 _ rfl
      have lbS := bS.lt
      have kbA_0 := bA.cell 0 _ rfl
      have kbA_1 := bA.cell 1 _ rfl
      have lbA := bA.lt
      have kbB_0 := bB.cell 0 _ rfl
      have kbB_1 := bB.cell 1 _ rfl
      have lbB := bB.lt
      have kbC_0 := bC.cell 0 _ rfl
      have kbC_1 := bC.cell 1 _ rfl
      have lbC := bC.lt
      have kbD_0 := bD.cell 0 _ rfl
      have kbD_1 := bD.cell 1 _ rfl
      have lbD := bD.lt
      have kbM_0 := bM.cell 0 _ rfl
      have kbM_1 := bM.cell 1 _ rfl
      have kbM_2 := bM.cell 2 _ rfl
      have lbM := bM.lt
      have kbN_0 := bN.cell 0 _ rfl
      have kbN_1 := bN.cell 1 _ rfl
      have kbN_2 := bN.cell 2 _ rfl
      have lbN := bN.lt
      have kbE_0 := bE.cell 0 _ rfl
      have kbE_1 := bE.cell 1 _ rfl
      have lbE := bE.lt
      have kbF_0 := bF.cell 0 _ rfl
      have kbF_1 := bF.cell 1 _ rfl
      have lbF := bF.lt
      have kbG_0 := bG.cell 0 _ rfl
      have kbG_1 := bG.cell 1 _ rfl
      have lbG := bG.lt
      have kbH_0 := bH.cell 0 _ rfl
      have kbH_1 := bH.cell 1 _ rfl
      have lbH := bH.lt
      have kbI_0 := bI.cell 0 _ rfl
      have kbI_1 := bI.cell 1 _ rfl
      have lbI := bI.lt
      have kbJ_0 := bJ.cell 0 _ rfl
      have kbJ_1 := bJ.cell 1 _ rfl
      have lbJ := bJ.lt
      go_wp2_with fail
      refine (sameM_true (u := K) (v := K) (n := v.length) (m := v.length) HLen.out HLen.out rfl mK mL).mono ?_
      rintro e wi ⟨rfl, hw3⟩
      have hb : Below WabJ.heap.size WabJ wi := by obtain ⟨n, rfl⟩ := hw3; exact below_drewN _ _ _
      clear kbX_0 kbX_1 lbX kbS_0 kbS_1 lbS kbA_0 kbA_1 lbA kbB_0 kbB_1 lbB kbC_0 kbC_1 lbC kbD_0 kbD_1 lbD kbM_0 kbM_1 kbM_2 lbM kbN_0 kbN_1 kbN_2 lbN kbE_0 kbE_1 lbE kbF_0 kbF_1 lbF kbG_0 kbG_1 lbG kbH_0 kbH_1 lbH kbI_0 kbI_1 lbI kbJ_0 kbJ_1 lbJ
      replace mX := mX.below hb (Nat.le_refl _)
      replace bX := bX.below hb
      replace bS := bS.below hb
      replace mK := mK.below hb (Nat.le_refl _)
      replace mL := mL.below hb (Nat.le_refl _)
      replace bA := bA.below hb
      replace bB := bB.below hb
      replace bC := bC.below hb
      replace bD := bD.below hb
      replace i1 := i1.below hb (Nat.le_refl _)
      replace i2 := i2.below hb (Nat.le_refl _)
      replace bM := bM.below hb
      replace i3 := i3.below hb (Nat.le_refl _)
      replace i4 := i4.below hb (Nat.le_refl _)
      replace bN := bN.below hb
      replace bE := bE.below hb
      replace bF := bF.below hb
      replace bG := bG.below hb
      replace bH := bH.below hb
      replace bI := bI.below hb
      replace bJ := bJ.below hb
      replace hB := hB.trans (hb.mono hB.size)
      clear hb hw3
      have kbX_0 := bX.cell 0 _ rfl
      have kbX_1 := bX.cell 1 _ rfl
      have lbX := bX.lt
      have kbS_0 := bS.cell 0 _ rfl
      have kbS_1 := bS.cell 1 _ rfl
      have lbS := bS.lt
      have kbA_0 := bA.cell 0 _ rfl
      have kbA_1 := bA.cell 1 _ rfl
      have lbA := bA.lt
      have kbB_0 := bB.cell 0 _ rfl
      have kbB_1 := bB.cell 1 _ rfl
      have lbB := bB.lt
      have kbC_0 := bC.cell 0 _ rfl
      have kbC_1 := bC.cell 1 _ rfl
      have lbC := bC.lt
      have kbD_0 := bD.cell 0 _ rfl
      have kbD_1 := bD.cell 1 _ rfl
      have lbD := bD.lt
      have kbM_0 := bM.cell 0 _ rfl
      have kbM_1 := bM.cell 1 _ rfl
      have kbM_2 := bM.cell 2 _ rfl
      have lbM := bM.lt
      have kbN_0 := bN.cell 0 _ rfl
      have kbN_1 := bN.cell 1 _ rfl
      have kbN_2 := bN.cell 2 _ rfl
      have lbN := bN.lt
      have kbE_0 := bE.cell 0 _ rfl
      have kbE_1 := bE.cell 1 _ rfl
      have lbE := bE.lt
      have kbF_0 := bF.cell 0 _ rfl
      have kbF_1 := bF.cell 1 _ rfl
      have lbF := bF.lt
      have kbG_0 := bG.cell 0 _ rfl
      have kbG_1 := bG.cell 1 _ rfl
      have lbG := bG.lt
      have kbH_0 := bH.cell 0 _ rfl
      have kbH_1 := bH.cell 1 _ rfl
      have lbH := bH.lt
      have kbI_0 := bI.cell 0 _ rfl
      have kbI_1 := bI.cell 1 _ rfl
      have lbI := bI.lt
      have kbJ_0 := bJ.cell 0 _ rfl
      have kbJ_1 := bJ.cell 1 _ rfl
      have lbJ := bJ.lt
      go_wp2_with fail
      go_ret
      exact ⟨rfl, hB⟩

theorem roomRents_walk (p : Option Addr) (c : Nat) (v : List (List Int)) (r s jj : Int) (w : World) (hx : Mat w p c v) (hr64 : in64 r) (hs64 : in64 s) (hj64 : in64 jj) : Calls Try.prog 8 #[.agg #[.slice p v.length c, .int .i64 r], .int .i64 s, .int .i64 jj] w fun e w' => e = .returned (.bool true) ∧ Below w.heap.size w w' := by
  by_cases hc1 : chkR v r = 0
  · by_cases hc2 : chkR v s = 0
    · by_cases h1 : jj < 0
      · exact roomRents_off1 p c v r s jj w hx hr64 hs64 hj64 hc1 hc2 h1
      · by_cases h2 : (v.length : Int) ≤ jj
        · exact roomRents_off2 p c v r s jj w hx hr64 hs64 hj64 hc1 hc2 (by omega) h2
        · obtain ⟨j, rfl⟩ : ∃ j : Nat, jj = j := ⟨jj.toNat, by omega⟩
          exact roomRents_main p c v r s w hx hr64 hs64 j hj64 (by omega) hc1 hc2
    · exact roomRents_early2 p c v r s jj w hx hr64 hs64 hj64 hc1 hc2
  · exact roomRents_early1 p c v r s jj w hx hr64 hs64 hj64 hc1
end Go.Proofs.Ytojldecldemfaaa
