/- The walks of adjust.total, Check, Valid and Values, for goods of two agents with the same points. -/
import Derived.Test.YtmcncflieoolmaaGreatTopTopGoodsm31
import Derived.Test.YtmcncflieoolmaaGreatTopTopGoodsm4
import Derived.Test.YtmcncflieoolmaaGreatTopTopGoodsm16
import Derived.Test.YtmcncflieoolmaaGreatTopTopGoodsm3
import Derived.Test.YtmcncflieoolmaaGreatTopTopGoodsm14
import Derived.BigQuiet
import Derived.BigRegion
import Derived.Deep.RegionHeld3
import Derived.Deep.DeepCutAuto
/- The walks of adjust.total, Check, Valid and Values, for goods of two agents with the same points. -/
namespace Go.Proofs.YtmcncflieoolmaaGreat
set_option linter.unusedVariables false
set_option linter.unusedSimpArgs false
open Go.ChangeShapes Go.WideShapes Go.ChangeAt Go.RowKit Go.Deep

set_option maxHeartbeats 1600000 in
theorem ratCheckK_any (a b : Nat) (w : World) (ha2 : a ≤ 1000000000) (hb1 : 0 < b) (hb2 : b ≤ 1000000000) (hg : Nat.gcd a b = 1) :
    Calls Tryz.prog 98 #[.agg #[.int .i64 (a : Int), .int .i64 (b : Int)]] w fun e w' => e = .returned (.int .i64 0) ∧ Below w.heap.size w w' := by
  obtain ⟨W0, hW0⟩ : ∃ W, w.alloc (.cells #[.int .i64 (a : Int), .int .i64 (b : Int)] 50) = W := ⟨_, rfl⟩
  have hB := below_alloc hW0
  have bX : BoxV W0 w.heap.size [.int .i64 (a : Int), .int .i64 (b : Int)] := BoxV.new rfl hW0
  have HW0 := Lib.hid hW0
  clear hW0
  have k0 := bX.cell 0 _ rfl
  have k1 := bX.cell 1 _ rfl
  have d1 : decide ((b : Int) < 1) = false := by simp; omega
  have d2 : decide ((1000000000000000000 : Int) < if a < b then (b : Int) else (a : Int)) = false := by rw [decide_eq_false_iff_not]; split <;> omega
  have d3 : decide ((1000000000000000000 : Int) < max (a : Int) (b : Int)) = false := by rw [decide_eq_false_iff_not]; omega
  have ub : IntKind.u64.wrap (b : Int) = b := wrap_u (by omega)
  have A1 := Lib.hid (fun W => (by have := size_any (a : Int) W (by omega) (by omega); rw [Int.natAbs_natCast] at this; exact this : Calls Tryz.prog 95 #[.int .i64 (a : Int)] W fun e w' => e = .returned (.int .u64 (a : Int)) ∧ w' = W))
  have G1 := Lib.hid (fun W => (hg ▸ rgcd_any a b W (by omega) (by omega) : Calls Tryz.prog 96 #[.int .u64 (a : Int), .int .u64 (b : Int)] W fun e w' => e = .returned (.int .u64 ((1 : Nat) : Int)) ∧ ∃ n, w' = W.drewN n))
  have Hg := Lib.hid hg
  clear hg
  go_enter Tryz.func98, Tryz.ntmps98
  go_wp2_with fail
  rw [HW0.out]
  go_quiet (first | (go_at_call 95; exact Calls.quiet_of_same (A1.out _)) | (go_at_call 96; exact Calls.quiet_of ((G1.out _))))
  go_wp2_with fail
  all_goals
    go_ret
    exact ⟨rfl, hB.drewN' _⟩

set_option maxHeartbeats 1600000 in
theorem adjTotal_any (p : Option Addr) (c : Nat) (xs : List Int) (w : World) (hx : Ints w p c xs) (h10 : xs.length ≤ 10) (hr : ∀ j, j < xs.length → 0 ≤ iget xs j ∧ iget xs j ≤ 1000) :
    Calls Tryz.prog 92 #[.slice p xs.length c] w fun e w' => e = .returned (.int .i64 (sumUp xs xs.length)) ∧ w' = w := by
  have hs : ∀ k, k ≤ xs.length → 0 ≤ sumUp xs k ∧ sumUp xs k ≤ 1000 * k := by
    intro k
    induction k with
    | zero => intro _; simp [sumUp]
    | succ k ih => intro hk; have := ih (by omega); have := hr k (by omega); rw [sumUp]; omega
  have Hs := Lib.hid hs
  have Hb := Lib.hid hr
  clear hs hr
  go_enter Tryz.func92, Tryz.ntmps92
  go_wp2_with fail
  go_loop [3, 8] (fun s t => ∃ k : Nat, k ≤ xs.length ∧ t = .int .i64 k ∧ s = .int .i64 (sumUp xs k)) (fun _ t => xs.length - (intOf t).toNat)
  case atStart => exact ⟨0, Nat.zero_le _, rfl, rfl⟩
  case round =>
    obtain ⟨k, hk, rfl, rfl⟩ := hrel
    by_cases hlt : k < xs.length
    · have hk1 : (k : Int) < xs.length := by omega
      obtain ⟨b3, o3, rfl, _, hc3⟩ := hx.get hlt
      have hr1 := Hs.out k (by omega)
      have hr2 := Hb.out k hlt
      have Hst : Hid (sumUp xs (k + 1) = sumUp xs k + iget xs k) := rfl
      have hk10 : k ≤ 10 := by omega
      generalize sumUp xs k = y at *
      generalize iget xs k = z at *
      go_wp2_with fail
      go_round
      case rel => exact ⟨k + 1, by omega, by go_num, by rw [Hst.out]⟩
      case measure => (simp [intOf] <;> omega)
    · have hk1 : ¬ (k : Int) < xs.length := by omega
      obtain rfl : k = xs.length := by omega
      go_wp2_with fail
      go_ret
      exact ⟨rfl, rfl⟩

set_option maxHeartbeats 800000 in
set_option maxRecDepth 100000 in
theorem adjCheck_any (p : Option Addr) (c : Nat) (v : List (List Int)) (w : World) (hx : Mat w p c v) (hg : Gds v) (h2 : v.length = 2) (hall : allG v 0 = allG v 1) (hnz : allG v 0 ≠ 0) :
    Calls Tryz.prog 51 #[.agg #[.slice p v.length c]] w fun e w' => e = .returned (.int .i64 0) ∧ Below w.heap.size w w' := by
  obtain ⟨W0, hW0⟩ : ∃ W0, w.alloc (.cells #[.slice p v.length c] 24) = W0 := ⟨_, rfl⟩
  have hB : Below w.heap.size w W0 := below_alloc hW0
  have bX : BoxV W0 w.heap.size [.slice p v.length c] := BoxV.new rfl hW0
  have hx := hx.below hB (Nat.le_refl _)
  have HC := goodsCheck_any p c v W0 hx
  rw [chkG_ok hg] at HC
  have HC := Lib.hid HC
  have h22 : ((v.length : Int) != 2) = false := by rw [h2]; rfl
  have hl0 : 0 < v.length := by omega
  have hl1 : 1 < v.length := by omega
  have hl0z : (0 : Int) < v.length := by omega
  have hl1z : (1 : Int) < v.length := by omega
  obtain ⟨b, o, rfl, hbl, q0, d0, hc0, hi0⟩ := hx.get hl0
  obtain ⟨b', o', e', _, q1, d1, hc1, hi1⟩ := hx.get hl1
  cases e'
  rw [Nat.add_zero] at hc0
  have HBl := Lib.hid hbl
  clear hbl
  have hm10 := hg.2.2.1
  have hv0 := hg.2.2.2 0 hl0
  have hv1 := hg.2.2.2 1 hl1
  have T0 := Lib.hid (fun W (h : Below W0.heap.size W0 W) => (by
    have := adjTotal_any q0 d0 (rget v 0) W (hi0.below h (Nat.le_refl _)) (by omega) hv0.2
    exact this : Calls Tryz.prog 92 #[.slice q0 (rget v 0).length d0] W fun e w' => e = .returned (.int .i64 (allG v 0)) ∧ w' = W))
  have T1 := Lib.hid (fun W (h : Below W0.heap.size W0 W) => (by
    have := adjTotal_any q1 d1 (rget v 1) W (hi1.below h (Nat.le_refl _)) (by omega) hv1.2
    exact this : Calls Tryz.prog 92 #[.slice q1 (rget v 1).length d1] W fun e w' => e = .returned (.int .i64 (allG v 1)) ∧ w' = W))
  rw [← hall] at T1
  obtain ⟨y, ey⟩ : ∃ y, allG v 0 = y := ⟨_, rfl⟩
  rw [ey] at T0 T1 hnz
  have hyz : (y == 0) = false := by rw [beq_eq_false_iff_ne]; exact hnz
  have hyy : (y != y) = false := by simp
  have x00 := bX.cell 0 _ rfl
  have HW0 := Lib.hid hW0
  have HX0 := Lib.hid hc0
  have HX1 := Lib.hid hc1
  clear hW0 hx h2 hall hnz ey hi0 hi1 hv0 hv1 hm10 hg hc0 hc1
  go_enter Tryz.func51, Tryz.ntmps51
  go_wp2_with fail
  rw [HW0.out]
  refine HC.out.mono ?_
  rintro e w1 ⟨rfl, hb1⟩
  have x0 := (hb1.cell (p := ⟨w.heap.size, 0, none⟩) (bX.lt)).trans x00
  have hc0 := (hb1.cell (p := ⟨b, o, none⟩) HBl.out).trans HX0.out
  have hc1 := (hb1.cell (p := ⟨b, o + 1, none⟩) HBl.out).trans HX1.out
  have t0 := fun k => T0.out (w1.drewN k) (hb1.drewP ⟨k, rfl⟩)
  have t1 := fun k => T1.out (w1.drewN k) (hb1.drewP ⟨k, rfl⟩)
  have t00 := T0.out w1 hb1
  have HB1 := Lib.hid hb1
  have X0 := Lib.hid x00
  clear hb1 x00
  go_wp2_with fail
  refine t00.mono ?_
  rintro e w2 ⟨rfl, rfl⟩
  clear t00
  go_wp2_with fail
  go_quiet ((go_at_call 92; first | (with_reducible exact Calls.quiet_of_same (t0 _)) | (with_reducible exact Calls.quiet_of_same (t1 _))))
  go_wp2_with fail
  go_ret
  exact ⟨rfl, hB.trans (((HB1.out.drewP ⟨_, rfl⟩)).mono hB.size)⟩
end Go.Proofs.YtmcncflieoolmaaGreat
