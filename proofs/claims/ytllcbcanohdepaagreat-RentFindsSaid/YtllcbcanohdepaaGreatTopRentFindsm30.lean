/- The walk of the reference's Range, for every flat and room. -/
import Derived.Test.YtllcbcanohdepaaGreatTopRentFindsm10
import Derived.Deep.DeepCutAuto
import Derived.Test.YtllcbcanohdepaaGreatTopRentFindsm27
import Derived.Test.YtllcbcanohdepaaGreatTopRentFindsm29
import Derived.Test.YtllcbcanohdepaaGreatTopRentFindsm9
import Derived.Test.YtllcbcanohdepaaGreatTopRentFindsm13
/- The walk of the reference's Range, for every flat and room. -/
namespace Go.Proofs.YtllcbcanohdepaaGreat
set_option linter.unusedVariables false
set_option linter.unusedSimpArgs false
open Go.ChangeShapes Go.WideShapes Go.ChangeAt Go.RowKit Go.Deep

set_option maxHeartbeats 8000000 in
set_option maxRecDepth 100000 in
theorem refRange_any (p : Option Addr) (c : Nat) (v : List (List Int)) (r j : Int) (w : World) (hx : Mat w p c v) (hj64 : in64 j) :
    Calls Tryz.prog 32 #[.agg #[.slice p v.length c, .int .i64 r], .int .i64 j] w fun e w' => e = .returned (.tuple #[rngLo v r j, rngHi v r j, .int .i64 (rngE v r j)]) ∧ Below w.heap.size w w' := by
  obtain ⟨W0, hW0⟩ : ∃ W0, ((w.alloc (.cells #[.slice p v.length c, .int .i64 r] 24)).alloc (.cells #[.int .i64 0, .int .i64 0] 37)).alloc (.cells #[.int .i64 0, .int .i64 0] 37) = W0 := ⟨_, rfl⟩
  have hb0 : Below w.heap.size w W0 := by rw [← hW0]; exact (((Below.refl _ _).alloc (Nat.le_refl _) _).alloc (by simp) _).alloc (by simp; omega) _
  have hx1 := hx.below hb0 (Nat.le_refl _)
  have hs0 : W0.heap.size = w.heap.size + 3 := by rw [← hW0]; simp
  have ha : Two W0 (w.heap.size + 1) (.int .i64 0) (.int .i64 0) := by
    rw [← hW0]
    exact (Two.new (w := w.alloc (.cells #[.slice p v.length c, .int .i64 r] 24)) (by simp) rfl).below (B := w.heap.size + 2) ((Below.refl _ _).alloc (by simp) _) (by omega)
  have hb : Two W0 (w.heap.size + 2) (.int .i64 0) (.int .i64 0) := Two.new (by simp) hW0.symm
  have hbox : ∀ k, W0.cell? ⟨w.heap.size, k, none⟩ = #[.slice p v.length c, .int .i64 r][k]? := by
    intro k
    rw [← hW0]
    exact ((((Below.refl (w.heap.size + 1) _).alloc (by simp) _).alloc (by simp) _).cell (p := ⟨w.heap.size, k, none⟩) (by simp)).trans (World.cell?_alloc_at _ _ _ _ rfl)
  have hbx0 : W0.cell? ⟨w.heap.size, 0, none⟩ = some (.slice p v.length c) := hbox 0
  have hbx1 : W0.cell? ⟨w.heap.size, 1, none⟩ = some (.int .i64 r) := hbox 1
  clear hbox
  have HW0 := Lib.hid hW0
  have Hs0 := Lib.hid hs0
  clear hW0 hs0
  obtain ⟨hj1, hj2⟩ := hj64
  go_enter Tryz.func32, Tryz.ntmps32
  go_wp2_with fail
  rw [HW0.out]
  refine (refLinks_any p c v r _ hx1).mono ?_
  rintro e w1 ⟨q, d, Q, D, rfl, hD, hb1⟩
  have hB1 := hb0.trans (hb1.mono hb0.size)
  have ha1 := ha.below hb1 (by have := Hs0.out; omega)
  have hbb1 := hb.below hb1 (by have := Hs0.out; omega)
  have hbx := (hb1.cell (p := ⟨w.heap.size, 1, none⟩) (by have := Hs0.out; simp only; omega)).trans hbx1
  have hs1 : w.heap.size + 3 ≤ w1.heap.size := by have := hb1.size; have := Hs0.out; omega
  have hM := hD.mat
  clear hD hb0 hb1 ha hb hbx0 hbx1 hx1
  by_cases hF : chkR v r = 0
  · have hcz : (chkR v r != 0) = false := by rw [hF]; rfl
    obtain ⟨hv, hr1, hr2⟩ := chkR_zero.1 hF
    have hLL : linksL v r = linkL v (bestA v) := by unfold linksL; rw [if_pos hF]
    have hll : (linkL v (bestA v)).length = v.length := linkL_len _ _
    rw [hLL] at hM
    rw [hLL, hll]
    have Hll := Lib.hid hll
    clear hLL hll
    by_cases hjn : 0 ≤ j ∧ j < v.length
    · obtain ⟨k0, rfl⟩ : ∃ k0 : Nat, j = k0 := ⟨j.toNat, by omega⟩
      have hjk : k0 < v.length := by omega
      have hjl : decide ((k0 : Int) < 0) = false := by simp
      have hjg : decide ((v.length : Int) ≤ (k0 : Int)) = false := by simp; omega
      obtain ⟨e1, e2, e3⟩ := rng_in hF hjk
      have E1 := Lib.hid e1
      have E2 := Lib.hid e2
      have E3 := Lib.hid e3
      have h6 := hv.2.1
      have h0 := hv.1
      have HF := Lib.hid hF
      have Hv := Lib.hid hv
      have hA1 := Lib.hid ha1
      have hBB := Lib.hid hbb1
      clear e1 e2 e3 hF hv hjn ha1 hbb1
      go_wp2_with fail
      go_loop [9, 10, 11] (fun s t i => ∃ k : Nat, k ≤ v.length ∧ i = .int .i64 k ∧ s = .int .i64 (r - lowI v r k0 k) ∧ t = .int .i64 (r - highI v r k0 k)) (fun _ _ i => v.length - (intOf i).toNat)
      case atStart => exact ⟨0, Nat.zero_le _, rfl, by simp [lowI, sumTo], by simp [highI, sumTo]⟩
      case round =>
        obtain ⟨k, hk, rfl, rfl, rfl⟩ := hrel
        have b1 := lowI_bd Hv.out hr1 hr2 hjk hk
        have b2 := highI_bd Hv.out hr1 hr2 hjk hk
        by_cases hlt : k < v.length
        · have hk1 : (k : Int) < v.length := by omega
          obtain ⟨b, o, rfl, _, q1, d1, hc1, hi1⟩ := hM.get (j := k) (by rw [Hll.out]; exact hlt)
          obtain ⟨q2, d2, hc2, hi2⟩ := hM.at (j := k0) (by rw [Hll.out]; exact hjk)
          have hl1 := linkL_row_len (v := v) (a := bestA v) hlt
          have hl2 := linkL_row_len (v := v) (a := bestA v) hjk
          obtain ⟨b3, o3, rfl, _, hc3⟩ := hi1.get (j := k0) (by rw [hl1]; exact hjk)
          obtain ⟨b4, o4, rfl, _, hc4⟩ := hi2.get (j := k) (by rw [hl2]; exact hlt)
          rw [hl1] at hc1
          rw [hl2] at hc2
          have r1 := linkL_bd Hv.out hlt hjk
          have r2 := linkL_bd Hv.out hjk hlt
          have S1 := Lib.hid (lowI_succ v r k0 k)
          have S2 := Lib.hid (highI_succ v r k0 k)
          unfold bid at r1 r2 S1 S2
          obtain ⟨y1, e1⟩ : ∃ y, iget (rget (linkL v (bestA v)) k) k0 = y := ⟨_, rfl⟩
          obtain ⟨y2, e2⟩ : ∃ y, iget (rget (linkL v (bestA v)) k0) k = y := ⟨_, rfl⟩
          rw [e1] at hc3 r1 S1
          rw [e2] at hc4 r2 S2
          obtain ⟨L1, e3⟩ : ∃ y, lowI v r k0 k = y := ⟨_, rfl⟩
          obtain ⟨L2, e4⟩ : ∃ y, highI v r k0 k = y := ⟨_, rfl⟩
          rw [e3] at b1 S1 ⊢
          rw [e4] at b2 S2 ⊢
          clear e1 e2 e3 e4 hl1 hl2
          go_wp2_with fail
          go_round
          case rel => exact ⟨k + 1, by omega, by go_num, by rw [S1.out]; congr 1; omega, by rw [S2.out]; congr 1; omega⟩
          case measure => simp [intOf]; omega
        · have hk1 : ¬ (k : Int) < v.length := by omega
          obtain rfl : k = v.length := by omega
          have hrr1 : r - (r - lowI v r k0 v.length) = lowI v r k0 v.length := by omega
          have hrr2 : r - (r - highI v r k0 v.length) = highI v r k0 v.length := by omega
          clear hM
          go_wp2_with fail
          refine (refMake_any _ v.length _ (by omega) (by omega) h0 (by omega)).mono ?_
          rintro e w3 ⟨rfl, hb3⟩
          unfold ratV
          obtain ⟨W3, hW3⟩ : ∃ W3, w3.alloc (.cells #[.int .i64 (rN (lowI v r k0 v.length) v.length), .int .i64 (rD (lowI v r k0 v.length) v.length)] 37) = W3 := ⟨_, rfl⟩
          have hb3' : Below w1.heap.size w1 W3 := by rw [← hW3]; exact hb3.alloc hb3.size _
          have hs5 : W3.heap.size = w3.heap.size + 1 := by rw [← hW3]; simp
          have hC3 : Two W3 w3.heap.size (.int .i64 (rN (lowI v r k0 v.length) v.length)) (.int .i64 (rD (lowI v r k0 v.length) v.length)) := Two.new rfl hW3.symm
          have hA3 := hA1.out.below hb3' (by omega)
          have hB3 := hBB.out.below hb3' (by omega)
          have hW1 := hB1.trans (hb3'.mono (by omega))
          have hbx3 := (hb3.cell (p := ⟨w.heap.size, 1, none⟩) (by simp only; omega)).trans hbx
          have hbl3 : w.heap.size < w3.heap.size := by have := hb3.size; omega
          have hs6 : w1.heap.size ≤ w3.heap.size := hb3.size
          have HW3 := Lib.hid hW3
          clear hb3 hb3' hW3 hrr1 hbx
          go_wp2_with fail
          rw [HW3.out]
          refine (refMake_any (highI v r k0 v.length) v.length W3 (by omega) (by omega) h0 (by omega)).mono ?_
          rintro e w4 ⟨rfl, hb4⟩
          unfold ratV
          obtain ⟨W4, hW4⟩ : ∃ W4, w4.alloc (.cells #[.int .i64 (rN (highI v r k0 v.length) v.length), .int .i64 (rD (highI v r k0 v.length) v.length)] 37) = W4 := ⟨_, rfl⟩
          have hb4' : Below W3.heap.size W3 W4 := by rw [← hW4]; exact hb4.alloc hb4.size _
          have hD4 : Two W4 w4.heap.size (.int .i64 (rN (highI v r k0 v.length) v.length)) (.int .i64 (rD (highI v r k0 v.length) v.length)) := Two.new rfl hW4.symm
          have hC4 := hC3.below hb4' (by omega)
          have HA4 := Lib.hid (hA3.below hb4' (by omega))
          have HB4 := Lib.hid (hB3.below hb4' (by omega))
          have HW4 := Lib.hid (hW1.trans (hb4'.mono (by omega)))
          have HWW := Lib.hid hW4
          have hs7 : W3.heap.size ≤ w4.heap.size := hb4.size
          have n1 : ¬ w.heap.size + 1 = w4.heap.size := by omega
          have n2 : ¬ w4.heap.size = w.heap.size + 1 := by omega
          have n3 : ¬ w.heap.size + 1 + 1 = w3.heap.size := by omega
          have n4 : ¬ w3.heap.size = w.heap.size + 1 + 1 := by omega
          clear hb4 hb4' hW4 hrr2 hbx3 hA3 hB3 hC3
          go_upto_region 15 with (fail)
          rw [HWW.out]
          obtain ⟨x0, x1, y0, y1⟩ := HA4.out
          obtain ⟨z0, z1, t0, t1⟩ := HB4.out
          obtain ⟨p0, p1, _, _⟩ := hC4
          obtain ⟨q0, q1, _, _⟩ := hD4
          go_region
          all_goals
            go_wp2_with fail
            clear x0 x1 y0 y1 z0 z1 t0 t1
            obtain ⟨hA5, hB5⟩ := four HA4.out HB4.out (.int .i64 (rN (lowI v r k0 v.length) v.length)) (.int .i64 (rD (lowI v r k0 v.length) v.length)) (.int .i64 (rN (highI v r k0 v.length) v.length)) (.int .i64 (rD (highI v r k0 v.length) v.length))
            obtain ⟨x0, x1, _, _⟩ := hA5
            obtain ⟨z0, z1, _, _⟩ := hB5
            refine bodyPost_ret (v := .tuple #[ratV (lowI v r k0 v.length) v.length, ratV (highI v r k0 v.length) v.length, .int .i64 0]) (by simp [results, Tryz.results32, go_sem, x0, x1, z0, z1, ratV]) rfl ⟨?_, ?_⟩
            · rw [E1.out, E2.out, E3.out]
            · exact (below_four HW4.out _ _ _ _).drew
    · have E := rng_off hF hjn
      have E1 := Lib.hid E.1
      have E2 := Lib.hid E.2.1
      have E3 := Lib.hid E.2.2
      have hs2 : w.heap.size + 3 ≤ w1.heap.size := hs1
      have HA := Lib.hid ha1
      have HB := Lib.hid hbb1
      have HW := Lib.hid hB1
      obtain ⟨x0, x1, y0, y1⟩ := ha1
      obtain ⟨z0, z1, t0, t1⟩ := hbb1
      by_cases hneg : j < 0
      · have hjl : decide (j < 0) = true := by simpa using hneg
        clear E hF hjn hB1
        go_wp2_with fail
        clear x0 x1 y0 y1 z0 z1 t0 t1
        obtain ⟨hA5, hB5⟩ := four HA.out HB.out (.int .i64 0) (.int .i64 0) (.int .i64 0) (.int .i64 0)
        obtain ⟨x0, x1, _, _⟩ := hA5
        obtain ⟨z0, z1, _, _⟩ := hB5
        refine bodyPost_ret (v := .tuple #[zeroR, zeroR, .int .i64 2]) (by simp [results, Tryz.results32, go_sem, x0, x1, z0, z1, zeroR]) rfl ⟨?_, ?_⟩
        · rw [E1.out, E2.out, E3.out]
        · exact below_four HW.out _ _ _ _
      · have hjl : decide (j < 0) = false := by simpa using hneg
        have hjg : (v.length : Int) ≤ j := by omega
        clear E hF hjn hB1
        go_wp2_with fail
        clear x0 x1 y0 y1 z0 z1 t0 t1
        obtain ⟨hA5, hB5⟩ := four HA.out HB.out (.int .i64 0) (.int .i64 0) (.int .i64 0) (.int .i64 0)
        obtain ⟨x0, x1, _, _⟩ := hA5
        obtain ⟨z0, z1, _, _⟩ := hB5
        refine bodyPost_ret (v := .tuple #[zeroR, zeroR, .int .i64 2]) (by simp [results, Tryz.results32, go_sem, x0, x1, z0, z1, zeroR]) rfl ⟨?_, ?_⟩
        · rw [E1.out, E2.out, E3.out]
        · exact below_four HW.out _ _ _ _
  · have hcz : (chkR v r != 0) = true := by rw [bne_iff_ne]; exact hF
    have E := rng_bad (j := j) hF
    have E1 := Lib.hid E.1
    have E2 := Lib.hid E.2.1
    have E3 := Lib.hid E.2.2
    have HA := Lib.hid ha1
    have HB := Lib.hid hbb1
    have HW := Lib.hid hB1
    obtain ⟨x0, x1, y0, y1⟩ := ha1
    obtain ⟨z0, z1, t0, t1⟩ := hbb1
    clear E hF hB1
    go_wp2_with fail
    clear x0 x1 y0 y1 z0 z1 t0 t1
    obtain ⟨hA5, hB5⟩ := four HA.out HB.out (.int .i64 0) (.int .i64 0) (.int .i64 0) (.int .i64 0)
    obtain ⟨x0, x1, _, _⟩ := hA5
    obtain ⟨z0, z1, _, _⟩ := hB5
    refine bodyPost_ret (v := .tuple #[zeroR, zeroR, .int .i64 (chkR v r)]) (by simp [results, Tryz.results32, go_sem, x0, x1, z0, z1, zeroR]) rfl ⟨?_, ?_⟩
    · rw [E1.out, E2.out, E3.out]
    · exact below_four HW.out _ _ _ _
end Go.Proofs.YtllcbcanohdepaaGreat

/- The walks of the reference's Of, Neg, Sub and Stake.  (Printed by wip/genstaker.py.) -/
namespace Go.Proofs.YtllcbcanohdepaaGreat
set_option linter.unusedVariables false
set_option linter.unusedSimpArgs false
open Go.ChangeShapes Go.WideShapes Go.ChangeAt Go.RowKit Go.Deep

theorem rs8 {i : Nat} (h : i < 8) : i = 0 ∨ i = 1 ∨ i = 2 ∨ i = 3 ∨ i = 4 ∨ i = 5 ∨ i = 6 ∨ i = 7 := by omega
set_option maxHeartbeats 800000 in
theorem of_any (n : Int) (w : World) : Calls Tryz.prog 33 #[.int .i64 n] w fun e w' => e = .returned (.agg #[.int .i64 n, .int .i64 1]) ∧ Below w.heap.size w w' := by
  have hb : Below w.heap.size w (w.alloc (.cells #[.int .i64 n, .int .i64 1] 37)) := (Below.refl _ _).alloc (Nat.le_refl _) _
  go_enter Tryz.func33, Tryz.ntmps33
  go_wp2_with fail
  exact bodyPost_ret (v := .agg #[.int .i64 n, .int .i64 1]) (by simp [results, Tryz.results33, go_sem]) rfl ⟨rfl, hb⟩
set_option maxHeartbeats 800000 in
theorem neg_any (a : Int) (b : Int) (w : World) (ha : -9000000000000000000 ≤ a ∧ a ≤ 9000000000000000000) : Calls Tryz.prog 59 #[.agg #[.int .i64 a, .int .i64 b]] w fun e w' => e = .returned (.agg #[.int .i64 (-a), .int .i64 b]) ∧ Below w.heap.size w w' := by
  obtain ⟨Wx, hWx⟩ : ∃ W, w.alloc (.cells #[.int .i64 a, .int .i64 b] 37) = W := ⟨_, rfl⟩
  obtain ⟨W0, hW0⟩ : ∃ W, Wx.alloc (.cells #[.int .i64 0, .int .i64 0] 37) = W := ⟨_, rfl⟩
  have hB1 := below_alloc hWx
  have hB2 := below_alloc hW0
  have hs : Wx.heap.size = w.heap.size + 1 := by rw [← hWx]; simp
  have tX : Two W0 w.heap.size (.int .i64 a) (.int .i64 b) := (Two.new rfl hWx.symm).below hB2 (by omega)
  have tR : Two W0 (w.heap.size + 1) (.int .i64 0) (.int .i64 0) := Two.new hs hW0.symm
  have hB : Below w.heap.size w W0 := hB1.trans (hB2.mono hB1.size)
  have t2 : Two (W0.setCell ⟨w.heap.size, 0, none⟩ (.int .i64 (-a))) w.heap.size (.int .i64 (-a)) (.int .i64 b) := ⟨World.cell?_setCell_same _ _ _ tX.c0, (World.cell?_setCell_other _ _ _ _ (by simp)).trans tX.c1, by rw [World.frozen?_setCell]; exact tX.f0, by rw [World.frozen?_setCell]; exact tX.f1⟩
  have tR2 : Two (W0.setCell ⟨w.heap.size, 0, none⟩ (.int .i64 (-a))) (w.heap.size + 1) (.int .i64 0) (.int .i64 0) := tR.far (by omega)
  have hwA : IntKind.i64.wrap (-a) = -a := IntWalk.i64_in _ (by omega)
  have Hfin := Lib.hid (tR2.put (u := .int .i64 (-a)) (v := .int .i64 b))
  have HWx := Lib.hid hWx
  have HW0 := Lib.hid hW0
  obtain ⟨x0, x1, f0, f1⟩ := tX
  obtain ⟨y0, y1, g0, g1⟩ := t2
  obtain ⟨z0, z1, h0, h1⟩ := tR2
  clear hWx hW0 hB1 hB2 hs tR
  go_enter Tryz.func59, Tryz.ntmps59
  go_upto_region 1 with (fail)
  rw [HWx.out, HW0.out]
  go_wp2_with fail
  clear x0 x1 f0 f1 y0 y1 g0 g1 z0 z1 h0 h1
  obtain ⟨j0, j1, _, _⟩ := Hfin.out
  exact bodyPost_ret (v := .agg #[.int .i64 (-a), .int .i64 b]) (by simp [results, Tryz.results59, go_sem, j0, j1]) rfl ⟨rfl, ((hB.setCell (p := ⟨w.heap.size, 0, none⟩) (Nat.le_refl _) _).setCell (p := ⟨w.heap.size + 1, 0, none⟩) (by simp only; omega) _).setCell (p := ⟨w.heap.size + 1, 1, none⟩) (by simp only; omega) _⟩
set_option maxHeartbeats 4000000 in
set_option maxRecDepth 100000 in
theorem refSub_any (y x : Int) (n : Nat) (w : World) (hn : 0 < n) (h6 : n ≤ 6) (hy : -10000000 ≤ y ∧ y ≤ 10000000) (hx : -100000000 ≤ x ∧ x ≤ 100000000) :
    Calls Tryz.prog 34 #[.agg #[.int .i64 y, .int .i64 1], .agg #[.int .i64 (rN x n), .int .i64 (rD x n)]] w fun e w' => e = .returned (.tuple #[.agg #[.int .i64 (rN (y * n - x) n), .int .i64 (rD (y * n - x) n)], .int .i64 0]) ∧ Below w.heap.size w w' := by
  have a1 := rN_bd (x := x) (d := n) (M := 100000000) (by omega) (by omega)
  have a2 := rD_pos (x := x) hn
  have a3 := rD_le (x := x) (d := n)
  have hq1 : SmallQ y 1 := ⟨by omega, by omega, by omega, by omega, Nat.gcd_one_right _⟩
  have hq2 : SmallQ (rN x n) (n / rG x n) := ⟨by omega, by omega, by omega, by omega, rat_cop hn⟩
  have hq3 : SmallQ (-rN x n) (n / rG x n) := ⟨by omega, by omega, by omega, by omega, by rw [Int.natAbs_neg]; exact rat_cop hn⟩
  have hR : rN (y * ((n / rG x n : Nat) : Int) + -rN x n * ((1 : Nat) : Int)) (1 * (n / rG x n)) = rN (y * n - x) n ∧ rD (y * ((n / rG x n : Nat) : Int) + -rN x n * ((1 : Nat) : Int)) (1 * (n / rG x n)) = rD (y * n - x) n := by
    have h1 := rN_mul (x := x) hn
    have h2 := rD_mul (x := x) (d := n)
    have hD : rD x n = ((n / rG x n : Nat) : Int) := rfl
    have hg : (0 : Int) < (rG x n : Nat) := by have := rG_pos (x := x) hn; omega
    rw [Nat.one_mul]
    refine rat_eq a2 hn ?_
    rw [← hD]
    generalize rN x n = p at *
    generalize rD x n = q at *
    generalize ((rG x n : Nat) : Int) = g at *
    rw [← h1, ← h2]
    push_cast
    grind
  have HBo := Lib.hid (fun W => refBoth_any y (rN x n) 1 (n / rG x n) W hq1 hq2)
  have HNg0 := fun W => neg_any (rN x n) (rD x n) W ⟨by omega, by omega⟩
  have HAd0 := fun W => refAdd_any y (-rN x n) 1 (n / rG x n) W hq1 hq3
  unfold ratV at HAd0
  rw [hR.1, hR.2] at HAd0
  have hD : rD x n = ((n / rG x n : Nat) : Int) := rfl
  rw [← hD] at HAd0 HBo
  obtain ⟨R1, hR1⟩ : ∃ R, rN (y * n - x) n = R := ⟨_, rfl⟩
  obtain ⟨R2, hR2⟩ : ∃ R, rD (y * n - x) n = R := ⟨_, rfl⟩
  rw [hR1, hR2] at HAd0 ⊢
  generalize rN x n = a at *
  generalize rD x n = b at *
  have HNg := Lib.hid HNg0
  have HAd : Hid (∀ W, Calls Tryz.prog 58 #[.agg #[.int .i64 y, .int .i64 1], .agg #[.int .i64 (-a), .int .i64 b]] W fun r w' => r = .returned (.tuple #[.agg #[.int .i64 R1, .int .i64 R2], .int .i64 0]) ∧ Below W.heap.size W w') := HAd0
  obtain ⟨Wx, hWx⟩ : ∃ W, w.alloc (.cells #[.int .i64 y, .int .i64 1] 37) = W := ⟨_, rfl⟩
  obtain ⟨Wy, hWy⟩ : ∃ W, Wx.alloc (.cells #[.int .i64 a, .int .i64 b] 37) = W := ⟨_, rfl⟩
  obtain ⟨W0, hW0⟩ : ∃ W, Wy.alloc (.cells #[.int .i64 0, .int .i64 0] 37) = W := ⟨_, rfl⟩
  have hB1 := below_alloc hWx
  have hB2 := below_alloc hWy
  have hB3 := below_alloc hW0
  have hs1 : Wx.heap.size = w.heap.size + 1 := by rw [← hWx]; simp
  have hs2 : Wy.heap.size = w.heap.size + 1 + 1 := by rw [← hWy]; simp; omega
  have hs3 : W0.heap.size = w.heap.size + 3 := by rw [← hW0]; simp; omega
  have bX : BoxV W0 w.heap.size [.int .i64 y, .int .i64 1] := ((BoxV.new rfl hWx).below hB2).below hB3
  have bY : BoxV W0 (w.heap.size + 1) [.int .i64 a, .int .i64 b] := (BoxV.new hs1 hWy).below hB3
  have tR : Two W0 (w.heap.size + 1 + 1) (.int .i64 0) (.int .i64 0) := Two.new hs2 hW0.symm
  have hB : Below w.heap.size w W0 := (hB1.trans (hB2.mono hB1.size)).trans (hB3.mono (by omega))
  have HWx := Lib.hid hWx
  have HWy := Lib.hid hWy
  have HW0 := Lib.hid hW0
  have k0 := bX.cell 0 _ rfl
  have k1 := bX.cell 1 _ rfl
  have m0 := bY.cell 0 _ rfl
  have m1 := bY.cell 1 _ rfl
  clear hWx hWy hW0 hB1 hB2 hB3 hs1 hs2 bX bY HNg0 HAd0 hR hR1 hR2 hD hq1 hq2 hq3 a1 a2 a3
  go_enter Tryz.func34, Tryz.ntmps34
  go_wp2_with fail
  rw [HWx.out, HWy.out, HW0.out]
  refine (HBo.out _).mono ?_
  rintro e w1 ⟨rfl, hb⟩
  replace tR := tR.below hb (by omega)
  replace k0 := (hb.cell (p := ⟨w.heap.size, 0, none⟩) (by simp only; omega)).trans k0
  replace k1 := (hb.cell (p := ⟨w.heap.size, 1, none⟩) (by simp only; omega)).trans k1
  replace m0 := (hb.cell (p := ⟨w.heap.size + 1, 0, none⟩) (by simp only; omega)).trans m0
  replace m1 := (hb.cell (p := ⟨w.heap.size + 1, 1, none⟩) (by simp only; omega)).trans m1
  replace hB := hB.trans (hb.mono hB.size)
  have hsz : w.heap.size + 3 ≤ w1.heap.size := by have := hb.size; omega
  have hRB : w.heap.size + 1 + 1 < w1.heap.size := by omega
  have hbR : w.heap.size ≤ w.heap.size + 1 + 1 := by omega
  have hb0 : w.heap.size ≤ w1.heap.size := by omega
  have Hmk : Hid (∀ W : World, (∀ S k, S < w1.heap.size → S ≠ w.heap.size + 1 + 1 → W.cell? ⟨S, k, none⟩ = w1.cell? ⟨S, k, none⟩) → W.cell? ⟨w.heap.size, 0, none⟩ = some (.int .i64 y) ∧ W.cell? ⟨w.heap.size, 1, none⟩ = some (.int .i64 1) ∧ W.cell? ⟨w.heap.size + 1, 0, none⟩ = some (.int .i64 a) ∧ W.cell? ⟨w.heap.size + 1, 1, none⟩ = some (.int .i64 b)) := fun W hf =>
    ⟨(hf _ 0 (by omega) (by omega)).trans k0, (hf _ 1 (by omega) (by omega)).trans k1, (hf _ 0 (by omega) (by omega)).trans m0, (hf _ 1 (by omega) (by omega)).trans m1⟩
  clear hb k0 k1 m0 m1
  go_upto_region 3 with (fail)
  refine wp_region_inv (by kernel_rfl) (by decide +kernel) (by decide +kernel) _ _ (PutJ w.heap.size w1 (w.heap.size + 1 + 1) 6 (fun kk => match kk with | 0 => (.agg #[.int .i64 y, .int .i64 1]) | 1 => (.agg #[.int .i64 a, .int .i64 b]) | 2 => (.agg #[.int .i64 (-a), .int .i64 b]) | 3 => (.tuple #[(.agg #[.int .i64 R1, .int .i64 R2]), .int .i64 0]) | 4 => (.agg #[.int .i64 R1, .int .i64 R2]) | 5 => (.int .i64 0) | 7 => (.int .i64 0) | _ => undef) (.int .i64 0) (.int .i64 0) (.int .i64 R1) (.int .i64 R2)) ?_ ?_ ?_
  · exact fun us => PutJ.start us hRB tR
  · intro us D W i o A hA hi hJ hnD hon K hK
    have hlt : i < 8 := (Array.getElem?_eq_some_iff.1 hi).1
    rcases rs8 hlt with rfl | rfl | rfl | rfl | rfl | rfl | rfl | rfl
    · have hi' := Option.some.inj hi
      subst hi'
      refine wp_val (v := (.agg #[.int .i64 y, .int .i64 1])) (w' := W) ?_ (hK _ _ (hJ.pure (i := 0) (by decide) hb0 hRB (Below.refl _ _)))
      · skip
        have e2 : A.tmps[2]?.getD undef = (.pointer (some ⟨w.heap.size, 0, none⟩)) := by rw [hA]; kernel_rfl
        obtain ⟨cc0, cc1, cc2, cc3⟩ := Hmk.out W hJ.far
        clear hA hK hon hJ
        go_simp
    · have hi' := Option.some.inj hi
      subst hi'
      refine wp_val (v := (.agg #[.int .i64 a, .int .i64 b])) (w' := W) ?_ (hK _ _ (hJ.pure (i := 1) (by decide) hb0 hRB (Below.refl _ _)))
      · skip
        have e3 : A.tmps[3]?.getD undef = (.pointer (some ⟨w.heap.size + 1, 0, none⟩)) := by rw [hA]; kernel_rfl
        obtain ⟨cc0, cc1, cc2, cc3⟩ := Hmk.out W hJ.far
        clear hA hK hon hJ
        go_simp
    · have hi' := Option.some.inj hi
      subst hi'
      refine wp_enter (f := 59) (args := #[(.agg #[.int .i64 a, .int .i64 b])]) (w' := W) ?_ ((HNg.out W).mono ?_)
      · skip
        have e15 : A.tmps[15]?.getD undef = (.agg #[.int .i64 a, .int .i64 b]) := (by rw [hA]; kernel_rfl : A.tmps[15]?.getD undef = us 1).trans (hJ.val 1 (by decide) (hon 1 (by decide +kernel)))
        clear hA hK hon hJ
        go_simp
      · rintro r' wC ⟨rfl, hbC⟩
        exact ⟨_, rfl, hK _ _ (hJ.pure (i := 2) (by decide) hb0 hRB hbC)⟩
    · have hi' := Option.some.inj hi
      subst hi'
      refine wp_enter (f := 58) (args := #[(.agg #[.int .i64 y, .int .i64 1]), (.agg #[.int .i64 (-a), .int .i64 b])]) (w' := W) ?_ ((HAd.out W).mono ?_)
      · skip
        have e14 : A.tmps[14]?.getD undef = (.agg #[.int .i64 y, .int .i64 1]) := (by rw [hA]; kernel_rfl : A.tmps[14]?.getD undef = us 0).trans (hJ.val 0 (by decide) (hon 0 (by decide +kernel)))
        have e16 : A.tmps[16]?.getD undef = (.agg #[.int .i64 (-a), .int .i64 b]) := (by rw [hA]; kernel_rfl : A.tmps[16]?.getD undef = us 2).trans (hJ.val 2 (by decide) (hon 2 (by decide +kernel)))
        clear hA hK hon hJ
        go_simp
      · rintro r' wC ⟨rfl, hbC⟩
        exact ⟨_, rfl, hK _ _ (hJ.pure (i := 3) (by decide) hb0 hRB hbC)⟩
    · have hi' := Option.some.inj hi
      subst hi'
      refine wp_val (v := (.agg #[.int .i64 R1, .int .i64 R2])) (w' := W) ?_ (hK _ _ (hJ.pure (i := 4) (by decide) hb0 hRB (Below.refl _ _)))
      · skip
        have e17 : A.tmps[17]?.getD undef = (.tuple #[(.agg #[.int .i64 R1, .int .i64 R2]), .int .i64 0]) := (by rw [hA]; kernel_rfl : A.tmps[17]?.getD undef = us 3).trans (hJ.val 3 (by decide) (hon 3 (by decide +kernel)))
        clear hA hK hon hJ
        go_simp
    · have hi' := Option.some.inj hi
      subst hi'
      refine wp_val (v := (.int .i64 0)) (w' := W) ?_ (hK _ _ (hJ.pure (i := 5) (by decide) hb0 hRB (Below.refl _ _)))
      · skip
        have e17 : A.tmps[17]?.getD undef = (.tuple #[(.agg #[.int .i64 R1, .int .i64 R2]), .int .i64 0]) := (by rw [hA]; kernel_rfl : A.tmps[17]?.getD undef = us 3).trans (hJ.val 3 (by decide) (hon 3 (by decide +kernel)))
        clear hA hK hon hJ
        go_simp
    · have hi' := Option.some.inj hi
      subst hi'
      have ht := hJ.two hnD
      refine wp_skip (w' := (W.setCell ⟨w.heap.size + 1 + 1, 0, none⟩ (.int .i64 R1)).setCell ⟨w.heap.size + 1 + 1, 1, none⟩ (.int .i64 R2)) ?_ (hK _ _ (hJ.store hnD hbR undef))
      · skip
        have e4 : A.tmps[4]?.getD undef = (.pointer (some ⟨w.heap.size + 1 + 1, 0, none⟩)) := by rw [hA]; kernel_rfl
        have e18 : A.tmps[18]?.getD undef = (.agg #[.int .i64 R1, .int .i64 R2]) := (by rw [hA]; kernel_rfl : A.tmps[18]?.getD undef = us 4).trans (hJ.val 4 (by decide) (hon 4 (by decide +kernel)))
        have c0 := ht.c0
        have c1 := ht.c1
        have f0 := ht.f0
        have f1 := ht.f1
        clear ht
        clear hA hK hon hJ
        go_simp
    · have hi' := Option.some.inj hi
      subst hi'
      refine wp_val (v := (.int .i64 0)) (w' := W) ?_ (hK _ _ (hJ.pure (i := 7) (by decide) hb0 hRB (Below.refl _ _)))
      · skip
        have e19 : A.tmps[19]?.getD undef = (.int .i64 0) := (by rw [hA]; kernel_rfl : A.tmps[19]?.getD undef = us 5).trans (hJ.val 5 (by decide) (hon 5 (by decide +kernel)))
        clear hA hK hon hJ
        go_simp
  · intro us D w2 hJ hall
    have t2 := hJ.put (hall 6 (by decide))
    have u7 : us 7 = (.int .i64 0) := hJ.val 7 (by decide) (hall 7 (by decide))
    have hb2 := hJ.bel
    clear hJ hall Hmk
    simp only [actL, slotL, putL, List.setIfInBounds_toArray, List.set_cons_zero, List.set_cons_succ, Nat.zero_add, Nat.reduceAdd, u7]
    clear u7
    obtain ⟨x0, x1, _, _⟩ := t2
    go_wp2_with fail
    exact bodyPost_ret (v := .tuple #[.agg #[.int .i64 R1, .int .i64 R2], .int .i64 0]) (by simp [results, Tryz.results34, go_sem, x0, x1]) rfl ⟨rfl, hB.trans hb2⟩
set_option maxHeartbeats 8000000 in
set_option maxRecDepth 100000 in
theorem refStake_any (p : Option Addr) (c : Nat) (v : List (List Int)) (r g : Int) (w : World) (hx : Mat w p c v) (hg64 : in64 g) :
    Calls Tryz.prog 14 #[.agg #[.slice p v.length c, .int .i64 r], .int .i64 g] w fun e w' => e = .returned (.tuple #[skLo v r g, skHi v r g, .int .i64 (skE v r g)]) ∧ Below w.heap.size w w' := by
  obtain ⟨Wx, hWx⟩ : ∃ W, w.alloc (.cells #[.slice p v.length c, .int .i64 r] 24) = W := ⟨_, rfl⟩
  obtain ⟨Wy, hWy⟩ : ∃ W, Wx.alloc (.cells #[.int .i64 0, .int .i64 0] 37) = W := ⟨_, rfl⟩
  obtain ⟨W0, hW0⟩ : ∃ W, Wy.alloc (.cells #[.int .i64 0, .int .i64 0] 37) = W := ⟨_, rfl⟩
  have hB1 := below_alloc hWx
  have hB2 := below_alloc hWy
  have hB3 := below_alloc hW0
  have hs1 : Wx.heap.size = w.heap.size + 1 := by rw [← hWx]; simp
  have hs2 : Wy.heap.size = w.heap.size + 1 + 1 := by rw [← hWy]; simp; omega
  have hs3 : W0.heap.size = w.heap.size + 3 := by rw [← hW0]; simp; omega
  have bX : BoxV W0 w.heap.size [.slice p v.length c, .int .i64 r] := ((BoxV.new rfl hWx).below hB2).below hB3
  have ta : Two W0 (w.heap.size + 1) (.int .i64 0) (.int .i64 0) := (Two.new hs1 hWy.symm).below hB3 (by omega)
  have tb : Two W0 (w.heap.size + 1 + 1) (.int .i64 0) (.int .i64 0) := Two.new hs2 hW0.symm
  have hB : Below w.heap.size w W0 := (hB1.trans (hB2.mono hB1.size)).trans (hB3.mono (by omega))
  have mX := hx.below hB (Nat.le_refl _)
  have HWx := Lib.hid hWx
  have HWy := Lib.hid hWy
  have HW0 := Lib.hid hW0
  have cx0 := bX.cell 0 _ rfl
  have cx1 := bX.cell 1 _ rfl
  clear hWx hWy hW0 hB1 hB2 hB3 hs1 hs2 hx
  go_enter Tryz.func14, Tryz.ntmps14
  go_wp2_with fail
  rw [HWx.out, HWy.out, HW0.out]
  refine (refCheckR_any p c v r _ mX).mono ?_
  rintro e w1 ⟨rfl, hb⟩
  replace ta := ta.below hb (by omega)
  replace tb := tb.below hb (by omega)
  replace mX := mX.below hb (Nat.le_refl _)
  replace bX := bX.below hb
  replace cx0 := bX.cell 0 _ rfl
  replace cx1 := bX.cell 1 _ rfl
  have hsz : w.heap.size + 3 ≤ w1.heap.size := by have := hb.size; omega
  replace hB := hB.trans (hb.mono hB.size)
  clear hb hs3
  by_cases hF : chkR v r = 0
  · have hcz : (chkR v r != 0) = false := by rw [hF]; rfl
    obtain ⟨hv, hr1, hr2⟩ := chkR_zero.1 hF
    have h0 := hv.1
    have h6 := hv.2.1
    have HA := Lib.hid (bestA_best hv.1).1
    by_cases hin : 0 ≤ g ∧ g < v.length
    · obtain ⟨k0, rfl⟩ : ∃ k : Nat, g = k := ⟨g.toNat, by omega⟩
      have hk : k0 < v.length := by omega
      have E := sk_in (v := v) (r := r) hF hk
      have E1 := Lib.hid E.1
      have E2 := Lib.hid E.2.1
      have E3 := Lib.hid E.2.2
      obtain ⟨hi1, hi2⟩ := isA_lt HA.out k0 hk
      obtain ⟨x, hxx⟩ : ∃ x : Nat, iget (bestA v) k0 = (x : Int) := ⟨(iget (bestA v) k0).toNat, by omega⟩
      have hitx : itm (bestA v) k0 = x := by simp [itm, hxx]
      have hxl : x < v.length := by omega
      have HLo : Hid (stLo v r k0 = bid v k0 x * v.length - highI v r x v.length) := by unfold Hid stLo; rw [hitx]
      have HHi : Hid (stHi v r k0 = bid v k0 x * v.length - lowI v r x v.length) := by unfold Hid stHi; rw [hitx]
      have hy := (hv.2.2 k0 hk).2 x hxl
      have Hrg : ∀ W, Mat W p c v → Calls Tryz.prog 32 #[.agg #[.slice p v.length c, .int .i64 r], .int .i64 (x : Int)] W fun e w' => e = .returned (.tuple #[ratV (lowI v r x v.length) v.length, ratV (highI v r x v.length) v.length, .int .i64 0]) ∧ Below W.heap.size W w' := fun W h => by
        have h2 := refRange_any p c v r x W h ⟨by omega, by omega⟩
        obtain ⟨r1, r2, r3⟩ := rng_in (r := r) hF hxl
        rw [r1, r2, r3] at h2
        exact h2
      have hlo := lowI_bd hv hr1 hr2 hxl (Nat.le_refl v.length)
      have hhi := highI_bd hv hr1 hr2 hxl (Nat.le_refl v.length)
      have HF := Lib.hid hF
      have Hv := Lib.hid hv
      generalize lowI v r x v.length = lo at *
      generalize highI v r x v.length = hh at *
      have HY : Hid (bid v k0 x = iget (rget v k0) x) := rfl
      unfold ratV at Hrg
      have HRg := Lib.hid Hrg
      have Hrl := Lib.hid (hv.2.2 k0 hk).1
      have hneg : decide ((k0 : Int) < 0) = false := by simp
      have hge' : decide (v.length ≤ k0) = false := by simp; omega
      have hge : ¬ (v.length : Int) ≤ k0 := by omega
      have hneg' : ¬ (k0 : Int) < 0 := by omega
      have HB := Lib.hid hB
      have Hta := Lib.hid ta
      have Htb := Lib.hid tb
      clear E hF hv Hrg ta tb hB hitx
      go_wp2_with fail
      refine (most_okR p c v w1 mX Hv.out).mono ?_
      rintro e w2 ⟨pa, ca, rfl, hAo, hb⟩
      obtain ⟨ba, oa, rfl, _, hca⟩ := hAo.ints.get (j := k0) (by rw [HA.out.1]; exact hk)
      rw [hxx] at hca
      replace mX := mX.below hb (Nat.le_refl _)
      replace bX := bX.below hb
      replace cx0 := bX.cell 0 _ rfl
      replace cx1 := bX.cell 1 _ rfl
      have HB := Lib.hid (HB.out.trans (hb.mono (by omega)))
      have Hta := Lib.hid (Hta.out.below hb (by omega))
      have Htb := Lib.hid (Htb.out.below hb (by omega))
      have hszb := hb.size
      have hk1 : (k0 : Int) < v.length := by omega
      clear hb hAo hxx
      go_wp2_with fail
      refine (HRg.out _ mX).mono ?_
      rintro e w3 ⟨rfl, hb⟩
      clear hca
      obtain ⟨W4a, hW4a⟩ : ∃ W, w3.alloc (.cells #[.int .i64 (rN lo v.length), .int .i64 (rD lo v.length)] 37) = W := ⟨_, rfl⟩
      obtain ⟨W4, hW4⟩ : ∃ W, W4a.alloc (.cells #[.int .i64 (rN hh v.length), .int .i64 (rD hh v.length)] 37) = W := ⟨_, rfl⟩
      have b1 := below_alloc hW4a
      have b2 := below_alloc hW4
      have s1 : W4a.heap.size = w3.heap.size + 1 := by rw [← hW4a]; simp
      have bLo : BoxV W4 w3.heap.size [.int .i64 (rN lo v.length), .int .i64 (rD lo v.length)] := (BoxV.new rfl hW4a).below b2
      have bHi : BoxV W4 (w3.heap.size + 1) [.int .i64 (rN hh v.length), .int .i64 (rD hh v.length)] := BoxV.new s1 hW4
      have hb4 := hb.trans ((b1.trans (b2.mono b1.size)).mono hb.size)
      replace mX := mX.below hb4 (Nat.le_refl _)
      replace bX := bX.below hb4
      replace cx0 := bX.cell 0 _ rfl
      replace cx1 := bX.cell 1 _ rfl
      have HB := Lib.hid (HB.out.trans (hb4.mono (by omega)))
      have Hta := Lib.hid (Hta.out.below hb4 (by omega))
      have Htb := Lib.hid (Htb.out.below hb4 (by omega))
      have hsz4 := hb4.size
      have HW4a := Lib.hid hW4a
      have HW4 := Lib.hid hW4
      clear hb b1 b2 s1 hb4 hW4a hW4
      go_upto_region 7 with (fail)
      rw [HW4a.out, HW4.out]
      obtain ⟨b, o, rfl, _, q1, d1, hc, hi⟩ := mX.get hk
      obtain ⟨b1, o1, rfl, _, hc1⟩ := hi.get (j := x) (by rw [Hrl.out]; omega)
      have hxrl : (x : Int) < (rget v k0).length := by rw [Hrl.out]; omega
      generalize iget (rget v k0) x = y at *
      clear hi
      go_wp2_with fail
      refine (of_any y _).mono ?_
      rintro e w5 ⟨rfl, hb⟩
      clear hc hc1 cx0 cx1 mX bX
      obtain ⟨W6, hW6⟩ : ∃ W, w5.alloc (.cells #[.int .i64 y, .int .i64 1] 37) = W := ⟨_, rfl⟩
      have bV : BoxV W6 w5.heap.size [.int .i64 y, .int .i64 1] := BoxV.new rfl hW6
      have hb6 := hb.trans ((below_alloc hW6).mono hb.size)
      replace bLo := bLo.below hb6
      replace bHi := bHi.below hb6
      have HB := Lib.hid (HB.out.trans (hb6.mono (by omega)))
      have Hta := Lib.hid (Hta.out.below hb6 (by omega))
      have Htb := Lib.hid (Htb.out.below hb6 (by omega))
      have hsz6 := hb6.size
      have HW6 := Lib.hid hW6
      clear hb hb6 hW6
      go_upto_region 8 with (fail)
      rw [HW6.out]
      have v0 := bV.cell 0 _ rfl
      have v1 := bV.cell 1 _ rfl
      have u0 := bHi.cell 0 _ rfl
      have u1 := bHi.cell 1 _ rfl
      go_wp2_with fail
      refine (refSub_any y hh v.length _ (by omega) (by omega) (by omega) (by omega)).mono ?_
      rintro e w7 ⟨rfl, hb⟩
      clear v0 v1 u0 u1
      obtain ⟨W8, hW8⟩ : ∃ W, w7.alloc (.cells #[.int .i64 (rN (y * v.length - hh) v.length), .int .i64 (rD (y * v.length - hh) v.length)] 37) = W := ⟨_, rfl⟩
      have bR : BoxV W8 w7.heap.size [.int .i64 (rN (y * v.length - hh) v.length), .int .i64 (rD (y * v.length - hh) v.length)] := BoxV.new rfl hW8
      have hb8 := hb.trans ((below_alloc hW8).mono hb.size)
      replace bLo := bLo.below hb8
      replace bV := bV.below hb8
      have HB := Lib.hid (HB.out.trans (hb8.mono (by omega)))
      have Hta := Lib.hid (Hta.out.below hb8 (by omega))
      have Htb := Lib.hid (Htb.out.below hb8 (by omega))
      have hsz8 := hb8.size
      have hsz7 := hb.size
      have HW8 := Lib.hid hW8
      clear hb hb8 hW8
      go_upto_region 9 with (fail)
      rw [HW8.out]
      have v0 := bV.cell 0 _ rfl
      have v1 := bV.cell 1 _ rfl
      have u0 := bLo.cell 0 _ rfl
      have u1 := bLo.cell 1 _ rfl
      go_wp2_with fail
      refine (refSub_any y lo v.length _ (by omega) (by omega) (by omega) (by omega)).mono ?_
      rintro e w9 ⟨rfl, hb⟩
      clear v0 v1 u0 u1
      obtain ⟨Wa, hWa⟩ : ∃ W, w9.alloc (.cells #[.int .i64 (rN (y * v.length - lo) v.length), .int .i64 (rD (y * v.length - lo) v.length)] 37) = W := ⟨_, rfl⟩
      have bQ : BoxV Wa w9.heap.size [.int .i64 (rN (y * v.length - lo) v.length), .int .i64 (rD (y * v.length - lo) v.length)] := BoxV.new rfl hWa
      have hba := hb.trans ((below_alloc hWa).mono hb.size)
      replace bR := bR.below hba
      have HB := Lib.hid (HB.out.trans (hba.mono (by omega)))
      have ta := Hta.out.below hba (by omega)
      have tb := Htb.out.below hba (by omega)
      have HA1 := Lib.hid ta
      have HC1 := Lib.hid tb
      have hsz9 := hb.size
      have HWa := Lib.hid hWa
      clear hb hba hWa
      go_upto_region 10 with (fail)
      rw [HWa.out]
      have kA0 := bR.cell 0 _ rfl
      have kA1 := bR.cell 1 _ rfl
      have kB0 := bQ.cell 0 _ rfl
      have kB1 := bQ.cell 1 _ rfl
      obtain ⟨x0, x1, y0, y1⟩ := ta
      obtain ⟨z0, z1, t0, t1⟩ := tb
      have hn7 : w.heap.size + 3 ≤ w7.heap.size := by omega
      have hn9 : w.heap.size + 3 ≤ w9.heap.size := by omega
      go_region
      all_goals
        go_wp2_with fail
        clear x0 x1 y0 y1 z0 z1 t0 t1
        obtain ⟨hA5, hB5⟩ := four HA1.out HC1.out (.int .i64 (rN (y * v.length - hh) v.length)) (.int .i64 (rD (y * v.length - hh) v.length)) (.int .i64 (rN (y * v.length - lo) v.length)) (.int .i64 (rD (y * v.length - lo) v.length))
        obtain ⟨x0, x1, _, _⟩ := hA5
        obtain ⟨z0, z1, _, _⟩ := hB5
        refine bodyPost_ret (v := .tuple #[ratV (y * v.length - hh) v.length, ratV (y * v.length - lo) v.length, .int .i64 0]) (by simp [results, Tryz.results14, go_sem, x0, x1, z0, z1, ratV]) rfl ⟨?_, ?_⟩
        · rw [E1.out, E2.out, E3.out, HLo.out, HHi.out, HY.out]
        · exact (below_four' HB.out (by omega) _ _ _ _).drew
    · have E := sk_off (v := v) (r := r) hF hin
      have E1 := Lib.hid E.1
      have E2 := Lib.hid E.2.1
      have E3 := Lib.hid E.2.2
      have HA1 := Lib.hid ta
      have HC := Lib.hid tb
      have HW := Lib.hid hB
      obtain ⟨x0, x1, y0, y1⟩ := ta
      obtain ⟨z0, z1, t0, t1⟩ := tb
      by_cases hneg : g < 0
      · have hjl : decide (g < 0) = true := by simpa using hneg
        clear E hF hB mX hin hv bX
        go_wp2_with fail
        clear x0 x1 y0 y1 z0 z1 t0 t1
        obtain ⟨hA5, hB5⟩ := four HA1.out HC.out (.int .i64 0) (.int .i64 0) (.int .i64 0) (.int .i64 0)
        obtain ⟨x0, x1, _, _⟩ := hA5
        obtain ⟨z0, z1, _, _⟩ := hB5
        refine bodyPost_ret (v := .tuple #[zeroR, zeroR, .int .i64 2]) (by simp [results, Tryz.results14, go_sem, x0, x1, z0, z1, zeroR]) rfl ⟨?_, ?_⟩
        · rw [E1.out, E2.out, E3.out]
        · exact below_four' HW.out (by omega) _ _ _ _
      · have hjl : decide (g < 0) = false := by simpa using hneg
        have hjg : (v.length : Int) ≤ g := by omega
        clear E hF hB mX hin hv bX
        go_wp2_with fail
        clear x0 x1 y0 y1 z0 z1 t0 t1
        obtain ⟨hA5, hB5⟩ := four HA1.out HC.out (.int .i64 0) (.int .i64 0) (.int .i64 0) (.int .i64 0)
        obtain ⟨x0, x1, _, _⟩ := hA5
        obtain ⟨z0, z1, _, _⟩ := hB5
        refine bodyPost_ret (v := .tuple #[zeroR, zeroR, .int .i64 2]) (by simp [results, Tryz.results14, go_sem, x0, x1, z0, z1, zeroR]) rfl ⟨?_, ?_⟩
        · rw [E1.out, E2.out, E3.out]
        · exact below_four' HW.out (by omega) _ _ _ _
  · have hcz : (chkR v r != 0) = true := by rw [bne_iff_ne]; exact hF
    have E := sk_bad (g := g) hF
    have E1 := Lib.hid E.1
    have E2 := Lib.hid E.2.1
    have E3 := Lib.hid E.2.2
    clear E hF
    go_wp2_with fail
    refine (refCheckR_any p c v r _ mX).mono ?_
    rintro e w2 ⟨rfl, hb⟩
    replace ta := ta.below hb (by omega)
    replace tb := tb.below hb (by omega)
    have HA := Lib.hid ta
    have HC := Lib.hid tb
    have HW := Lib.hid (hB.trans (hb.mono hB.size))
    obtain ⟨x0, x1, y0, y1⟩ := ta
    obtain ⟨z0, z1, t0, t1⟩ := tb
    clear hb hB mX bX cx0 cx1
    go_wp2_with fail
    clear x0 x1 y0 y1 z0 z1 t0 t1
    obtain ⟨hA5, hB5⟩ := four HA.out HC.out (.int .i64 0) (.int .i64 0) (.int .i64 0) (.int .i64 0)
    obtain ⟨x0, x1, _, _⟩ := hA5
    obtain ⟨z0, z1, _, _⟩ := hB5
    refine bodyPost_ret (v := .tuple #[zeroR, zeroR, .int .i64 (chkR v r)]) (by simp [results, Tryz.results14, go_sem, x0, x1, z0, z1, zeroR]) rfl ⟨?_, ?_⟩
    · rw [E1.out, E2.out, E3.out]
    · exact below_four' HW.out (by omega) _ _ _ _

end Go.Proofs.YtllcbcanohdepaaGreat
