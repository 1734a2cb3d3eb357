/- The walk of the reference's Range, for every flat and room. -/
import Derived.Test.YtojldecldemfaaaTopRoomFreem10
import Derived.Deep.DeepCutAuto
/- The walk of the reference's Range, for every flat and room. -/
namespace Go.Proofs.Ytojldecldemfaaa
set_option linter.unusedVariables false
set_option linter.unusedSimpArgs false
open Go.ChangeShapes Go.WideShapes Go.ChangeAt Go.RowKit Go.Deep

set_option maxHeartbeats 8000000 in
set_option maxRecDepth 100000 in
theorem refRange_any (p : Option Addr) (c : Nat) (v : List (List Int)) (r j : Int) (w : World) (hx : Mat w p c v) (hj64 : in64 j) :
    Calls Try.prog 16 #[.agg #[.slice p v.length c, .int .i64 r], .int .i64 j] w fun e w' => e = .returned (.tuple #[rngLo v r j, rngHi v r j, .int .i64 (rngE v r j)]) ∧ Below w.heap.size w w' := by
  obtain ⟨W0, hW0⟩ : ∃ W0, ((w.alloc (.cells #[.slice p v.length c, .int .i64 r] 24)).alloc (.cells #[.int .i64 0, .int .i64 0] 40)).alloc (.cells #[.int .i64 0, .int .i64 0] 40) = W0 := ⟨_, rfl⟩
  have hb0 : Below w.heap.size w W0 := by rw [← hW0]; exact (((Below.refl _ _).alloc (Nat.le_refl _) _).alloc (by simp) _).alloc (by simp; omega) _
  have hx1 := hx.below hb0 (Nat.le_refl _)
  have hs0 : W0.heap.size = w.heap.size + 3 := by rw [← hW0]; simp
  have ha : Two W0 (w.heap.size + 1) (.int .i64 0) (.int .i64 0) := by
    rw [← hW0]
    exact (Two.new (w := w.alloc (.cells #[.slice p v.length c, .int .i64 r] 24)) (by simp) rfl).below (B := w.heap.size + 2) ((Below.refl _ _).alloc (by simp) _) (by omega)
  have hb : Two W0 (w.heap.size + 2) (.int .i64 0) (.int .i64 0) := Two.new (by simp) hW0.symm
  have hbox : ∀ k, W0.cell? ⟨w.heap.size, k, none⟩ = #[.slice p v.length c, .int .i64 r][k]? := by
    intro k
    rw [← hW0]
    exact ((((Below.refl (w.heap.size + 1) _).alloc (by simp) _).alloc (by simp) _).cell (p := ⟨w.heap.size, k, none⟩) (by simp)).trans (World.cell?_alloc_at _ _ _ _ rfl)
  have hbx0 : W0.cell? ⟨w.heap.size, 0, none⟩ = some (.slice p v.length c) := hbox 0
  have hbx1 : W0.cell? ⟨w.heap.size, 1, none⟩ = some (.int .i64 r) := hbox 1
  clear hbox
  have HW0 := Lib.hid hW0
  have Hs0 := Lib.hid hs0
  clear hW0 hs0
  obtain ⟨hj1, hj2⟩ := hj64
  go_enter Try.func16, Try.ntmps16
  go_wp2_with fail
  rw [HW0.out]
  refine (refLinks_any p c v r _ hx1).mono ?_
  rintro e w1 ⟨q, d, Q, D, rfl, hD, hb1⟩
  have hB1 := hb0.trans (hb1.mono hb0.size)
  have ha1 := ha.below hb1 (by have := Hs0.out; omega)
  have hbb1 := hb.below hb1 (by have := Hs0.out; omega)
  have hbx := (hb1.cell (p := ⟨w.heap.size, 1, none⟩) (by have := Hs0.out; simp only; omega)).trans hbx1
  have hs1 : w.heap.size + 3 ≤ w1.heap.size := by have := hb1.size; have := Hs0.out; omega
  have hM := hD.mat
  clear hD hb0 hb1 ha hb hbx0 hbx1 hx1
  by_cases hF : chkR v r = 0
  · have hcz : (chkR v r != 0) = false := by rw [hF]; rfl
    obtain ⟨hv, hr1, hr2⟩ := chkR_zero.1 hF
    have hLL : linksL v r = linkL v (bestA v) := by unfold linksL; rw [if_pos hF]
    have hll : (linkL v (bestA v)).length = v.length := linkL_len _ _
    rw [hLL] at hM
    rw [hLL, hll]
    have Hll := Lib.hid hll
    clear hLL hll
    by_cases hjn : 0 ≤ j ∧ j < v.length
    · obtain ⟨k0, rfl⟩ : ∃ k0 : Nat, j = k0 := ⟨j.toNat, by omega⟩
      have hjk : k0 < v.length := by omega
      have hjl : decide ((k0 : Int) < 0) = false := by simp
      have hjg : decide ((v.length : Int) ≤ (k0 : Int)) = false := by simp; omega
      obtain ⟨e1, e2, e3⟩ := rng_in hF hjk
      have E1 := Lib.hid e1
      have E2 := Lib.hid e2
      have E3 := Lib.hid e3
      have h6 := hv.2.1
      have h0 := hv.1
      have HF := Lib.hid hF
      have Hv := Lib.hid hv
      have hA1 := Lib.hid ha1
      have hBB := Lib.hid hbb1
      clear e1 e2 e3 hF hv hjn ha1 hbb1
      go_wp2_with fail
      go_loop [9, 10, 11] (fun s t i => ∃ k : Nat, k ≤ v.length ∧ i = .int .i64 k ∧ s = .int .i64 (r - lowI v r k0 k) ∧ t = .int .i64 (r - highI v r k0 k)) (fun _ _ i => v.length - (intOf i).toNat)
      case atStart => exact ⟨0, Nat.zero_le _, rfl, by simp [lowI, sumTo], by simp [highI, sumTo]⟩
      case round =>
        obtain ⟨k, hk, rfl, rfl, rfl⟩ := hrel
        have b1 := lowI_bd Hv.out hr1 hr2 hjk hk
        have b2 := highI_bd Hv.out hr1 hr2 hjk hk
        by_cases hlt : k < v.length
        · have hk1 : (k : Int) < v.length := by omega
          obtain ⟨b, o, rfl, _, q1, d1, hc1, hi1⟩ := hM.get (j := k) (by rw [Hll.out]; exact hlt)
          obtain ⟨q2, d2, hc2, hi2⟩ := hM.at (j := k0) (by rw [Hll.out]; exact hjk)
          have hl1 := linkL_row_len (v := v) (a := bestA v) hlt
          have hl2 := linkL_row_len (v := v) (a := bestA v) hjk
          obtain ⟨b3, o3, rfl, _, hc3⟩ := hi1.get (j := k0) (by rw [hl1]; exact hjk)
          obtain ⟨b4, o4, rfl, _, hc4⟩ := hi2.get (j := k) (by rw [hl2]; exact hlt)
          rw [hl1] at hc1
          rw [hl2] at hc2
          have r1 := linkL_bd Hv.out hlt hjk
          have r2 := linkL_bd Hv.out hjk hlt
          have S1 := Lib.hid (lowI_succ v r k0 k)
          have S2 := Lib.hid (highI_succ v r k0 k)
          unfold bid at r1 r2 S1 S2
          obtain ⟨y1, e1⟩ : ∃ y, iget (rget (linkL v (bestA v)) k) k0 = y := ⟨_, rfl⟩
          obtain ⟨y2, e2⟩ : ∃ y, iget (rget (linkL v (bestA v)) k0) k = y := ⟨_, rfl⟩
          rw [e1] at hc3 r1 S1
          rw [e2] at hc4 r2 S2
          obtain ⟨L1, e3⟩ : ∃ y, lowI v r k0 k = y := ⟨_, rfl⟩
          obtain ⟨L2, e4⟩ : ∃ y, highI v r k0 k = y := ⟨_, rfl⟩
          rw [e3] at b1 S1 ⊢
          rw [e4] at b2 S2 ⊢
          clear e1 e2 e3 e4 hl1 hl2
          go_wp2_with fail
          go_round
          case rel => exact ⟨k + 1, by omega, by go_num, by rw [S1.out]; congr 1; omega, by rw [S2.out]; congr 1; omega⟩
          case measure => simp [intOf]; omega
        · have hk1 : ¬ (k : Int) < v.length := by omega
          obtain rfl : k = v.length := by omega
          have hrr1 : r - (r - lowI v r k0 v.length) = lowI v r k0 v.length := by omega
          have hrr2 : r - (r - highI v r k0 v.length) = highI v r k0 v.length := by omega
          clear hM
          go_wp2_with fail
          refine (refMake_any _ v.length _ (by omega) (by omega) h0 (by omega)).mono ?_
          rintro e w3 ⟨rfl, hb3⟩
          unfold ratV
          obtain ⟨W3, hW3⟩ : ∃ W3, w3.alloc (.cells #[.int .i64 (rN (lowI v r k0 v.length) v.length), .int .i64 (rD (lowI v r k0 v.length) v.length)] 40) = W3 := ⟨_, rfl⟩
          have hb3' : Below w1.heap.size w1 W3 := by rw [← hW3]; exact hb3.alloc hb3.size _
          have hs5 : W3.heap.size = w3.heap.size + 1 := by rw [← hW3]; simp
          have hC3 : Two W3 w3.heap.size (.int .i64 (rN (lowI v r k0 v.length) v.length)) (.int .i64 (rD (lowI v r k0 v.length) v.length)) := Two.new rfl hW3.symm
          have hA3 := hA1.out.below hb3' (by omega)
          have hB3 := hBB.out.below hb3' (by omega)
          have hW1 := hB1.trans (hb3'.mono (by omega))
          have hbx3 := (hb3.cell (p := ⟨w.heap.size, 1, none⟩) (by simp only; omega)).trans hbx
          have hbl3 : w.heap.size < w3.heap.size := by have := hb3.size; omega
          have hs6 : w1.heap.size ≤ w3.heap.size := hb3.size
          have HW3 := Lib.hid hW3
          clear hb3 hb3' hW3 hrr1 hbx
          go_wp2_with fail
          rw [HW3.out]
          refine (refMake_any (highI v r k0 v.length) v.length W3 (by omega) (by omega) h0 (by omega)).mono ?_
          rintro e w4 ⟨rfl, hb4⟩
          unfold ratV
          obtain ⟨W4, hW4⟩ : ∃ W4, w4.alloc (.cells #[.int .i64 (rN (highI v r k0 v.length) v.length), .int .i64 (rD (highI v r k0 v.length) v.length)] 40) = W4 := ⟨_, rfl⟩
          have hb4' : Below W3.heap.size W3 W4 := by rw [← hW4]; exact hb4.alloc hb4.size _
          have hD4 : Two W4 w4.heap.size (.int .i64 (rN (highI v r k0 v.length) v.length)) (.int .i64 (rD (highI v r k0 v.length) v.length)) := Two.new rfl hW4.symm
          have hC4 := hC3.below hb4' (by omega)
          have HA4 := Lib.hid (hA3.below hb4' (by omega))
          have HB4 := Lib.hid (hB3.below hb4' (by omega))
          have HW4 := Lib.hid (hW1.trans (hb4'.mono (by omega)))
          have HWW := Lib.hid hW4
          have hs7 : W3.heap.size ≤ w4.heap.size := hb4.size
          have n1 : ¬ w.heap.size + 1 = w4.heap.size := by omega
          have n2 : ¬ w4.heap.size = w.heap.size + 1 := by omega
          have n3 : ¬ w.heap.size + 1 + 1 = w3.heap.size := by omega
          have n4 : ¬ w3.heap.size = w.heap.size + 1 + 1 := by omega
          clear hb4 hb4' hW4 hrr2 hbx3 hA3 hB3 hC3
          go_upto_region 15 with (fail)
          rw [HWW.out]
          obtain ⟨x0, x1, y0, y1⟩ := HA4.out
          obtain ⟨z0, z1, t0, t1⟩ := HB4.out
          obtain ⟨p0, p1, _, _⟩ := hC4
          obtain ⟨q0, q1, _, _⟩ := hD4
          go_region
          all_goals
            go_wp2_with fail
            clear x0 x1 y0 y1 z0 z1 t0 t1
            obtain ⟨hA5, hB5⟩ := four HA4.out HB4.out (.int .i64 (rN (lowI v r k0 v.length) v.length)) (.int .i64 (rD (lowI v r k0 v.length) v.length)) (.int .i64 (rN (highI v r k0 v.length) v.length)) (.int .i64 (rD (highI v r k0 v.length) v.length))
            obtain ⟨x0, x1, _, _⟩ := hA5
            obtain ⟨z0, z1, _, _⟩ := hB5
            refine bodyPost_ret (v := .tuple #[ratV (lowI v r k0 v.length) v.length, ratV (highI v r k0 v.length) v.length, .int .i64 0]) (by simp [results, Try.results16, go_sem, x0, x1, z0, z1, ratV]) rfl ⟨?_, ?_⟩
            · rw [E1.out, E2.out, E3.out]
            · exact (below_four HW4.out _ _ _ _).drew
    · have E := rng_off hF hjn
      have E1 := Lib.hid E.1
      have E2 := Lib.hid E.2.1
      have E3 := Lib.hid E.2.2
      have hs2 : w.heap.size + 3 ≤ w1.heap.size := hs1
      have HA := Lib.hid ha1
      have HB := Lib.hid hbb1
      have HW := Lib.hid hB1
      obtain ⟨x0, x1, y0, y1⟩ := ha1
      obtain ⟨z0, z1, t0, t1⟩ := hbb1
      by_cases hneg : j < 0
      · have hjl : decide (j < 0) = true := by simpa using hneg
        clear E hF hjn hB1
        go_wp2_with fail
        clear x0 x1 y0 y1 z0 z1 t0 t1
        obtain ⟨hA5, hB5⟩ := four HA.out HB.out (.int .i64 0) (.int .i64 0) (.int .i64 0) (.int .i64 0)
        obtain ⟨x0, x1, _, _⟩ := hA5
        obtain ⟨z0, z1, _, _⟩ := hB5
        refine bodyPost_ret (v := .tuple #[zeroR, zeroR, .int .i64 2]) (by simp [results, Try.results16, go_sem, x0, x1, z0, z1, zeroR]) rfl ⟨?_, ?_⟩
        · rw [E1.out, E2.out, E3.out]
        · exact below_four HW.out _ _ _ _
      · have hjl : decide (j < 0) = false := by simpa using hneg
        have hjg : (v.length : Int) ≤ j := by omega
        clear E hF hjn hB1
        go_wp2_with fail
        clear x0 x1 y0 y1 z0 z1 t0 t1
        obtain ⟨hA5, hB5⟩ := four HA.out HB.out (.int .i64 0) (.int .i64 0) (.int .i64 0) (.int .i64 0)
        obtain ⟨x0, x1, _, _⟩ := hA5
        obtain ⟨z0, z1, _, _⟩ := hB5
        refine bodyPost_ret (v := .tuple #[zeroR, zeroR, .int .i64 2]) (by simp [results, Try.results16, go_sem, x0, x1, z0, z1, zeroR]) rfl ⟨?_, ?_⟩
        · rw [E1.out, E2.out, E3.out]
        · exact below_four HW.out _ _ _ _
  · have hcz : (chkR v r != 0) = true := by rw [bne_iff_ne]; exact hF
    have E := rng_bad (j := j) hF
    have E1 := Lib.hid E.1
    have E2 := Lib.hid E.2.1
    have E3 := Lib.hid E.2.2
    have HA := Lib.hid ha1
    have HB := Lib.hid hbb1
    have HW := Lib.hid hB1
    obtain ⟨x0, x1, y0, y1⟩ := ha1
    obtain ⟨z0, z1, t0, t1⟩ := hbb1
    clear E hF hB1
    go_wp2_with fail
    clear x0 x1 y0 y1 z0 z1 t0 t1
    obtain ⟨hA5, hB5⟩ := four HA.out HB.out (.int .i64 0) (.int .i64 0) (.int .i64 0) (.int .i64 0)
    obtain ⟨x0, x1, _, _⟩ := hA5
    obtain ⟨z0, z1, _, _⟩ := hB5
    refine bodyPost_ret (v := .tuple #[zeroR, zeroR, .int .i64 (chkR v r)]) (by simp [results, Try.results16, go_sem, x0, x1, z0, z1, zeroR]) rfl ⟨?_, ?_⟩
    · rw [E1.out, E2.out, E3.out]
    · exact below_four HW.out _ _ _ _
end Go.Proofs.Ytojldecldemfaaa
