/- Another rent moves the ends of a room's range and the even prices by the same; plain, no program. -/
import Derived.Test.YtojldecldemfaaaTopRoomRentsm19
import Derived.Test.YtojldecldemfaaaTopRoomRentsm15
import Derived.Test.YtojldecldemfaaaTopRoomRentsm10
import Derived.Test.YtojldecldemfaaaTopRoomRentsm14
import Derived.Deep.DeepCutAuto
import Derived.Test.YtojldecldemfaaaTopRoomRentsm3
import Derived.Maps.RangeWalk
import Derived.RangeFuncOwn
import Derived.Test.YtojldecldemfaaaTopRoomRentsm2
/- Another rent moves the ends of a room's range and the even prices by the same; plain, no program. -/
namespace Go.Proofs.Ytojldecldemfaaa
set_option linter.unusedVariables false
set_option linter.unusedSimpArgs false

theorem smallQ_of {L : Int} {n : Nat} (hn : 0 < n) (h6 : n ≤ 700000000) (h1 : -700000000 ≤ L) (h2 : L ≤ 700000000) : SmallQ (rN L n) (n / rG L n) := by
  have hb := rN_bd (x := L) (d := n) h1 h2
  exact ⟨hb.1, hb.2, rD_pos hn, Nat.le_trans rD_le h6, rat_cop hn⟩
/-- The sum of two fractions over one number. -/
theorem rat_plus {L R : Int} {n : Nat} (hn : 0 < n) :
    ratV (rN L n * ((n / rG R n : Nat) : Int) + rN R n * ((n / rG L n : Nat) : Int)) (n / rG L n * (n / rG R n)) = ratV (L + R) n := by
  have a1 := rN_mul (x := L) hn
  have a2 := rD_mul (x := L) (d := n)
  have b1 := rN_mul (x := R) hn
  have b2 := rD_mul (x := R) (d := n)
  have p1 := rD_pos (x := L) hn
  have p2 := rD_pos (x := R) hn
  unfold rD at a2 b2
  obtain ⟨b, eb⟩ : ∃ x, n / rG L n = x := ⟨_, rfl⟩
  obtain ⟨e, ee⟩ : ∃ x, n / rG R n = x := ⟨_, rfl⟩
  rw [eb] at a2 p1 ⊢
  rw [ee] at b2 p2 ⊢
  have h : (rN L n * (e : Int) + rN R n * b) * (n : Nat) = (L + R) * ((b * e : Nat) : Int) := by
    have s1 : rN L n * (e : Int) * n = L * ((b * e : Nat) : Int) := by
      rw [← a2, Int.natCast_mul]
      calc rN L n * (e : Int) * ((b : Int) * (rG L n : Nat)) = (rN L n * (rG L n : Nat)) * ((b : Int) * e) := by simp only [Int.mul_comm, Int.mul_left_comm, Int.mul_assoc]
        _ = L * ((b : Int) * e) := by rw [a1]
    have s2 : rN R n * (b : Int) * n = R * ((b * e : Nat) : Int) := by
      rw [← b2, Int.natCast_mul]
      calc rN R n * (b : Int) * ((e : Int) * (rG R n : Nat)) = (rN R n * (rG R n : Nat)) * ((b : Int) * e) := by simp only [Int.mul_comm, Int.mul_left_comm, Int.mul_assoc]
        _ = R * ((b : Int) * e) := by rw [b1]
    rw [Int.add_mul, s1, s2, Int.add_mul]
  obtain ⟨h1, h2⟩ := rat_eq (x := rN L n * (e : Int) + rN R n * b) (y := L + R) (d := b * e) (e := n) (Nat.mul_pos p1 p2) hn h
  unfold ratV
  rw [h1, h2]
theorem raw_move {v : List (List Int)} {r s : Int} {j : Nat} (hj : j < v.length) : iget (rawP v s) j = iget (rawP v r) j + (s - r) := by
  rw [raw_at hj, raw_at hj]; omega
/-- The even price of a room, in lowest terms. -/
theorem even_rat {v : List (List Int)} {r : Int} (hc : chkR v r = 0) {j : Nat} (hj : j < v.length) {z : Nat} (hz : lowN v.length (rawP v r) = z) :
    0 < z ∧ ratV (iget (lowL v.length (rawP v r)) j) z = ratV (iget (rawP v r) j) v.length := by
  obtain ⟨g, hg, h1, h2⟩ := (evenOk hc).raw
  have h0 : 0 < v.length := by omega
  rw [hz] at h1
  obtain ⟨k, rfl⟩ : ∃ k : Nat, g = k := ⟨g.toNat, by omega⟩
  have hz0 : 0 < z := by
    rcases Nat.eq_zero_or_pos z with h | h
    · exfalso
      have e : (k : Int) * ((0 : Nat) : Int) = 0 := Int.mul_zero _
      rw [h, e] at h1; omega
    · exact h
  have h3 : v.length = k * z := by rw [← Int.natCast_mul] at h1; exact Int.ofNat.inj h1
  refine ⟨hz0, ?_⟩
  rw [h2 j hj, h3]
  obtain ⟨s1, s2⟩ := rat_scale (x := iget (lowL v.length (rawP v r)) j) hz0 (show 0 < k by omega)
  rw [h3] at s1 s2
  unfold ratV
  rw [s1, s2]
theorem raw_small {v : List (List Int)} {r : Int} (hc : chkR v r = 0) {j : Nat} (hj : j < v.length) : -600000000 ≤ iget (rawP v r) j ∧ iget (rawP v r) j ≤ 600000000 := by
  obtain ⟨hv, hr1, hr2⟩ := chkR_zero.1 hc
  have h1 := prod_bound hv hj
  have h2 := sum_bound hv (Nat.le_refl _)
  rw [rawP_get hj]
  unfold restI
  omega
theorem lowI_move (v : List (List Int)) (r s : Int) (j k : Nat) : lowI v s j k = lowI v r j k + (s - r) := by unfold lowI; omega
theorem highI_move (v : List (List Int)) (r s : Int) (j k : Nat) : highI v s j k = highI v r j k + (s - r) := by unfold highI; omega
end Go.Proofs.Ytojldecldemfaaa

/- The walk of the reference's Range, for every flat and room. -/
namespace Go.Proofs.Ytojldecldemfaaa
set_option linter.unusedVariables false
set_option linter.unusedSimpArgs false
open Go.ChangeShapes Go.WideShapes Go.ChangeAt Go.RowKit Go.Deep

set_option maxHeartbeats 8000000 in
set_option maxRecDepth 100000 in
theorem refRange_any (p : Option Addr) (c : Nat) (v : List (List Int)) (r j : Int) (w : World) (hx : Mat w p c v) (hj64 : in64 j) :
    Calls Try.prog 16 #[.agg #[.slice p v.length c, .int .i64 r], .int .i64 j] w fun e w' => e = .returned (.tuple #[rngLo v r j, rngHi v r j, .int .i64 (rngE v r j)]) ∧ Below w.heap.size w w' := by
  obtain ⟨W0, hW0⟩ : ∃ W0, ((w.alloc (.cells #[.slice p v.length c, .int .i64 r] 24)).alloc (.cells #[.int .i64 0, .int .i64 0] 40)).alloc (.cells #[.int .i64 0, .int .i64 0] 40) = W0 := ⟨_, rfl⟩
  have hb0 : Below w.heap.size w W0 := by rw [← hW0]; exact (((Below.refl _ _).alloc (Nat.le_refl _) _).alloc (by simp) _).alloc (by simp; omega) _
  have hx1 := hx.below hb0 (Nat.le_refl _)
  have hs0 : W0.heap.size = w.heap.size + 3 := by rw [← hW0]; simp
  have ha : Two W0 (w.heap.size + 1) (.int .i64 0) (.int .i64 0) := by
    rw [← hW0]
    exact (Two.new (w := w.alloc (.cells #[.slice p v.length c, .int .i64 r] 24)) (by simp) rfl).below (B := w.heap.size + 2) ((Below.refl _ _).alloc (by simp) _) (by omega)
  have hb : Two W0 (w.heap.size + 2) (.int .i64 0) (.int .i64 0) := Two.new (by simp) hW0.symm
  have hbox : ∀ k, W0.cell? ⟨w.heap.size, k, none⟩ = #[.slice p v.length c, .int .i64 r][k]? := by
    intro k
    rw [← hW0]
    exact ((((Below.refl (w.heap.size + 1) _).alloc (by simp) _).alloc (by simp) _).cell (p := ⟨w.heap.size, k, none⟩) (by simp)).trans (World.cell?_alloc_at _ _ _ _ rfl)
  have hbx0 : W0.cell? ⟨w.heap.size, 0, none⟩ = some (.slice p v.length c) := hbox 0
  have hbx1 : W0.cell? ⟨w.heap.size, 1, none⟩ = some (.int .i64 r) := hbox 1
  clear hbox
  have HW0 := Lib.hid hW0
  have Hs0 := Lib.hid hs0
  clear hW0 hs0
  obtain ⟨hj1, hj2⟩ := hj64
  go_enter Try.func16, Try.ntmps16
  go_wp2_with fail
  rw [HW0.out]
  refine (refLinks_any p c v r _ hx1).mono ?_
  rintro e w1 ⟨q, d, Q, D, rfl, hD, hb1⟩
  have hB1 := hb0.trans (hb1.mono hb0.size)
  have ha1 := ha.below hb1 (by have := Hs0.out; omega)
  have hbb1 := hb.below hb1 (by have := Hs0.out; omega)
  have hbx := (hb1.cell (p := ⟨w.heap.size, 1, none⟩) (by have := Hs0.out; simp only; omega)).trans hbx1
  have hs1 : w.heap.size + 3 ≤ w1.heap.size := by have := hb1.size; have := Hs0.out; omega
  have hM := hD.mat
  clear hD hb0 hb1 ha hb hbx0 hbx1 hx1
  by_cases hF : chkR v r = 0
  · have hcz : (chkR v r != 0) = false := by rw [hF]; rfl
    obtain ⟨hv, hr1, hr2⟩ := chkR_zero.1 hF
    have hLL : linksL v r = linkL v (bestA v) := by unfold linksL; rw [if_pos hF]
    have hll : (linkL v (bestA v)).length = v.length := linkL_len _ _
    rw [hLL] at hM
    rw [hLL, hll]
    have Hll := Lib.hid hll
    clear hLL hll
    by_cases hjn : 0 ≤ j ∧ j < v.length
    · obtain ⟨k0, rfl⟩ : ∃ k0 : Nat, j = k0 := ⟨j.toNat, by omega⟩
      have hjk : k0 < v.length := by omega
      have hjl : decide ((k0 : Int) < 0) = false := by simp
      have hjg : decide ((v.length : Int) ≤ (k0 : Int)) = false := by simp; omega
      obtain ⟨e1, e2, e3⟩ := rng_in hF hjk
      have E1 := Lib.hid e1
      have E2 := Lib.hid e2
      have E3 := Lib.hid e3
      have h6 := hv.2.1
      have h0 := hv.1
      have HF := Lib.hid hF
      have Hv := Lib.hid hv
      have hA1 := Lib.hid ha1
      have hBB := Lib.hid hbb1
      clear e1 e2 e3 hF hv hjn ha1 hbb1
      go_wp2_with fail
      go_loop [9, 10, 11] (fun s t i => ∃ k : Nat, k ≤ v.length ∧ i = .int .i64 k ∧ s = .int .i64 (r - lowI v r k0 k) ∧ t = .int .i64 (r - highI v r k0 k)) (fun _ _ i => v.length - (intOf i).toNat)
      case atStart => exact ⟨0, Nat.zero_le _, rfl, by simp [lowI, sumTo], by simp [highI, sumTo]⟩
      case round =>
        obtain ⟨k, hk, rfl, rfl, rfl⟩ := hrel
        have b1 := lowI_bd Hv.out hr1 hr2 hjk hk
        have b2 := highI_bd Hv.out hr1 hr2 hjk hk
        by_cases hlt : k < v.length
        · have hk1 : (k : Int) < v.length := by omega
          obtain ⟨b, o, rfl, _, q1, d1, hc1, hi1⟩ := hM.get (j := k) (by rw [Hll.out]; exact hlt)
          obtain ⟨q2, d2, hc2, hi2⟩ := hM.at (j := k0) (by rw [Hll.out]; exact hjk)
          have hl1 := linkL_row_len (v := v) (a := bestA v) hlt
          have hl2 := linkL_row_len (v := v) (a := bestA v) hjk
          obtain ⟨b3, o3, rfl, _, hc3⟩ := hi1.get (j := k0) (by rw [hl1]; exact hjk)
          obtain ⟨b4, o4, rfl, _, hc4⟩ := hi2.get (j := k) (by rw [hl2]; exact hlt)
          rw [hl1] at hc1
          rw [hl2] at hc2
          have r1 := linkL_bd Hv.out hlt hjk
          have r2 := linkL_bd Hv.out hjk hlt
          have S1 := Lib.hid (lowI_succ v r k0 k)
          have S2 := Lib.hid (highI_succ v r k0 k)
          unfold bid at r1 r2 S1 S2
          obtain ⟨y1, e1⟩ : ∃ y, iget (rget (linkL v (bestA v)) k) k0 = y := ⟨_, rfl⟩
          obtain ⟨y2, e2⟩ : ∃ y, iget (rget (linkL v (bestA v)) k0) k = y := ⟨_, rfl⟩
          rw [e1] at hc3 r1 S1
          rw [e2] at hc4 r2 S2
          obtain ⟨L1, e3⟩ : ∃ y, lowI v r k0 k = y := ⟨_, rfl⟩
          obtain ⟨L2, e4⟩ : ∃ y, highI v r k0 k = y := ⟨_, rfl⟩
          rw [e3] at b1 S1 ⊢
          rw [e4] at b2 S2 ⊢
          clear e1 e2 e3 e4 hl1 hl2
          go_wp2_with fail
          go_round
          case rel => exact ⟨k + 1, by omega, by go_num, by rw [S1.out]; congr 1; omega, by rw [S2.out]; congr 1; omega⟩
          case measure => simp [intOf]; omega
        · have hk1 : ¬ (k : Int) < v.length := by omega
          obtain rfl : k = v.length := by omega
          have hrr1 : r - (r - lowI v r k0 v.length) = lowI v r k0 v.length := by omega
          have hrr2 : r - (r - highI v r k0 v.length) = highI v r k0 v.length := by omega
          clear hM
          go_wp2_with fail
          refine (refMake_any _ v.length _ (by omega) (by omega) h0 (by omega)).mono ?_
          rintro e w3 ⟨rfl, hb3⟩
          unfold ratV
          obtain ⟨W3, hW3⟩ : ∃ W3, w3.alloc (.cells #[.int .i64 (rN (lowI v r k0 v.length) v.length), .int .i64 (rD (lowI v r k0 v.length) v.length)] 40) = W3 := ⟨_, rfl⟩
          have hb3' : Below w1.heap.size w1 W3 := by rw [← hW3]; exact hb3.alloc hb3.size _
          have hs5 : W3.heap.size = w3.heap.size + 1 := by rw [← hW3]; simp
          have hC3 : Two W3 w3.heap.size (.int .i64 (rN (lowI v r k0 v.length) v.length)) (.int .i64 (rD (lowI v r k0 v.length) v.length)) := Two.new rfl hW3.symm
          have hA3 := hA1.out.below hb3' (by omega)
          have hB3 := hBB.out.below hb3' (by omega)
          have hW1 := hB1.trans (hb3'.mono (by omega))
          have hbx3 := (hb3.cell (p := ⟨w.heap.size, 1, none⟩) (by simp only; omega)).trans hbx
          have hbl3 : w.heap.size < w3.heap.size := by have := hb3.size; omega
          have hs6 : w1.heap.size ≤ w3.heap.size := hb3.size
          have HW3 := Lib.hid hW3
          clear hb3 hb3' hW3 hrr1 hbx
          go_wp2_with fail
          rw [HW3.out]
          refine (refMake_any (highI v r k0 v.length) v.length W3 (by omega) (by omega) h0 (by omega)).mono ?_
          rintro e w4 ⟨rfl, hb4⟩
          unfold ratV
          obtain ⟨W4, hW4⟩ : ∃ W4, w4.alloc (.cells #[.int .i64 (rN (highI v r k0 v.length) v.length), .int .i64 (rD (highI v r k0 v.length) v.length)] 40) = W4 := ⟨_, rfl⟩
          have hb4' : Below W3.heap.size W3 W4 := by rw [← hW4]; exact hb4.alloc hb4.size _
          have hD4 : Two W4 w4.heap.size (.int .i64 (rN (highI v r k0 v.length) v.length)) (.int .i64 (rD (highI v r k0 v.length) v.length)) := Two.new rfl hW4.symm
          have hC4 := hC3.below hb4' (by omega)
          have HA4 := Lib.hid (hA3.below hb4' (by omega))
          have HB4 := Lib.hid (hB3.below hb4' (by omega))
          have HW4 := Lib.hid (hW1.trans (hb4'.mono (by omega)))
          have HWW := Lib.hid hW4
          have hs7 : W3.heap.size ≤ w4.heap.size := hb4.size
          have n1 : ¬ w.heap.size + 1 = w4.heap.size := by omega
          have n2 : ¬ w4.heap.size = w.heap.size + 1 := by omega
          have n3 : ¬ w.heap.size + 1 + 1 = w3.heap.size := by omega
          have n4 : ¬ w3.heap.size = w.heap.size + 1 + 1 := by omega
          clear hb4 hb4' hW4 hrr2 hbx3 hA3 hB3 hC3
          go_upto_region 15 with (fail)
          rw [HWW.out]
          obtain ⟨x0, x1, y0, y1⟩ := HA4.out
          obtain ⟨z0, z1, t0, t1⟩ := HB4.out
          obtain ⟨p0, p1, _, _⟩ := hC4
          obtain ⟨q0, q1, _, _⟩ := hD4
          go_region
          all_goals
            go_wp2_with fail
            clear x0 x1 y0 y1 z0 z1 t0 t1
            obtain ⟨hA5, hB5⟩ := four HA4.out HB4.out (.int .i64 (rN (lowI v r k0 v.length) v.length)) (.int .i64 (rD (lowI v r k0 v.length) v.length)) (.int .i64 (rN (highI v r k0 v.length) v.length)) (.int .i64 (rD (highI v r k0 v.length) v.length))
            obtain ⟨x0, x1, _, _⟩ := hA5
            obtain ⟨z0, z1, _, _⟩ := hB5
            refine bodyPost_ret (v := .tuple #[ratV (lowI v r k0 v.length) v.length, ratV (highI v r k0 v.length) v.length, .int .i64 0]) (by simp [results, Try.results16, go_sem, x0, x1, z0, z1, ratV]) rfl ⟨?_, ?_⟩
            · rw [E1.out, E2.out, E3.out]
            · exact (below_four HW4.out _ _ _ _).drew
    · have E := rng_off hF hjn
      have E1 := Lib.hid E.1
      have E2 := Lib.hid E.2.1
      have E3 := Lib.hid E.2.2
      have hs2 : w.heap.size + 3 ≤ w1.heap.size := hs1
      have HA := Lib.hid ha1
      have HB := Lib.hid hbb1
      have HW := Lib.hid hB1
      obtain ⟨x0, x1, y0, y1⟩ := ha1
      obtain ⟨z0, z1, t0, t1⟩ := hbb1
      by_cases hneg : j < 0
      · have hjl : decide (j < 0) = true := by simpa using hneg
        clear E hF hjn hB1
        go_wp2_with fail
        clear x0 x1 y0 y1 z0 z1 t0 t1
        obtain ⟨hA5, hB5⟩ := four HA.out HB.out (.int .i64 0) (.int .i64 0) (.int .i64 0) (.int .i64 0)
        obtain ⟨x0, x1, _, _⟩ := hA5
        obtain ⟨z0, z1, _, _⟩ := hB5
        refine bodyPost_ret (v := .tuple #[zeroR, zeroR, .int .i64 2]) (by simp [results, Try.results16, go_sem, x0, x1, z0, z1, zeroR]) rfl ⟨?_, ?_⟩
        · rw [E1.out, E2.out, E3.out]
        · exact below_four HW.out _ _ _ _
      · have hjl : decide (j < 0) = false := by simpa using hneg
        have hjg : (v.length : Int) ≤ j := by omega
        clear E hF hjn hB1
        go_wp2_with fail
        clear x0 x1 y0 y1 z0 z1 t0 t1
        obtain ⟨hA5, hB5⟩ := four HA.out HB.out (.int .i64 0) (.int .i64 0) (.int .i64 0) (.int .i64 0)
        obtain ⟨x0, x1, _, _⟩ := hA5
        obtain ⟨z0, z1, _, _⟩ := hB5
        refine bodyPost_ret (v := .tuple #[zeroR, zeroR, .int .i64 2]) (by simp [results, Try.results16, go_sem, x0, x1, z0, z1, zeroR]) rfl ⟨?_, ?_⟩
        · rw [E1.out, E2.out, E3.out]
        · exact below_four HW.out _ _ _ _
  · have hcz : (chkR v r != 0) = true := by rw [bne_iff_ne]; exact hF
    have E := rng_bad (j := j) hF
    have E1 := Lib.hid E.1
    have E2 := Lib.hid E.2.1
    have E3 := Lib.hid E.2.2
    have HA := Lib.hid ha1
    have HB := Lib.hid hbb1
    have HW := Lib.hid hB1
    obtain ⟨x0, x1, y0, y1⟩ := ha1
    obtain ⟨z0, z1, t0, t1⟩ := hbb1
    clear E hF hB1
    go_wp2_with fail
    clear x0 x1 y0 y1 z0 z1 t0 t1
    obtain ⟨hA5, hB5⟩ := four HA.out HB.out (.int .i64 0) (.int .i64 0) (.int .i64 0) (.int .i64 0)
    obtain ⟨x0, x1, _, _⟩ := hA5
    obtain ⟨z0, z1, _, _⟩ := hB5
    refine bodyPost_ret (v := .tuple #[zeroR, zeroR, .int .i64 (chkR v r)]) (by simp [results, Try.results16, go_sem, x0, x1, z0, z1, zeroR]) rfl ⟨?_, ?_⟩
    · rw [E1.out, E2.out, E3.out]
    · exact below_four HW.out _ _ _ _
end Go.Proofs.Ytojldecldemfaaa

/- Lists that a text lays out itself, and the best assignment of given numbers, by looking at all; no condition. -/
namespace Go.Proofs.Ytojldecldemfaaa
open Go.ChangeShapes Go.WideShapes Go.ChangeAt Go.RowKit Go.Deep
set_option linter.unusedVariables false
set_option linter.unusedSimpArgs false

theorem Ints.lit (w : World) (xs : List Int) (hsz : xs.length ≤ 1000000) (hr : ∀ x ∈ xs, in64 x) :
    Ints (w.alloc (.cells (xs.map (Value.int .i64)).toArray 3)) (some ⟨w.heap.size, 0, none⟩) xs.length xs :=
  (Own.lit w w.heap.size (Nat.le_refl _) xs hsz (fun j hj => hr _ (iget_mem hj))).ints

theorem Mat.lit (w : World) (rows : List (Option Addr × Nat × List Int)) (hsz : rows.length ≤ 1000000) (hr : ∀ r ∈ rows, Ints w r.1 r.2.1 r.2.2) :
    Mat (w.alloc (.cells (rows.map fun r => Value.slice r.1 r.2.2.length r.2.1).toArray 26)) (some ⟨w.heap.size, 0, none⟩) rows.length (rows.map fun r => r.2.2) := by
  have hb : Below w.heap.size w (w.alloc (.cells (rows.map fun r => Value.slice r.1 r.2.2.length r.2.1).toArray 26)) := (Below.refl _ w).alloc (Nat.le_refl _) _
  have hn := World.alloc_heap_new w (.cells (rows.map fun r => Value.slice r.1 r.2.2.length r.2.1).toArray 26)
  refine ⟨by simp, by omega, fun h => (by cases h), ?_, ?_⟩
  · rintro a ⟨⟩ _
    exact ⟨rfl, by simp⟩
  · rintro b o ⟨⟩ j hj
    have hj' : j < rows.length := by simpa using hj
    have hg : rget (rows.map fun r => r.2.2) j = rows[j].2.2 := by rw [rget_of hj]; simp
    refine ⟨rows[j].1, rows[j].2.1, ?_, ?_⟩
    · simp only [World.cell?]
      rw [hn, hg, Nat.zero_add]
      simp [hj']
    · rw [hg]
      exact (hr _ (List.getElem_mem hj')).below hb (Nat.le_refl _)

/-- All lists of m numbers below n. -/
def allD (n : Nat) : Nat → List (List Int)
  | 0 => [[]]
  | m + 1 => (allD n m).flatMap fun l => (List.range n).map fun (j : Nat) => (j : Int) :: l
theorem mem_allD {n : Nat} : ∀ (m : Nat) (l : List Int), l.length = m → (∀ x ∈ l, 0 ≤ x ∧ x < n) → l ∈ allD n m := by
  intro m
  induction m with
  | zero => intro l hl _; obtain rfl := List.eq_nil_of_length_eq_zero hl; simp [allD]
  | succ m ih =>
    intro l hl hd
    cases l with
    | nil => simp at hl
    | cons x t =>
      simp only [allD, List.mem_flatMap, List.mem_map, List.mem_range]
      refine ⟨t, ih t (by simpa using hl) (fun y hy => hd y (List.mem_cons_of_mem _ hy)), x.toNat, ?_, ?_⟩
      · have := hd x (List.mem_cons_self ..); omega
      · have := hd x (List.mem_cons_self ..)
        rw [show ((x.toNat : Nat) : Int) = x from by omega]
def lltB (a b : List Int) : Bool := (List.range a.length).any fun i => ((List.range i).all fun j => iget a j == iget b j) && decide (iget a i < iget b i)
theorem llt_of {a b : List Int} (h : lltB a b = true) : llt a b := by
  unfold lltB at h
  obtain ⟨i, hi, h2⟩ := List.any_eq_true.1 h
  rw [Bool.and_eq_true] at h2
  refine ⟨i, by simpa using hi, fun j hj => ?_, by simpa using h2.2⟩
  have := List.all_eq_true.1 h2.1 j (by simpa using hj)
  simpa using this
/-- Looks at all lists: a is the best assignment. -/
def bestChk (v : List (List Int)) (a : List Int) : Bool :=
  isAB a v.length && (allD v.length v.length).all fun x => !isAB x v.length || decide (worthI v x < worthI v a) || (decide (worthI v x = worthI v a) && (x == a || lltB a x))
theorem isBest_of_chk {v : List (List Int)} {a : List Int} (h : bestChk v a = true) : IsBest v a := by
  unfold bestChk at h
  rw [Bool.and_eq_true] at h
  have hA : IsA a v.length := by simpa [isAB] using h.1
  refine ⟨hA, .inr ⟨hA, fun x hx => ?_⟩⟩
  have hm : x ∈ allD v.length v.length := mem_allD _ _ hx.1 (fun y hy => by
    obtain ⟨j, hj, rfl⟩ := List.getElem_of_mem hy
    have := isA_digits hx j hj
    rwa [iget_of hj] at this)
  have h2 := List.all_eq_true.1 h.2 x hm
  have hxb : isAB x v.length = true := by simp [isAB, hx]
  rw [hxb] at h2
  simp only [Bool.not_true, Bool.false_or, Bool.or_eq_true, Bool.and_eq_true, decide_eq_true_iff, beq_iff_eq] at h2
  rcases h2 with h3 | ⟨h3, h4 | h4⟩
  · exact .inl h3
  · exact .inr ⟨h3, .inl h4⟩
  · exact .inr ⟨h3, .inr (llt_of h4)⟩
end Go.Proofs.Ytojldecldemfaaa

/- What a text that runs straight on holds: rows, tables, lists of tables, under one name; literals, calls; no condition but sizes. -/
namespace Go.Proofs.Ytojldecldemfaaa
open Go.ChangeShapes Go.WideShapes Go.ChangeAt Go.RowKit Go.Deep
set_option linter.unusedVariables false
set_option linter.unusedSimpArgs false

def in64B (x : Int) : Bool := decide (-9223372036854775808 ≤ x) && decide (x ≤ 9223372036854775807)
theorem in64_all {xs : List Int} (h : xs.all in64B = true) : ∀ x ∈ xs, in64 x := fun x hx => by
  have := List.all_eq_true.1 h x hx
  simp [in64B] at this
  exact this
theorem ints_lit (w : World) (xs : List Int) (hsz : xs.length ≤ 1000000) (hr : ∀ x ∈ xs, in64 x) :
    Ints (w.alloc (.cells (xs.map (Value.int .i64)).toArray 3)) (some ⟨w.heap.size, 0, none⟩) xs.length xs :=
  (Own.lit w w.heap.size (Nat.le_refl _) xs hsz (fun j hj => hr _ (iget_mem hj))).ints
theorem mat_lit (w : World) (rows : List (Option Addr × Nat × List Int)) (hsz : rows.length ≤ 1000000) (hr : ∀ r ∈ rows, Ints w r.1 r.2.1 r.2.2) :
    Mat (w.alloc (.cells (rows.map fun r => Value.slice r.1 r.2.2.length r.2.1).toArray 26)) (some ⟨w.heap.size, 0, none⟩) rows.length (rows.map fun r => r.2.2) := by
  have hb : Below w.heap.size w (w.alloc (.cells (rows.map fun r => Value.slice r.1 r.2.2.length r.2.1).toArray 26)) := (Below.refl _ w).alloc (Nat.le_refl _) _
  have hn := World.alloc_heap_new w (.cells (rows.map fun r => Value.slice r.1 r.2.2.length r.2.1).toArray 26)
  refine ⟨by simp, by omega, fun h => (by cases h), ?_, ?_⟩
  · rintro a ⟨⟩ _
    exact ⟨rfl, by simp⟩
  · rintro b o ⟨⟩ j hj
    have hj' : j < rows.length := by simpa using hj
    have hg : rget (rows.map fun r => r.2.2) j = rows[j].2.2 := by rw [rget_of hj]; simp
    refine ⟨rows[j].1, rows[j].2.1, ?_, ?_⟩
    · simp only [World.cell?]
      rw [hn, hg, Nat.zero_add]
      simp [hj']
    · rw [hg]
      exact (hr _ (List.getElem_mem hj')).below hb (Nat.le_refl _)

inductive Item where
  | ints (p : Option Addr) (n c : Nat) (xs : List Int)
  | mat (p : Option Addr) (n c : Nat) (v : List (List Int))
  | mats (b : Nat) (vs : List Value) (ms : List (List (List Int)))
  | box (b : Nat) (vs : List Value)
def Item.ok (w : World) : Item → Prop
  | .ints p n c xs => xs.length = n ∧ Ints w p c xs
  | .mat p n c v => v.length = n ∧ Mat w p c v
  | .mats b vs ms => vs.length = ms.length ∧ b < w.heap.size ∧ ∀ (j : Nat) (v : List (List Int)), ms[j]? = some v → ∃ p c, w.cell? ⟨b, j, none⟩ = some (.slice p v.length c) ∧ vs[j]? = some (.slice p v.length c) ∧ Mat w p c v
  | .box b vs => b < w.heap.size ∧ ∀ (j : Nat) (u : Value), vs[j]? = some u → w.cell? ⟨b, j, none⟩ = some u
theorem Item.ok_below {w w' : World} {i : Item} (h : i.ok w) (hb : Below w.heap.size w w') : i.ok w' := by
  cases i with
  | ints p n c xs => exact ⟨h.1, Ints.below h.2 hb (Nat.le_refl _)⟩
  | mat p n c v => exact ⟨h.1, Mat.below h.2 hb (Nat.le_refl _)⟩
  | mats b vs ms =>
    obtain ⟨h0, h1, h2⟩ := h
    refine ⟨h0, Nat.lt_of_lt_of_le h1 hb.size, fun j v hm => ?_⟩
    obtain ⟨p, c, h3, h4, h5⟩ := h2 j v hm
    exact ⟨p, c, (hb.cell (p := ⟨b, j, none⟩) h1).trans h3, h4, h5.below hb (Nat.le_refl _)⟩
  | box b vs => exact ⟨Nat.lt_of_lt_of_le h.1 hb.size, fun j u hj => (hb.cell (p := ⟨b, j, none⟩) h.1).trans (h.2 j u hj)⟩
/-- The items of these numbers are rows: what they hold, and their values. -/
inductive RowsAt (l : List Item) : List Nat → List (List Int) → List Value → Prop where
  | nil : RowsAt l [] [] []
  | cons {k : Nat} {ks : List Nat} {p : Option Addr} {n c : Nat} {x : List Int} {v : List (List Int)} {vs : List Value} (h : l[k]? = some (.ints p n c x)) (t : RowsAt l ks v vs) : RowsAt l (k :: ks) (x :: v) (.slice p n c :: vs)
  | nul {k : Nat} {ks : List Nat} {v : List (List Int)} {vs : List Value} (t : RowsAt l ks v vs) : RowsAt l (k :: ks) ([] :: v) (.slice none 0 0 :: vs)
inductive MatsAt (l : List Item) : List Nat → List (List (List Int)) → List Value → Prop where
  | nil : MatsAt l [] [] []
  | cons {k : Nat} {ks : List Nat} {p : Option Addr} {n c : Nat} {x : List (List Int)} {v : List (List (List Int))} {vs : List Value} (h : l[k]? = some (.mat p n c x)) (t : MatsAt l ks v vs) : MatsAt l (k :: ks) (x :: v) (.slice p n c :: vs)
  | nul {k : Nat} {ks : List Nat} {v : List (List (List Int))} {vs : List Value} (t : MatsAt l ks v vs) : MatsAt l (k :: ks) ([] :: v) (.slice none 0 0 :: vs)
theorem RowsAt.spec {l : List Item} {w : World} (hl : ∀ i ∈ l, i.ok w) {ks : List Nat} {v : List (List Int)} {vs : List Value} (h : RowsAt l ks v vs) :
    vs.length = v.length ∧ ∀ (j : Nat) (x : List Int), v[j]? = some x → ∃ p c, vs[j]? = some (Value.slice p x.length c) ∧ Ints w p c x := by
  induction h with
  | nil => exact ⟨rfl, fun j x h => (by simp at h)⟩
  | cons h t ih =>
    refine ⟨by simp [ih.1], fun j x hj => ?_⟩
    cases j with
    | zero =>
      simp at hj; subst hj
      obtain ⟨h1, h2⟩ := hl _ (List.mem_of_getElem? h)
      exact ⟨_, _, by rw [h1]; rfl, h2⟩
    | succ j => exact ih.2 j x (by simpa using hj)
  | nul t ih =>
    refine ⟨by simp [ih.1], fun j x hj => ?_⟩
    cases j with
    | zero => simp at hj; subst hj; exact ⟨none, 0, rfl, Ints.ofNil w⟩
    | succ j => exact ih.2 j x (by simpa using hj)
theorem MatsAt.spec {l : List Item} {w : World} (hl : ∀ i ∈ l, i.ok w) {ks : List Nat} {v : List (List (List Int))} {vs : List Value} (h : MatsAt l ks v vs) :
    vs.length = v.length ∧ ∀ (j : Nat) (x : List (List Int)), v[j]? = some x → ∃ p c, vs[j]? = some (Value.slice p x.length c) ∧ Mat w p c x := by
  induction h with
  | nil => exact ⟨rfl, fun j x h => (by simp at h)⟩
  | cons h t ih =>
    refine ⟨by simp [ih.1], fun j x hj => ?_⟩
    cases j with
    | zero =>
      simp at hj; subst hj
      obtain ⟨h1, h2⟩ := hl _ (List.mem_of_getElem? h)
      exact ⟨_, _, by rw [h1]; rfl, h2⟩
    | succ j => exact ih.2 j x (by simpa using hj)
  | nul t ih =>
    refine ⟨by simp [ih.1], fun j x hj => ?_⟩
    cases j with
    | zero => simp at hj; subst hj; exact ⟨none, 0, rfl, Mat.ofNil w⟩
    | succ j => exact ih.2 j x (by simpa using hj)
theorem mat_new (w : World) (v : List (List Int)) (vs : List Value) (hsz : v.length ≤ 1000000) (hl : vs.length = v.length) (h : ∀ (j : Nat) (x : List Int), v[j]? = some x → ∃ p c, vs[j]? = some (Value.slice p x.length c) ∧ Ints w p c x) :
    Mat (w.alloc (.cells vs.toArray 26)) (some ⟨w.heap.size, 0, none⟩) v.length v := by
  have hb : Below w.heap.size w (w.alloc (.cells vs.toArray 26)) := (Below.refl _ w).alloc (Nat.le_refl _) _
  have hn := World.alloc_heap_new w (.cells vs.toArray 26)
  refine ⟨Nat.le_refl _, by omega, fun h => (by cases h), ?_, ?_⟩
  · rintro a ⟨⟩ _
    exact ⟨rfl, by simp⟩
  · rintro b o ⟨⟩ j hj
    obtain ⟨p, c, h1, h2⟩ := h j (rget v j) (by rw [rget_of hj]; simp [hj])
    refine ⟨p, c, ?_, h2.below hb (Nat.le_refl _)⟩
    simp only [World.cell?]
    rw [hn, Nat.zero_add]
    simp [h1]

/-- In w, of B blocks, the items read as they say; what lay in w0 lies as it lay. -/
structure St (w0 w : World) (B : Nat) (l : List Item) : Prop where
  size : w.heap.size = B
  bel : Below w0.heap.size w0 w
  all : ∀ i ∈ l, i.ok w
theorem St.start (w : World) : St w w w.heap.size [] := ⟨rfl, Below.refl _ _, fun _ h => (by cases h)⟩
section
variable {w0 w : World} {B : Nat} {l : List Item}
theorem St.step {w' : World} (h : St w0 w B l) (hb : Below w.heap.size w w') : St w0 w' w'.heap.size l :=
  ⟨rfl, h.bel.trans (hb.mono h.bel.size), fun i hi => Item.ok_below (h.all i hi) hb⟩
theorem St.drew {w' : World} (h : St w0 w B l) (hw : ∃ n, w' = w.drewN n) : St w0 w' w'.heap.size l := by
  obtain ⟨n, rfl⟩ := hw; exact h.step (below_drewN _ _ _)
theorem St.add (h : St w0 w B l) (i : Item) (hi : i.ok w) : St w0 w B (i :: l) :=
  ⟨h.size, h.bel, fun j hj => by
    rcases List.mem_cons.1 hj with rfl | hj
    · exact hi
    · exact h.all j hj⟩
theorem St.pop {i : Item} (h : St w0 w B (i :: l)) : St w0 w B l := ⟨h.size, h.bel, fun j hj => h.all j (List.mem_cons_of_mem _ hj)⟩
theorem St.addI {n c : Nat} {p : Option Addr} {xs : List Int} (h : St w0 w B l) (hn : xs.length = n) (hi : Ints w p c xs) : St w0 w B (.ints p n c xs :: l) := h.add _ ⟨hn, hi⟩
theorem St.addM {n c : Nat} {p : Option Addr} {v : List (List Int)} (h : St w0 w B l) (hn : v.length = n) (hi : Mat w p c v) : St w0 w B (.mat p n c v :: l) := h.add _ ⟨hn, hi⟩
theorem St.intsAt (h : St w0 w B l) (k : Nat) {p : Option Addr} {n c : Nat} {xs : List Int} (hk : l[k]? = some (.ints p n c xs)) : Ints w p c xs := (h.all _ (List.mem_of_getElem? hk)).2
theorem St.matAt (h : St w0 w B l) (k : Nat) {p : Option Addr} {n c : Nat} {v : List (List Int)} (hk : l[k]? = some (.mat p n c v)) : Mat w p c v := (h.all _ (List.mem_of_getElem? hk)).2
theorem St.matsAt (h : St w0 w B l) (k : Nat) {b : Nat} {vs : List Value} {ms : List (List (List Int))} (hk : l[k]? = some (.mats b vs ms)) : ∀ (j : Nat) (v : List (List Int)), ms[j]? = some v → ∃ p c, w.cell? ⟨b, j, none⟩ = some (.slice p v.length c) ∧ Mat w p c v := fun j v hj => by
  obtain ⟨p, c, h1, _, h2⟩ := (h.all _ (List.mem_of_getElem? hk)).2.2 j v hj
  exact ⟨p, c, h1, h2⟩
theorem St.bump (h : St w0 w B l) (o : Obj) : St w0 (w.alloc o) (B + 1) l :=
  ⟨by simp [h.size], h.bel.alloc h.bel.size _, fun i hi => Item.ok_below (h.all i hi) ((Below.refl _ _).alloc (Nat.le_refl _) _)⟩
/-- A new block of known cells. -/
theorem St.box (h : St w0 w B l) (vs : List Value) (T : TypeId) : St w0 (w.alloc (.cells vs.toArray T)) (B + 1) (.box B vs :: l) :=
  (h.bump _).add _ ⟨by simp [h.size], fun j u hj => by rw [← h.size]; exact (World.cell?_alloc_at _ _ _ _ rfl).trans (by simpa using hj)⟩
theorem St.boxAt (h : St w0 w B l) (k j : Nat) {b : Nat} {vs : List Value} {u : Value} (hk : l[k]? = some (.box b vs)) (hj : vs[j]? = some u) : w.cell? ⟨b, j, none⟩ = some u := (h.all _ (List.mem_of_getElem? hk)).2 j u hj
theorem St.boxLt (h : St w0 w B l) (k : Nat) {b : Nat} {vs : List Value} (hk : l[k]? = some (.box b vs)) : b < w.heap.size := (h.all _ (List.mem_of_getElem? hk)).1
/-- '[]int{..}'. -/
theorem St.lit (h : St w0 w B l) (xs : List Int) (n : Nat) (hn : xs.length = n := by rfl) (hsz : n ≤ 1000 := by decide) (hr : xs.all in64B = true := by decide +kernel) :
    St w0 (w.alloc (.cells (xs.map (Value.int .i64)).toArray 3)) (B + 1) (.ints (some ⟨B, 0, none⟩) n n xs :: l) :=
  (h.bump _).add _ ⟨hn, by subst hn; rw [← h.size]; exact ints_lit w xs (by omega) (in64_all hr)⟩
/-- '[][]int{..}', its rows being items (by their numbers). -/
theorem St.litM (h : St w0 w B l) {ks : List Nat} {v : List (List Int)} {vs : List Value} (hm : RowsAt l ks v vs) (n : Nat) (hn : v.length = n := by rfl) (hsz : n ≤ 1000 := by decide) :
    St w0 (w.alloc (.cells vs.toArray 26)) (B + 1) (.mat (some ⟨B, 0, none⟩) n n v :: l) :=
  (h.bump _).add _ ⟨hn, by
    subst hn; rw [← h.size]
    obtain ⟨h1, h2⟩ := hm.spec h.all
    exact mat_new w v vs (by omega) h1 h2⟩
/-- 'make([][]int, n)', n a numeral. -/
theorem St.mkM (h : St w0 w B l) (n : Nat) (hsz : n ≤ 1000 := by decide) :
    St w0 (w.alloc (.cells (List.replicate n (.slice none 0 0)).toArray 26)) (B + 1) (.mat (some ⟨B, 0, none⟩) n n (List.replicate n []) :: l) :=
  (h.bump _).add _ ⟨by simp, by
    rw [← h.size]
    have := mat_new w (List.replicate n []) (List.replicate n (.slice none 0 0)) (by simp; omega) (by simp) (fun j x hj => by
      rw [List.getElem?_replicate] at hj
      split at hj
      · rename_i hlt
        cases hj
        exact ⟨none, 0, by rw [List.getElem?_replicate, if_pos hlt]; rfl, Ints.ofNil w⟩
      · cases hj)
    simpa using this⟩
/-- '[][][]int{..}', its tables being items. -/
theorem St.litMs (h : St w0 w B l) {ks : List Nat} {ms : List (List (List Int))} {vs : List Value} (hm : MatsAt l ks ms vs) (T : TypeId) :
    St w0 (w.alloc (.cells vs.toArray T)) (B + 1) (.mats B vs ms :: l) := by
  obtain ⟨h1, h2⟩ := hm.spec h.all
  refine (h.bump _).add _ ⟨h1, by simp [h.size], fun j v hj => ?_⟩
  obtain ⟨p, c, h3, h4⟩ := h2 j v hj
  refine ⟨p, c, ?_, h3, h4.below ((Below.refl _ w).alloc (Nat.le_refl _) _) (Nat.le_refl _)⟩
  have hn := World.alloc_heap_new w (.cells vs.toArray T)
  rw [← h.size]
  simp only [World.cell?]
  rw [hn]
  simp [h3]
/-- What goes on: the items, in every world that keeps what lies. -/
theorem St.frame (h : St w0 w B l) : ∃ G : World → Prop, G w ∧ Hid (∀ a b, G a → Below a.heap.size a b → G b) ∧ Hid (∀ a, G a → St w0 a a.heap.size l) :=
  ⟨fun a => St w0 a a.heap.size l, ⟨rfl, h.bel, h.all⟩, fun a b ha hb => ha.step hb, fun a ha => ha⟩
end
end Go.Proofs.Ytojldecldemfaaa
