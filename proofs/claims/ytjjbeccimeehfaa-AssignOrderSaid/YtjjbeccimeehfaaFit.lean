/- The walk of fit, and what Best, Prices and Harm hand back for valid bids; no condition. -/
import Derived.Test.YtjjbeccimeehfaaContP
import Derived.Test.YtjjbeccimeehfaaAlive
namespace Go.Proofs.Ytjjbeccimeehfaa
open Go.ChangeShapes Go.WideShapes Go.ChangeAt Go.RowKit Go.Deep
set_option linter.unusedVariables false
set_option linter.unusedSimpArgs false

set_option maxHeartbeats 800000 in
theorem fit_any (p : Option Addr) (c : Nat) (v : List (List Int)) (w : World) (hx : Mat w p c v) :
    Calls Try.prog 27 #[.slice p v.length c] w fun e w' => e = .returned (.bool (decide (Bids v))) ∧ w' = w := by
  have hl1 := hx.length_le
  by_cases h6 : (v.length : Int) ≤ 6
  · by_cases hv : Bids v
    · have Hd : Hid (decide (Bids v) = true) := by unfold Hid; rw [decide_eq_true_iff]; exact hv
      have hc : (chkI v == 0) = true := by rw [beq_iff_eq]; exact chkI_bids hv
      clear hv
      go_enter Try.func27, Try.ntmps27
      go_wp2_with fail
      refine (refCheck_any p c v w hx).mono ?_
      rintro e w' ⟨rfl, rfl⟩
      go_wp2_with fail
      go_ret
      exact ⟨ret_bool Hd.out.symm, rfl⟩
    · have Hd : Hid (decide (Bids v) = false) := by unfold Hid; rw [decide_eq_false_iff_not]; exact hv
      have hc : (chkI v == 0) = false := by rw [beq_eq_false_iff_ne]; exact fun h => hv (chkI_zero.1 h)
      clear hv
      go_enter Try.func27, Try.ntmps27
      go_wp2_with fail
      refine (refCheck_any p c v w hx).mono ?_
      rintro e w' ⟨rfl, rfl⟩
      go_wp2_with fail
      go_ret
      exact ⟨ret_bool Hd.out.symm, rfl⟩
  · have Hd : Hid (decide (Bids v) = false) := by unfold Hid; rw [decide_eq_false_iff_not]; exact fun h => h6 (by have := h.2.1; omega)
    go_enter Try.func27, Try.ntmps27
    go_wp2_with fail
    go_ret
    exact ⟨ret_bool Hd.out.symm, rfl⟩

theorem best_ok (p : Option Addr) (c : Nat) (v : List (List Int)) (w : World) (hx : Mat w p c v) (hv : Bids v) :
    Calls Try.prog 12 #[.slice p v.length c] w fun e w' => ∃ q d, e = .returned (.tuple #[.slice q (bestA v).length d, .int .i64 (worthI v (bestA v)), .int .i64 0]) ∧ Ints w' q d (bestA v) ∧ Below w.heap.size w w' := by
  refine (bestTop_any p c v w hx).mono ?_
  rintro e w' ⟨q, d, rfl, hO, hb⟩
  have h1 : bestL v = bestA v := by unfold bestL; rw [if_pos hv]
  have h2 : bestN v = worthI v (bestA v) := by unfold bestN; rw [if_pos hv]
  rw [h1] at hO
  exact ⟨q, d, by rw [h1, h2, chkI_bids hv], hO.ints, hb⟩
theorem prices_ok (p : Option Addr) (c : Nat) (v : List (List Int)) (w : World) (hx : Mat w p c v) (hv : Bids v) :
    Calls Try.prog 14 #[.slice p v.length c] w fun e w' => ∃ q d, e = .returned (.tuple #[.slice q (leastL v (bestA v)).length d, .int .i64 0]) ∧ Ints w' q d (leastL v (bestA v)) ∧ Below w.heap.size w w' := by
  refine (prices_any p c v w hx).mono ?_
  rintro e w' ⟨q, d, rfl, hO, hb⟩
  have h1 : priceL v = leastL v (bestA v) := by unfold priceL; rw [if_pos hv]
  rw [h1] at hO
  exact ⟨q, d, by rw [h1, chkI_bids hv], hO.ints, hb⟩
theorem harm_ok (p : Option Addr) (c : Nat) (v : List (List Int)) (w : World) (hx : Mat w p c v) (hv : Bids v) :
    Calls Try.prog 16 #[.slice p v.length c] w fun e w' => ∃ q d, e = .returned (.tuple #[.slice q (harmL v).length d, .int .i64 0]) ∧ Ints w' q d (harmL v) ∧ Below w.heap.size w w' := by
  refine (harm_any p c v w hx).mono ?_
  rintro e w' ⟨q, d, rfl, hO, hb⟩
  exact ⟨q, d, by rw [chkI_bids hv], hO.ints, hb⟩
theorem assigned_best (p : Option Addr) (c : Nat) (v : List (List Int)) (w : World) (hv : Bids v) (hx : Ints w p c (bestA v)) :
    Calls Try.prog 28 #[.slice p (bestA v).length c, .int .i64 v.length] w fun e w' => e = .returned (.bool true) ∧ w' = w := by
  refine (assigned_any p c (bestA v) v.length w (by have := hv.2.1; omega) hx).mono ?_
  rintro e w' ⟨rfl, rfl⟩
  exact ⟨by rw [isAB_true (bestA_best hv.1).1], rfl⟩
theorem worth_best (p q : Option Addr) (c d : Nat) (v : List (List Int)) (w : World) (hx : Mat w p c v) (hv : Bids v) (hy : Ints w q d (bestA v)) :
    Calls Try.prog 32 #[.slice p v.length c, .slice q (bestA v).length d] w fun e w' => e = .returned (.int .i64 (worthI v (bestA v))) ∧ ∃ n, w' = w.drewN n :=
  worth_any p q c d v (bestA v) w hx hy (fits_of hv (bestA_best hv.1).1)

set_option maxHeartbeats 4000000 in
set_option maxRecDepth 100000 in
theorem harm_walk (p : Option Addr) (c : Nat) (v : List (List Int)) (w : World) (hx : Mat w p c v) :
    Calls Try.prog 6 #[.slice p v.length c] w fun e w' => e = .returned (.bool true) ∧ Below w.heap.size w w' := by
  by_cases hv : Bids v
  · have hd : decide (Bids v) = true := by rw [decide_eq_true_iff]; exact hv
    have HB := Lib.hid (bestA_best hv.1).1
    have Hv := Lib.hid hv
    have hn1 : (((leastL v (bestA v)).length : Int) != v.length) = false := by rw [leastL_length]; simp
    have hn2 : (((harmL v).length : Int) != v.length) = false := by rw [harmL_length hv]; simp
    clear hv
    go_enter Try.func6, Try.ntmps6
    go_wp2_with fail
    refine (alive_any w).mono ?_
    rintro e w1 ⟨rfl, hB1⟩
    have hx1 := hx.below hB1 (Nat.le_refl _)
    go_wp2_with fail
    refine (fit_any p c v w1 hx1).mono ?_
    rintro e w' ⟨rfl, rfl⟩
    rw [hd]
    go_wp2_with fail
    refine (best_ok p c v w' hx1 Hv.out).mono ?_
    rintro e w2 ⟨pa, ca, rfl, hA, hb⟩
    have hx2 := hx1.below hb (Nat.le_refl _)
    have hB2 := hB1.trans (hb.mono hB1.size)
    clear hb hB1 hx1
    go_wp2_with fail
    refine (prices_ok p c v w2 hx2 Hv.out).mono ?_
    rintro e w3 ⟨pp, cp, rfl, hP, hb⟩
    have hx3 := hx2.below hb (Nat.le_refl _)
    have hA3 := hA.below hb (Nat.le_refl _)
    have hB3 := hB2.trans (hb.mono hB2.size)
    clear hb hB2 hx2 hA
    go_wp2_with fail
    refine (harm_ok p c v w3 hx3 Hv.out).mono ?_
    rintro e w4 ⟨ph, ch, rfl, hH, hb⟩
    have hx4 := hx3.below hb (Nat.le_refl _)
    have hA4 := hA3.below hb (Nat.le_refl _)
    have hP4 := hP.below hb (Nat.le_refl _)
    have hB4 := hB3.trans (hb.mono hB3.size)
    clear hb hB3 hx3 hA3 hP
    go_wp2_with fail
    refine (assigned_best pa ca v w4 Hv.out hA4).mono ?_
    rintro e w' ⟨rfl, rfl⟩
    go_wp2_with fail
    have hal := hA4.length_le
    go_loopw [11] (fun i wr => ∃ k : Nat, k ≤ (bestA v).length ∧ i = .int .i64 k ∧ ∃ n, wr = w'.drewN n) (fun i _ => (bestA v).length - (intOf i).toNat)
    case atStart => exact ⟨0, by omega, rfl, drew_refl w'⟩
    case round =>
      obtain ⟨k, hk, rfl, hw⟩ := hrel
      by_cases hlt : k < (bestA v).length
      · have hlt2 : k < v.length := by rw [← HB.out.1]; exact hlt
        have hk1 : (k : Int) < (bestA v).length := by omega
        obtain ⟨b, o, rfl, _, hc⟩ := (hA4.drew hw).get hlt
        obtain ⟨i1, i2⟩ := isA_lt HB.out k hlt2
        obtain ⟨x, hxx⟩ : ∃ x : Nat, iget (bestA v) k = (x : Int) := ⟨(iget (bestA v) k).toNat, by omega⟩
        have hit : itm (bestA v) k = x := by simp [itm, hxx]
        rw [hit] at i2
        rw [hxx] at hc
        obtain ⟨b2, o2, rfl, _, hc2⟩ := (hP4.drew hw).get (j := x) (by rw [leastL_length]; exact i2)
        obtain ⟨b3, o3, rfl, _, hc3⟩ := (hH.drew hw).get (j := k) (by rw [harmL_length Hv.out]; exact hlt2)
        have hk2 : (x : Int) < (leastL v (bestA v)).length := by rw [leastL_length]; omega
        have hk3 : (k : Int) < (harmL v).length := by rw [harmL_length Hv.out]; omega
        have hne : (iget (leastL v (bestA v)) x != iget (harmL v) k) = false := by rw [harm_least Hv.out hlt2, hit]; simp
        have Hw := Lib.hid hw
        clear hw hxx hit i1 hlt2 i2
        go_wp2_with fail
        go_quiet (fail)
        go_wp2_with fail
        go_roundw
        case rel => exact ⟨k + 1, by omega, by go_num, drew_drewN _ Hw.out⟩
        case measure => simp [intOf]; omega
      · have hk1 : ¬ (k : Int) < (bestA v).length := by omega
        go_wp2_with fail
        go_ret
        exact ⟨rfl, hB4.drewP hw⟩
  · have hd : decide (Bids v) = false := by rw [decide_eq_false_iff_not]; exact hv
    go_enter Try.func6, Try.ntmps6
    go_wp2_with fail
    refine (alive_any w).mono ?_
    rintro e w1 ⟨rfl, hB1⟩
    have hx1 := hx.below hB1 (Nat.le_refl _)
    go_wp2_with fail
    refine (fit_any p c v w1 hx1).mono ?_
    rintro e w' ⟨rfl, rfl⟩
    rw [hd]
    go_wp2_with fail
    go_ret
    exact ⟨rfl, hB1⟩
end Go.Proofs.Ytjjbeccimeehfaa
