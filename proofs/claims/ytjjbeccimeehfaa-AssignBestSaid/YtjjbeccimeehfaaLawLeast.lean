/- The walk of the law AssignLeast: for every input it returns true and changes nothing that was there. -/
import Derived.Test.YtjjbeccimeehfaaFit
namespace Go.Proofs.Ytjjbeccimeehfaa
open Go.ChangeShapes Go.WideShapes Go.ChangeAt Go.RowKit Go.Deep
set_option linter.unusedVariables false
set_option linter.unusedSimpArgs false

theorem bestA_length {v : List (List Int)} (hv : Bids v) : (bestA v).length = v.length := (bestA_best hv.1).1.1
theorem priced_least (p : Option Addr) (c : Nat) (v : List (List Int)) (w : World) (hv : Bids v) (hx : Ints w p c (leastL v (bestA v))) :
    Calls Try.prog 29 #[.slice p (leastL v (bestA v)).length c, .int .i64 v.length] w fun e w' => e = .returned (.bool true) ∧ w' = w := by
  refine (priced_any p c _ v.length w hx).mono ?_
  rintro e w' ⟨rfl, rfl⟩
  exact ⟨by simp [pricedB, least_priced hv], rfl⟩
theorem content_least (p q r : Option Addr) (c d f : Nat) (v : List (List Int)) (w : World) (hv : Bids v) (hx : Mat w p c v) (hy : Ints w q d (bestA v)) (hz : Ints w r f (leastL v (bestA v))) :
    Calls Try.prog 30 #[.slice p v.length c, .slice q (bestA v).length d, .slice r (leastL v (bestA v)).length f] w fun e w' => e = .returned (.bool true) ∧ ∃ n, w' = w.drewN n := by
  refine (content_any p q r c d f v _ _ w hx hy hz (fits2_of hv (bestA_best hv.1).1 (least_priced hv))).mono ?_
  rintro e w' ⟨rfl, hw⟩
  exact ⟨by rw [contentB_true (least_content hv)], hw⟩
theorem proves_least (p q r : Option Addr) (c d f : Nat) (v : List (List Int)) (w : World) (hv : Bids v) (hx : Mat w p c v) (hy : Ints w q d (bestA v)) (hz : Ints w r f (leastL v (bestA v))) :
    Calls Try.prog 24 #[.slice p v.length c, .slice q (bestA v).length d, .slice r (leastL v (bestA v)).length f] w fun e w' => e = .returned (.tuple #[.bool true, .int .i64 0]) ∧ Below w.heap.size w w' := by
  have h6 := hv.2.1
  have hl := bestA_length hv
  refine (proves_any p q r c d f v _ _ w hx hy hz (by omega)).mono ?_
  rintro e w' ⟨rfl, hb⟩
  obtain ⟨e1, e2⟩ := prvB_on hv ⟨(bestA_best hv.1).1, least_priced hv⟩
  exact ⟨by rw [e1, e2, contentB_true (least_content hv)], hb⟩

set_option maxHeartbeats 4000000 in
set_option maxRecDepth 100000 in
theorem least_walk (p : Option Addr) (c : Nat) (v : List (List Int)) (qa : Option Addr) (da : Nat) (a : List Int) (qp : Option Addr) (dp : Nat) (pr : List Int) (w : World) (hx : Mat w p c v) (hy : Ints w qa da a) (hz : Ints w qp dp pr) :
    Calls Try.prog 5 #[.slice p v.length c, .slice qa a.length da, .slice qp pr.length dp] w fun e w' => e = .returned (.bool true) ∧ Below w.heap.size w w' := by
  by_cases hv : Bids v
  · have hd : decide (Bids v) = true := by rw [decide_eq_true_iff]; exact hv
    have h6 := hv.2.1
    have HB := Lib.hid (bestA_best hv.1).1
    have Hv := Lib.hid hv
    have Hz := Lib.hid (least_zero hv)
    have Hpl := Lib.hid (leastL_length v (bestA v))
    have hll : (leastL v (bestA v)).length ≤ 6 := by rw [leastL_length]; exact h6
    clear hv
    go_enter Try.func5, Try.ntmps5
    go_wp2_with fail
    refine (alive_any w).mono ?_
    rintro e w1 ⟨rfl, hB1⟩
    have hx1 := hx.below hB1 (Nat.le_refl _)
    have hy1 := hy.below hB1 (Nat.le_refl _)
    have hz1 := hz.below hB1 (Nat.le_refl _)
    go_wp2_with fail
    refine (fit_any p c v w1 hx1).mono ?_
    rintro e w' ⟨rfl, rfl⟩
    rw [hd]
    go_wp2_with fail
    refine (best_ok p c v w' hx1 Hv.out).mono ?_
    rintro e w2 ⟨pa, ca, rfl, hA, hb⟩
    have hx2 := hx1.below hb (Nat.le_refl _)
    have hy2 := hy1.below hb (Nat.le_refl _)
    have hz2 := hz1.below hb (Nat.le_refl _)
    have hB2 := hB1.trans (hb.mono hB1.size)
    clear hb hB1 hx1 hy1 hz1
    go_wp2_with fail
    refine (prices_ok p c v w2 hx2 Hv.out).mono ?_
    rintro e w3 ⟨pp, cp, rfl, hP, hb⟩
    have hx3 := hx2.below hb (Nat.le_refl _)
    have hy3 := hy2.below hb (Nat.le_refl _)
    have hz3 := hz2.below hb (Nat.le_refl _)
    have hA3 := hA.below hb (Nat.le_refl _)
    have hB3 := hB2.trans (hb.mono hB2.size)
    clear hb hB2 hx2 hA hy2 hz2
    go_wp2_with fail
    refine (assigned_best pa ca v w3 Hv.out hA3).mono ?_
    rintro e w' ⟨rfl, rfl⟩
    go_wp2_with fail
    refine (priced_least pp cp v w' Hv.out hP).mono ?_
    rintro e w3 ⟨rfl, rfl⟩
    go_wp2_with fail
    refine (content_least _ _ _ _ _ _ v w3 Hv.out hx3 hA3 hP).mono ?_
    rintro e w4 ⟨rfl, hw⟩
    have hx4 := hx3.drew hw
    have hy4 := hy3.drew hw
    have hz4 := hz3.drew hw
    have hA4 := hA3.drew hw
    have hP4 := hP.drew hw
    have hB4 := hB3.drewP hw
    clear hw hx3 hy3 hz3 hA3 hP hB3
    go_wp2_with fail
    refine (proves_least _ _ _ _ _ _ v w4 Hv.out hx4 hA4 hP4).mono ?_
    rintro e w5 ⟨rfl, hb⟩
    have hx5 := hx4.below hb (Nat.le_refl _)
    have hy5 := hy4.below hb (Nat.le_refl _)
    have hz5 := hz4.below hb (Nat.le_refl _)
    have hP5 := hP4.below hb (Nat.le_refl _)
    have hB5 := hB4.trans (hb.mono hB4.size)
    clear hb hx4 hy4 hz4 hA4 hP4 hB4
    go_wp2_with fail
    go_loop [15, 16] (fun z i => ∃ (b : Bool) (k : Nat), k ≤ (leastL v (bestA v)).length ∧ i = .int .i64 k ∧ z = .bool b ∧ Hid ((∃ j, j < k ∧ iget (leastL v (bestA v)) j = 0) → b = true)) (fun _ i => (leastL v (bestA v)).length - (intOf i).toNat)
    case atStart => exact ⟨false, 0, by omega, rfl, rfl, fun ⟨j, hj, _⟩ => by omega⟩
    case round =>
      obtain ⟨b, k, hk, rfl, rfl, ht⟩ := hrel
      by_cases hlt : k < (leastL v (bestA v)).length
      · have hk1 : (k : Int) < (leastL v (bestA v)).length := by omega
        cases b with
        | true =>
          go_wp2_with fail
          go_round
          case rel => exact ⟨true, k + 1, by omega, by go_num, rfl, fun _ => rfl⟩
          case measure => simp [intOf]; omega
        | false =>
          obtain ⟨bb, o, rfl, _, hc⟩ := hP5.get hlt
          by_cases h0 : iget (leastL v (bestA v)) k = 0
          · have hb0 : (iget (leastL v (bestA v)) k == 0) = true := by rw [beq_iff_eq]; exact h0
            clear h0
            go_wp2_with fail
            go_round
            case rel => exact ⟨true, k + 1, by omega, by go_num, rfl, fun _ => rfl⟩
            case measure => simp [intOf]; omega
          · have hb0 : (iget (leastL v (bestA v)) k == 0) = false := by rw [beq_eq_false_iff_ne]; exact h0
            have H0 := Lib.hid h0
            clear h0
            go_wp2_with fail
            go_round
            case rel =>
              refine ⟨false, k + 1, by omega, by go_num, rfl, fun ⟨j, hj, he⟩ => ?_⟩
              by_cases e : j = k
              · subst e; exact absurd he H0.out
              · exact ht.out ⟨j, by omega, he⟩
            case measure => simp [intOf]; omega
      · have hk1 : ¬ (k : Int) < (leastL v (bestA v)).length := by omega
        have hbt : b = true := ht.out (by obtain ⟨j, hj, he⟩ := Hz.out; exact ⟨j, by have := Hpl.out; omega, he⟩)
        subst hbt
        clear ht
        go_wp2_with fail
        refine (assigned_any qa da a v.length w5 (by omega) hy5).mono ?_
        rintro e w' ⟨rfl, rfl⟩
        by_cases hAa : IsA a v.length
        · rw [isAB_true hAa]
          have HAa := Lib.hid hAa
          clear hAa
          go_wp2_with fail
          refine (priced_any qp dp pr v.length w' hz5).mono ?_
          rintro e w5 ⟨rfl, rfl⟩
          by_cases hPr : PricedP pr v.length
          · rw [show pricedB pr v.length = true by simp [pricedB, hPr]]
            have HPr := Lib.hid hPr
            clear hPr
            go_wp2_with fail
            refine (content_any _ _ _ _ _ _ v a pr w5 hx5 hy5 hz5 (fits2_of Hv.out HAa.out HPr.out)).mono ?_
            rintro e w6 ⟨rfl, hw⟩
            have hz6 := hz5.drew hw
            have hP6 := hP5.drew hw
            have hB6 := hB5.drewP hw
            by_cases hC : ContentP v a pr
            · rw [contentB_true hC]
              have HC := Lib.hid hC
              clear hC hw
              go_wp2_with fail
              go_loopw [17] (fun i wr => ∃ k : Nat, k ≤ (leastL v (bestA v)).length ∧ i = .int .i64 k ∧ ∃ n, wr = w6.drewN n) (fun i _ => (leastL v (bestA v)).length - (intOf i).toNat)
              case atStart => exact ⟨0, by omega, rfl, drew_refl w6⟩
              case round =>
                obtain ⟨k, hk, rfl, hw⟩ := hrel
                by_cases hlt : k < (leastL v (bestA v)).length
                · have hk1 : (k : Int) < (leastL v (bestA v)).length := by omega
                  have hltv : k < v.length := by rw [← Hpl.out]; exact hlt
                  have hltp : k < pr.length := by rw [HPr.out.1]; exact hltv
                  obtain ⟨b, o, rfl, _, hc⟩ := (hP6.drew hw).get hlt
                  obtain ⟨b2, o2, rfl, _, hc2⟩ := (hz6.drew hw).get hltp
                  have hk2 : (k : Int) < pr.length := by omega
                  have hle := least_under Hv.out HAa.out HPr.out HC.out hltv
                  have hnl : decide (iget pr k < iget (leastL v (bestA v)) k) = false := by rw [decide_eq_false_iff_not]; omega
                  have hnl2 : ¬ iget pr k < iget (leastL v (bestA v)) k := by omega
                  have Hw := Lib.hid hw
                  clear hw hltv
                  go_wp2_with fail
                  go_quiet (fail)
                  go_wp2_with fail
                  go_roundw
                  case rel => exact ⟨k + 1, by omega, by go_num, drew_drewN _ Hw.out⟩
                  case measure => simp [intOf]; omega
                · have hk1 : ¬ (k : Int) < (leastL v (bestA v)).length := by omega
                  go_wp2_with fail
                  go_ret
                  exact ⟨rfl, hB6.drewP hw⟩
            · rw [contentB_false hC]
              go_wp2_with fail
              go_ret
              exact ⟨rfl, hB6⟩
          · rw [pricedB_false hPr]
            go_wp2_with fail
            go_ret
            exact ⟨rfl, hB5⟩
        · rw [isAB_false hAa]
          go_wp2_with fail
          go_ret
          exact ⟨rfl, hB5⟩
  · have hd : decide (Bids v) = false := by rw [decide_eq_false_iff_not]; exact hv
    go_enter Try.func5, Try.ntmps5
    go_wp2_with fail
    refine (alive_any w).mono ?_
    rintro e w1 ⟨rfl, hB1⟩
    have hx1 := hx.below hB1 (Nat.le_refl _)
    go_wp2_with fail
    refine (fit_any p c v w1 hx1).mono ?_
    rintro e w' ⟨rfl, rfl⟩
    rw [hd]
    go_wp2_with fail
    go_ret
    exact ⟨rfl, hB1⟩
end Go.Proofs.Ytjjbeccimeehfaa
