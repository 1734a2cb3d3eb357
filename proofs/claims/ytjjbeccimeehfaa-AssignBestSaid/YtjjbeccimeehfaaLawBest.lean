/- The walk of the law AssignBest: for every input it returns true and changes nothing that was there. -/
import Derived.Test.YtjjbeccimeehfaaLawLeast
namespace Go.Proofs.Ytjjbeccimeehfaa
open Go.ChangeShapes Go.WideShapes Go.ChangeAt Go.RowKit Go.Deep
set_option linter.unusedVariables false
set_option linter.unusedSimpArgs false

theorem value_ok (p q : Option Addr) (c d : Nat) (v : List (List Int)) (a : List Int) (w : World) (hv : Bids v) (hA : IsA a v.length) (hx : Mat w p c v) (hy : Ints w q d a) :
    Calls Try.prog 22 #[.slice p v.length c, .slice q a.length d] w fun e w' => e = .returned (.tuple #[.int .i64 (worthI v a), .int .i64 0]) ∧ Below w.heap.size w w' := by
  have h6 := hv.2.1
  have hl := hA.1
  refine (valueTop_any p q c d v a w hx hy (by omega)).mono ?_
  rintro e w' ⟨rfl, hb⟩
  exact ⟨by rw [show valN v a = worthI v a by unfold valN; rw [if_pos ⟨hv, hA⟩], show valE v a = 0 by unfold valE; rw [if_pos hv, if_pos hA]], hb⟩
theorem proves_ok (p q r : Option Addr) (c d f : Nat) (v : List (List Int)) (a pr : List Int) (w : World) (hv : Bids v) (hA : IsA a v.length) (hP : PricedP pr v.length) (hx : Mat w p c v) (hy : Ints w q d a) (hz : Ints w r f pr) :
    Calls Try.prog 24 #[.slice p v.length c, .slice q a.length d, .slice r pr.length f] w fun e w' => e = .returned (.tuple #[.bool (contentB v a pr), .int .i64 0]) ∧ Below w.heap.size w w' := by
  have h6 := hv.2.1
  have hl := hA.1
  refine (proves_any p q r c d f v a pr w hx hy hz (by omega)).mono ?_
  rintro e w' ⟨rfl, hb⟩
  obtain ⟨e1, e2⟩ := prvB_on hv ⟨hA, hP⟩
  exact ⟨by rw [e1, e2], hb⟩
theorem drew_eq {w wr w5 : World} {m : Nat} (h : w5 = wr.drewN m) (hw : ∃ n, wr = w.drewN n) : ∃ n, w5 = w.drewN n := by rw [h]; exact drew_drewN m hw
theorem drew_eq0 {w wr w5 : World} (h : w5 = wr) (hw : ∃ n, wr = w.drewN n) : ∃ n, w5 = w.drewN n := by rw [h]; exact hw
theorem first_of {v : List (List Int)} {a : List Int} (hv : Bids v) (hA : IsA a v.length) (he : worthI v a = worthI v (bestA v)) {k : Nat} (hk : k < v.length) (hb : ∀ j, j < k → iget a j = iget (bestA v) j) (hne : iget a k ≠ iget (bestA v) k) : iget (bestA v) k < iget a k := by
  rcases (bestA_best hv.1).2 with ⟨h0, h1⟩ | ⟨_, h1⟩
  · exact absurd hA (h1 a)
  · rcases h1 a hA with h2 | ⟨_, h2 | ⟨i, hi, h3, h4⟩⟩
    · omega
    · exact absurd (by rw [h2]) hne
    · rcases Nat.lt_trichotomy i k with e | e | e
      · have := hb i e; omega
      · subst e; exact h4
      · exact absurd (h3 k e).symm hne

set_option maxHeartbeats 8000000 in
set_option maxRecDepth 100000 in
theorem best_walk (p : Option Addr) (c : Nat) (v : List (List Int)) (qa : Option Addr) (da : Nat) (a : List Int) (qp : Option Addr) (dp : Nat) (pr : List Int) (w : World) (hx : Mat w p c v) (hy : Ints w qa da a) (hz : Ints w qp dp pr) :
    Calls Try.prog 9 #[.slice p v.length c, .slice qa a.length da, .slice qp pr.length dp] w fun e w' => e = .returned (.bool true) ∧ Below w.heap.size w w' := by
  have hl1 := hx.length_le
  have hl2 := hy.length_le
  by_cases hv : Bids v
  · have hd : decide (Bids v) = true := by rw [decide_eq_true_iff]; exact hv
    by_cases hAa : IsA a v.length
    · have hab : isAB a v.length = true := isAB_true hAa
      have HB := Lib.hid (bestA_best hv.1).1
      have Hbl := Lib.hid (bestA_length hv)
      have Hal := Lib.hid hAa.1
      have Hv := Lib.hid hv
      have HAa := Lib.hid hAa
      have hmax := (bestA_best hv.1).max hAa hv.1
      have hgt : ¬ worthI v (bestA v) < worthI v a := by omega
      clear hv hAa
      by_cases heq : worthI v a = worthI v (bestA v)
      · have hnn : (worthI v a == worthI v (bestA v)) = true := by rw [beq_iff_eq]; exact heq
        have Heq := Lib.hid heq
        clear heq hmax
        go_enter Try.func9, Try.ntmps9
        go_wp2_with fail
        refine (alive_any w).mono ?_
        rintro e w1 ⟨rfl, hB1⟩
        have hx1 := hx.below hB1 (Nat.le_refl _)
        have hy1 := hy.below hB1 (Nat.le_refl _)
        have hz1 := hz.below hB1 (Nat.le_refl _)
        go_wp2_with fail
        refine (fit_any p c v w1 hx1).mono ?_
        rintro e w' ⟨rfl, rfl⟩
        rw [hd]
        go_wp2_with fail
        refine (assigned_any qa da a v.length w' hl1 hy1).mono ?_
        rintro e w1 ⟨rfl, rfl⟩
        rw [hab]
        go_wp2_with fail
        refine (best_ok p c v w1 hx1 Hv.out).mono ?_
        rintro e w2 ⟨pa, ca, rfl, hA, hb⟩
        have hx2 := hx1.below hb (Nat.le_refl _)
        have hy2 := hy1.below hb (Nat.le_refl _)
        have hz2 := hz1.below hb (Nat.le_refl _)
        have hB2 := hB1.trans (hb.mono hB1.size)
        clear hb hB1 hx1 hy1 hz1
        go_wp2_with fail
        refine (value_ok p qa c da v a w2 Hv.out HAa.out hx2 hy2).mono ?_
        rintro e w3 ⟨rfl, hb⟩
        have hx3 := hx2.below hb (Nat.le_refl _)
        have hy3 := hy2.below hb (Nat.le_refl _)
        have hz3 := hz2.below hb (Nat.le_refl _)
        have hA3 := hA.below hb (Nat.le_refl _)
        have hB3 := hB2.trans (hb.mono hB2.size)
        clear hb hB2 hx2 hy2 hz2 hA
        go_wp2_with fail
        refine (assigned_best pa ca v w3 Hv.out hA3).mono ?_
        rintro e w' ⟨rfl, rfl⟩
        go_wp2_with fail
        refine (worth_best p pa c ca v w' hx3 Hv.out hA3).mono ?_
        rintro e w4 ⟨rfl, hw⟩
        have hx4 := hx3.drew hw
        have hy4 := hy3.drew hw
        have hz4 := hz3.drew hw
        have hA4 := hA3.drew hw
        have hB4 := hB3.drewP hw
        clear hw hx3 hy3 hz3 hA3 hB3
        go_wp2_with fail
        go_loopw [13] (fun i wr => ∃ k : Nat, k ≤ a.length ∧ i = .int .i64 k ∧ Hid (∀ j, j < k → iget a j = iget (bestA v) j) ∧ ∃ n, wr = w4.drewN n) (fun i _ => a.length - (intOf i).toNat)
        case atStart => exact ⟨0, by omega, rfl, fun j hj => by omega, drew_refl w4⟩
        case round =>
          obtain ⟨k, hk, rfl, ht, hw⟩ := hrel
          have Hw := Lib.hid hw
          clear hw
          by_cases hlt : k < a.length
          · have hk1 : (k : Int) < a.length := by omega
            have Hlv : Hid (k < v.length) := by have := Hal.out; unfold Hid; omega
            obtain ⟨b, o, rfl, _, hc⟩ := (hy4.drew Hw.out).get hlt
            obtain ⟨b2, o2, rfl, _, hc2⟩ := (hA4.drew Hw.out).get (j := k) (by have := Hbl.out; have := Hlv.out; omega)
            have hk2 : (k : Int) < (bestA v).length := by have := Hbl.out; have := Hlv.out; omega
            by_cases he : iget a k = iget (bestA v) k
            · have hne : (iget a k != iget (bestA v) k) = false := by simp [he]
              have He := Lib.hid he
              clear he
              go_wp2_with fail
              go_quiet (fail)
              go_wp2_with fail
              go_roundw
              case rel => exact ⟨k + 1, by omega, by go_num, snoc_all' ht.out He.out, drew_drewN _ Hw.out⟩
              case measure => simp [intOf]; omega
            · have hne : (iget a k != iget (bestA v) k) = true := by rw [bne_iff_ne]; exact he
              have hlt3 := first_of Hv.out HAa.out Heq.out Hlv.out ht.out he
              have hnl : ¬ iget a k < iget (bestA v) k := by omega
              clear he
              go_wp2_with fail
              go_quiet (fail)
              go_wp2_with fail
              go_quiet (fail)
              go_wp2_with fail
              refine (priced_any qp dp pr v.length _ (hz4.drew (drew_drewN _ Hw.out))).mono ?_
              rintro e w5 ⟨rfl, hw5⟩
              have HD := drew_eq hw5 Hw.out
              clear hw5
              have hx5 := hx4.drew HD
              have hy5 := hy4.drew HD
              have hz5 := hz4.drew HD
              have hA5 := hA4.drew HD
              have hB5 := hB4.drewP HD
              by_cases hPr : PricedP pr v.length
              · rw [show pricedB pr v.length = true by simp [pricedB, hPr]]
                have HPr := Lib.hid hPr
                clear hPr
                go_wp2_with fail
                refine (proves_ok _ _ _ _ _ _ v a pr w5 Hv.out HAa.out HPr.out hx5 hy5 hz5).mono ?_
                rintro e w6 ⟨rfl, hb⟩
                have hx6 := hx5.below hb (Nat.le_refl _)
                have hy6 := hy5.below hb (Nat.le_refl _)
                have hz6 := hz5.below hb (Nat.le_refl _)
                have hA6 := hA5.below hb (Nat.le_refl _)
                have hB6 := hB5.trans (hb.mono hB5.size)
                clear hb
                go_wp2_with fail
                refine (proves_ok _ _ _ _ _ _ v (bestA v) pr w6 Hv.out HB.out HPr.out hx6 hA6 hz6).mono ?_
                rintro e w7 ⟨rfl, hb⟩
                have hx7 := hx6.below hb (Nat.le_refl _)
                have hy7 := hy6.below hb (Nat.le_refl _)
                have hz7 := hz6.below hb (Nat.le_refl _)
                have hB7 := hB6.trans (hb.mono hB6.size)
                clear hb
                by_cases hC : ContentP v a pr
                · have hc1 : contentB v a pr = true := contentB_true hC
                  have hc2 : contentB v (bestA v) pr = true := contentB_true (content_swap HAa.out HB.out hC Heq.out.symm)
                  rw [hc1, hc2]
                  clear hC hc2
                  go_wp2_with fail
                  refine (content_any _ _ _ _ _ _ v a pr w7 hx7 hy7 hz7 (fits2_of Hv.out HAa.out HPr.out)).mono ?_
                  rintro e w8 ⟨rfl, hw⟩
                  rw [hc1]
                  go_wp2_with fail
                  go_ret
                  exact ⟨rfl, hB7.drewP hw⟩
                · have hc1 : contentB v a pr = false := contentB_false hC
                  rw [hc1]
                  clear hC
                  go_wp2_with fail
                  refine (content_any _ _ _ _ _ _ v a pr w7 hx7 hy7 hz7 (fits2_of Hv.out HAa.out HPr.out)).mono ?_
                  rintro e w8 ⟨rfl, hw⟩
                  rw [hc1]
                  go_wp2_with fail
                  go_ret
                  exact ⟨rfl, hB7.drewP hw⟩
              · rw [pricedB_false hPr]
                go_wp2_with fail
                go_ret
                exact ⟨rfl, hB5⟩
          · have hk1 : ¬ (k : Int) < a.length := by omega
            go_wp2_with fail
            refine (priced_any qp dp pr v.length _ (hz4.drew Hw.out)).mono ?_
            rintro e w5 ⟨rfl, hw5⟩
            have HD := drew_eq0 hw5 Hw.out
            clear hw5
            have hx5 := hx4.drew HD
            have hy5 := hy4.drew HD
            have hz5 := hz4.drew HD
            have hA5 := hA4.drew HD
            have hB5 := hB4.drewP HD
            by_cases hPr : PricedP pr v.length
            · rw [show pricedB pr v.length = true by simp [pricedB, hPr]]
              have HPr := Lib.hid hPr
              clear hPr
              go_wp2_with fail
              refine (proves_ok _ _ _ _ _ _ v a pr w5 Hv.out HAa.out HPr.out hx5 hy5 hz5).mono ?_
              rintro e w6 ⟨rfl, hb⟩
              have hx6 := hx5.below hb (Nat.le_refl _)
              have hy6 := hy5.below hb (Nat.le_refl _)
              have hz6 := hz5.below hb (Nat.le_refl _)
              have hA6 := hA5.below hb (Nat.le_refl _)
              have hB6 := hB5.trans (hb.mono hB5.size)
              clear hb
              go_wp2_with fail
              refine (proves_ok _ _ _ _ _ _ v (bestA v) pr w6 Hv.out HB.out HPr.out hx6 hA6 hz6).mono ?_
              rintro e w7 ⟨rfl, hb⟩
              have hx7 := hx6.below hb (Nat.le_refl _)
              have hy7 := hy6.below hb (Nat.le_refl _)
              have hz7 := hz6.below hb (Nat.le_refl _)
              have hB7 := hB6.trans (hb.mono hB6.size)
              clear hb
              by_cases hC : ContentP v a pr
              · have hc1 : contentB v a pr = true := contentB_true hC
                have hc2 : contentB v (bestA v) pr = true := contentB_true (content_swap HAa.out HB.out hC Heq.out.symm)
                rw [hc1, hc2]
                clear hC hc2
                go_wp2_with fail
                refine (content_any _ _ _ _ _ _ v a pr w7 hx7 hy7 hz7 (fits2_of Hv.out HAa.out HPr.out)).mono ?_
                rintro e w8 ⟨rfl, hw⟩
                rw [hc1]
                go_wp2_with fail
                go_ret
                exact ⟨rfl, hB7.drewP hw⟩
              · have hc1 : contentB v a pr = false := contentB_false hC
                rw [hc1]
                clear hC
                go_wp2_with fail
                refine (content_any _ _ _ _ _ _ v a pr w7 hx7 hy7 hz7 (fits2_of Hv.out HAa.out HPr.out)).mono ?_
                rintro e w8 ⟨rfl, hw⟩
                rw [hc1]
                go_wp2_with fail
                go_ret
                exact ⟨rfl, hB7.drewP hw⟩
            · rw [pricedB_false hPr]
              go_wp2_with fail
              go_ret
              exact ⟨rfl, hB5⟩
      · have hnn : (worthI v a == worthI v (bestA v)) = false := by rw [beq_eq_false_iff_ne]; exact heq
        have Hlt : Hid (worthI v a < worthI v (bestA v)) := by unfold Hid; omega
        clear heq hmax
        go_enter Try.func9, Try.ntmps9
        go_wp2_with fail
        refine (alive_any w).mono ?_
        rintro e w1 ⟨rfl, hB1⟩
        have hx1 := hx.below hB1 (Nat.le_refl _)
        have hy1 := hy.below hB1 (Nat.le_refl _)
        have hz1 := hz.below hB1 (Nat.le_refl _)
        go_wp2_with fail
        refine (fit_any p c v w1 hx1).mono ?_
        rintro e w' ⟨rfl, rfl⟩
        rw [hd]
        go_wp2_with fail
        refine (assigned_any qa da a v.length w' hl1 hy1).mono ?_
        rintro e w1 ⟨rfl, rfl⟩
        rw [hab]
        go_wp2_with fail
        refine (best_ok p c v w1 hx1 Hv.out).mono ?_
        rintro e w2 ⟨pa, ca, rfl, hA, hb⟩
        have hx2 := hx1.below hb (Nat.le_refl _)
        have hy2 := hy1.below hb (Nat.le_refl _)
        have hz2 := hz1.below hb (Nat.le_refl _)
        have hB2 := hB1.trans (hb.mono hB1.size)
        clear hb hB1 hx1 hy1 hz1
        go_wp2_with fail
        refine (value_ok p qa c da v a w2 Hv.out HAa.out hx2 hy2).mono ?_
        rintro e w3 ⟨rfl, hb⟩
        have hx3 := hx2.below hb (Nat.le_refl _)
        have hy3 := hy2.below hb (Nat.le_refl _)
        have hz3 := hz2.below hb (Nat.le_refl _)
        have hA3 := hA.below hb (Nat.le_refl _)
        have hB3 := hB2.trans (hb.mono hB2.size)
        clear hb hB2 hx2 hy2 hz2 hA
        go_wp2_with fail
        refine (assigned_best pa ca v w3 Hv.out hA3).mono ?_
        rintro e w' ⟨rfl, rfl⟩
        go_wp2_with fail
        refine (worth_best p pa c ca v w' hx3 Hv.out hA3).mono ?_
        rintro e w4 ⟨rfl, hw⟩
        have hx4 := hx3.drew hw
        have hy4 := hy3.drew hw
        have hz4 := hz3.drew hw
        have hA4 := hA3.drew hw
        have hB4 := hB3.drewP hw
        clear hw hx3 hy3 hz3 hA3 hB3
        go_wp2_with fail
        go_loop [13] (fun i => i = .int .i64 0) (fun _ => 0)
        case atStart => rfl
        case round =>
          obtain rfl := hrel
          go_wp2_with fail
          refine (priced_any qp dp pr v.length _ (hz4.drew (drew_refl _))).mono ?_
          rintro e w5 ⟨rfl, hw5⟩
          have HD := drew_eq0 hw5 (drew_refl _)
          clear hw5
          have hx5 := hx4.drew HD
          have hy5 := hy4.drew HD
          have hz5 := hz4.drew HD
          have hA5 := hA4.drew HD
          have hB5 := hB4.drewP HD
          by_cases hPr : PricedP pr v.length
          · rw [show pricedB pr v.length = true by simp [pricedB, hPr]]
            have HPr := Lib.hid hPr
            clear hPr
            go_wp2_with fail
            refine (proves_ok _ _ _ _ _ _ v a pr w5 Hv.out HAa.out HPr.out hx5 hy5 hz5).mono ?_
            rintro e w6 ⟨rfl, hb⟩
            have hx6 := hx5.below hb (Nat.le_refl _)
            have hy6 := hy5.below hb (Nat.le_refl _)
            have hz6 := hz5.below hb (Nat.le_refl _)
            have hA6 := hA5.below hb (Nat.le_refl _)
            have hB6 := hB5.trans (hb.mono hB5.size)
            clear hb
            go_wp2_with fail
            refine (proves_ok _ _ _ _ _ _ v (bestA v) pr w6 Hv.out HB.out HPr.out hx6 hA6 hz6).mono ?_
            rintro e w7 ⟨rfl, hb⟩
            have hx7 := hx6.below hb (Nat.le_refl _)
            have hy7 := hy6.below hb (Nat.le_refl _)
            have hz7 := hz6.below hb (Nat.le_refl _)
            have hB7 := hB6.trans (hb.mono hB6.size)
            clear hb
            have hcf : contentB v a pr = false := contentB_false fun hC => by have := content_max HAa.out HB.out hC; have := Hlt.out; omega
            rw [hcf]
            go_wp2_with fail
            go_ret
            exact ⟨rfl, hB7⟩
          · rw [pricedB_false hPr]
            go_wp2_with fail
            go_ret
            exact ⟨rfl, hB5⟩
    · have hab : isAB a v.length = false := isAB_false hAa
      go_enter Try.func9, Try.ntmps9
      go_wp2_with fail
      refine (alive_any w).mono ?_
      rintro e w1 ⟨rfl, hB1⟩
      have hx1 := hx.below hB1 (Nat.le_refl _)
      have hy1 := hy.below hB1 (Nat.le_refl _)
      have hz1 := hz.below hB1 (Nat.le_refl _)
      go_wp2_with fail
      refine (fit_any p c v w1 hx1).mono ?_
      rintro e w' ⟨rfl, rfl⟩
      rw [hd]
      go_wp2_with fail
      refine (assigned_any qa da a v.length w' hl1 hy1).mono ?_
      rintro e w1 ⟨rfl, rfl⟩
      rw [hab]
      go_wp2_with fail
      go_ret
      exact ⟨rfl, hB1⟩
  · have hd : decide (Bids v) = false := by rw [decide_eq_false_iff_not]; exact hv
    go_enter Try.func9, Try.ntmps9
    go_wp2_with fail
    refine (alive_any w).mono ?_
    rintro e w1 ⟨rfl, hB1⟩
    have hx1 := hx.below hB1 (Nat.le_refl _)
    have hy1 := hy.below hB1 (Nat.le_refl _)
    have hz1 := hz.below hB1 (Nat.le_refl _)
    go_wp2_with fail
    refine (fit_any p c v w1 hx1).mono ?_
    rintro e w' ⟨rfl, rfl⟩
    rw [hd]
    go_wp2_with fail
    go_ret
    exact ⟨rfl, hB1⟩
end Go.Proofs.Ytjjbeccimeehfaa
