/- The walks of the reference's functions Best, Prices and Harm, for every bids. -/
import Derived.Test.YtjjbeccimeehfaaAssignB
import Derived.Test.YtjjbeccimeehfaaHarmP
namespace Go.Proofs.Ytjjbeccimeehfaa
set_option linter.unusedVariables false
set_option linter.unusedSimpArgs false
open Go.ChangeShapes Go.WideShapes Go.ChangeAt Go.RowKit Go.Deep

set_option maxHeartbeats 800000 in
theorem refBest_any (p : Option Addr) (c : Nat) (v : List (List Int)) (w : World) (hx : Mat w p c v) :
    Calls Try.prog 13 #[.slice p v.length c] w (Gives3 w (bestL v) (bestN v) (chkI v)) := by
  by_cases hv : Bids v
  · have hc := chkI_bids hv
    have Hc := Lib.hid hc
    have hcz : (chkI v != 0) = false := by rw [hc]; rfl
    clear hc
    have HL : Hid (bestL v = bestA v) := by unfold Hid bestL; rw [if_pos hv]
    have HN : Hid (bestN v = worthI v (bestA v)) := by unfold Hid bestN; rw [if_pos hv]
    have hB := bestA_best hv.1
    have HF := Lib.hid (fits_of hv hB.1)
    clear hB
    go_enter Try.func13, Try.ntmps13
    go_wp2_with fail
    refine (refCheck_any p c v w hx).mono ?_
    rintro e w' ⟨rfl, rfl⟩
    go_wp2_with fail
    refine (most_any p c v w' hx hv).mono ?_
    rintro e w1 ⟨q, d, rfl, hO, hb⟩
    have hx1 := hx.below hb (Nat.le_refl _)
    go_wp2_with fail
    refine (worth_any _ _ _ _ _ _ _ hx1 hO.ints HF.out).mono ?_
    rintro e w2 ⟨rfl, hw⟩
    go_wp2_with fail
    go_ret3
    rw [HL.out, HN.out, Hc.out]
    exact ⟨q, d, rfl, hO.drew hw, hb.drewP hw⟩
  · have hc : (chkI v != 0) = true := by rw [bne_iff_ne]; exact fun h => hv (chkI_zero.1 h)
    have HL : Hid (bestL v = []) := by unfold Hid bestL; rw [if_neg hv]
    have HN : Hid (bestN v = 0) := by unfold Hid bestN; rw [if_neg hv]
    go_enter Try.func13, Try.ntmps13
    go_wp2_with (go_at_call 19; refine (refCheck_any p c v _ hx).mono ?_; rintro e w' ⟨rfl, rfl⟩)
    go_ret3
    rw [HL.out, HN.out]
    exact ⟨none, 0, rfl, Own.ofNil _ _, Below.refl _ _⟩

set_option maxHeartbeats 800000 in
theorem refPrices_any (p : Option Addr) (c : Nat) (v : List (List Int)) (w : World) (hx : Mat w p c v) :
    Calls Try.prog 15 #[.slice p v.length c] w (Gives2 w (priceL v) (chkI v)) := by
  by_cases hv : Bids v
  · have hc := chkI_bids hv
    have Hc := Lib.hid hc
    have hcz : (chkI v != 0) = false := by rw [hc]; rfl
    clear hc
    have HL : Hid (priceL v = leastL v (bestA v)) := by unfold Hid priceL; rw [if_pos hv]
    have hB := bestA_best hv.1
    go_enter Try.func15, Try.ntmps15
    go_wp2_with fail
    refine (refCheck_any p c v w hx).mono ?_
    rintro e w' ⟨rfl, rfl⟩
    go_wp2_with fail
    refine (most_any p c v w' hx hv).mono ?_
    rintro e w1 ⟨q, d, rfl, hO, hb⟩
    have hx1 := hx.below hb (Nat.le_refl _)
    have hcall : Calls Try.prog 35 #[.slice p v.length c, .slice q (bestA v).length d] w1 (Gives w1 (leastL v (bestA v))) := by rw [hB.1.1]; exact least_any p q c d v (bestA v) w1 hx1 hO.ints hv hB.1
    have hsz := hb.size
    clear hB
    go_wp2_with fail
    refine hcall.mono ?_
    rintro e w2 ⟨q2, d2, rfl, hO2, hb2⟩
    clear hcall
    go_wp2_with fail
    go_ret2
    rw [HL.out, Hc.out]
    exact ⟨q2, d2, rfl, hO2.lower hsz, hb.trans (hb2.mono hsz)⟩
  · have hc : (chkI v != 0) = true := by rw [bne_iff_ne]; exact fun h => hv (chkI_zero.1 h)
    have HL : Hid (priceL v = []) := by unfold Hid priceL; rw [if_neg hv]
    go_enter Try.func15, Try.ntmps15
    go_wp2_with (go_at_call 19; refine (refCheck_any p c v _ hx).mono ?_; rintro e w' ⟨rfl, rfl⟩)
    go_ret2
    rw [HL.out]
    exact ⟨none, 0, rfl, Own.ofNil _ _, Below.refl _ _⟩
end Go.Proofs.Ytjjbeccimeehfaa
