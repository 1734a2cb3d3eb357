/- The walk of assign.Prices, for every bids. -/
import Derived.Test.YtojldecldemfaaaAssignA
import Derived.Test.YtojldecldemfaaaPricesP
import Derived.StillTailTactics
namespace Go.Proofs.Ytojldecldemfaaa
set_option linter.unusedVariables false
set_option linter.unusedSimpArgs false
open Go.ChangeShapes Go.WideShapes Go.ChangeAt Go.RowKit Go.Deep

/-- What Prices hands back. -/
noncomputable def priceL (v : List (List Int)) : List Int := if Bids v then leastL v (bestA v) else []

/-- The prices in the rounds lie between 0 and a small number. -/
def Small (n : Nat) (q : List Int) : Prop := q.length = n ∧ ∀ j, j < n → 0 ≤ iget q j ∧ iget q j ≤ 6000000
theorem leastP_bound {v : List (List Int)} {a : List Int} (hv : Bids v) (ha : IsA a v.length) (j : Nat) : leastP (wl v a) v.length j ≤ 6000000 := by
  unfold leastP
  exact (maxTo_bound (f := fun i => lnkS (wl v a) v.length i j) (M := 6000000) (by omega) (fun i hi => (lnkS_bound hv ha j hi).2)).2
theorem small_J {v : List (List Int)} {a : List Int} (hv : Bids v) (hb : IsBest v a) {r i k : Nat} (hi : i < v.length) (hk : k ≤ v.length) : Small v.length (bfJ v a (bfI v a (bfR v a r) i) i k) := by
  have hh : ∀ y z, y < v.length → z < v.length → leastP (wl v a) v.length y + wl v a y z ≤ leastP (wl v a) v.length z := fun y z hy hz => leastP_step hb hv.1 hy hz
  have h := under_J hb.1 hh (under_I hb.1 hh (under_R hb.1 hh (fun j _ => leastP_nonneg _ _ j) r) i (by omega)) hi k hk
  exact ⟨h.1, fun j hj => ⟨(h.2 j hj).1, Int.le_trans (h.2 j hj).2 (leastP_bound hv hb.1 j)⟩⟩

set_option maxHeartbeats 4000000 in
set_option maxRecDepth 100000 in
theorem prices_any (p : Option Addr) (c : Nat) (v : List (List Int)) (w : World) (hx : Mat w p c v) :
    Calls Try.prog 41 #[.slice p v.length c] w (Gives2 w (priceL v) (chkI v)) := by
  by_cases hv : Bids v
  · have h6 := hv.2.1
    have HL : Hid (priceL v = leastL v (bestA v)) := by unfold Hid priceL; rw [if_pos hv]
    have HB : Hid (bestL v = bestA v) := by unfold Hid bestL; rw [if_pos hv]
    have hc := chkI_bids hv
    have Hc := Lib.hid hc
    clear hc
    have hcz : (chkI v != 0) = false := by rw [Hc.out]; rfl
    go_enter Try.func41, Try.ntmps41
    go_wp2_with fail
    refine (bestTop_any p c v w hx).mono ?_
    rintro e w1 ⟨q, d, rfl, hO, hb⟩
    have hBest : IsBest v (bestA v) := bestA_best hv.1
    rw [HB.out] at hO ⊢
    obtain ⟨a, ha⟩ : ∃ a, bestA v = a := ⟨_, rfl⟩
    rw [ha] at hO hBest HL ⊢
    clear ha
    have hal := hBest.1.1
    have Hal := Lib.hid hal
    have hx1 := hx.below hb (Nat.le_refl _)
    have hI := hO.ints
    have hsz := hb.size
    clear hal hO
    go_wp2_with (at_make; refine wpList_mk rfl (.tmp 21) (.tmp 21) rfl w.heap.size v.length rfl rfl (by omega) hsz ?_; intro w2 hO2 hg2 hs2)
    have hz : bfR v a 0 = List.replicate v.length 0 := rfl
    rw [← hz] at hO2
    have hb2 : Below w1.heap.size w1 w2 := (Below.refl _ _).grown hg2 (Nat.le_refl _) (fun _ e => by cases e)
    have HX := Lib.hid hx1
    have HI := Lib.hid hI
    have HO2 := Lib.hid hO2
    have HB2 := Lib.hid hb2
    clear hx1 hI hg2 hs2 hz hO2 hb2
    go_loopw [25] (fun t wr => ∃ r : Nat, r ≤ v.length ∧ t = .int .i64 r ∧ Own wr w.heap.size (some ⟨w1.heap.size, 0, none⟩) v.length (bfR v a r) ∧ Below w1.heap.size w1 wr) (fun t _ => v.length - (intOf t).toNat)
    case atStart => exact ⟨0, Nat.zero_le _, rfl, HO2.out, HB2.out⟩
    case round =>
      obtain ⟨r, hr, rfl, hO, hbr⟩ := hrel
      have HOr := Lib.hid hO
      have HBr := Lib.hid hbr
      clear hO hbr
      by_cases hrn : r < v.length
      · have hr1 : (r : Int) < v.length := by omega
        go_wp2_with fail
        go_loopw [29] (fun t wr => ∃ i : Nat, i ≤ v.length ∧ t = .int .i64 i ∧ Own wr w.heap.size (some ⟨w1.heap.size, 0, none⟩) v.length (bfI v a (bfR v a r) i) ∧ Below w1.heap.size w1 wr) (fun t _ => v.length - (intOf t).toNat)
        case atStart => exact ⟨0, Nat.zero_le _, rfl, HOr.out, HBr.out⟩
        case round =>
          obtain ⟨i, hi, rfl, hO, hbr⟩ := hrel
          have HOi := Lib.hid hO
          have hIi := HI.out.below hbr (Nat.le_refl _)
          have HBi := Lib.hid hbr
          clear hO hbr
          by_cases hin : i < v.length
          · have hal : i < a.length := by rw [Hal.out]; exact hin
            have hal1 : (i : Int) < a.length := by omega
            obtain ⟨b, o, rfl, _, hci⟩ := hIi.get hal
            go_wp2_with fail
            go_loopw [36] (fun t wr => ∃ k : Nat, k ≤ v.length ∧ t = .int .i64 k ∧ Own wr w.heap.size (some ⟨w1.heap.size, 0, none⟩) v.length (bfJ v a (bfI v a (bfR v a r) i) i k) ∧ Below w1.heap.size w1 wr) (fun t _ => v.length - (intOf t).toNat)
            case atStart => exact ⟨0, Nat.zero_le _, rfl, HOi.out, HBi.out⟩
            case round =>
              obtain ⟨k, hk, rfl, hO, hbr⟩ := hrel
              by_cases hkn : k < v.length
              · have hk1 : (k : Int) < v.length := by omega
                have hxr := HX.out.below hbr (Nat.le_refl _)
                obtain ⟨b2, o2, rfl, _, q1, d1, hcr, hir⟩ := hxr.get hin
                obtain ⟨i1, i2⟩ := isA_lt hBest.1 i hin
                have hrl := (hv.2.2 i hin).1
                have hin1 : (i : Int) < v.length := by omega
                obtain ⟨b3, o3, rfl, _, hcik⟩ := hir.get (j := k) (by omega)
                have hcio := hir.at (j := itm a i) (by omega)
                have hsm := small_J (r := r) hv hBest hin hk
                have hqk := hO.at (j := k) (by rw [hsm.1]; exact hkn)
                have hqo := hO.at (j := itm a i) (by rw [hsm.1]; exact i2)
                have hfk := hO.free k
                have s1 := hsm.2 k hkn
                have s2 := hsm.2 _ i2
                have v1 := (hv.2.2 i hin).2 k hkn
                have v2 := (hv.2.2 i hin).2 _ i2
                have Hst : Hid (bfJ v a (bfI v a (bfR v a r) i) i (k + 1) = (bfJ v a (bfI v a (bfR v a r) i) i k).set k (max (iget (bfJ v a (bfI v a (bfR v a r) i) i k) k) (iget (bfJ v a (bfI v a (bfR v a r) i) i k) (itm a i) + iget (rget v i) k - iget (rget v i) (itm a i)))) := rfl
                obtain ⟨x, hxx⟩ : ∃ x : Nat, iget a i = (x : Int) := ⟨(iget a i).toNat, by omega⟩
                have hit : itm a i = x := by simp [itm, hxx]
                rw [hit] at hcio hqo s2 v2 i2 Hst
                rw [hxx] at hci ⊢
                clear hxx hit i1
                have hk2 : (k : Int) < (rget v i).length := by omega
                have hk3 : (x : Int) < (rget v i).length := by omega
                have hk4 : (x : Int) < v.length := by omega
                clear hrl
                generalize bfJ v a (bfI v a (bfR v a r) i) i k = Q at *
                have HOq := Lib.hid hO
                have HBq := Lib.hid hbr
                clear hsm hO hbr
                obtain ⟨y1, e1⟩ : ∃ y, iget Q k = y := ⟨_, rfl⟩
                obtain ⟨y2, e2⟩ : ∃ y, iget Q x = y := ⟨_, rfl⟩
                obtain ⟨y3, e3⟩ : ∃ y, iget (rget v i) k = y := ⟨_, rfl⟩
                obtain ⟨y4, e4⟩ : ∃ y, iget (rget v i) x = y := ⟨_, rfl⟩
                rw [e1] at hqk s1 Hst
                rw [e2] at hqo s2 Hst
                rw [e3] at hcik v1 Hst
                rw [e4] at hcio v2 Hst
                clear e1 e2 e3 e4
                have hin3 : in64 y1 := ⟨by omega, by omega⟩
                have hin4 : in64 (y2 + y3 - y4) := ⟨by omega, by omega⟩
                by_cases hgt : y1 < y2 + y3 - y4
                · have Hm : Hid (max y1 (y2 + y3 - y4) = y2 + y3 - y4) := by unfold Hid; omega
                  go_wp2_with fail
                  go_still_tail 28, (by kernel_rfl)
                  go_wp2_with fail
                  go_roundw
                  case rel => exact ⟨k + 1, by omega, by go_num, by rw [Hst.out, Hm.out]; exact (HOq.out.set k hin4).1.drew1, (HBq.out.setCell (p := ⟨w1.heap.size, k, none⟩) (Nat.le_refl _) _).drew⟩
                  case measure => simp [intOf]; omega
                · have Hm : Hid (max y1 (y2 + y3 - y4) = y1) := by unfold Hid; omega
                  have hle : y2 + y3 - y4 ≤ y1 := by omega
                  go_wp2_with fail
                  go_still_tail 28, (by kernel_rfl)
                  go_wp2_with fail
                  go_roundw
                  case rel => exact ⟨k + 1, by omega, by go_num, by rw [Hst.out, Hm.out]; exact (HOq.out.set k hin3).1.drew1, (HBq.out.setCell (p := ⟨w1.heap.size, k, none⟩) (Nat.le_refl _) _).drew⟩
                  case measure => simp [intOf]; omega
              · have hk1 : ¬ (k : Int) < v.length := by omega
                obtain rfl : k = v.length := by omega
                go_wp2_with fail
                go_roundw
                case rel => exact ⟨i + 1, by omega, by go_num, hO, hbr⟩
                case measure => simp [intOf]; omega
          · have hin1 : ¬ (i : Int) < a.length := by have := Hal.out; omega
            obtain rfl : i = v.length := by omega
            go_wp2_with fail
            go_roundw
            case rel => exact ⟨r + 1, by omega, by go_num, HOi.out, HBi.out⟩
            case measure => simp [intOf]; omega
      · have hr1 : ¬ (r : Int) < v.length := by omega
        obtain rfl : r = v.length := by omega
        have hO := HOr.out
        rw [bfR_least hBest hv.1] at hO
        have hl : (leastL v a).length = v.length := by simp [leastL]
        have Hl := Lib.hid hl
        clear hl
        go_wp2_with fail
        go_ret2
        rw [HL.out, Hc.out]
        exact ⟨some ⟨w1.heap.size, 0, none⟩, v.length, by rw [Hl.out]; rfl, hO, hb.trans (HBr.out.mono hsz)⟩
  · have hc : (chkI v != 0) = true := by rw [bne_iff_ne]; exact fun h => hv (chkI_zero.1 h)
    have HL : Hid (priceL v = []) := by unfold Hid priceL; rw [if_neg hv]
    go_enter Try.func41, Try.ntmps41
    go_wp2_with fail
    refine (bestTop_any p c v w hx).mono ?_
    rintro e w1 ⟨q, d, rfl, hO, hb⟩
    go_wp2_with fail
    go_ret2
    rw [HL.out]
    exact ⟨none, 0, rfl, Own.ofNil _ _, hb⟩
end Go.Proofs.Ytojldecldemfaaa
