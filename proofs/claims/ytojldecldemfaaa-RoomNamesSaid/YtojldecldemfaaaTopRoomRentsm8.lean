/- The walks of assign.Check and assign.Best, for every bids. -/
import Derived.Test.YtojldecldemfaaaTopRoomRentsm7
import Derived.Test.YtojldecldemfaaaTopRoomRentsm5
import Derived.StillTailTactics
import Derived.Test.YtojldecldemfaaaTopRoomRentsm4
import Derived.Test.YtojldecldemfaaaTopRoomRentsm3
/- The walks of assign.Check and assign.Best, for every bids. -/
namespace Go.Proofs.Ytojldecldemfaaa
set_option linter.unusedVariables false
set_option linter.unusedSimpArgs false
open Go.ChangeShapes Go.WideShapes Go.ChangeAt Go.RowKit Go.Deep

theorem oddBid_none {xs : List Int} (h : anyB oddBid xs = false) : ∀ j, j < xs.length → 0 ≤ iget xs j ∧ iget xs j ≤ 1000000 := fun j hj => by
  unfold anyB at h
  rw [List.any_eq_false] at h
  have := h _ (iget_mem hj)
  simp [oddBid] at this
  omega
theorem oddBid_some {xs : List Int} (h : anyB oddBid xs = true) : ∃ j, j < xs.length ∧ ¬ (0 ≤ iget xs j ∧ iget xs j ≤ 1000000) := by
  unfold anyB at h
  rw [List.any_eq_true] at h
  obtain ⟨x, hx, hp⟩ := h
  obtain ⟨j, hj, rfl⟩ := List.getElem_of_mem hx
  refine ⟨j, hj, ?_⟩
  rw [iget_of hj]
  simp [oddBid] at hp
  omega

set_option maxHeartbeats 800000 in
theorem check_any (p : Option Addr) (c : Nat) (v : List (List Int)) (w : World) (hx : Mat w p c v) :
    Calls Try.prog 49 #[.slice p v.length c] w fun e w' => e = .returned (.int .i64 (chkI v)) ∧ w' = w := by
  have hl1 := hx.length_le
  by_cases h6 : 6 < v.length
  · have H := Lib.hid (chkI_many h6)
    go_enter Try.func49, Try.ntmps49
    go_wp2_with fail
    go_ret
    exact ⟨ret_int H.out.symm, rfl⟩
  · by_cases h0 : v.length = 0
    · have hb0 : ((v.length : Int) == 0) = true := by rw [beq_iff_eq]; omega
      have H := Lib.hid (chkI_bad (v := v) h6 (fun h => by have := h.1; omega))
      clear h0
      go_enter Try.func49, Try.ntmps49
      go_wp2_with fail
      go_ret
      exact ⟨ret_int H.out.symm, rfl⟩
    · have hb0 : ((v.length : Int) == 0) = false := by rw [beq_eq_false_iff_ne]; omega
      go_enter Try.func49, Try.ntmps49
      go_wp2_with fail
      go_loop [14] (fun t => ∃ k : Nat, k ≤ v.length ∧ t = .int .i64 k ∧ Hid (∀ i, i < k → (rget v i).length = v.length ∧ ∀ j, j < v.length → 0 ≤ iget (rget v i) j ∧ iget (rget v i) j ≤ 1000000)) (fun t => v.length - (intOf t).toNat)
      case atStart => exact ⟨0, Nat.zero_le _, rfl, fun j hj => absurd hj (Nat.not_lt_zero j)⟩
      case round =>
        obtain ⟨k, hk, rfl, ht⟩ := hrel
        by_cases hlt : k < v.length
        · obtain ⟨b, o, rfl, _, q, d, hc, hi⟩ := hx.get hlt
          have hk1 : (k : Int) < v.length := by omega
          by_cases hrl : (rget v k).length = v.length
          · have hrb : (((rget v k).length : Int) != v.length) = false := by simp [hrl]
            have Hrl := Lib.hid hrl
            clear hrl
            go_wp2_with fail
            refine (containsFunc_any 69 oddBid enter_oddBid (fun x W => oddBid_any x W) _ _ _ _ hi).mono ?_
            rintro e w' ⟨rfl, rfl⟩
            cases hany : anyB oddBid (rget v k) with
            | true =>
              have Hany := Lib.hid hany
              clear hany
              go_wp2_with fail
              go_ret
              refine ⟨ret_int (chkI_bad (v := v) h6 fun hB => ?_).symm, rfl⟩
              obtain ⟨j, hj, hn⟩ := oddBid_some Hany.out
              exact hn ((hB.2.2 k hlt).2 j (by rw [← Hrl.out]; exact hj))
            | false =>
              have Hany := Lib.hid hany
              clear hany
              go_wp2_with fail
              go_round
              case rel => exact ⟨k + 1, by omega, by go_num, snoc_all' ht.out ⟨Hrl.out, fun j hj => oddBid_none Hany.out j (by rw [Hrl.out]; exact hj)⟩⟩
              case measure => simp [intOf]; omega
          · have hrb : (((rget v k).length : Int) != v.length) = true := by rw [bne_iff_ne]; omega
            have Hrl := Lib.hid hrl
            clear hrl
            go_wp2_with fail
            go_ret
            exact ⟨ret_int (chkI_bad (v := v) h6 fun hB => Hrl.out (hB.2.2 k hlt).1).symm, rfl⟩
        · have hk1 : ¬ (k : Int) < v.length := by omega
          go_wp2_with fail
          go_ret
          exact ⟨ret_int (chkI_bids (v := v) ⟨by omega, by omega, fun i hi => ht.out i (by omega)⟩).symm, rfl⟩

/-- What Best hands back. -/
noncomputable def bestL (v : List (List Int)) : List Int := if Bids v then bestA v else []
noncomputable def bestN (v : List (List Int)) : Int := if Bids v then worthI v (bestA v) else 0
theorem bestP_best {w w' : World} {v : List (List Int)} {e : Ending} (hv : Bids v) (h : BestP w v (-1) e w') :
    ∃ p c, e = .returned (.tuple #[.slice p (bestA v).length c, .int .i64 (worthI v (bestA v))]) ∧ Own w' w.heap.size p c (bestA v) ∧ Below w.heap.size w w' ∧ IsBest v (bestA v) := by
  obtain ⟨p, c, b, he, hO, hb, hP, hF⟩ := h
  have hB : IsBest v b := ⟨part_isA.1 hP, hF.congr (fun x => part_isA) (fun x hx => pv_worth hx.1)⟩
  have e1 := bestA_eq hB
  rw [e1]
  exact ⟨p, c, by rw [he, pv_worth hP.1], hO, hb, hB⟩

set_option maxHeartbeats 800000 in
theorem bestTop_any (p : Option Addr) (c : Nat) (v : List (List Int)) (w : World) (hx : Mat w p c v) :
    Calls Try.prog 33 #[.slice p v.length c] w (Gives3 w (bestL v) (bestN v) (chkI v)) := by
  by_cases hv : Bids v
  · have hc := chkI_bids hv
    have Hc := Lib.hid hc
    have HL : Hid (bestL v = bestA v) := by unfold Hid bestL; rw [if_pos hv]
    have HN : Hid (bestN v = worthI v (bestA v)) := by unfold Hid bestN; rw [if_pos hv]
    go_enter Try.func33, Try.ntmps33
    go_wp2_with fail
    refine (check_any p c v w hx).mono ?_
    rintro e w' ⟨rfl, rfl⟩
    go_wp2_with fail
    refine (best_any p c v (-1) w' hx hv ⟨by omega, by omega⟩).mono ?_
    intro e w1 hP
    obtain ⟨q, d, rfl, hO, hb, _⟩ := bestP_best hv hP
    clear hP
    go_wp2_with fail
    go_ret3
    rw [HL.out, HN.out, Hc.out]
    exact ⟨q, d, rfl, hO, hb⟩
  · have hc : (chkI v != 0) = true := by rw [bne_iff_ne]; exact fun h => hv (chkI_zero.1 h)
    have HL : Hid (bestL v = []) := by unfold Hid bestL; rw [if_neg hv]
    have HN : Hid (bestN v = 0) := by unfold Hid bestN; rw [if_neg hv]
    go_enter Try.func33, Try.ntmps33
    go_wp2_with fail
    refine (check_any p c v w hx).mono ?_
    rintro e w' ⟨rfl, rfl⟩
    go_wp2_with fail
    go_ret3
    rw [HL.out, HN.out]
    exact ⟨none, 0, rfl, Own.ofNil _ _, Below.refl _ _⟩
end Go.Proofs.Ytojldecldemfaaa

/- The walk of assign.Prices, for every bids. -/
namespace Go.Proofs.Ytojldecldemfaaa
set_option linter.unusedVariables false
set_option linter.unusedSimpArgs false
open Go.ChangeShapes Go.WideShapes Go.ChangeAt Go.RowKit Go.Deep

/-- What Prices hands back. -/
noncomputable def priceL (v : List (List Int)) : List Int := if Bids v then leastL v (bestA v) else []

/-- The prices in the rounds lie between 0 and a small number. -/
def Small (n : Nat) (q : List Int) : Prop := q.length = n ∧ ∀ j, j < n → 0 ≤ iget q j ∧ iget q j ≤ 6000000
theorem leastP_bound {v : List (List Int)} {a : List Int} (hv : Bids v) (ha : IsA a v.length) (j : Nat) : leastP (wl v a) v.length j ≤ 6000000 := by
  unfold leastP
  exact (maxTo_bound (f := fun i => lnkS (wl v a) v.length i j) (M := 6000000) (by omega) (fun i hi => (lnkS_bound hv ha j hi).2)).2
theorem small_J {v : List (List Int)} {a : List Int} (hv : Bids v) (hb : IsBest v a) {r i k : Nat} (hi : i < v.length) (hk : k ≤ v.length) : Small v.length (bfJ v a (bfI v a (bfR v a r) i) i k) := by
  have hh : ∀ y z, y < v.length → z < v.length → leastP (wl v a) v.length y + wl v a y z ≤ leastP (wl v a) v.length z := fun y z hy hz => leastP_step hb hv.1 hy hz
  have h := under_J hb.1 hh (under_I hb.1 hh (under_R hb.1 hh (fun j _ => leastP_nonneg _ _ j) r) i (by omega)) hi k hk
  exact ⟨h.1, fun j hj => ⟨(h.2 j hj).1, Int.le_trans (h.2 j hj).2 (leastP_bound hv hb.1 j)⟩⟩

set_option maxHeartbeats 4000000 in
set_option maxRecDepth 100000 in
theorem prices_any (p : Option Addr) (c : Nat) (v : List (List Int)) (w : World) (hx : Mat w p c v) :
    Calls Try.prog 41 #[.slice p v.length c] w (Gives2 w (priceL v) (chkI v)) := by
  by_cases hv : Bids v
  · have h6 := hv.2.1
    have HL : Hid (priceL v = leastL v (bestA v)) := by unfold Hid priceL; rw [if_pos hv]
    have HB : Hid (bestL v = bestA v) := by unfold Hid bestL; rw [if_pos hv]
    have hc := chkI_bids hv
    have Hc := Lib.hid hc
    clear hc
    have hcz : (chkI v != 0) = false := by rw [Hc.out]; rfl
    go_enter Try.func41, Try.ntmps41
    go_wp2_with fail
    refine (bestTop_any p c v w hx).mono ?_
    rintro e w1 ⟨q, d, rfl, hO, hb⟩
    have hBest : IsBest v (bestA v) := bestA_best hv.1
    rw [HB.out] at hO ⊢
    obtain ⟨a, ha⟩ : ∃ a, bestA v = a := ⟨_, rfl⟩
    rw [ha] at hO hBest HL ⊢
    clear ha
    have hal := hBest.1.1
    have Hal := Lib.hid hal
    have hx1 := hx.below hb (Nat.le_refl _)
    have hI := hO.ints
    have hsz := hb.size
    clear hal hO
    go_wp2_with (at_make; refine wpList_mk rfl (.tmp 21) (.tmp 21) rfl w.heap.size v.length rfl rfl (by omega) hsz ?_; intro w2 hO2 hg2 hs2)
    have hz : bfR v a 0 = List.replicate v.length 0 := rfl
    rw [← hz] at hO2
    have hb2 : Below w1.heap.size w1 w2 := (Below.refl _ _).grown hg2 (Nat.le_refl _) (fun _ e => by cases e)
    have HX := Lib.hid hx1
    have HI := Lib.hid hI
    have HO2 := Lib.hid hO2
    have HB2 := Lib.hid hb2
    clear hx1 hI hg2 hs2 hz hO2 hb2
    go_loopw [25] (fun t wr => ∃ r : Nat, r ≤ v.length ∧ t = .int .i64 r ∧ Own wr w.heap.size (some ⟨w1.heap.size, 0, none⟩) v.length (bfR v a r) ∧ Below w1.heap.size w1 wr) (fun t _ => v.length - (intOf t).toNat)
    case atStart => exact ⟨0, Nat.zero_le _, rfl, HO2.out, HB2.out⟩
    case round =>
      obtain ⟨r, hr, rfl, hO, hbr⟩ := hrel
      have HOr := Lib.hid hO
      have HBr := Lib.hid hbr
      clear hO hbr
      by_cases hrn : r < v.length
      · have hr1 : (r : Int) < v.length := by omega
        go_wp2_with fail
        go_loopw [29] (fun t wr => ∃ i : Nat, i ≤ v.length ∧ t = .int .i64 i ∧ Own wr w.heap.size (some ⟨w1.heap.size, 0, none⟩) v.length (bfI v a (bfR v a r) i) ∧ Below w1.heap.size w1 wr) (fun t _ => v.length - (intOf t).toNat)
        case atStart => exact ⟨0, Nat.zero_le _, rfl, HOr.out, HBr.out⟩
        case round =>
          obtain ⟨i, hi, rfl, hO, hbr⟩ := hrel
          have HOi := Lib.hid hO
          have hIi := HI.out.below hbr (Nat.le_refl _)
          have HBi := Lib.hid hbr
          clear hO hbr
          by_cases hin : i < v.length
          · have hal : i < a.length := by rw [Hal.out]; exact hin
            have hal1 : (i : Int) < a.length := by omega
            obtain ⟨b, o, rfl, _, hci⟩ := hIi.get hal
            go_wp2_with fail
            go_loopw [36] (fun t wr => ∃ k : Nat, k ≤ v.length ∧ t = .int .i64 k ∧ Own wr w.heap.size (some ⟨w1.heap.size, 0, none⟩) v.length (bfJ v a (bfI v a (bfR v a r) i) i k) ∧ Below w1.heap.size w1 wr) (fun t _ => v.length - (intOf t).toNat)
            case atStart => exact ⟨0, Nat.zero_le _, rfl, HOi.out, HBi.out⟩
            case round =>
              obtain ⟨k, hk, rfl, hO, hbr⟩ := hrel
              by_cases hkn : k < v.length
              · have hk1 : (k : Int) < v.length := by omega
                have hxr := HX.out.below hbr (Nat.le_refl _)
                obtain ⟨b2, o2, rfl, _, q1, d1, hcr, hir⟩ := hxr.get hin
                obtain ⟨i1, i2⟩ := isA_lt hBest.1 i hin
                have hrl := (hv.2.2 i hin).1
                have hin1 : (i : Int) < v.length := by omega
                obtain ⟨b3, o3, rfl, _, hcik⟩ := hir.get (j := k) (by omega)
                have hcio := hir.at (j := itm a i) (by omega)
                have hsm := small_J (r := r) hv hBest hin hk
                have hqk := hO.at (j := k) (by rw [hsm.1]; exact hkn)
                have hqo := hO.at (j := itm a i) (by rw [hsm.1]; exact i2)
                have hfk := hO.free k
                have s1 := hsm.2 k hkn
                have s2 := hsm.2 _ i2
                have v1 := (hv.2.2 i hin).2 k hkn
                have v2 := (hv.2.2 i hin).2 _ i2
                have Hst : Hid (bfJ v a (bfI v a (bfR v a r) i) i (k + 1) = (bfJ v a (bfI v a (bfR v a r) i) i k).set k (max (iget (bfJ v a (bfI v a (bfR v a r) i) i k) k) (iget (bfJ v a (bfI v a (bfR v a r) i) i k) (itm a i) + iget (rget v i) k - iget (rget v i) (itm a i)))) := rfl
                obtain ⟨x, hxx⟩ : ∃ x : Nat, iget a i = (x : Int) := ⟨(iget a i).toNat, by omega⟩
                have hit : itm a i = x := by simp [itm, hxx]
                rw [hit] at hcio hqo s2 v2 i2 Hst
                rw [hxx] at hci ⊢
                clear hxx hit i1
                have hk2 : (k : Int) < (rget v i).length := by omega
                have hk3 : (x : Int) < (rget v i).length := by omega
                have hk4 : (x : Int) < v.length := by omega
                clear hrl
                generalize bfJ v a (bfI v a (bfR v a r) i) i k = Q at *
                have HOq := Lib.hid hO
                have HBq := Lib.hid hbr
                clear hsm hO hbr
                obtain ⟨y1, e1⟩ : ∃ y, iget Q k = y := ⟨_, rfl⟩
                obtain ⟨y2, e2⟩ : ∃ y, iget Q x = y := ⟨_, rfl⟩
                obtain ⟨y3, e3⟩ : ∃ y, iget (rget v i) k = y := ⟨_, rfl⟩
                obtain ⟨y4, e4⟩ : ∃ y, iget (rget v i) x = y := ⟨_, rfl⟩
                rw [e1] at hqk s1 Hst
                rw [e2] at hqo s2 Hst
                rw [e3] at hcik v1 Hst
                rw [e4] at hcio v2 Hst
                clear e1 e2 e3 e4
                have hin3 : in64 y1 := ⟨by omega, by omega⟩
                have hin4 : in64 (y2 + y3 - y4) := ⟨by omega, by omega⟩
                by_cases hgt : y1 < y2 + y3 - y4
                · have Hm : Hid (max y1 (y2 + y3 - y4) = y2 + y3 - y4) := by unfold Hid; omega
                  go_wp2_with fail
                  go_still_tail 28, (by kernel_rfl)
                  go_wp2_with fail
                  go_roundw
                  case rel => exact ⟨k + 1, by omega, by go_num, by rw [Hst.out, Hm.out]; exact (HOq.out.set k hin4).1.drew1, (HBq.out.setCell (p := ⟨w1.heap.size, k, none⟩) (Nat.le_refl _) _).drew⟩
                  case measure => simp [intOf]; omega
                · have Hm : Hid (max y1 (y2 + y3 - y4) = y1) := by unfold Hid; omega
                  have hle : y2 + y3 - y4 ≤ y1 := by omega
                  go_wp2_with fail
                  go_still_tail 28, (by kernel_rfl)
                  go_wp2_with fail
                  go_roundw
                  case rel => exact ⟨k + 1, by omega, by go_num, by rw [Hst.out, Hm.out]; exact (HOq.out.set k hin3).1.drew1, (HBq.out.setCell (p := ⟨w1.heap.size, k, none⟩) (Nat.le_refl _) _).drew⟩
                  case measure => simp [intOf]; omega
              · have hk1 : ¬ (k : Int) < v.length := by omega
                obtain rfl : k = v.length := by omega
                go_wp2_with fail
                go_roundw
                case rel => exact ⟨i + 1, by omega, by go_num, hO, hbr⟩
                case measure => simp [intOf]; omega
          · have hin1 : ¬ (i : Int) < a.length := by have := Hal.out; omega
            obtain rfl : i = v.length := by omega
            go_wp2_with fail
            go_roundw
            case rel => exact ⟨r + 1, by omega, by go_num, HOi.out, HBi.out⟩
            case measure => simp [intOf]; omega
      · have hr1 : ¬ (r : Int) < v.length := by omega
        obtain rfl : r = v.length := by omega
        have hO := HOr.out
        rw [bfR_least hBest hv.1] at hO
        have hl : (leastL v a).length = v.length := by simp [leastL]
        have Hl := Lib.hid hl
        clear hl
        go_wp2_with fail
        go_ret2
        rw [HL.out, Hc.out]
        exact ⟨some ⟨w1.heap.size, 0, none⟩, v.length, by rw [Hl.out]; rfl, hO, hb.trans (HBr.out.mono hsz)⟩
  · have hc : (chkI v != 0) = true := by rw [bne_iff_ne]; exact fun h => hv (chkI_zero.1 h)
    have HL : Hid (priceL v = []) := by unfold Hid priceL; rw [if_neg hv]
    go_enter Try.func41, Try.ntmps41
    go_wp2_with fail
    refine (bestTop_any p c v w hx).mono ?_
    rintro e w1 ⟨q, d, rfl, hO, hb⟩
    go_wp2_with fail
    go_ret2
    rw [HL.out]
    exact ⟨none, 0, rfl, Own.ofNil _ _, hb⟩
end Go.Proofs.Ytojldecldemfaaa

/- The walks of room.Check and the reference's Check, of slices.Index and room.gcd, of the reference's Great and Same; no condition but sizes. -/
namespace Go.Proofs.Ytojldecldemfaaa
set_option linter.unusedVariables false
set_option linter.unusedSimpArgs false
open Go.ChangeShapes Go.WideShapes Go.ChangeAt Go.RowKit Go.Deep

/-- What Check answers of a flat. -/
def chkR (v : List (List Int)) (r : Int) : Int := if Bids v then (if 0 ≤ r ∧ r ≤ 10000000 then 0 else 8) else chkI v
theorem chkR_bad {v : List (List Int)} {r : Int} (hv : ¬ Bids v) : chkR v r = chkI v := by unfold chkR; rw [if_neg hv]
theorem chkR_off {v : List (List Int)} {r : Int} (hv : Bids v) (h : ¬ (0 ≤ r ∧ r ≤ 10000000)) : chkR v r = 8 := by unfold chkR; rw [if_pos hv, if_neg h]
theorem chkR_ok {v : List (List Int)} {r : Int} (hv : Bids v) (h : 0 ≤ r ∧ r ≤ 10000000) : chkR v r = 0 := by unfold chkR; rw [if_pos hv, if_pos h]
theorem chkR_zero {v : List (List Int)} {r : Int} : chkR v r = 0 ↔ Bids v ∧ 0 ≤ r ∧ r ≤ 10000000 := by
  constructor
  · intro h
    by_cases hv : Bids v
    · by_cases hr : 0 ≤ r ∧ r ≤ 10000000
      · exact ⟨hv, hr⟩
      · rw [chkR_off hv hr] at h; cases h
    · rw [chkR_bad hv] at h; exact absurd (chkI_zero.1 h) hv
  · rintro ⟨h1, h2⟩; exact chkR_ok h1 h2

set_option maxHeartbeats 800000 in
theorem roomCheck_any (p : Option Addr) (c : Nat) (v : List (List Int)) (r : Int) (w : World) (hx : Mat w p c v) :
    Calls Try.prog 17 #[.agg #[.slice p v.length c, .int .i64 r]] w fun e w' => e = .returned (.int .i64 (chkR v r)) ∧ Below w.heap.size w w' := by
  have hb : Below w.heap.size w (w.alloc (.cells #[.slice p v.length c, .int .i64 r] 24)) := (Below.refl _ _).alloc (Nat.le_refl _) _
  have hx1 := hx.below hb (Nat.le_refl _)
  by_cases hv : Bids v
  · have hcz : (chkI v != 0) = false := by rw [chkI_bids hv]; rfl
    have Hv := Lib.hid hv
    clear hv
    by_cases hlow : r < 0
    · have hdl : decide (r < 0) = true := by simpa using hlow
      go_enter Try.func17, Try.ntmps17
      go_wp2_with fail
      refine (check_any p c v _ hx1).mono ?_
      rintro e w' ⟨rfl, rfl⟩
      go_wp2_with fail
      go_ret
      exact ⟨ret_int (chkR_off Hv.out (by omega)).symm, hb⟩
    · have hdl : decide (r < 0) = false := by simpa using hlow
      go_enter Try.func17, Try.ntmps17
      go_wp2_with fail
      refine (check_any p c v _ hx1).mono ?_
      rintro e w' ⟨rfl, rfl⟩
      go_wp2_with fail
      · have hgt : 10000000 < r := by assumption
        go_ret
        exact ⟨ret_int (chkR_off Hv.out (by omega)).symm, hb⟩
      · have hgt : r ≤ 10000000 := by assumption
        go_ret
        exact ⟨ret_int (chkR_ok Hv.out ⟨by omega, hgt⟩).symm, hb⟩
  · have hcz : (chkI v != 0) = true := by rw [bne_iff_ne]; exact fun h => hv (chkI_zero.1 h)
    have Hv := Lib.hid hv
    clear hv
    go_enter Try.func17, Try.ntmps17
    go_wp2_with fail
    refine (check_any p c v _ hx1).mono ?_
    rintro e w' ⟨rfl, rfl⟩
    go_wp2_with fail
    go_ret
    exact ⟨ret_int (chkR_bad Hv.out).symm, hb⟩

set_option maxHeartbeats 800000 in
theorem refCheckR_any (p : Option Addr) (c : Nat) (v : List (List Int)) (r : Int) (w : World) (hx : Mat w p c v) :
    Calls Try.prog 18 #[.agg #[.slice p v.length c, .int .i64 r]] w fun e w' => e = .returned (.int .i64 (chkR v r)) ∧ Below w.heap.size w w' := by
  have hb : Below w.heap.size w (w.alloc (.cells #[.slice p v.length c, .int .i64 r] 24)) := (Below.refl _ _).alloc (Nat.le_refl _) _
  have hx1 := hx.below hb (Nat.le_refl _)
  by_cases hv : Bids v
  · have hcz : (chkI v != 0) = false := by rw [chkI_bids hv]; rfl
    have Hv := Lib.hid hv
    clear hv
    by_cases hlow : r < 0
    · have hdl : decide (r < 0) = true := by simpa using hlow
      go_enter Try.func18, Try.ntmps18
      go_wp2_with fail
      refine (refCheck_any p c v _ hx1).mono ?_
      rintro e w' ⟨rfl, rfl⟩
      go_wp2_with fail
      go_ret
      exact ⟨ret_int (chkR_off Hv.out (by omega)).symm, hb⟩
    · have hdl : decide (r < 0) = false := by simpa using hlow
      go_enter Try.func18, Try.ntmps18
      go_wp2_with fail
      refine (refCheck_any p c v _ hx1).mono ?_
      rintro e w' ⟨rfl, rfl⟩
      go_wp2_with fail
      · have hgt : 10000000 < r := by assumption
        go_ret
        exact ⟨ret_int (chkR_off Hv.out (by omega)).symm, hb⟩
      · have hgt : r ≤ 10000000 := by assumption
        go_ret
        exact ⟨ret_int (chkR_ok Hv.out ⟨by omega, hgt⟩).symm, hb⟩
  · have hcz : (chkI v != 0) = true := by rw [bne_iff_ne]; exact fun h => hv (chkI_zero.1 h)
    have Hv := Lib.hid hv
    clear hv
    go_enter Try.func18, Try.ntmps18
    go_wp2_with fail
    refine (refCheck_any p c v _ hx1).mono ?_
    rintro e w' ⟨rfl, rfl⟩
    go_wp2_with fail
    refine (refCheck_any p c v _ hx1).mono ?_
    rintro e w' ⟨rfl, rfl⟩
    go_wp2_with fail
    go_ret
    exact ⟨ret_int (chkR_bad Hv.out).symm, hb⟩

set_option maxHeartbeats 400000 in
/-- slices.Index where the number is there: its first place. -/
theorem index_of (p : Option Addr) (c : Nat) (xs : List Int) (x : Int) (k : Nat) (w : World) (hx : Ints w p c xs) (hk : k < xs.length) (hxk : iget xs k = x) (hne : Hid (∀ j, j ≤ k → j ≠ k → iget xs j ≠ x)) :
    Calls Try.prog 46 #[.slice p xs.length c, .int .i64 x] w fun e w' => e = .returned (.int .i64 k) ∧ w' = w := by
  have hl1 := hx.length_le
  have Hxk := Lib.hid hxk
  clear hxk
  go_enter Try.func46, Try.ntmps46
  go_wp2_with fail
  go_loop [8] (fun t => ∃ m : Nat, m ≤ k ∧ t = .int .i64 m) (fun t => k - (intOf t).toNat)
  case atStart => exact ⟨0, Nat.zero_le _, rfl⟩
  case round =>
    obtain ⟨m, hm, rfl⟩ := hrel
    obtain ⟨b, o, rfl, _, hc⟩ := hx.get (j := m) (by omega)
    have hm1 : (m : Int) < xs.length := by omega
    by_cases e : m = k
    · have he : (x == iget xs m) = true := by rw [e, Hxk.out]; simp
      obtain rfl : m = k := e
      go_wp2_with fail
      go_ret
      exact ⟨rfl, rfl⟩
    · have he : (x == iget xs m) = false := by rw [beq_eq_false_iff_ne]; exact fun h => hne.out m hm e h.symm
      go_wp2_with fail
      go_round
      case rel => exact ⟨m + 1, by omega, by go_num⟩
      case measure => simp [intOf]; omega

set_option maxHeartbeats 400000 in
theorem roomGcd_any (a b : Nat) (w : World) (ha : a ≤ 4611686018427387904) (hb : b ≤ 4611686018427387904) :
    Calls Try.prog 42 #[.int .i64 a, .int .i64 b] w fun e w' => e = .returned (.int .i64 (Nat.gcd a b : Nat)) ∧ ∃ n, w' = w.drewN n := by
  go_enter Try.func42, Try.ntmps42
  go_wp2_with fail
  go_loopw [0, 1] (fun s t wr => ∃ x y : Nat, s = .int .i64 x ∧ t = .int .i64 y ∧ Hid (Nat.gcd x y = Nat.gcd a b) ∧ x ≤ 4611686018427387904 ∧ y ≤ 4611686018427387904 ∧ ∃ n, wr = w.drewN n) (fun _ t _ => (intOf t).toNat)
  case atStart => exact ⟨a, b, rfl, rfl, rfl, ha, hb, drew_refl w⟩
  case round =>
    obtain ⟨x, y, rfl, rfl, hg, hx, hy, hw⟩ := hrel
    have Hw := Lib.hid hw
    clear hw
    by_cases h0 : y = 0
    · have hz : ((y : Int) != 0) = false := by simp [h0]
      have H0 := Lib.hid h0
      clear h0
      go_wp2_with fail
      go_ret
      exact ⟨ret_int (by rw [← hg.out, H0.out, Nat.gcd_zero_right]), Hw.out⟩
    · have hz : ((y : Int) != 0) = true := by rw [bne_iff_ne]; omega
      have hy0 : (0 : Int) < y := by omega
      have hx0 : (0 : Int) ≤ x := by omega
      have hlt := Nat.mod_lt x (by omega : y > 0)
      have hdv : ((x : Int)).tmod y = ((x % y : Nat) : Int) := by rw [Int.tmod_eq_emod_of_nonneg hx0]; omega
      go_wp2_with fail
      go_quiet (fail)
      go_wp2_with fail
      go_roundw
      case rel => exact ⟨y, x % y, rfl, by congr 1, by unfold Hid; rw [Nat.gcd_comm, ← Nat.gcd_rec, Nat.gcd_comm]; exact hg.out, hy, by omega, drew_drewN _ Hw.out⟩
      case measure => simp only [intOf]; omega

/-- Larger than the statements consider. -/
def greatL (v : List (List Int)) (xs ys : List Int) : Bool := decide (GreatP v ∨ 50 < xs.length ∨ 50 < ys.length)
theorem greatL_true {v : List (List Int)} {xs ys : List Int} (h : GreatP v ∨ 50 < xs.length ∨ 50 < ys.length) : greatL v xs ys = true := by simp [greatL, h]
theorem greatL_false {v : List (List Int)} {xs ys : List Int} (h : ¬ (GreatP v ∨ 50 < xs.length ∨ 50 < ys.length)) : greatL v xs ys = false := by unfold greatL; rw [decide_eq_false_iff_not]; exact h

set_option maxHeartbeats 800000 in
theorem greatR_any (p q s : Option Addr) (c d f : Nat) (v : List (List Int)) (r : Int) (xs ys : List Int) (z : Int) (w : World) (hx : Mat w p c v) :
    Calls Try.prog 9 #[.agg #[.slice p v.length c, .int .i64 r], .agg #[.slice q xs.length d, .slice s ys.length f, .int .i64 z]] w fun e w' => e = .returned (.bool (greatL v xs ys)) ∧ Below w.heap.size w w' := by
  have hb : Below w.heap.size w ((w.alloc (.cells #[.slice p v.length c, .int .i64 r] 24)).alloc (.cells #[.slice q xs.length d, .slice s ys.length f, .int .i64 z] 28)) := ((Below.refl _ _).alloc (Nat.le_refl _) _).alloc (by simp) _
  have hx1 := hx.below hb (Nat.le_refl _)
  by_cases hG : GreatP v
  · have hg : greatB v = true := by simp [greatB, hG]
    have HG := Lib.hid (greatL_true (xs := xs) (ys := ys) (.inl hG))
    clear hG
    go_enter Try.func9, Try.ntmps9
    go_wp2_with fail
    refine (great_any p c v _ hx1).mono ?_
    rintro e w' ⟨rfl, rfl⟩
    rw [hg]
    go_wp2_with fail
    go_ret
    exact ⟨ret_bool HG.out.symm, hb⟩
  · have hg : greatB v = false := by simp [greatB, hG]
    by_cases hl : 50 < xs.length
    · have hl1 : decide (50 < (xs.length : Int)) = true := by simp; omega
      have HG := Lib.hid (greatL_true (v := v) (ys := ys) (.inr (.inl hl)))
      clear hG hl
      go_enter Try.func9, Try.ntmps9
      go_wp2_with fail
      refine (great_any p c v _ hx1).mono ?_
      rintro e w' ⟨rfl, rfl⟩
      rw [hg]
      go_wp2_with fail
      go_ret
      exact ⟨ret_bool HG.out.symm, hb⟩
    · have hl1 : decide (50 < (xs.length : Int)) = false := by simp; omega
      have HG : Hid (greatL v xs ys = decide (50 < (ys.length : Int))) := by
        unfold Hid greatL
        refine dec_congr ⟨fun h => ?_, fun h => .inr (.inr (by omega))⟩
        rcases h with h | h | h
        · exact absurd h hG
        · exact absurd h hl
        · omega
      clear hG hl
      go_enter Try.func9, Try.ntmps9
      go_wp2_with fail
      refine (great_any p c v _ hx1).mono ?_
      rintro e w' ⟨rfl, rfl⟩
      rw [hg]
      go_wp2_with fail
      go_ret
      exact ⟨ret_bool HG.out.symm, hb⟩

/-- Equal lists, laid twice. -/
theorem sameI_true {p q : Option Addr} {c d n m : Nat} {xs ys : List Int} {w : World} (hn : xs.length = n) (hm : ys.length = m) (e : xs = ys) (hx : Ints w p c xs) (hy : Ints w q d ys) :
    Calls Try.prog 27 #[.slice p n c, .slice q m d] w fun e w' => e = .returned (.bool true) ∧ ∃ n, w' = w.drewN n := by
  subst hn hm e
  refine (same_any p q c d xs xs w hx hy).mono ?_
  rintro e w' ⟨he, hw⟩
  exact ⟨by rw [he, sameB_true rfl], hw⟩
theorem sameM_true {p q : Option Addr} {c d n m : Nat} {u v : List (List Int)} {w : World} (hn : u.length = n) (hm : v.length = m) (e : u = v) (hx : Mat w p c u) (hy : Mat w q d v) :
    Calls Try.prog 20 #[.slice p n c, .slice q m d] w fun e w' => e = .returned (.bool true) ∧ ∃ n, w' = w.drewN n := by
  subst hn hm e
  refine (sameLists_any p q c d u u w hx hy).mono ?_
  rintro e w' ⟨he, hw⟩
  exact ⟨by rw [he]; simp [sameLB], hw⟩
/-- A lease's value. -/
def leaseV (p q : Option Addr) (n c m d : Nat) (z : Int) : Value := .agg #[.slice p n c, .slice q m d, .int .i64 z]
set_option maxHeartbeats 800000 in
theorem sameLease_true {p q p' q' : Option Addr} {c d c' d' n m n' m' : Nat} {xs ys xs' ys' : List Int} {z z' : Int} {w : World} (hn : xs.length = n) (hm : ys.length = m) (hn' : xs'.length = n') (hm' : ys'.length = m') (hz : z = z') (ex : xs = xs') (ey : ys = ys')
    (hx : Ints w p c xs) (hy : Ints w q d ys) (hx' : Ints w p' c' xs') (hy' : Ints w q' d' ys') :
    Calls Try.prog 19 #[.agg #[.slice p n c, .slice q m d, .int .i64 z], .agg #[.slice p' n' c', .slice q' m' d', .int .i64 z']] w fun e w' => e = .returned (.bool true) ∧ Below w.heap.size w w' := by
  have hb : Below w.heap.size w ((w.alloc (.cells #[.slice p n c, .slice q m d, .int .i64 z] 28)).alloc (.cells #[.slice p' n' c', .slice q' m' d', .int .i64 z'] 28)) := ((Below.refl _ _).alloc (Nat.le_refl _) _).alloc (by simp) _
  have h1 := hx.below hb (Nat.le_refl _)
  have h2 := hy.below hb (Nat.le_refl _)
  have h3 := hx'.below hb (Nat.le_refl _)
  have h4 := hy'.below hb (Nat.le_refl _)
  subst hz
  have hzz : (z == z) = true := by simp
  have Hn := Lib.hid hn
  have Hm := Lib.hid hm
  have Hn' := Lib.hid hn'
  have Hm' := Lib.hid hm'
  have Ex := Lib.hid ex
  have Ey := Lib.hid ey
  clear hn hm hn' hm' ex ey
  go_enter Try.func19, Try.ntmps19
  go_wp2_with fail
  refine (sameI_true Hn.out Hn'.out Ex.out h1 h3).mono ?_
  rintro e wa ⟨rfl, hw⟩
  have hc1 := (hb.drewP hw)
  have h2 := h2.drew hw
  have h4 := h4.drew hw
  obtain ⟨N, rfl⟩ := hw
  go_wp2_with fail
  refine (sameI_true Hm.out Hm'.out Ey.out h2 h4).mono ?_
  rintro e wb ⟨rfl, hw2⟩
  go_wp2_with fail
  go_ret
  exact ⟨rfl, hc1.drewP hw2⟩
end Go.Proofs.Ytojldecldemfaaa

/- Matrices of the call's own, beside others: what stays, and a store into one number; no condition. -/
namespace Go.Proofs.Ytojldecldemfaaa
open Go.ChangeShapes Go.WideShapes Go.ChangeAt Go.RowKit Go.Deep
set_option linter.unusedVariables false
set_option linter.unusedSimpArgs false

theorem ownsRow_move {w w' : World} {base e n : Nat} {v : Value} {xs : List Value} (h : w.ownsRow base e 1 v n xs) (hk : ∀ k, v.ownBlock = some k → w'.heap[k]? = w.heap[k]?) : w'.ownsRow base e 1 v n xs := by
  refine ⟨h.1, ?_⟩
  rcases h.2 with h1 | ⟨g, cap, cur, rfl, h3, h5, r⟩
  · exact .inl h1
  · exact .inr ⟨g, cap, cur, rfl, h3, (hk g rfl).trans h5, r⟩
theorem Own.move {w w' : World} {base : Nat} {p : Option Addr} {c : Nat} {xs : List Int} (h : Own w base p c xs) (hk : ∀ k, blk p = some k → w'.heap[k]? = w.heap[k]?) : Own w' base p c xs :=
  ⟨ownsRow_move h.row (by rw [ownBlock_slice]; exact hk), h.rng⟩
/-- All its blocks lie below B. -/
def Within (B : Nat) (p : Option Addr) (n : Nat) (Q : Nat → Option Addr) : Prop := (∀ k, blk p = some k → k < B) ∧ ∀ j, j < n → ∀ k, blk (Q j) = some k → k < B
theorem DMat.within {w : World} {base : Nat} {p : Option Addr} {c : Nat} {v : List (List Int)} {Q : Nat → Option Addr} {D : Nat → Nat} (h : DMat w base p c v Q D) : Within w.heap.size p v.length Q :=
  ⟨fun k hk => (h.tmat.lt k hk).2, fun j hj k hk => ((h.rows j hj).lt k hk).2⟩
theorem DMat.move {w w' : World} {base : Nat} {p : Option Addr} {c : Nat} {v : List (List Int)} {Q : Nat → Option Addr} {D : Nat → Nat} (h : DMat w base p c v Q D)
    (h1 : ∀ k, blk p = some k → w'.heap[k]? = w.heap[k]?) (h2 : ∀ j, j < v.length → ∀ k, blk (Q j) = some k → w'.heap[k]? = w.heap[k]?) : DMat w' base p c v Q D :=
  ⟨ownsRow_move h.top (by rw [ownBlock_slice]; exact h1), fun j hj => (h.rows j hj).move (h2 j hj), h.apart⟩
theorem DMat.belowW {w w' : World} {base B : Nat} {p : Option Addr} {c : Nat} {v : List (List Int)} {Q : Nat → Option Addr} {D : Nat → Nat} (h : DMat w base p c v Q D) (hw : Within B p v.length Q) (hb : Below B w w') : DMat w' base p c v Q D :=
  h.move (fun k hk => hb.block k (hw.1 k hk)) (fun j hj k hk => hb.block k (hw.2 j hj k hk))
/-- All its blocks lie from base on: what turns only blocks below base leaves it. -/
theorem DMat.above {w w' : World} {base : Nat} {p : Option Addr} {c : Nat} {v : List (List Int)} {Q : Nat → Option Addr} {D : Nat → Nat} (h : DMat w base p c v Q D) (hk : ∀ k, base ≤ k → w'.heap[k]? = w.heap[k]?) : DMat w' base p c v Q D :=
  h.move (fun k e => hk k (h.tmat.lt k e).1) (fun j hj k e => hk k ((h.rows j hj).lt k e).1)
theorem DMat.setElem {w : World} {base g gt ct : Nat} {v : List (List Int)} {Q : Nat → Option Addr} {D : Nat → Nat} (h : DMat w base (some ⟨gt, 0, none⟩) ct v Q D) {i t : Nat} (hi : i < v.length) (hQ : Q i = some ⟨g, 0, none⟩) {x : Int} (hx : in64 x) :
    DMat (w.setCell ⟨g, t, none⟩ (.int .i64 x)) base (some ⟨gt, 0, none⟩) ct (v.set i ((rget v i).set t x)) Q D := by
  have hr := h.rows i hi
  rw [hQ] at hr
  obtain ⟨h1, h2⟩ := hr.set t hx
  have hgt : gt ≠ g := fun e => by
    have := top_not_row h.top (h.rows i hi)
    rw [hQ] at this
    exact this (by simp [blk, e])
  refine ⟨?_, fun j hj => ?_, fun a b ha hb hne k hk => h.apart a b (by simpa using ha) (by simpa using hb) hne k hk⟩
  · have he : rowsV Q D (v.set i ((rget v i).set t x)) = rowsV Q D v := by
      unfold rowsV
      rw [List.length_set]
      refine List.map_congr_left fun j hj => ?_
      rw [rget_set hi]
      by_cases e : i = j
      · subst e; simp
      · rw [if_neg e]
    rw [he, List.length_set]
    refine ownsRow_move h.top fun k hk => ?_
    rw [ownBlock_slice] at hk
    simp [blk] at hk
    subst hk
    exact Below.heap_setCell w ⟨g, t, none⟩ _ gt (fun e => hgt e)
  · rw [List.length_set] at hj
    rw [rget_set hi]
    by_cases e : i = j
    · subst e
      rw [if_pos rfl, hQ]; exact h1
    · rw [if_neg e]
      refine (h.rows j hj).move fun k hk => ?_
      refine Below.heap_setCell w ⟨g, t, none⟩ _ k (fun ek => ?_)
      simp only at ek
      subst ek
      exact h.apart j i hj hi (fun e2 => e e2.symm) k hk (by rw [hQ]; rfl)
end Go.Proofs.Ytojldecldemfaaa
