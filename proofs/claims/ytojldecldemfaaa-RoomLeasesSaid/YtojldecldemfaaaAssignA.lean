/- The walks of assign.Check and assign.Best, for every bids. -/
import Derived.Test.YtojldecldemfaaaBest
import Derived.Test.YtojldecldemfaaaFuncs
namespace Go.Proofs.Ytojldecldemfaaa
set_option linter.unusedVariables false
set_option linter.unusedSimpArgs false
open Go.ChangeShapes Go.WideShapes Go.ChangeAt Go.RowKit Go.Deep

theorem oddBid_none {xs : List Int} (h : anyB oddBid xs = false) : ∀ j, j < xs.length → 0 ≤ iget xs j ∧ iget xs j ≤ 1000000 := fun j hj => by
  unfold anyB at h
  rw [List.any_eq_false] at h
  have := h _ (iget_mem hj)
  simp [oddBid] at this
  omega
theorem oddBid_some {xs : List Int} (h : anyB oddBid xs = true) : ∃ j, j < xs.length ∧ ¬ (0 ≤ iget xs j ∧ iget xs j ≤ 1000000) := by
  unfold anyB at h
  rw [List.any_eq_true] at h
  obtain ⟨x, hx, hp⟩ := h
  obtain ⟨j, hj, rfl⟩ := List.getElem_of_mem hx
  refine ⟨j, hj, ?_⟩
  rw [iget_of hj]
  simp [oddBid] at hp
  omega

set_option maxHeartbeats 800000 in
theorem check_any (p : Option Addr) (c : Nat) (v : List (List Int)) (w : World) (hx : Mat w p c v) :
    Calls Try.prog 49 #[.slice p v.length c] w fun e w' => e = .returned (.int .i64 (chkI v)) ∧ w' = w := by
  have hl1 := hx.length_le
  by_cases h6 : 6 < v.length
  · have H := Lib.hid (chkI_many h6)
    go_enter Try.func49, Try.ntmps49
    go_wp2_with fail
    go_ret
    exact ⟨ret_int H.out.symm, rfl⟩
  · by_cases h0 : v.length = 0
    · have hb0 : ((v.length : Int) == 0) = true := by rw [beq_iff_eq]; omega
      have H := Lib.hid (chkI_bad (v := v) h6 (fun h => by have := h.1; omega))
      clear h0
      go_enter Try.func49, Try.ntmps49
      go_wp2_with fail
      go_ret
      exact ⟨ret_int H.out.symm, rfl⟩
    · have hb0 : ((v.length : Int) == 0) = false := by rw [beq_eq_false_iff_ne]; omega
      go_enter Try.func49, Try.ntmps49
      go_wp2_with fail
      go_loop [14] (fun t => ∃ k : Nat, k ≤ v.length ∧ t = .int .i64 k ∧ Hid (∀ i, i < k → (rget v i).length = v.length ∧ ∀ j, j < v.length → 0 ≤ iget (rget v i) j ∧ iget (rget v i) j ≤ 1000000)) (fun t => v.length - (intOf t).toNat)
      case atStart => exact ⟨0, Nat.zero_le _, rfl, fun j hj => absurd hj (Nat.not_lt_zero j)⟩
      case round =>
        obtain ⟨k, hk, rfl, ht⟩ := hrel
        by_cases hlt : k < v.length
        · obtain ⟨b, o, rfl, _, q, d, hc, hi⟩ := hx.get hlt
          have hk1 : (k : Int) < v.length := by omega
          by_cases hrl : (rget v k).length = v.length
          · have hrb : (((rget v k).length : Int) != v.length) = false := by simp [hrl]
            have Hrl := Lib.hid hrl
            clear hrl
            go_wp2_with fail
            refine (containsFunc_any 69 oddBid enter_oddBid (fun x W => oddBid_any x W) _ _ _ _ hi).mono ?_
            rintro e w' ⟨rfl, rfl⟩
            cases hany : anyB oddBid (rget v k) with
            | true =>
              have Hany := Lib.hid hany
              clear hany
              go_wp2_with fail
              go_ret
              refine ⟨ret_int (chkI_bad (v := v) h6 fun hB => ?_).symm, rfl⟩
              obtain ⟨j, hj, hn⟩ := oddBid_some Hany.out
              exact hn ((hB.2.2 k hlt).2 j (by rw [← Hrl.out]; exact hj))
            | false =>
              have Hany := Lib.hid hany
              clear hany
              go_wp2_with fail
              go_round
              case rel => exact ⟨k + 1, by omega, by go_num, snoc_all' ht.out ⟨Hrl.out, fun j hj => oddBid_none Hany.out j (by rw [Hrl.out]; exact hj)⟩⟩
              case measure => simp [intOf]; omega
          · have hrb : (((rget v k).length : Int) != v.length) = true := by rw [bne_iff_ne]; omega
            have Hrl := Lib.hid hrl
            clear hrl
            go_wp2_with fail
            go_ret
            exact ⟨ret_int (chkI_bad (v := v) h6 fun hB => Hrl.out (hB.2.2 k hlt).1).symm, rfl⟩
        · have hk1 : ¬ (k : Int) < v.length := by omega
          go_wp2_with fail
          go_ret
          exact ⟨ret_int (chkI_bids (v := v) ⟨by omega, by omega, fun i hi => ht.out i (by omega)⟩).symm, rfl⟩

/-- What Best hands back. -/
noncomputable def bestL (v : List (List Int)) : List Int := if Bids v then bestA v else []
noncomputable def bestN (v : List (List Int)) : Int := if Bids v then worthI v (bestA v) else 0
theorem bestP_best {w w' : World} {v : List (List Int)} {e : Ending} (hv : Bids v) (h : BestP w v (-1) e w') :
    ∃ p c, e = .returned (.tuple #[.slice p (bestA v).length c, .int .i64 (worthI v (bestA v))]) ∧ Own w' w.heap.size p c (bestA v) ∧ Below w.heap.size w w' ∧ IsBest v (bestA v) := by
  obtain ⟨p, c, b, he, hO, hb, hP, hF⟩ := h
  have hB : IsBest v b := ⟨part_isA.1 hP, hF.congr (fun x => part_isA) (fun x hx => pv_worth hx.1)⟩
  have e1 := bestA_eq hB
  rw [e1]
  exact ⟨p, c, by rw [he, pv_worth hP.1], hO, hb, hB⟩

set_option maxHeartbeats 800000 in
theorem bestTop_any (p : Option Addr) (c : Nat) (v : List (List Int)) (w : World) (hx : Mat w p c v) :
    Calls Try.prog 33 #[.slice p v.length c] w (Gives3 w (bestL v) (bestN v) (chkI v)) := by
  by_cases hv : Bids v
  · have hc := chkI_bids hv
    have Hc := Lib.hid hc
    have HL : Hid (bestL v = bestA v) := by unfold Hid bestL; rw [if_pos hv]
    have HN : Hid (bestN v = worthI v (bestA v)) := by unfold Hid bestN; rw [if_pos hv]
    go_enter Try.func33, Try.ntmps33
    go_wp2_with fail
    refine (check_any p c v w hx).mono ?_
    rintro e w' ⟨rfl, rfl⟩
    go_wp2_with fail
    refine (best_any p c v (-1) w' hx hv ⟨by omega, by omega⟩).mono ?_
    intro e w1 hP
    obtain ⟨q, d, rfl, hO, hb, _⟩ := bestP_best hv hP
    clear hP
    go_wp2_with fail
    go_ret3
    rw [HL.out, HN.out, Hc.out]
    exact ⟨q, d, rfl, hO, hb⟩
  · have hc : (chkI v != 0) = true := by rw [bne_iff_ne]; exact fun h => hv (chkI_zero.1 h)
    have HL : Hid (bestL v = []) := by unfold Hid bestL; rw [if_neg hv]
    have HN : Hid (bestN v = 0) := by unfold Hid bestN; rw [if_neg hv]
    go_enter Try.func33, Try.ntmps33
    go_wp2_with fail
    refine (check_any p c v w hx).mono ?_
    rintro e w' ⟨rfl, rfl⟩
    go_wp2_with fail
    go_ret3
    rw [HL.out, HN.out]
    exact ⟨none, 0, rfl, Own.ofNil _ _, Below.refl _ _⟩
end Go.Proofs.Ytojldecldemfaaa
