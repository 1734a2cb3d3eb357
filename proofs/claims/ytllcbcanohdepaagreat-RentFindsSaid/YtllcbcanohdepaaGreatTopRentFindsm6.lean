/- The walks of assign.Check and assign.Best, for every bids. -/
import Derived.Test.YtllcbcanohdepaaGreatTopRentFindsm5
import Derived.Test.YtllcbcanohdepaaGreatTopRentFindsm1
/- The walks of assign.Check and assign.Best, for every bids. -/
namespace Go.Proofs.YtllcbcanohdepaaGreat
set_option linter.unusedVariables false
set_option linter.unusedSimpArgs false
open Go.ChangeShapes Go.WideShapes Go.ChangeAt Go.RowKit Go.Deep

theorem oddBid_none {xs : List Int} (h : anyB oddBid xs = false) : ∀ j, j < xs.length → 0 ≤ iget xs j ∧ iget xs j ≤ 1000000 := fun j hj => by
  unfold anyB at h
  rw [List.any_eq_false] at h
  have := h _ (iget_mem hj)
  simp [oddBid] at this
  omega
theorem oddBid_some {xs : List Int} (h : anyB oddBid xs = true) : ∃ j, j < xs.length ∧ ¬ (0 ≤ iget xs j ∧ iget xs j ≤ 1000000) := by
  unfold anyB at h
  rw [List.any_eq_true] at h
  obtain ⟨x, hx, hp⟩ := h
  obtain ⟨j, hj, rfl⟩ := List.getElem_of_mem hx
  refine ⟨j, hj, ?_⟩
  rw [iget_of hj]
  simp [oddBid] at hp
  omega

set_option maxHeartbeats 800000 in
theorem check_any (p : Option Addr) (c : Nat) (v : List (List Int)) (w : World) (hx : Mat w p c v) :
    Calls Tryz.prog 62 #[.slice p v.length c] w fun e w' => e = .returned (.int .i64 (chkI v)) ∧ w' = w := by
  have hl1 := hx.length_le
  by_cases h6 : 6 < v.length
  · have H := Lib.hid (chkI_many h6)
    go_enter Tryz.func62, Tryz.ntmps62
    go_wp2_with fail
    go_ret
    exact ⟨ret_int H.out.symm, rfl⟩
  · by_cases h0 : v.length = 0
    · have hb0 : ((v.length : Int) == 0) = true := by rw [beq_iff_eq]; omega
      have H := Lib.hid (chkI_bad (v := v) h6 (fun h => by have := h.1; omega))
      clear h0
      go_enter Tryz.func62, Tryz.ntmps62
      go_wp2_with fail
      go_ret
      exact ⟨ret_int H.out.symm, rfl⟩
    · have hb0 : ((v.length : Int) == 0) = false := by rw [beq_eq_false_iff_ne]; omega
      go_enter Tryz.func62, Tryz.ntmps62
      go_wp2_with fail
      go_loop [14] (fun t => ∃ k : Nat, k ≤ v.length ∧ t = .int .i64 k ∧ Hid (∀ i, i < k → (rget v i).length = v.length ∧ ∀ j, j < v.length → 0 ≤ iget (rget v i) j ∧ iget (rget v i) j ≤ 1000000)) (fun t => v.length - (intOf t).toNat)
      case atStart => exact ⟨0, Nat.zero_le _, rfl, fun j hj => absurd hj (Nat.not_lt_zero j)⟩
      case round =>
        obtain ⟨k, hk, rfl, ht⟩ := hrel
        by_cases hlt : k < v.length
        · obtain ⟨b, o, rfl, _, q, d, hc, hi⟩ := hx.get hlt
          have hk1 : (k : Int) < v.length := by omega
          by_cases hrl : (rget v k).length = v.length
          · have hrb : (((rget v k).length : Int) != v.length) = false := by simp [hrl]
            have Hrl := Lib.hid hrl
            clear hrl
            go_wp2_with fail
            refine (containsFunc_any 80 oddBid enter_oddBid (fun x W => oddBid_any x W) _ _ _ _ hi).mono ?_
            rintro e w' ⟨rfl, rfl⟩
            cases hany : anyB oddBid (rget v k) with
            | true =>
              have Hany := Lib.hid hany
              clear hany
              go_wp2_with fail
              go_ret
              refine ⟨ret_int (chkI_bad (v := v) h6 fun hB => ?_).symm, rfl⟩
              obtain ⟨j, hj, hn⟩ := oddBid_some Hany.out
              exact hn ((hB.2.2 k hlt).2 j (by rw [← Hrl.out]; exact hj))
            | false =>
              have Hany := Lib.hid hany
              clear hany
              go_wp2_with fail
              go_round
              case rel => exact ⟨k + 1, by omega, by go_num, snoc_all' ht.out ⟨Hrl.out, fun j hj => oddBid_none Hany.out j (by rw [Hrl.out]; exact hj)⟩⟩
              case measure => simp [intOf]; omega
          · have hrb : (((rget v k).length : Int) != v.length) = true := by rw [bne_iff_ne]; omega
            have Hrl := Lib.hid hrl
            clear hrl
            go_wp2_with fail
            go_ret
            exact ⟨ret_int (chkI_bad (v := v) h6 fun hB => Hrl.out (hB.2.2 k hlt).1).symm, rfl⟩
        · have hk1 : ¬ (k : Int) < v.length := by omega
          go_wp2_with fail
          go_ret
          exact ⟨ret_int (chkI_bids (v := v) ⟨by omega, by omega, fun i hi => ht.out i (by omega)⟩).symm, rfl⟩

/-- What Best hands back. -/
noncomputable def bestL (v : List (List Int)) : List Int := if Bids v then bestA v else []
noncomputable def bestN (v : List (List Int)) : Int := if Bids v then worthI v (bestA v) else 0
theorem bestP_best {w w' : World} {v : List (List Int)} {e : Ending} (hv : Bids v) (h : BestP w v (-1) e w') :
    ∃ p c, e = .returned (.tuple #[.slice p (bestA v).length c, .int .i64 (worthI v (bestA v))]) ∧ Own w' w.heap.size p c (bestA v) ∧ Below w.heap.size w w' ∧ IsBest v (bestA v) := by
  obtain ⟨p, c, b, he, hO, hb, hP, hF⟩ := h
  have hB : IsBest v b := ⟨part_isA.1 hP, hF.congr (fun x => part_isA) (fun x hx => pv_worth hx.1)⟩
  have e1 := bestA_eq hB
  rw [e1]
  exact ⟨p, c, by rw [he, pv_worth hP.1], hO, hb, hB⟩

set_option maxHeartbeats 800000 in
theorem bestTop_any (p : Option Addr) (c : Nat) (v : List (List Int)) (w : World) (hx : Mat w p c v) :
    Calls Tryz.prog 36 #[.slice p v.length c] w (Gives3 w (bestL v) (bestN v) (chkI v)) := by
  by_cases hv : Bids v
  · have hc := chkI_bids hv
    have Hc := Lib.hid hc
    have HL : Hid (bestL v = bestA v) := by unfold Hid bestL; rw [if_pos hv]
    have HN : Hid (bestN v = worthI v (bestA v)) := by unfold Hid bestN; rw [if_pos hv]
    go_enter Tryz.func36, Tryz.ntmps36
    go_wp2_with fail
    refine (check_any p c v w hx).mono ?_
    rintro e w' ⟨rfl, rfl⟩
    go_wp2_with fail
    refine (best_any p c v (-1) w' hx hv ⟨by omega, by omega⟩).mono ?_
    intro e w1 hP
    obtain ⟨q, d, rfl, hO, hb, _⟩ := bestP_best hv hP
    clear hP
    go_wp2_with fail
    go_ret3
    rw [HL.out, HN.out, Hc.out]
    exact ⟨q, d, rfl, hO, hb⟩
  · have hc : (chkI v != 0) = true := by rw [bne_iff_ne]; exact fun h => hv (chkI_zero.1 h)
    have HL : Hid (bestL v = []) := by unfold Hid bestL; rw [if_neg hv]
    have HN : Hid (bestN v = 0) := by unfold Hid bestN; rw [if_neg hv]
    go_enter Tryz.func36, Tryz.ntmps36
    go_wp2_with fail
    refine (check_any p c v w hx).mono ?_
    rintro e w' ⟨rfl, rfl⟩
    go_wp2_with fail
    go_ret3
    rw [HL.out, HN.out]
    exact ⟨none, 0, rfl, Own.ofNil _ _, Below.refl _ _⟩
end Go.Proofs.YtllcbcanohdepaaGreat

/- The walks of the reference's functions that only read: Great, Same, SameLists, Check, Assigned, Worth, Priced, Content; the slices read as lists. -/
namespace Go.Proofs.YtllcbcanohdepaaGreat
set_option linter.unusedVariables false
set_option linter.unusedSimpArgs false
open Go.ChangeShapes Go.WideShapes Go.ChangeAt Go.RowKit Go.Deep

def sameB (xs ys : List Int) : Bool := decide (xs = ys)
theorem sameB_true {xs ys : List Int} (h : xs = ys) : sameB xs ys = true := by simp [sameB, h]
theorem take_ext {xs ys : List Int} (h : ∀ j, j < xs.length → iget xs j = iget ys j) (hl : xs.length = ys.length) : xs = ys := by
  apply List.ext_getElem hl
  intro i h1 h2
  have := h i h1
  rwa [iget_of h1, iget_of h2] at this

theorem snoc_all {P : Nat → Prop} {k : Nat} (h : ∀ j, j < k → P j) (hk : P k) : ∀ j, j < k + 1 → P j := fun j hj => by
  by_cases e : j = k
  · exact e ▸ hk
  · exact h j (by omega)

set_option maxHeartbeats 400000 in
theorem same_any (p q : Option Addr) (c d : Nat) (xs ys : List Int) (w : World) (hx : Ints w p c xs) (hy : Ints w q d ys) :
    Calls Tryz.prog 24 #[.slice p xs.length c, .slice q ys.length d] w fun e w' => e = .returned (.bool (sameB xs ys)) ∧ ∃ n, w' = w.drewN n := by
  by_cases hl : xs.length = ys.length
  · have hb : ((xs.length : Int) != ys.length) = false := by simp [hl]
    have Hl := Lib.hid hl
    clear hl
    go_enter Tryz.func24, Tryz.ntmps24
    go_wp2
    go_loopw [5] (fun i wr => ∃ k : Nat, k ≤ xs.length ∧ i = .int .i64 k ∧ (Hid (∀ j, j < k → iget xs j = iget ys j)) ∧ ∃ n, wr = w.drewN n) (fun i _ => xs.length - (intOf i).toNat)
    case atStart => exact ⟨0, Nat.zero_le _, rfl, fun j hj => by omega, 0, rfl⟩
    case round =>
      obtain ⟨k, hk, rfl, ht, n, rfl⟩ := hrel
      by_cases hlt : k < xs.length
      · obtain ⟨b, o, rfl, _, hc⟩ := hx.get hlt
        have hlt' : k < ys.length := by rw [← Hl.out]; exact hlt
        obtain ⟨b', o', rfl, _, hc'⟩ := hy.get hlt'
        have hk1 : (k : Int) < xs.length := by omega
        have hk2 : (k : Int) < ys.length := by omega
        have hl1 := hx.length_le
        go_wp2
        go_quiet (fail)
        go_wp2
        · have hne : (iget xs k != iget ys k) = true := by assumption
          go_ret
          refine ⟨ret_bool ?_, drew_drewN _ ⟨_, rfl⟩⟩
          simp only [sameB]
          symm
          rw [decide_eq_false_iff_not]
          rintro rfl
          simp at hne
        · have he : (iget xs k != iget ys k) = false := by assumption
          go_roundw
          case rel => exact ⟨k + 1, by omega, by go_num, snoc_all ht.out (by simpa using he), _, rfl⟩
          case measure => simp [intOf]; omega
      · have hk1 : ¬ (k : Int) < xs.length := by omega
        go_wp2
        go_ret
        refine ⟨ret_bool ?_, _, rfl⟩
        rw [sameB_true]
        exact take_ext (fun j hj => ht.out j (by omega)) Hl.out
  · have hb : ((xs.length : Int) != ys.length) = true := by simp; omega
    have Hl := Lib.hid hl
    clear hl
    go_enter Tryz.func24, Tryz.ntmps24
    go_wp2
    go_ret
    refine ⟨ret_bool ?_, 0, rfl⟩
    simp only [sameB]
    symm
    rw [decide_eq_false_iff_not]
    rintro rfl
    exact Hl.out rfl

set_option maxHeartbeats 400000 in
theorem great_any (p : Option Addr) (c : Nat) (v : List (List Int)) (w : World) (hx : Mat w p c v) :
    Calls Tryz.prog 16 #[.slice p v.length c] w fun e w' => e = .returned (.bool (greatB v)) ∧ w' = w := by
  have hl1 := hx.length_le
  go_enter Tryz.func16, Tryz.ntmps16
  go_wp2
  go_loop [3] (fun i => ∃ k : Nat, k ≤ v.length ∧ k ≤ 20 ∧ i = .int .i64 k ∧ Hid (∀ j, j < k → ¬ 50 < (rget v j).length)) (fun i => v.length - (intOf i).toNat)
  case atStart => exact ⟨0, by omega, by omega, rfl, fun j hj => by omega⟩
  case round =>
    obtain ⟨k, hk, hk20, rfl, ht⟩ := hrel
    have hend : ¬ (k < v.length ∧ k < 20) → greatB v = decide (v.length = 6 ∨ 20 < v.length) := by
      intro h
      unfold greatB
      rw [Bool.eq_iff_iff, decide_eq_true_iff, decide_eq_true_iff]
      unfold GreatP
      constructor
      · rintro (⟨i, h1, h2, h3⟩ | h)
        · exact absurd h3 (ht.out i (by omega))
        · exact h
      · exact Or.inr
    by_cases hlt : k < v.length
    · by_cases hlt2 : k < 20
      · obtain ⟨b, o, rfl, _, q, d, hc, _⟩ := hx.get hlt
        have hd1 : decide ((k : Int) < v.length) = true := by simp; omega
        have hd2 : decide ((k : Int) < 20) = true := by simp; omega
        clear hend
        go_wp2
        · have hgt : 50 < ((rget v k).length : Int) := by assumption
          go_ret
          refine ⟨ret_bool ?_, rfl⟩
          symm
          unfold greatB
          rw [decide_eq_true_iff]
          exact Or.inl ⟨k, hlt, hlt2, by omega⟩
        · have hgt : ((rget v k).length : Int) ≤ 50 := by assumption
          go_round
          case rel => exact ⟨k + 1, by omega, by omega, by go_num, snoc_all ht.out (by omega)⟩
          case measure => simp [intOf]; omega
      · have hd1 : decide ((k : Int) < v.length) = true := by simp; omega
        have hd2 : decide ((k : Int) < 20) = false := by simp; omega
        have HE := Lib.hid (hend (by omega))
        clear hend
        have hn6 : v.length ≠ 6 := by omega
        have h6 : ((v.length : Int) == 6) = false := by simp; omega
        go_wp2
        go_ret
        refine ⟨ret_bool ?_, rfl⟩
        rw [HE.out]
        exact dec_congr (by omega)
    · have hd1 : decide ((k : Int) < v.length) = false := by simp; omega
      have HE := Lib.hid (hend (by omega))
      clear hend
      by_cases h6 : v.length = 6
      · have h6' : ((v.length : Int) == 6) = true := by simp; omega
        have H6 := Lib.hid h6
        clear h6
        go_wp2
        go_ret
        refine ⟨ret_bool ?_, rfl⟩
        rw [HE.out]
        exact (decide_eq_true (Or.inl H6.out)).symm
      · have h6' : ((v.length : Int) == 6) = false := by simp; omega
        go_wp2
        go_ret
        refine ⟨ret_bool ?_, rfl⟩
        rw [HE.out]
        exact dec_congr (by omega)
def sameLB (u v : List (List Int)) : Bool := decide (u = v)
theorem rows_ext {u v : List (List Int)} (h : ∀ j, j < u.length → rget u j = rget v j) (hl : u.length = v.length) : u = v := by
  apply List.ext_getElem hl
  intro i h1 h2
  have := h i h1
  rwa [rget_of h1, rget_of h2] at this
theorem sameB_eq {xs ys : List Int} (h : sameB xs ys = true) : xs = ys := by simpa [sameB] using h

set_option maxHeartbeats 400000 in
theorem sameLists_any (p q : Option Addr) (c d : Nat) (u v : List (List Int)) (w : World) (hx : Mat w p c u) (hy : Mat w q d v) :
    Calls Tryz.prog 15 #[.slice p u.length c, .slice q v.length d] w fun e w' => e = .returned (.bool (sameLB u v)) ∧ ∃ n, w' = w.drewN n := by
  by_cases hl : u.length = v.length
  · have hb : ((u.length : Int) != v.length) = false := by simp [hl]
    have Hl := Lib.hid hl
    clear hl
    go_enter Tryz.func15, Tryz.ntmps15
    go_wp2
    go_loopw [5] (fun i wr => ∃ k : Nat, k ≤ u.length ∧ i = .int .i64 k ∧ (Hid (∀ j, j < k → rget u j = rget v j)) ∧ ∃ n, wr = w.drewN n) (fun i _ => u.length - (intOf i).toNat)
    case atStart => exact ⟨0, Nat.zero_le _, rfl, fun j hj => by omega, drew_refl w⟩
    case round =>
      obtain ⟨k, hk, rfl, ht, hw⟩ := hrel
      have hx := hx.drew hw
      have hy := hy.drew hw
      have Hw := Lib.hid hw
      clear hw
      by_cases hlt : k < u.length
      · obtain ⟨b, o, rfl, _, q1, d1, hc, hi⟩ := hx.get hlt
        have hlt' : k < v.length := by rw [← Hl.out]; exact hlt
        obtain ⟨b', o', rfl, _, q2, d2, hc', hi'⟩ := hy.get hlt'
        have hk1 : (k : Int) < u.length := by omega
        have hk2 : (k : Int) < v.length := by omega
        have hl1 := hx.length_le
        go_wp2_with fail
        go_quiet ((go_at_call 24; exact Calls.quiet_of (same_any _ _ _ _ _ _ _ (hi.drewN _) (hi'.drewN _))))
        go_wp2_with fail
        · have hne : (!sameB (rget u k) (rget v k)) = true := by assumption
          go_ret
          refine ⟨ret_bool ?_, drew_drewN _ Hw.out⟩
          simp only [sameLB]
          symm
          rw [decide_eq_false_iff_not]
          rintro rfl
          simp [sameB] at hne
        · have he : (!sameB (rget u k) (rget v k)) = false := by assumption
          go_roundw
          case rel => exact ⟨k + 1, by omega, by go_num, snoc_all ht.out (sameB_eq (by simpa using he)), drew_drewN _ Hw.out⟩
          case measure => simp [intOf]; omega
      · have hk1 : ¬ (k : Int) < u.length := by omega
        go_wp2
        go_ret
        refine ⟨ret_bool ?_, Hw.out⟩
        simp only [sameLB]
        symm
        rw [decide_eq_true_iff]
        exact rows_ext (fun j hj => ht.out j (by omega)) Hl.out
  · have hb : ((u.length : Int) != v.length) = true := by simp; omega
    have Hl := Lib.hid hl
    clear hl
    go_enter Tryz.func15, Tryz.ntmps15
    go_wp2
    go_ret
    refine ⟨ret_bool ?_, 0, rfl⟩
    simp only [sameLB]
    symm
    rw [decide_eq_false_iff_not]
    rintro rfl
    exact Hl.out rfl

set_option maxHeartbeats 800000 in
theorem refCheck_any (p : Option Addr) (c : Nat) (v : List (List Int)) (w : World) (hx : Mat w p c v) :
    Calls Tryz.prog 39 #[.slice p v.length c] w fun e w' => e = .returned (.int .i64 (chkI v)) ∧ w' = w := by
  have hl1 := hx.length_le
  by_cases h6 : 6 < v.length
  · have H := Lib.hid (chkI_many h6)
    go_enter Tryz.func39, Tryz.ntmps39
    go_wp2
    go_ret
    exact ⟨ret_int H.out.symm, rfl⟩
  · go_enter Tryz.func39, Tryz.ntmps39
    go_wp2
    go_loop [4] (fun i => ∃ k : Nat, k ≤ v.length ∧ i = .int .i64 k ∧ Hid (∀ i, i < k → (rget v i).length = v.length ∧ ∀ j, j < v.length → 0 ≤ iget (rget v i) j ∧ iget (rget v i) j ≤ 1000000)) (fun i => v.length - (intOf i).toNat)
    case atStart => exact ⟨0, by omega, rfl, fun j hj => by omega⟩
    case round =>
      obtain ⟨k, hk, rfl, ht⟩ := hrel
      by_cases hlt : k < v.length
      · obtain ⟨b, o, rfl, _, q, d, hc, hi⟩ := hx.get hlt
        have hk1 : (k : Int) < v.length := by omega
        by_cases hrl : (rget v k).length = v.length
        · have hrb : (((rget v k).length : Int) != v.length) = false := by simp [hrl]
          have Hrl := Lib.hid hrl
          clear hrl
          go_wp2
          go_loop [5] (fun i => ∃ j : Nat, j ≤ v.length ∧ i = .int .i64 j ∧ Hid (∀ i, i < j → 0 ≤ iget (rget v k) i ∧ iget (rget v k) i ≤ 1000000)) (fun i => v.length - (intOf i).toNat)
          case atStart => exact ⟨0, by omega, rfl, fun j hj => by omega⟩
          case round =>
            obtain ⟨j, hj, rfl, htj⟩ := hrel
            by_cases hlt2 : j < v.length
            · have hlt3 : j < (rget v k).length := by rw [Hrl.out]; exact hlt2
              obtain ⟨b', o', rfl, _, hc'⟩ := hi.get hlt3
              have hk2 : (j : Int) < v.length := by omega
              have hk3 : (j : Int) < (rget v k).length := by omega
              by_cases hlow : iget (rget v k) j < 0
              · have hdl : decide (iget (rget v k) j < 0) = true := by simpa using hlow
                go_wp2
                go_ret
                refine ⟨ret_int (chkI_bad (v := v) h6 fun hB => ?_).symm, rfl⟩
                have := ((hB.2.2 k hlt).2 j hlt2).1
                omega
              · have hdl : decide (iget (rget v k) j < 0) = false := by simpa using hlow
                go_wp2
                · have hgt : 1000000 < iget (rget v k) j := by assumption
                  go_ret
                  refine ⟨ret_int (chkI_bad (v := v) h6 fun hB => ?_).symm, rfl⟩
                  have := ((hB.2.2 k hlt).2 j hlt2).2
                  omega
                · have hgt : iget (rget v k) j ≤ 1000000 := by assumption
                  go_round
                  case rel => exact ⟨j + 1, by omega, by go_num, snoc_all htj.out ⟨by omega, hgt⟩⟩
                  case measure => simp [intOf]; omega
            · have hk2 : ¬ (j : Int) < v.length := by omega
              go_wp2
              go_round
              case rel => exact ⟨k + 1, by omega, by go_num, snoc_all ht.out ⟨Hrl.out, fun i hi => htj.out i (by omega)⟩⟩
              case measure => simp [intOf]; omega
        · have hrb : (((rget v k).length : Int) != v.length) = true := by simp; omega
          have Hrl := Lib.hid hrl
          clear hrl
          go_wp2
          go_ret
          exact ⟨ret_int (chkI_bad (v := v) h6 fun hB => Hrl.out (hB.2.2 k hlt).1).symm, rfl⟩
      · have hk1 : ¬ (k : Int) < v.length := by omega
        by_cases h0 : v.length = 0
        · have hb0 : ((v.length : Int) == 0) = true := by rw [beq_iff_eq]; omega
          have H0 := Lib.hid h0
          clear h0
          go_wp2
          go_ret
          exact ⟨ret_int (chkI_bad (v := v) h6 fun hB => by have := hB.1; have := H0.out; omega).symm, rfl⟩
        · have hb0 : ((v.length : Int) == 0) = false := by rw [beq_eq_false_iff_ne]; omega
          go_wp2
          go_ret
          exact ⟨ret_int (chkI_bids (v := v) ⟨by omega, by omega, fun i hi => ht.out i (by omega)⟩).symm, rfl⟩

end Go.Proofs.YtllcbcanohdepaaGreat

/- The walks of the reference's functions Assigned, Worth, Priced, Content; Worth and Content where every index is in range. -/
namespace Go.Proofs.YtllcbcanohdepaaGreat
set_option linter.unusedVariables false
set_option linter.unusedSimpArgs false
open Go.ChangeShapes Go.WideShapes Go.ChangeAt Go.RowKit Go.Deep

theorem isAB_false {a : List Int} {n : Nat} (h : ¬ IsA a n) : isAB a n = false := by simp [isAB, h]
theorem isAB_true {a : List Int} {n : Nat} (h : IsA a n) : isAB a n = true := by simp [isAB, h]

set_option maxHeartbeats 400000 in
theorem assigned_any (p : Option Addr) (c : Nat) (a : List Int) (n : Nat) (w : World) (hn : n ≤ 9223372036854775807) (hx : Ints w p c a) :
    Calls Tryz.prog 41 #[.slice p a.length c, .int .i64 n] w fun e w' => e = .returned (.bool (isAB a n)) ∧ w' = w := by
  have hl1 := hx.length_le
  by_cases hl : a.length = n
  · have hb : ((a.length : Int) != n) = false := by simp [hl]
    have hle : n ≤ a.length := by omega
    have Hl := Lib.hid hl
    clear hl
    go_enter Tryz.func41, Tryz.ntmps41
    go_wp2
    go_loop [5] (fun i => ∃ k : Nat, k ≤ n ∧ i = .int .i64 k ∧ Hid (∀ j, j < k → a.count (j : Int) = 1)) (fun i => n - (intOf i).toNat)
    case atStart => exact ⟨0, by omega, rfl, fun j hj => by omega⟩
    case round =>
      obtain ⟨k, hk, rfl, ht⟩ := hrel
      by_cases hlt : k < n
      · have hk1 : (k : Int) < n := by omega
        go_wp2
        go_loop [6, 7] (fun t i => ∃ m : Nat, m ≤ n ∧ i = .int .i64 m ∧ t = .int .i64 ((a.take m).count (k : Int) : Nat)) (fun _ i => n - (intOf i).toNat)
        case atStart => exact ⟨0, by omega, rfl, rfl⟩
        case round =>
          obtain ⟨m, hm, rfl, rfl⟩ := hrel
          have hcb : (a.take m).count (k : Int) ≤ m := Nat.le_trans List.count_le_length (by rw [List.length_take]; omega)
          by_cases hlt2 : m < n
          · have hlt3 : m < a.length := by omega
            obtain ⟨b, o, rfl, _, hc⟩ := hx.get hlt3
            have hk2 : (m : Int) < n := by omega
            have hk3 : (m : Int) < a.length := by omega
            have Hs := Lib.hid (count_take_succ a m (k : Int) hlt3)
            generalize (a.take m).count (k : Int) = cm at *
            go_wp2
            · have he : (iget a m == (k : Int)) = true := by assumption
              go_round
              case rel => exact ⟨m + 1, by omega, by go_num, by rw [Hs.out, if_pos (by simpa using he)]; go_num⟩
              case measure => simp [intOf]; omega
            · have he : (iget a m == (k : Int)) = false := by assumption
              go_round
              case rel => exact ⟨m + 1, by omega, by go_num, by rw [Hs.out, if_neg (by simpa using he)]; go_num⟩
              case measure => simp [intOf]; omega
          · have hk2 : ¬ (m : Int) < n := by omega
            have Hc : Hid ((a.take m).count (k : Int) = a.count (k : Int)) := by
              have : a.take m = a := List.take_of_length_le (by have := Hl.out; omega)
              rw [this]; rfl
            generalize (a.take m).count (k : Int) = cm at *
            go_wp2
            · have he : ((cm : Int) != 1) = true := by assumption
              go_ret
              refine ⟨ret_bool (isAB_false fun hA => ?_).symm, rfl⟩
              have := hA.2 k hlt
              rw [Hc.out] at he
              simp [this] at he
            · have he : ((cm : Int) != 1) = false := by assumption
              go_round
              case rel => exact ⟨k + 1, by omega, by go_num, snoc_all ht.out (by rw [← Hc.out]; simp at he; omega)⟩
              case measure => simp [intOf]; omega
      · have hk1 : ¬ (k : Int) < n := by omega
        go_wp2
        go_ret
        exact ⟨ret_bool (isAB_true ⟨Hl.out, fun j hj => ht.out j (by omega)⟩).symm, rfl⟩
  · have hb : ((a.length : Int) != n) = true := by rw [bne_iff_ne]; omega
    have Hl := Lib.hid hl
    clear hl
    go_enter Tryz.func41, Tryz.ntmps41
    go_wp2
    go_ret
    exact ⟨ret_bool (isAB_false fun hA => Hl.out hA.1).symm, rfl⟩

/-- Each agent's item is one of the row's, and bids are small: what the walks of Worth ask. -/
structure Fits (v : List (List Int)) (a : List Int) : Prop where
  len : a.length ≤ 6
  rows : a.length ≤ v.length
  item : ∀ i, i < a.length → 0 ≤ iget a i ∧ itm a i < (rget v i).length
  val : ∀ i, i < a.length → 0 ≤ bid v i (itm a i) ∧ bid v i (itm a i) ≤ 1000000

set_option maxHeartbeats 400000 in
theorem worth_any (p q : Option Addr) (c d : Nat) (v : List (List Int)) (a : List Int) (w : World) (hx : Mat w p c v) (hy : Ints w q d a) (hf : Fits v a) :
    Calls Tryz.prog 42 #[.slice p v.length c, .slice q a.length d] w fun e w' => e = .returned (.int .i64 (worthI v a)) ∧ ∃ n, w' = w.drewN n := by
  have hl1 := hx.length_le
  have hl6 := hf.len
  go_enter Tryz.func42, Tryz.ntmps42
  go_wp2
  go_loopw [5, 6] (fun s i wr => ∃ k : Nat, k ≤ a.length ∧ i = .int .i64 k ∧ s = .int .i64 (sumTo (fun i => bid v i (itm a i)) k) ∧ ∃ n, wr = w.drewN n) (fun _ i _ => a.length - (intOf i).toNat)
  case atStart => exact ⟨0, by omega, rfl, rfl, drew_refl w⟩
  case round =>
    obtain ⟨k, hk, rfl, rfl, hw⟩ := hrel
    have hx := hx.drew hw
    have hy := hy.drew hw
    have Hw := Lib.hid hw
    clear hw
    have hs := sumTo_bound hf.val k hk
    by_cases hlt : k < a.length
    · obtain ⟨b, o, rfl, _, hc⟩ := hy.get hlt
      have hr := hf.rows
      have hlt2 : k < v.length := by omega
      obtain ⟨b2, o2, rfl, _, q1, d1, hc2, hi⟩ := hx.get hlt2
      obtain ⟨i1, i2⟩ := hf.item k hlt
      obtain ⟨v1, v2⟩ := hf.val k hlt
      obtain ⟨b3, o3, rfl, _, hc3⟩ := hi.get i2
      have hk1 : (k : Int) < a.length := by omega
      have hk2 : (k : Int) < v.length := by omega
      obtain ⟨x, hxx⟩ : ∃ x : Nat, iget a k = (x : Int) := ⟨(iget a k).toNat, by omega⟩
      have hit : itm a k = x := by simp [itm, hxx]
      rw [hit] at hc3 i2 v1 v2
      rw [hxx] at hc
      have hk3 : (x : Int) < (rget v k).length := by omega
      have Hs : Hid (sumTo (fun i => bid v i (itm a i)) (k + 1) = sumTo (fun i => bid v i (itm a i)) k + iget (rget v k) x) := by simp only [sumTo, hit]; rfl
      generalize sumTo (fun i => bid v i (itm a i)) k = s at *
      clear hxx hit i1
      have v1' : 0 ≤ iget (rget v k) x := v1
      have v2' : iget (rget v k) x ≤ 1000000 := v2
      have hs2 : s ≤ 6000000 := by omega
      have hs1 := hs.1
      clear hs
      go_wp2
      go_quiet (fail)
      go_wp2
      go_roundw
      case rel => exact ⟨k + 1, by omega, by go_num, by rw [Hs.out], drew_drewN _ Hw.out⟩
      case measure => simp [intOf]; omega
    · have hk1 : ¬ (k : Int) < a.length := by omega
      obtain rfl : k = a.length := by omega
      go_wp2
      go_ret
      exact ⟨rfl, Hw.out⟩

theorem pricedB_false {a : List Int} {n : Nat} (h : ¬ PricedP a n) : pricedB a n = false := by simp [pricedB, h]

/-- What the walks of Content ask: all indices in range, small numbers. -/
structure Fits2 (v : List (List Int)) (a p : List Int) : Prop where
  rows : ∀ i, i < v.length → (rget v i).length = v.length
  alen : a.length = v.length
  plen : p.length = v.length
  item : ∀ i, i < v.length → 0 ≤ iget a i ∧ itm a i < v.length
  val : ∀ i, i < v.length → ∀ j, j < v.length → 0 ≤ bid v i j ∧ bid v i j ≤ 1000000
  price : ∀ j, j < v.length → 0 ≤ iget p j ∧ iget p j ≤ 10000000

theorem contentB_false {v : List (List Int)} {a p : List Int} (h : ¬ ContentP v a p) : contentB v a p = false := by simp [contentB, h]

end Go.Proofs.YtllcbcanohdepaaGreat
