/- The walks of assign.Check and assign.Best, for every bids. -/
import Derived.Test.YtmcncflieoolmaaTopTopRentm5
import Derived.Test.YtmcncflieoolmaaTopTopRentm1
import Derived.Test.YtmcncflieoolmaaTopTopRentm4
import Derived.Test.YtmcncflieoolmaaTopTopRentm2
import Derived.Deep.LoopGhost
import Derived.Test.YtmcncflieoolmaaTopTopRentm3
import Derived.Deep.RegionHeld3
import Derived.Deep.RegionWith
/- The walks of assign.Check and assign.Best, for every bids. -/
namespace Go.Proofs.Ytmcncflieoolmaa
set_option linter.unusedVariables false
set_option linter.unusedSimpArgs false
open Go.ChangeShapes Go.WideShapes Go.ChangeAt Go.RowKit Go.Deep

theorem oddBid_none {xs : List Int} (h : anyB oddBid xs = false) : ∀ j, j < xs.length → 0 ≤ iget xs j ∧ iget xs j ≤ 1000000 := fun j hj => by
  unfold anyB at h
  rw [List.any_eq_false] at h
  have := h _ (iget_mem hj)
  simp [oddBid] at this
  omega
theorem oddBid_some {xs : List Int} (h : anyB oddBid xs = true) : ∃ j, j < xs.length ∧ ¬ (0 ≤ iget xs j ∧ iget xs j ≤ 1000000) := by
  unfold anyB at h
  rw [List.any_eq_true] at h
  obtain ⟨x, hx, hp⟩ := h
  obtain ⟨j, hj, rfl⟩ := List.getElem_of_mem hx
  refine ⟨j, hj, ?_⟩
  rw [iget_of hj]
  simp [oddBid] at hp
  omega

set_option maxHeartbeats 800000 in
theorem check_any (p : Option Addr) (c : Nat) (v : List (List Int)) (w : World) (hx : Mat w p c v) :
    Calls Try.prog 40 #[.slice p v.length c] w fun e w' => e = .returned (.int .i64 (chkI v)) ∧ w' = w := by
  have hl1 := hx.length_le
  by_cases h6 : 6 < v.length
  · have H := Lib.hid (chkI_many h6)
    go_enter Try.func40, Try.ntmps40
    go_wp2_with fail
    go_ret
    exact ⟨ret_int H.out.symm, rfl⟩
  · by_cases h0 : v.length = 0
    · have hb0 : ((v.length : Int) == 0) = true := by rw [beq_iff_eq]; omega
      have H := Lib.hid (chkI_bad (v := v) h6 (fun h => by have := h.1; omega))
      clear h0
      go_enter Try.func40, Try.ntmps40
      go_wp2_with fail
      go_ret
      exact ⟨ret_int H.out.symm, rfl⟩
    · have hb0 : ((v.length : Int) == 0) = false := by rw [beq_eq_false_iff_ne]; omega
      go_enter Try.func40, Try.ntmps40
      go_wp2_with fail
      go_loop [14] (fun t => ∃ k : Nat, k ≤ v.length ∧ t = .int .i64 k ∧ Hid (∀ i, i < k → (rget v i).length = v.length ∧ ∀ j, j < v.length → 0 ≤ iget (rget v i) j ∧ iget (rget v i) j ≤ 1000000)) (fun t => v.length - (intOf t).toNat)
      case atStart => exact ⟨0, Nat.zero_le _, rfl, fun j hj => absurd hj (Nat.not_lt_zero j)⟩
      case round =>
        obtain ⟨k, hk, rfl, ht⟩ := hrel
        by_cases hlt : k < v.length
        · obtain ⟨b, o, rfl, _, q, d, hc, hi⟩ := hx.get hlt
          have hk1 : (k : Int) < v.length := by omega
          by_cases hrl : (rget v k).length = v.length
          · have hrb : (((rget v k).length : Int) != v.length) = false := by simp [hrl]
            have Hrl := Lib.hid hrl
            clear hrl
            go_wp2_with fail
            refine (containsFunc_any 57 oddBid enter_oddBid (fun x W => oddBid_any x W) _ _ _ _ hi).mono ?_
            rintro e w' ⟨rfl, rfl⟩
            cases hany : anyB oddBid (rget v k) with
            | true =>
              have Hany := Lib.hid hany
              clear hany
              go_wp2_with fail
              go_ret
              refine ⟨ret_int (chkI_bad (v := v) h6 fun hB => ?_).symm, rfl⟩
              obtain ⟨j, hj, hn⟩ := oddBid_some Hany.out
              exact hn ((hB.2.2 k hlt).2 j (by rw [← Hrl.out]; exact hj))
            | false =>
              have Hany := Lib.hid hany
              clear hany
              go_wp2_with fail
              go_round
              case rel => exact ⟨k + 1, by omega, by go_num, snoc_all' ht.out ⟨Hrl.out, fun j hj => oddBid_none Hany.out j (by rw [Hrl.out]; exact hj)⟩⟩
              case measure => simp [intOf]; omega
          · have hrb : (((rget v k).length : Int) != v.length) = true := by rw [bne_iff_ne]; omega
            have Hrl := Lib.hid hrl
            clear hrl
            go_wp2_with fail
            go_ret
            exact ⟨ret_int (chkI_bad (v := v) h6 fun hB => Hrl.out (hB.2.2 k hlt).1).symm, rfl⟩
        · have hk1 : ¬ (k : Int) < v.length := by omega
          go_wp2_with fail
          go_ret
          exact ⟨ret_int (chkI_bids (v := v) ⟨by omega, by omega, fun i hi => ht.out i (by omega)⟩).symm, rfl⟩

/-- What Best hands back. -/
noncomputable def bestL (v : List (List Int)) : List Int := if Bids v then bestA v else []
noncomputable def bestN (v : List (List Int)) : Int := if Bids v then worthI v (bestA v) else 0
theorem bestP_best {w w' : World} {v : List (List Int)} {e : Ending} (hv : Bids v) (h : BestP w v (-1) e w') :
    ∃ p c, e = .returned (.tuple #[.slice p (bestA v).length c, .int .i64 (worthI v (bestA v))]) ∧ Own w' w.heap.size p c (bestA v) ∧ Below w.heap.size w w' ∧ IsBest v (bestA v) := by
  obtain ⟨p, c, b, he, hO, hb, hP, hF⟩ := h
  have hB : IsBest v b := ⟨part_isA.1 hP, hF.congr (fun x => part_isA) (fun x hx => pv_worth hx.1)⟩
  have e1 := bestA_eq hB
  rw [e1]
  exact ⟨p, c, by rw [he, pv_worth hP.1], hO, hb, hB⟩

set_option maxHeartbeats 800000 in
theorem bestTop_any (p : Option Addr) (c : Nat) (v : List (List Int)) (w : World) (hx : Mat w p c v) :
    Calls Try.prog 19 #[.slice p v.length c] w (Gives3 w (bestL v) (bestN v) (chkI v)) := by
  by_cases hv : Bids v
  · have hc := chkI_bids hv
    have Hc := Lib.hid hc
    have HL : Hid (bestL v = bestA v) := by unfold Hid bestL; rw [if_pos hv]
    have HN : Hid (bestN v = worthI v (bestA v)) := by unfold Hid bestN; rw [if_pos hv]
    go_enter Try.func19, Try.ntmps19
    go_wp2_with fail
    refine (check_any p c v w hx).mono ?_
    rintro e w' ⟨rfl, rfl⟩
    go_wp2_with fail
    refine (best_any p c v (-1) w' hx hv ⟨by omega, by omega⟩).mono ?_
    intro e w1 hP
    obtain ⟨q, d, rfl, hO, hb, _⟩ := bestP_best hv hP
    clear hP
    go_wp2_with fail
    go_ret3
    rw [HL.out, HN.out, Hc.out]
    exact ⟨q, d, rfl, hO, hb⟩
  · have hc : (chkI v != 0) = true := by rw [bne_iff_ne]; exact fun h => hv (chkI_zero.1 h)
    have HL : Hid (bestL v = []) := by unfold Hid bestL; rw [if_neg hv]
    have HN : Hid (bestN v = 0) := by unfold Hid bestN; rw [if_neg hv]
    go_enter Try.func19, Try.ntmps19
    go_wp2_with fail
    refine (check_any p c v w hx).mono ?_
    rintro e w' ⟨rfl, rfl⟩
    go_wp2_with fail
    go_ret3
    rw [HL.out, HN.out]
    exact ⟨none, 0, rfl, Own.ofNil _ _, Below.refl _ _⟩
end Go.Proofs.Ytmcncflieoolmaa

/- The walks of the reference's functions that only read: Great, Same, SameLists, Check, Assigned, Worth, Priced, Content; the slices read as lists. -/
namespace Go.Proofs.Ytmcncflieoolmaa
set_option linter.unusedVariables false
set_option linter.unusedSimpArgs false
open Go.ChangeShapes Go.WideShapes Go.ChangeAt Go.RowKit Go.Deep

def sameB (xs ys : List Int) : Bool := decide (xs = ys)
theorem sameB_true {xs ys : List Int} (h : xs = ys) : sameB xs ys = true := by simp [sameB, h]
theorem take_ext {xs ys : List Int} (h : ∀ j, j < xs.length → iget xs j = iget ys j) (hl : xs.length = ys.length) : xs = ys := by
  apply List.ext_getElem hl
  intro i h1 h2
  have := h i h1
  rwa [iget_of h1, iget_of h2] at this

theorem snoc_all {P : Nat → Prop} {k : Nat} (h : ∀ j, j < k → P j) (hk : P k) : ∀ j, j < k + 1 → P j := fun j hj => by
  by_cases e : j = k
  · exact e ▸ hk
  · exact h j (by omega)

set_option maxHeartbeats 400000 in
theorem same_any (p q : Option Addr) (c d : Nat) (xs ys : List Int) (w : World) (hx : Ints w p c xs) (hy : Ints w q d ys) :
    Calls Try.prog 15 #[.slice p xs.length c, .slice q ys.length d] w fun e w' => e = .returned (.bool (sameB xs ys)) ∧ ∃ n, w' = w.drewN n := by
  by_cases hl : xs.length = ys.length
  · have hb : ((xs.length : Int) != ys.length) = false := by simp [hl]
    have Hl := Lib.hid hl
    clear hl
    go_enter Try.func15, Try.ntmps15
    go_wp2
    go_loopw [5] (fun i wr => ∃ k : Nat, k ≤ xs.length ∧ i = .int .i64 k ∧ (Hid (∀ j, j < k → iget xs j = iget ys j)) ∧ ∃ n, wr = w.drewN n) (fun i _ => xs.length - (intOf i).toNat)
    case atStart => exact ⟨0, Nat.zero_le _, rfl, fun j hj => by omega, 0, rfl⟩
    case round =>
      obtain ⟨k, hk, rfl, ht, n, rfl⟩ := hrel
      by_cases hlt : k < xs.length
      · obtain ⟨b, o, rfl, _, hc⟩ := hx.get hlt
        have hlt' : k < ys.length := by rw [← Hl.out]; exact hlt
        obtain ⟨b', o', rfl, _, hc'⟩ := hy.get hlt'
        have hk1 : (k : Int) < xs.length := by omega
        have hk2 : (k : Int) < ys.length := by omega
        have hl1 := hx.length_le
        go_wp2
        go_quiet (fail)
        go_wp2
        · have hne : (iget xs k != iget ys k) = true := by assumption
          go_ret
          refine ⟨ret_bool ?_, drew_drewN _ ⟨_, rfl⟩⟩
          simp only [sameB]
          symm
          rw [decide_eq_false_iff_not]
          rintro rfl
          simp at hne
        · have he : (iget xs k != iget ys k) = false := by assumption
          go_roundw
          case rel => exact ⟨k + 1, by omega, by go_num, snoc_all ht.out (by simpa using he), _, rfl⟩
          case measure => simp [intOf]; omega
      · have hk1 : ¬ (k : Int) < xs.length := by omega
        go_wp2
        go_ret
        refine ⟨ret_bool ?_, _, rfl⟩
        rw [sameB_true]
        exact take_ext (fun j hj => ht.out j (by omega)) Hl.out
  · have hb : ((xs.length : Int) != ys.length) = true := by simp; omega
    have Hl := Lib.hid hl
    clear hl
    go_enter Try.func15, Try.ntmps15
    go_wp2
    go_ret
    refine ⟨ret_bool ?_, 0, rfl⟩
    simp only [sameB]
    symm
    rw [decide_eq_false_iff_not]
    rintro rfl
    exact Hl.out rfl

def sameLB (u v : List (List Int)) : Bool := decide (u = v)
theorem rows_ext {u v : List (List Int)} (h : ∀ j, j < u.length → rget u j = rget v j) (hl : u.length = v.length) : u = v := by
  apply List.ext_getElem hl
  intro i h1 h2
  have := h i h1
  rwa [rget_of h1, rget_of h2] at this
theorem sameB_eq {xs ys : List Int} (h : sameB xs ys = true) : xs = ys := by simpa [sameB] using h

set_option maxHeartbeats 800000 in
theorem refCheck_any (p : Option Addr) (c : Nat) (v : List (List Int)) (w : World) (hx : Mat w p c v) :
    Calls Try.prog 17 #[.slice p v.length c] w fun e w' => e = .returned (.int .i64 (chkI v)) ∧ w' = w := by
  have hl1 := hx.length_le
  by_cases h6 : 6 < v.length
  · have H := Lib.hid (chkI_many h6)
    go_enter Try.func17, Try.ntmps17
    go_wp2
    go_ret
    exact ⟨ret_int H.out.symm, rfl⟩
  · go_enter Try.func17, Try.ntmps17
    go_wp2
    go_loop [4] (fun i => ∃ k : Nat, k ≤ v.length ∧ i = .int .i64 k ∧ Hid (∀ i, i < k → (rget v i).length = v.length ∧ ∀ j, j < v.length → 0 ≤ iget (rget v i) j ∧ iget (rget v i) j ≤ 1000000)) (fun i => v.length - (intOf i).toNat)
    case atStart => exact ⟨0, by omega, rfl, fun j hj => by omega⟩
    case round =>
      obtain ⟨k, hk, rfl, ht⟩ := hrel
      by_cases hlt : k < v.length
      · obtain ⟨b, o, rfl, _, q, d, hc, hi⟩ := hx.get hlt
        have hk1 : (k : Int) < v.length := by omega
        by_cases hrl : (rget v k).length = v.length
        · have hrb : (((rget v k).length : Int) != v.length) = false := by simp [hrl]
          have Hrl := Lib.hid hrl
          clear hrl
          go_wp2
          go_loop [5] (fun i => ∃ j : Nat, j ≤ v.length ∧ i = .int .i64 j ∧ Hid (∀ i, i < j → 0 ≤ iget (rget v k) i ∧ iget (rget v k) i ≤ 1000000)) (fun i => v.length - (intOf i).toNat)
          case atStart => exact ⟨0, by omega, rfl, fun j hj => by omega⟩
          case round =>
            obtain ⟨j, hj, rfl, htj⟩ := hrel
            by_cases hlt2 : j < v.length
            · have hlt3 : j < (rget v k).length := by rw [Hrl.out]; exact hlt2
              obtain ⟨b', o', rfl, _, hc'⟩ := hi.get hlt3
              have hk2 : (j : Int) < v.length := by omega
              have hk3 : (j : Int) < (rget v k).length := by omega
              by_cases hlow : iget (rget v k) j < 0
              · have hdl : decide (iget (rget v k) j < 0) = true := by simpa using hlow
                go_wp2
                go_ret
                refine ⟨ret_int (chkI_bad (v := v) h6 fun hB => ?_).symm, rfl⟩
                have := ((hB.2.2 k hlt).2 j hlt2).1
                omega
              · have hdl : decide (iget (rget v k) j < 0) = false := by simpa using hlow
                go_wp2
                · have hgt : 1000000 < iget (rget v k) j := by assumption
                  go_ret
                  refine ⟨ret_int (chkI_bad (v := v) h6 fun hB => ?_).symm, rfl⟩
                  have := ((hB.2.2 k hlt).2 j hlt2).2
                  omega
                · have hgt : iget (rget v k) j ≤ 1000000 := by assumption
                  go_round
                  case rel => exact ⟨j + 1, by omega, by go_num, snoc_all htj.out ⟨by omega, hgt⟩⟩
                  case measure => simp [intOf]; omega
            · have hk2 : ¬ (j : Int) < v.length := by omega
              go_wp2
              go_round
              case rel => exact ⟨k + 1, by omega, by go_num, snoc_all ht.out ⟨Hrl.out, fun i hi => htj.out i (by omega)⟩⟩
              case measure => simp [intOf]; omega
        · have hrb : (((rget v k).length : Int) != v.length) = true := by simp; omega
          have Hrl := Lib.hid hrl
          clear hrl
          go_wp2
          go_ret
          exact ⟨ret_int (chkI_bad (v := v) h6 fun hB => Hrl.out (hB.2.2 k hlt).1).symm, rfl⟩
      · have hk1 : ¬ (k : Int) < v.length := by omega
        by_cases h0 : v.length = 0
        · have hb0 : ((v.length : Int) == 0) = true := by rw [beq_iff_eq]; omega
          have H0 := Lib.hid h0
          clear h0
          go_wp2
          go_ret
          exact ⟨ret_int (chkI_bad (v := v) h6 fun hB => by have := hB.1; have := H0.out; omega).symm, rfl⟩
        · have hb0 : ((v.length : Int) == 0) = false := by rw [beq_eq_false_iff_ne]; omega
          go_wp2
          go_ret
          exact ⟨ret_int (chkI_bids (v := v) ⟨by omega, by omega, fun i hi => ht.out i (by omega)⟩).symm, rfl⟩

end Go.Proofs.Ytmcncflieoolmaa

/- The walks of the reference's functions Assigned, Worth, Priced, Content; Worth and Content where every index is in range. -/
namespace Go.Proofs.Ytmcncflieoolmaa
set_option linter.unusedVariables false
set_option linter.unusedSimpArgs false
open Go.ChangeShapes Go.WideShapes Go.ChangeAt Go.RowKit Go.Deep

theorem isAB_false {a : List Int} {n : Nat} (h : ¬ IsA a n) : isAB a n = false := by simp [isAB, h]
theorem isAB_true {a : List Int} {n : Nat} (h : IsA a n) : isAB a n = true := by simp [isAB, h]

set_option maxHeartbeats 400000 in
theorem assigned_any (p : Option Addr) (c : Nat) (a : List Int) (n : Nat) (w : World) (hn : n ≤ 9223372036854775807) (hx : Ints w p c a) :
    Calls Try.prog 44 #[.slice p a.length c, .int .i64 n] w fun e w' => e = .returned (.bool (isAB a n)) ∧ w' = w := by
  have hl1 := hx.length_le
  by_cases hl : a.length = n
  · have hb : ((a.length : Int) != n) = false := by simp [hl]
    have hle : n ≤ a.length := by omega
    have Hl := Lib.hid hl
    clear hl
    go_enter Try.func44, Try.ntmps44
    go_wp2
    go_loop [5] (fun i => ∃ k : Nat, k ≤ n ∧ i = .int .i64 k ∧ Hid (∀ j, j < k → a.count (j : Int) = 1)) (fun i => n - (intOf i).toNat)
    case atStart => exact ⟨0, by omega, rfl, fun j hj => by omega⟩
    case round =>
      obtain ⟨k, hk, rfl, ht⟩ := hrel
      by_cases hlt : k < n
      · have hk1 : (k : Int) < n := by omega
        go_wp2
        go_loop [6, 7] (fun t i => ∃ m : Nat, m ≤ n ∧ i = .int .i64 m ∧ t = .int .i64 ((a.take m).count (k : Int) : Nat)) (fun _ i => n - (intOf i).toNat)
        case atStart => exact ⟨0, by omega, rfl, rfl⟩
        case round =>
          obtain ⟨m, hm, rfl, rfl⟩ := hrel
          have hcb : (a.take m).count (k : Int) ≤ m := Nat.le_trans List.count_le_length (by rw [List.length_take]; omega)
          by_cases hlt2 : m < n
          · have hlt3 : m < a.length := by omega
            obtain ⟨b, o, rfl, _, hc⟩ := hx.get hlt3
            have hk2 : (m : Int) < n := by omega
            have hk3 : (m : Int) < a.length := by omega
            have Hs := Lib.hid (count_take_succ a m (k : Int) hlt3)
            generalize (a.take m).count (k : Int) = cm at *
            go_wp2
            · have he : (iget a m == (k : Int)) = true := by assumption
              go_round
              case rel => exact ⟨m + 1, by omega, by go_num, by rw [Hs.out, if_pos (by simpa using he)]; go_num⟩
              case measure => simp [intOf]; omega
            · have he : (iget a m == (k : Int)) = false := by assumption
              go_round
              case rel => exact ⟨m + 1, by omega, by go_num, by rw [Hs.out, if_neg (by simpa using he)]; go_num⟩
              case measure => simp [intOf]; omega
          · have hk2 : ¬ (m : Int) < n := by omega
            have Hc : Hid ((a.take m).count (k : Int) = a.count (k : Int)) := by
              have : a.take m = a := List.take_of_length_le (by have := Hl.out; omega)
              rw [this]; rfl
            generalize (a.take m).count (k : Int) = cm at *
            go_wp2
            · have he : ((cm : Int) != 1) = true := by assumption
              go_ret
              refine ⟨ret_bool (isAB_false fun hA => ?_).symm, rfl⟩
              have := hA.2 k hlt
              rw [Hc.out] at he
              simp [this] at he
            · have he : ((cm : Int) != 1) = false := by assumption
              go_round
              case rel => exact ⟨k + 1, by omega, by go_num, snoc_all ht.out (by rw [← Hc.out]; simp at he; omega)⟩
              case measure => simp [intOf]; omega
      · have hk1 : ¬ (k : Int) < n := by omega
        go_wp2
        go_ret
        exact ⟨ret_bool (isAB_true ⟨Hl.out, fun j hj => ht.out j (by omega)⟩).symm, rfl⟩
  · have hb : ((a.length : Int) != n) = true := by rw [bne_iff_ne]; omega
    have Hl := Lib.hid hl
    clear hl
    go_enter Try.func44, Try.ntmps44
    go_wp2
    go_ret
    exact ⟨ret_bool (isAB_false fun hA => Hl.out hA.1).symm, rfl⟩

/-- Each agent's item is one of the row's, and bids are small: what the walks of Worth ask. -/
structure Fits (v : List (List Int)) (a : List Int) : Prop where
  len : a.length ≤ 6
  rows : a.length ≤ v.length
  item : ∀ i, i < a.length → 0 ≤ iget a i ∧ itm a i < (rget v i).length
  val : ∀ i, i < a.length → 0 ≤ bid v i (itm a i) ∧ bid v i (itm a i) ≤ 1000000

theorem pricedB_false {a : List Int} {n : Nat} (h : ¬ PricedP a n) : pricedB a n = false := by simp [pricedB, h]

set_option maxHeartbeats 400000 in
theorem priced_any (p : Option Addr) (c : Nat) (a : List Int) (n : Nat) (w : World) (hx : Ints w p c a) :
    Calls Try.prog 30 #[.slice p a.length c, .int .i64 n] w fun e w' => e = .returned (.bool (pricedB a n)) ∧ w' = w := by
  have hl1 := hx.length_le
  go_enter Try.func30, Try.ntmps30
  go_wp2
  go_loop [5] (fun i => ∃ k : Nat, k ≤ a.length ∧ i = .int .i64 k ∧ Hid (∀ j, j < k → 0 ≤ iget a j ∧ iget a j ≤ 10000000)) (fun i => a.length - (intOf i).toNat)
  case atStart => exact ⟨0, by omega, rfl, fun j hj => by omega⟩
  case round =>
    obtain ⟨k, hk, rfl, ht⟩ := hrel
    by_cases hlt : k < a.length
    · obtain ⟨b, o, rfl, _, hc⟩ := hx.get hlt
      have hk1 : (k : Int) < a.length := by omega
      by_cases hlow : iget a k < 0
      · have hdl : decide (iget a k < 0) = true := by simpa using hlow
        go_wp2
        go_ret
        refine ⟨ret_bool (pricedB_false fun hP => ?_).symm, rfl⟩
        have := (hP.2 k hlt).1
        omega
      · have hdl : decide (iget a k < 0) = false := by simpa using hlow
        go_wp2
        · have hgt : 10000000 < iget a k := by assumption
          go_ret
          refine ⟨ret_bool (pricedB_false fun hP => ?_).symm, rfl⟩
          have := (hP.2 k hlt).2
          omega
        · have hgt : iget a k ≤ 10000000 := by assumption
          go_round
          case rel => exact ⟨k + 1, by omega, by go_num, snoc_all ht.out ⟨by omega, hgt⟩⟩
          case measure => simp [intOf]; omega
    · have hk1 : ¬ (k : Int) < a.length := by omega
      go_wp2
      go_ret
      refine ⟨ret_bool ?_, rfl⟩
      unfold pricedB
      rw [Bool.eq_iff_iff, beq_iff_eq, decide_eq_true_iff]
      unfold PricedP
      constructor
      · intro h
        exact ⟨by omega, fun j hj => ht.out j (by omega)⟩
      · intro h
        have := h.1
        omega

/-- What the walks of Content ask: all indices in range, small numbers. -/
structure Fits2 (v : List (List Int)) (a p : List Int) : Prop where
  rows : ∀ i, i < v.length → (rget v i).length = v.length
  alen : a.length = v.length
  plen : p.length = v.length
  item : ∀ i, i < v.length → 0 ≤ iget a i ∧ itm a i < v.length
  val : ∀ i, i < v.length → ∀ j, j < v.length → 0 ≤ bid v i j ∧ bid v i j ≤ 1000000
  price : ∀ j, j < v.length → 0 ≤ iget p j ∧ iget p j ≤ 10000000

theorem contentB_false {v : List (List Int)} {a p : List Int} (h : ¬ ContentP v a p) : contentB v a p = false := by simp [contentB, h]

end Go.Proofs.Ytmcncflieoolmaa

/- The walks of the reference's functions Next and Most; valid bids of at most 6 agents. -/
namespace Go.Proofs.Ytmcncflieoolmaa
set_option linter.unusedVariables false
set_option linter.unusedSimpArgs false
open Go.ChangeShapes Go.WideShapes Go.ChangeAt Go.RowKit Go.Deep

/-- What Next leaves: the next list in the same row; or there was none. -/
def NextP (w : World) (base : Nat) (p : Option Addr) (c n : Nat) (l : List Int) (e : Ending) (w' : World) : Prop :=
  ∃ l', Own w' base p c l' ∧ w.grownBy w' (blk p) ∧ l'.length = l.length ∧ Digits n l' ∧
    ((e = .returned (.bool true) ∧ numA n 0 l' = numA n 0 l + 1) ∨ (e = .returned (.bool false) ∧ numA n 0 l + 1 = n ^ l.length))

theorem set_snoc {A : List Int} {d x : Int} {Z : List Int} : (A ++ d :: Z).set A.length x = A ++ x :: Z := by
  rw [List.set_append_right _ _ (Nat.le_refl _)]; simp
theorem iget_snoc {A : List Int} {d : Int} {Z : List Int} : iget (A ++ d :: Z) A.length = d := by rw [iget_append, if_neg (by omega), Nat.sub_self]; rfl
theorem split_at' {l : List Int} {m : Nat} (h : m + 1 ≤ l.length) : l.take (m + 1) = l.take m ++ [iget l m] := by rw [List.take_succ_eq_append_getElem (by omega), iget_of]
theorem digits_append {n : Nat} {a b : List Int} : Digits n (a ++ b) ↔ Digits n a ∧ Digits n b := by
  constructor
  · intro h
    refine ⟨fun j hj => ?_, fun j hj => ?_⟩
    · have := h j (by rw [List.length_append]; omega); rwa [iget_append, if_pos hj] at this
    · have := h (a.length + j) (by rw [List.length_append]; omega)
      rwa [iget_append, if_neg (by omega), Nat.add_sub_cancel_left] at this
  · rintro ⟨h1, h2⟩ j hj
    rw [List.length_append] at hj
    rw [iget_append]
    split
    · exact h1 j ‹_›
    · exact h2 _ (by omega)
theorem digits_cons {n : Nat} {x : Int} {l : List Int} : Digits n (x :: l) ↔ (0 ≤ x ∧ x < n) ∧ Digits n l := by
  constructor
  · intro h
    have h0 := h 0 (by simp)
    rw [iget_cons_zero] at h0
    exact ⟨h0, h.tail⟩
  · rintro ⟨h1, h2⟩ j hj
    cases j with
    | zero => rw [iget_cons_zero]; exact h1
    | succ j => rw [iget_cons_succ]; exact h2 j (by simpa using hj)
theorem digits_zeros {n : Nat} (m : Nat) (hn : 0 < n) : Digits n (List.replicate m 0) := fun j hj => by
  simp at hj; simp [iget, List.getD, hj]; omega

/-- A round of Next: the digit that stands next is a digit; it is the greatest, and what was done so far is one step longer; or it grows, and all is done. -/
theorem step_facts {n : Nat} {l cur : List Int} {m : Nat} (hn0 : 0 < n) (hd : Digits n l) (hm : m < l.length)
    (h : cur = l.take ((m : Int) + 1).toNat ++ List.replicate (l.length - ((m : Int) + 1).toNat) 0 ∧ l = l.take ((m : Int) + 1).toNat ++ List.replicate (l.length - ((m : Int) + 1).toNat) ((n : Int) - 1)) :
    0 ≤ iget cur m ∧ iget cur m < n ∧
    ((iget cur m + 1 < n → (cur.set m (iget cur m + 1)).length = l.length ∧ Digits n (cur.set m (iget cur m + 1)) ∧ numA n 0 (cur.set m (iget cur m + 1)) = numA n 0 l + 1) ∧
     (¬ iget cur m + 1 < n → (cur.set m (iget cur m + 1)).set m 0 = l.take m ++ List.replicate (l.length - m) 0 ∧ l = l.take m ++ List.replicate (l.length - m) ((n : Int) - 1))) := by
  have e : ((m : Int) + 1).toNat = m + 1 := by omega
  rw [e] at h
  have hsp := split_at' (l := l) (m := m) (by omega)
  rw [hsp, List.append_assoc, List.append_assoc, List.singleton_append, List.singleton_append] at h
  have hlen : (l.take m).length = m := by simp; omega
  generalize hA : l.take m = A at *
  generalize hdd : iget l m = d at *
  have hdm := hd m hm
  rw [hdd] at hdm
  obtain ⟨h1, h2⟩ := h
  obtain ⟨k, hk⟩ : ∃ k, l.length = m + 1 + k := ⟨l.length - (m + 1), by omega⟩
  have hk1 : l.length - (m + 1) = k := by omega
  have hk2 : l.length - m = k + 1 := by omega
  rw [hk1] at h1 h2
  rw [hk2]
  subst hlen
  have hi : iget cur A.length = d := by rw [h1]; exact iget_snoc
  rw [hi]
  refine ⟨hdm.1, hdm.2, fun hlt => ?_, fun hnl => ?_⟩
  · have e1 : cur.set A.length (d + 1) = A ++ (d + 1) :: List.replicate k 0 := by rw [h1]; exact set_snoc
    rw [e1]
    refine ⟨by simp; omega, ?_, ?_⟩
    · rw [digits_append, digits_cons]
      refine ⟨?_, ⟨by omega, hlt⟩, digits_zeros k hn0⟩
      rw [h2] at hd
      exact (digits_append.1 hd).1
    · rw [num_next hn0 A d k hdm.1, ← h2]
  · have e1 : (cur.set A.length (d + 1)).set A.length 0 = A ++ 0 :: List.replicate k 0 := by rw [List.set_set, h1]; exact set_snoc
    rw [e1]
    have hd' : d = (n : Int) - 1 := by omega
    exact ⟨by rw [List.replicate_succ], by rw [List.replicate_succ]; rw [hd'] at h2; exact h2⟩

theorem fits_of {v : List (List Int)} {a : List Int} (hv : Bids v) (ha : IsA a v.length) : Fits v a :=
  ⟨by rw [ha.1]; exact hv.2.1, by rw [ha.1]; exact Nat.le_refl _, fun i hi => by
    rw [ha.1] at hi
    rw [(hv.2.2 i hi).1]; exact isA_lt ha i hi, fun i hi => by
    rw [ha.1] at hi
    exact (hv.2.2 i hi).2 _ (isA_lt ha i hi).2⟩

/-- What holds whenever Most's loop begins a round. -/
def MostRel (v : List (List Int)) (w : World) (g : Nat) (t5 t6 : Value) (wr : World) : Prop :=
  ∃ (b : Bool) (cur bst : List Int) (pb : Option Addr) (cb : Nat), t6 = .bool b ∧ t5 = .slice pb bst.length cb ∧ Own wr w.heap.size (some ⟨w.heap.size, 0, none⟩) v.length cur ∧ Own wr (w.heap.size + 1) pb cb bst ∧
    Below w.heap.size w wr ∧ cur.length = v.length ∧ Digits v.length cur ∧ MostInv v b cur bst ∧ g = (if b = true then v.length ^ v.length - numA v.length 0 cur else 0)

theorem assigned_len {p : Option Addr} {c m : Nat} {a : List Int} {n : Nat} {w : World} (hm : a.length = m) (hn : n ≤ 9223372036854775807) (hx : Ints w p c a) :
    Calls Try.prog 44 #[.slice p m c, .int .i64 n] w fun e w' => e = .returned (.bool (isAB a n)) ∧ w' = w := by subst hm; exact assigned_any p c a n w hn hx
/-- The copy that Most takes leaves its list as it is. -/
theorem most_copy {w wr w2 : World} {n : Nat} {cur : List Int} (hb : Below w.heap.size w wr) (hlt : w.heap.size + 1 ≤ wr.heap.size) (hO : Own wr w.heap.size (some ⟨w.heap.size, 0, none⟩) n cur)
    (hg : (wr.alloc (.cells #[] 3)).grownBy w2 (blk (some ⟨wr.heap.size, 0, none⟩))) : Own w2 w.heap.size (some ⟨w.heap.size, 0, none⟩) n cur ∧ Below w.heap.size w w2 := by
  have hb1 : Below wr.heap.size wr w2 := by
    refine ((Below.refl _ _).alloc (Nat.le_refl _) _).grown hg (by simp) ?_
    intro b hbb
    simp [blk] at hbb; omega
  exact ⟨hO.below hb1 (Nat.le_refl _), hb.trans (hb1.mono (by omega))⟩
/-- The end of a round of Most: Next has been called. -/
theorem most_round {v : List (List Int)} {w wr w2 : World} {cur bst : List Int} {pb : Option Addr} {cb : Nat} {e : Ending} (h0 : 0 < v.length)
    (hB : Own wr (w.heap.size + 1) pb cb bst) (hb : Below w.heap.size w wr) (hcl : cur.length = v.length) (hdg : Digits v.length cur)
    (hM : FirstMax (fun x => IsA x v.length ∧ numA v.length 0 x ≤ numA v.length 0 cur) (worthI v) bst)
    (hN : NextP wr w.heap.size (some ⟨w.heap.size, 0, none⟩) v.length v.length cur e w2) :
    ∃ b', e = .returned (.bool b') ∧ ∃ g', MostRel v w g' (.slice pb bst.length cb) (.bool b') w2 ∧ g' < v.length ^ v.length - numA v.length 0 cur := by
  obtain ⟨l', hO, hg, hl, hd, hr⟩ := hN
  have hlt := numA_lt cur hdg
  rw [hcl] at hlt
  have hB2 : Own w2 (w.heap.size + 1) pb cb bst := hB.keptBy hg (fun k hk e => by
    have := (hB.lt k hk).1
    simp [blk] at e; omega)
  have hb2 : Below w.heap.size w w2 := hb.grown hg hb.size (fun k e => by simp [blk] at e; omega)
  rcases hr with ⟨rfl, hn⟩ | ⟨rfl, hn⟩
  · exact ⟨true, rfl, _, ⟨true, l', bst, pb, cb, rfl, rfl, hO, hB2, hb2, by omega, hd, most_go hM hn, rfl⟩, by simp; omega⟩
  · exact ⟨false, rfl, _, ⟨false, l', bst, pb, cb, rfl, rfl, hO, hB2, hb2, by omega, hd, most_stop hM (by rw [← hcl]; rw [hcl] at hn ⊢; exact hn), rfl⟩, by simp; omega⟩

end Go.Proofs.Ytmcncflieoolmaa

/- The walks of the reference's functions Link and Least; valid bids and an assignment. -/
namespace Go.Proofs.Ytmcncflieoolmaa
set_option linter.unusedVariables false
set_option linter.unusedSimpArgs false
open Go.ChangeShapes Go.WideShapes Go.ChangeAt Go.RowKit Go.Deep

/-- The weights of an assignment's links. -/
noncomputable def wl (v : List (List Int)) (a : List Int) : Nat → Nat → Int := wt (bid v) v.length (itm a)
theorem wl_bound {v : List (List Int)} {a : List Int} (hv : Bids v) (ha : IsA a v.length) {x y : Nat} (hx : x < v.length) (hy : y < v.length) : -1000000 ≤ wl v a x y ∧ wl v a x y ≤ 1000000 := by
  have h1 := (isA_per ha).inv_spec hx
  have h2 := ((hv.2.2 _ h1.1).2 x hx)
  have h3 := ((hv.2.2 _ h1.1).2 y hy)
  unfold wl wt bid; omega

/-- The owner of an item: it has it; none before it does; what it bids more is the link's weight. -/
theorem link_owner {v : List (List Int)} {a : List Int} (hv : Bids v) (ha : IsA a v.length) {x : Nat} (hx : x < v.length) :
    iget a (inv v.length (itm a) x) = x ∧ (∀ k, k ≤ inv v.length (itm a) x → k ≠ inv v.length (itm a) x → iget a k ≠ (x : Int)) ∧ ∀ j, wl v a x j = iget (rget v (inv v.length (itm a) x)) j - iget (rget v (inv v.length (itm a) x)) x := by
  obtain ⟨o1, o2⟩ := (isA_per ha).inv_spec hx
  have h1 : iget a (inv v.length (itm a) x) = x := by have := isA_lt ha _ o1; simp only [itm] at o2; omega
  exact ⟨h1, fun k hk hne e => hne (isA_inj ha (by omega) o1 (by rw [e, h1])), fun j => rfl⟩

end Go.Proofs.Ytmcncflieoolmaa

/- The walk of the reference's function Least; valid bids and an assignment. -/
namespace Go.Proofs.Ytmcncflieoolmaa
set_option linter.unusedVariables false
set_option linter.unusedSimpArgs false
open Go.ChangeShapes Go.WideShapes Go.ChangeAt Go.RowKit Go.Deep

/-- The least prices, in a list. -/
noncomputable def leastL (v : List (List Int)) (a : List Int) : List Int := (List.range v.length).map fun j => leastP (wl v a) v.length j
/-- What Least has after k items. -/
noncomputable def leastTo (v : List (List Int)) (a : List Int) (k : Nat) : List Int := (List.range v.length).map fun j => if j < k then leastP (wl v a) v.length j else 0
/-- .. and in the middle of item k, after m others. -/
noncomputable def leastMid (v : List (List Int)) (a : List Int) (k m : Nat) : List Int := (leastTo v a k).set k (maxTo (fun i => lnkS (wl v a) v.length i k) m)
theorem leastTo_length (v : List (List Int)) (a : List Int) (k : Nat) : (leastTo v a k).length = v.length := by simp [leastTo]
theorem leastMid_length (v : List (List Int)) (a : List Int) (k m : Nat) : (leastMid v a k m).length = v.length := by simp [leastMid, leastTo]
theorem leastMid_zero {v : List (List Int)} {a : List Int} {k : Nat} (hk : k < v.length) : leastMid v a k 0 = leastTo v a k := by
  unfold leastMid maxTo
  apply List.ext_getElem
  · simp
  · intro i h1 h2
    rw [List.getElem_set]
    split
    · rename_i e; subst e; simp [leastTo]
    · rfl
theorem leastMid_end {v : List (List Int)} {a : List Int} {k : Nat} (hk : k < v.length) : leastMid v a k v.length = leastTo v a (k + 1) := by
  unfold leastMid
  apply List.ext_getElem
  · simp [leastTo]
  · intro i h1 h2
    rw [List.getElem_set]
    split
    · rename_i e; subst e; simp [leastTo, leastP]
    · rename_i e
      simp only [leastTo, List.getElem_map, List.getElem_range]
      by_cases e2 : i < k
      · rw [if_pos e2, if_pos (by omega)]
      · rw [if_neg e2, if_neg (by omega)]
theorem leastMid_succ {v : List (List Int)} {a : List Int} {k m : Nat} (hk : k < v.length) : leastMid v a k (m + 1) = (leastMid v a k m).set k (max (maxTo (fun i => lnkS (wl v a) v.length i k) m) (lnkS (wl v a) v.length m k)) := by
  unfold leastMid
  rw [List.set_set]; rfl
theorem leastMid_get {v : List (List Int)} {a : List Int} {k m : Nat} (hk : k < v.length) : iget (leastMid v a k m) k = maxTo (fun i => lnkS (wl v a) v.length i k) m := by
  unfold leastMid; rw [iget_set (by rw [leastTo_length]; exact hk), if_pos rfl]
theorem leastTo_zero (v : List (List Int)) (a : List Int) : leastTo v a 0 = List.replicate v.length 0 := by
  apply List.ext_getElem
  · simp [leastTo]
  · intro i h1 h2; simp [leastTo]
theorem leastTo_all (v : List (List Int)) (a : List Int) : leastTo v a v.length = leastL v a := by
  unfold leastTo leastL
  refine List.map_congr_left fun j hj => ?_
  rw [if_pos (List.mem_range.1 hj)]

theorem lnkS_bound {v : List (List Int)} {a : List Int} (hv : Bids v) (ha : IsA a v.length) {x : Nat} (y : Nat) (hx : x < v.length) : -6000000 ≤ lnkS (wl v a) v.length x y ∧ lnkS (wl v a) v.length x y ≤ 6000000 := by
  have h := lnk_bound (w := wl v a) (n := v.length) (M := 1000000) (by omega) (fun x y hx hy => wl_bound hv ha hx hy) v.length (List.replicate v.length false) x y hx
  have h6 := hv.2.1
  unfold lnkS; omega
theorem maxTo_bound {f : Nat → Int} {M : Int} (hM : 0 ≤ M) {n : Nat} (h : ∀ i, i < n → f i ≤ M) : 0 ≤ maxTo f n ∧ maxTo f n ≤ M := by
  refine ⟨(maxTo_ge f n).1, ?_⟩
  rcases maxTo_eq f n with e | ⟨i, hi, e⟩
  · omega
  · have := h i hi; omega

end Go.Proofs.Ytmcncflieoolmaa
