/- The walks of the reference's functions that only read: Great, Same, SameLists, Check, Assigned, Worth, Priced, Content; the slices read as lists. -/
import Derived.Test.YtojldecldemfaaaTopRoomRentsm1
import Derived.Test.YtojldecldemfaaaTopRoomRentsm3
import Derived.Test.YtojldecldemfaaaTopRoomRentsm2
import Derived.Deep.LoopGhost
/- The walks of the reference's functions that only read: Great, Same, SameLists, Check, Assigned, Worth, Priced, Content; the slices read as lists. -/
namespace Go.Proofs.Ytojldecldemfaaa
set_option linter.unusedVariables false
set_option linter.unusedSimpArgs false
open Go.ChangeShapes Go.WideShapes Go.ChangeAt Go.RowKit Go.Deep

def sameB (xs ys : List Int) : Bool := decide (xs = ys)
theorem sameB_true {xs ys : List Int} (h : xs = ys) : sameB xs ys = true := by simp [sameB, h]
theorem take_ext {xs ys : List Int} (h : ∀ j, j < xs.length → iget xs j = iget ys j) (hl : xs.length = ys.length) : xs = ys := by
  apply List.ext_getElem hl
  intro i h1 h2
  have := h i h1
  rwa [iget_of h1, iget_of h2] at this

theorem snoc_all {P : Nat → Prop} {k : Nat} (h : ∀ j, j < k → P j) (hk : P k) : ∀ j, j < k + 1 → P j := fun j hj => by
  by_cases e : j = k
  · exact e ▸ hk
  · exact h j (by omega)

set_option maxHeartbeats 400000 in
theorem same_any (p q : Option Addr) (c d : Nat) (xs ys : List Int) (w : World) (hx : Ints w p c xs) (hy : Ints w q d ys) :
    Calls Try.prog 27 #[.slice p xs.length c, .slice q ys.length d] w fun e w' => e = .returned (.bool (sameB xs ys)) ∧ ∃ n, w' = w.drewN n := by
  by_cases hl : xs.length = ys.length
  · have hb : ((xs.length : Int) != ys.length) = false := by simp [hl]
    have Hl := Lib.hid hl
    clear hl
    go_enter Try.func27, Try.ntmps27
    go_wp2
    go_loopw [5] (fun i wr => ∃ k : Nat, k ≤ xs.length ∧ i = .int .i64 k ∧ (Hid (∀ j, j < k → iget xs j = iget ys j)) ∧ ∃ n, wr = w.drewN n) (fun i _ => xs.length - (intOf i).toNat)
    case atStart => exact ⟨0, Nat.zero_le _, rfl, fun j hj => by omega, 0, rfl⟩
    case round =>
      obtain ⟨k, hk, rfl, ht, n, rfl⟩ := hrel
      by_cases hlt : k < xs.length
      · obtain ⟨b, o, rfl, _, hc⟩ := hx.get hlt
        have hlt' : k < ys.length := by rw [← Hl.out]; exact hlt
        obtain ⟨b', o', rfl, _, hc'⟩ := hy.get hlt'
        have hk1 : (k : Int) < xs.length := by omega
        have hk2 : (k : Int) < ys.length := by omega
        have hl1 := hx.length_le
        go_wp2
        go_quiet (fail)
        go_wp2
        · have hne : (iget xs k != iget ys k) = true := by assumption
          go_ret
          refine ⟨ret_bool ?_, drew_drewN _ ⟨_, rfl⟩⟩
          simp only [sameB]
          symm
          rw [decide_eq_false_iff_not]
          rintro rfl
          simp at hne
        · have he : (iget xs k != iget ys k) = false := by assumption
          go_roundw
          case rel => exact ⟨k + 1, by omega, by go_num, snoc_all ht.out (by simpa using he), _, rfl⟩
          case measure => simp [intOf]; omega
      · have hk1 : ¬ (k : Int) < xs.length := by omega
        go_wp2
        go_ret
        refine ⟨ret_bool ?_, _, rfl⟩
        rw [sameB_true]
        exact take_ext (fun j hj => ht.out j (by omega)) Hl.out
  · have hb : ((xs.length : Int) != ys.length) = true := by simp; omega
    have Hl := Lib.hid hl
    clear hl
    go_enter Try.func27, Try.ntmps27
    go_wp2
    go_ret
    refine ⟨ret_bool ?_, 0, rfl⟩
    simp only [sameB]
    symm
    rw [decide_eq_false_iff_not]
    rintro rfl
    exact Hl.out rfl

set_option maxHeartbeats 400000 in
theorem great_any (p : Option Addr) (c : Nat) (v : List (List Int)) (w : World) (hx : Mat w p c v) :
    Calls Try.prog 40 #[.slice p v.length c] w fun e w' => e = .returned (.bool (greatB v)) ∧ w' = w := by
  have hl1 := hx.length_le
  go_enter Try.func40, Try.ntmps40
  go_wp2
  go_loop [3] (fun i => ∃ k : Nat, k ≤ v.length ∧ k ≤ 20 ∧ i = .int .i64 k ∧ Hid (∀ j, j < k → ¬ 50 < (rget v j).length)) (fun i => v.length - (intOf i).toNat)
  case atStart => exact ⟨0, by omega, by omega, rfl, fun j hj => by omega⟩
  case round =>
    obtain ⟨k, hk, hk20, rfl, ht⟩ := hrel
    have hend : ¬ (k < v.length ∧ k < 20) → greatB v = decide (v.length = 6 ∨ 20 < v.length) := by
      intro h
      unfold greatB
      rw [Bool.eq_iff_iff, decide_eq_true_iff, decide_eq_true_iff]
      unfold GreatP
      constructor
      · rintro (⟨i, h1, h2, h3⟩ | h)
        · exact absurd h3 (ht.out i (by omega))
        · exact h
      · exact Or.inr
    by_cases hlt : k < v.length
    · by_cases hlt2 : k < 20
      · obtain ⟨b, o, rfl, _, q, d, hc, _⟩ := hx.get hlt
        have hd1 : decide ((k : Int) < v.length) = true := by simp; omega
        have hd2 : decide ((k : Int) < 20) = true := by simp; omega
        clear hend
        go_wp2
        · have hgt : 50 < ((rget v k).length : Int) := by assumption
          go_ret
          refine ⟨ret_bool ?_, rfl⟩
          symm
          unfold greatB
          rw [decide_eq_true_iff]
          exact Or.inl ⟨k, hlt, hlt2, by omega⟩
        · have hgt : ((rget v k).length : Int) ≤ 50 := by assumption
          go_round
          case rel => exact ⟨k + 1, by omega, by omega, by go_num, snoc_all ht.out (by omega)⟩
          case measure => simp [intOf]; omega
      · have hd1 : decide ((k : Int) < v.length) = true := by simp; omega
        have hd2 : decide ((k : Int) < 20) = false := by simp; omega
        have HE := Lib.hid (hend (by omega))
        clear hend
        have hn6 : v.length ≠ 6 := by omega
        have h6 : ((v.length : Int) == 6) = false := by simp; omega
        go_wp2
        go_ret
        refine ⟨ret_bool ?_, rfl⟩
        rw [HE.out]
        exact dec_congr (by omega)
    · have hd1 : decide ((k : Int) < v.length) = false := by simp; omega
      have HE := Lib.hid (hend (by omega))
      clear hend
      by_cases h6 : v.length = 6
      · have h6' : ((v.length : Int) == 6) = true := by simp; omega
        have H6 := Lib.hid h6
        clear h6
        go_wp2
        go_ret
        refine ⟨ret_bool ?_, rfl⟩
        rw [HE.out]
        exact (decide_eq_true (Or.inl H6.out)).symm
      · have h6' : ((v.length : Int) == 6) = false := by simp; omega
        go_wp2
        go_ret
        refine ⟨ret_bool ?_, rfl⟩
        rw [HE.out]
        exact dec_congr (by omega)
def sameLB (u v : List (List Int)) : Bool := decide (u = v)
theorem rows_ext {u v : List (List Int)} (h : ∀ j, j < u.length → rget u j = rget v j) (hl : u.length = v.length) : u = v := by
  apply List.ext_getElem hl
  intro i h1 h2
  have := h i h1
  rwa [rget_of h1, rget_of h2] at this
theorem sameB_eq {xs ys : List Int} (h : sameB xs ys = true) : xs = ys := by simpa [sameB] using h

set_option maxHeartbeats 400000 in
theorem sameLists_any (p q : Option Addr) (c d : Nat) (u v : List (List Int)) (w : World) (hx : Mat w p c u) (hy : Mat w q d v) :
    Calls Try.prog 20 #[.slice p u.length c, .slice q v.length d] w fun e w' => e = .returned (.bool (sameLB u v)) ∧ ∃ n, w' = w.drewN n := by
  by_cases hl : u.length = v.length
  · have hb : ((u.length : Int) != v.length) = false := by simp [hl]
    have Hl := Lib.hid hl
    clear hl
    go_enter Try.func20, Try.ntmps20
    go_wp2
    go_loopw [5] (fun i wr => ∃ k : Nat, k ≤ u.length ∧ i = .int .i64 k ∧ (Hid (∀ j, j < k → rget u j = rget v j)) ∧ ∃ n, wr = w.drewN n) (fun i _ => u.length - (intOf i).toNat)
    case atStart => exact ⟨0, Nat.zero_le _, rfl, fun j hj => by omega, drew_refl w⟩
    case round =>
      obtain ⟨k, hk, rfl, ht, hw⟩ := hrel
      have hx := hx.drew hw
      have hy := hy.drew hw
      have Hw := Lib.hid hw
      clear hw
      by_cases hlt : k < u.length
      · obtain ⟨b, o, rfl, _, q1, d1, hc, hi⟩ := hx.get hlt
        have hlt' : k < v.length := by rw [← Hl.out]; exact hlt
        obtain ⟨b', o', rfl, _, q2, d2, hc', hi'⟩ := hy.get hlt'
        have hk1 : (k : Int) < u.length := by omega
        have hk2 : (k : Int) < v.length := by omega
        have hl1 := hx.length_le
        go_wp2_with fail
        go_quiet ((go_at_call 27; exact Calls.quiet_of (same_any _ _ _ _ _ _ _ (hi.drewN _) (hi'.drewN _))))
        go_wp2_with fail
        · have hne : (!sameB (rget u k) (rget v k)) = true := by assumption
          go_ret
          refine ⟨ret_bool ?_, drew_drewN _ Hw.out⟩
          simp only [sameLB]
          symm
          rw [decide_eq_false_iff_not]
          rintro rfl
          simp [sameB] at hne
        · have he : (!sameB (rget u k) (rget v k)) = false := by assumption
          go_roundw
          case rel => exact ⟨k + 1, by omega, by go_num, snoc_all ht.out (sameB_eq (by simpa using he)), drew_drewN _ Hw.out⟩
          case measure => simp [intOf]; omega
      · have hk1 : ¬ (k : Int) < u.length := by omega
        go_wp2
        go_ret
        refine ⟨ret_bool ?_, Hw.out⟩
        simp only [sameLB]
        symm
        rw [decide_eq_true_iff]
        exact rows_ext (fun j hj => ht.out j (by omega)) Hl.out
  · have hb : ((u.length : Int) != v.length) = true := by simp; omega
    have Hl := Lib.hid hl
    clear hl
    go_enter Try.func20, Try.ntmps20
    go_wp2
    go_ret
    refine ⟨ret_bool ?_, 0, rfl⟩
    simp only [sameLB]
    symm
    rw [decide_eq_false_iff_not]
    rintro rfl
    exact Hl.out rfl

set_option maxHeartbeats 800000 in
theorem refCheck_any (p : Option Addr) (c : Nat) (v : List (List Int)) (w : World) (hx : Mat w p c v) :
    Calls Try.prog 50 #[.slice p v.length c] w fun e w' => e = .returned (.int .i64 (chkI v)) ∧ w' = w := by
  have hl1 := hx.length_le
  by_cases h6 : 6 < v.length
  · have H := Lib.hid (chkI_many h6)
    go_enter Try.func50, Try.ntmps50
    go_wp2
    go_ret
    exact ⟨ret_int H.out.symm, rfl⟩
  · go_enter Try.func50, Try.ntmps50
    go_wp2
    go_loop [4] (fun i => ∃ k : Nat, k ≤ v.length ∧ i = .int .i64 k ∧ Hid (∀ i, i < k → (rget v i).length = v.length ∧ ∀ j, j < v.length → 0 ≤ iget (rget v i) j ∧ iget (rget v i) j ≤ 1000000)) (fun i => v.length - (intOf i).toNat)
    case atStart => exact ⟨0, by omega, rfl, fun j hj => by omega⟩
    case round =>
      obtain ⟨k, hk, rfl, ht⟩ := hrel
      by_cases hlt : k < v.length
      · obtain ⟨b, o, rfl, _, q, d, hc, hi⟩ := hx.get hlt
        have hk1 : (k : Int) < v.length := by omega
        by_cases hrl : (rget v k).length = v.length
        · have hrb : (((rget v k).length : Int) != v.length) = false := by simp [hrl]
          have Hrl := Lib.hid hrl
          clear hrl
          go_wp2
          go_loop [5] (fun i => ∃ j : Nat, j ≤ v.length ∧ i = .int .i64 j ∧ Hid (∀ i, i < j → 0 ≤ iget (rget v k) i ∧ iget (rget v k) i ≤ 1000000)) (fun i => v.length - (intOf i).toNat)
          case atStart => exact ⟨0, by omega, rfl, fun j hj => by omega⟩
          case round =>
            obtain ⟨j, hj, rfl, htj⟩ := hrel
            by_cases hlt2 : j < v.length
            · have hlt3 : j < (rget v k).length := by rw [Hrl.out]; exact hlt2
              obtain ⟨b', o', rfl, _, hc'⟩ := hi.get hlt3
              have hk2 : (j : Int) < v.length := by omega
              have hk3 : (j : Int) < (rget v k).length := by omega
              by_cases hlow : iget (rget v k) j < 0
              · have hdl : decide (iget (rget v k) j < 0) = true := by simpa using hlow
                go_wp2
                go_ret
                refine ⟨ret_int (chkI_bad (v := v) h6 fun hB => ?_).symm, rfl⟩
                have := ((hB.2.2 k hlt).2 j hlt2).1
                omega
              · have hdl : decide (iget (rget v k) j < 0) = false := by simpa using hlow
                go_wp2
                · have hgt : 1000000 < iget (rget v k) j := by assumption
                  go_ret
                  refine ⟨ret_int (chkI_bad (v := v) h6 fun hB => ?_).symm, rfl⟩
                  have := ((hB.2.2 k hlt).2 j hlt2).2
                  omega
                · have hgt : iget (rget v k) j ≤ 1000000 := by assumption
                  go_round
                  case rel => exact ⟨j + 1, by omega, by go_num, snoc_all htj.out ⟨by omega, hgt⟩⟩
                  case measure => simp [intOf]; omega
            · have hk2 : ¬ (j : Int) < v.length := by omega
              go_wp2
              go_round
              case rel => exact ⟨k + 1, by omega, by go_num, snoc_all ht.out ⟨Hrl.out, fun i hi => htj.out i (by omega)⟩⟩
              case measure => simp [intOf]; omega
        · have hrb : (((rget v k).length : Int) != v.length) = true := by simp; omega
          have Hrl := Lib.hid hrl
          clear hrl
          go_wp2
          go_ret
          exact ⟨ret_int (chkI_bad (v := v) h6 fun hB => Hrl.out (hB.2.2 k hlt).1).symm, rfl⟩
      · have hk1 : ¬ (k : Int) < v.length := by omega
        by_cases h0 : v.length = 0
        · have hb0 : ((v.length : Int) == 0) = true := by rw [beq_iff_eq]; omega
          have H0 := Lib.hid h0
          clear h0
          go_wp2
          go_ret
          exact ⟨ret_int (chkI_bad (v := v) h6 fun hB => by have := hB.1; have := H0.out; omega).symm, rfl⟩
        · have hb0 : ((v.length : Int) == 0) = false := by rw [beq_eq_false_iff_ne]; omega
          go_wp2
          go_ret
          exact ⟨ret_int (chkI_bids (v := v) ⟨by omega, by omega, fun i hi => ht.out i (by omega)⟩).symm, rfl⟩

end Go.Proofs.Ytojldecldemfaaa

/- The walks of the reference's functions Assigned, Worth, Priced, Content; Worth and Content where every index is in range. -/
namespace Go.Proofs.Ytojldecldemfaaa
set_option linter.unusedVariables false
set_option linter.unusedSimpArgs false
open Go.ChangeShapes Go.WideShapes Go.ChangeAt Go.RowKit Go.Deep

theorem isAB_false {a : List Int} {n : Nat} (h : ¬ IsA a n) : isAB a n = false := by simp [isAB, h]
theorem isAB_true {a : List Int} {n : Nat} (h : IsA a n) : isAB a n = true := by simp [isAB, h]

set_option maxHeartbeats 400000 in
theorem assigned_any (p : Option Addr) (c : Nat) (a : List Int) (n : Nat) (w : World) (hn : n ≤ 9223372036854775807) (hx : Ints w p c a) :
    Calls Try.prog 35 #[.slice p a.length c, .int .i64 n] w fun e w' => e = .returned (.bool (isAB a n)) ∧ w' = w := by
  have hl1 := hx.length_le
  by_cases hl : a.length = n
  · have hb : ((a.length : Int) != n) = false := by simp [hl]
    have hle : n ≤ a.length := by omega
    have Hl := Lib.hid hl
    clear hl
    go_enter Try.func35, Try.ntmps35
    go_wp2
    go_loop [5] (fun i => ∃ k : Nat, k ≤ n ∧ i = .int .i64 k ∧ Hid (∀ j, j < k → a.count (j : Int) = 1)) (fun i => n - (intOf i).toNat)
    case atStart => exact ⟨0, by omega, rfl, fun j hj => by omega⟩
    case round =>
      obtain ⟨k, hk, rfl, ht⟩ := hrel
      by_cases hlt : k < n
      · have hk1 : (k : Int) < n := by omega
        go_wp2
        go_loop [6, 7] (fun t i => ∃ m : Nat, m ≤ n ∧ i = .int .i64 m ∧ t = .int .i64 ((a.take m).count (k : Int) : Nat)) (fun _ i => n - (intOf i).toNat)
        case atStart => exact ⟨0, by omega, rfl, rfl⟩
        case round =>
          obtain ⟨m, hm, rfl, rfl⟩ := hrel
          have hcb : (a.take m).count (k : Int) ≤ m := Nat.le_trans List.count_le_length (by rw [List.length_take]; omega)
          by_cases hlt2 : m < n
          · have hlt3 : m < a.length := by omega
            obtain ⟨b, o, rfl, _, hc⟩ := hx.get hlt3
            have hk2 : (m : Int) < n := by omega
            have hk3 : (m : Int) < a.length := by omega
            have Hs := Lib.hid (count_take_succ a m (k : Int) hlt3)
            generalize (a.take m).count (k : Int) = cm at *
            go_wp2
            · have he : (iget a m == (k : Int)) = true := by assumption
              go_round
              case rel => exact ⟨m + 1, by omega, by go_num, by rw [Hs.out, if_pos (by simpa using he)]; go_num⟩
              case measure => simp [intOf]; omega
            · have he : (iget a m == (k : Int)) = false := by assumption
              go_round
              case rel => exact ⟨m + 1, by omega, by go_num, by rw [Hs.out, if_neg (by simpa using he)]; go_num⟩
              case measure => simp [intOf]; omega
          · have hk2 : ¬ (m : Int) < n := by omega
            have Hc : Hid ((a.take m).count (k : Int) = a.count (k : Int)) := by
              have : a.take m = a := List.take_of_length_le (by have := Hl.out; omega)
              rw [this]; rfl
            generalize (a.take m).count (k : Int) = cm at *
            go_wp2
            · have he : ((cm : Int) != 1) = true := by assumption
              go_ret
              refine ⟨ret_bool (isAB_false fun hA => ?_).symm, rfl⟩
              have := hA.2 k hlt
              rw [Hc.out] at he
              simp [this] at he
            · have he : ((cm : Int) != 1) = false := by assumption
              go_round
              case rel => exact ⟨k + 1, by omega, by go_num, snoc_all ht.out (by rw [← Hc.out]; simp at he; omega)⟩
              case measure => simp [intOf]; omega
      · have hk1 : ¬ (k : Int) < n := by omega
        go_wp2
        go_ret
        exact ⟨ret_bool (isAB_true ⟨Hl.out, fun j hj => ht.out j (by omega)⟩).symm, rfl⟩
  · have hb : ((a.length : Int) != n) = true := by rw [bne_iff_ne]; omega
    have Hl := Lib.hid hl
    clear hl
    go_enter Try.func35, Try.ntmps35
    go_wp2
    go_ret
    exact ⟨ret_bool (isAB_false fun hA => Hl.out hA.1).symm, rfl⟩

/-- Each agent's item is one of the row's, and bids are small: what the walks of Worth ask. -/
structure Fits (v : List (List Int)) (a : List Int) : Prop where
  len : a.length ≤ 6
  rows : a.length ≤ v.length
  item : ∀ i, i < a.length → 0 ≤ iget a i ∧ itm a i < (rget v i).length
  val : ∀ i, i < a.length → 0 ≤ bid v i (itm a i) ∧ bid v i (itm a i) ≤ 1000000

set_option maxHeartbeats 400000 in
theorem worth_any (p q : Option Addr) (c d : Nat) (v : List (List Int)) (a : List Int) (w : World) (hx : Mat w p c v) (hy : Ints w q d a) (hf : Fits v a) :
    Calls Try.prog 34 #[.slice p v.length c, .slice q a.length d] w fun e w' => e = .returned (.int .i64 (worthI v a)) ∧ ∃ n, w' = w.drewN n := by
  have hl1 := hx.length_le
  have hl6 := hf.len
  go_enter Try.func34, Try.ntmps34
  go_wp2
  go_loopw [5, 6] (fun s i wr => ∃ k : Nat, k ≤ a.length ∧ i = .int .i64 k ∧ s = .int .i64 (sumTo (fun i => bid v i (itm a i)) k) ∧ ∃ n, wr = w.drewN n) (fun _ i _ => a.length - (intOf i).toNat)
  case atStart => exact ⟨0, by omega, rfl, rfl, drew_refl w⟩
  case round =>
    obtain ⟨k, hk, rfl, rfl, hw⟩ := hrel
    have hx := hx.drew hw
    have hy := hy.drew hw
    have Hw := Lib.hid hw
    clear hw
    have hs := sumTo_bound hf.val k hk
    by_cases hlt : k < a.length
    · obtain ⟨b, o, rfl, _, hc⟩ := hy.get hlt
      have hr := hf.rows
      have hlt2 : k < v.length := by omega
      obtain ⟨b2, o2, rfl, _, q1, d1, hc2, hi⟩ := hx.get hlt2
      obtain ⟨i1, i2⟩ := hf.item k hlt
      obtain ⟨v1, v2⟩ := hf.val k hlt
      obtain ⟨b3, o3, rfl, _, hc3⟩ := hi.get i2
      have hk1 : (k : Int) < a.length := by omega
      have hk2 : (k : Int) < v.length := by omega
      obtain ⟨x, hxx⟩ : ∃ x : Nat, iget a k = (x : Int) := ⟨(iget a k).toNat, by omega⟩
      have hit : itm a k = x := by simp [itm, hxx]
      rw [hit] at hc3 i2 v1 v2
      rw [hxx] at hc
      have hk3 : (x : Int) < (rget v k).length := by omega
      have Hs : Hid (sumTo (fun i => bid v i (itm a i)) (k + 1) = sumTo (fun i => bid v i (itm a i)) k + iget (rget v k) x) := by simp only [sumTo, hit]; rfl
      generalize sumTo (fun i => bid v i (itm a i)) k = s at *
      clear hxx hit i1
      have v1' : 0 ≤ iget (rget v k) x := v1
      have v2' : iget (rget v k) x ≤ 1000000 := v2
      have hs2 : s ≤ 6000000 := by omega
      have hs1 := hs.1
      clear hs
      go_wp2
      go_quiet (fail)
      go_wp2
      go_roundw
      case rel => exact ⟨k + 1, by omega, by go_num, by rw [Hs.out], drew_drewN _ Hw.out⟩
      case measure => simp [intOf]; omega
    · have hk1 : ¬ (k : Int) < a.length := by omega
      obtain rfl : k = a.length := by omega
      go_wp2
      go_ret
      exact ⟨rfl, Hw.out⟩

theorem pricedB_false {a : List Int} {n : Nat} (h : ¬ PricedP a n) : pricedB a n = false := by simp [pricedB, h]

/-- What the walks of Content ask: all indices in range, small numbers. -/
structure Fits2 (v : List (List Int)) (a p : List Int) : Prop where
  rows : ∀ i, i < v.length → (rget v i).length = v.length
  alen : a.length = v.length
  plen : p.length = v.length
  item : ∀ i, i < v.length → 0 ≤ iget a i ∧ itm a i < v.length
  val : ∀ i, i < v.length → ∀ j, j < v.length → 0 ≤ bid v i j ∧ bid v i j ≤ 1000000
  price : ∀ j, j < v.length → 0 ≤ iget p j ∧ iget p j ≤ 10000000

theorem contentB_false {v : List (List Int)} {a p : List Int} (h : ¬ ContentP v a p) : contentB v a p = false := by simp [contentB, h]

end Go.Proofs.Ytojldecldemfaaa

/- The walks of the reference's functions Next and Most; valid bids of at most 6 agents. -/
namespace Go.Proofs.Ytojldecldemfaaa
set_option linter.unusedVariables false
set_option linter.unusedSimpArgs false
open Go.ChangeShapes Go.WideShapes Go.ChangeAt Go.RowKit Go.Deep

/-- What Next leaves: the next list in the same row; or there was none. -/
def NextP (w : World) (base : Nat) (p : Option Addr) (c n : Nat) (l : List Int) (e : Ending) (w' : World) : Prop :=
  ∃ l', Own w' base p c l' ∧ w.grownBy w' (blk p) ∧ l'.length = l.length ∧ Digits n l' ∧
    ((e = .returned (.bool true) ∧ numA n 0 l' = numA n 0 l + 1) ∨ (e = .returned (.bool false) ∧ numA n 0 l + 1 = n ^ l.length))

theorem set_snoc {A : List Int} {d x : Int} {Z : List Int} : (A ++ d :: Z).set A.length x = A ++ x :: Z := by
  rw [List.set_append_right _ _ (Nat.le_refl _)]; simp
theorem iget_snoc {A : List Int} {d : Int} {Z : List Int} : iget (A ++ d :: Z) A.length = d := by rw [iget_append, if_neg (by omega), Nat.sub_self]; rfl
theorem split_at' {l : List Int} {m : Nat} (h : m + 1 ≤ l.length) : l.take (m + 1) = l.take m ++ [iget l m] := by rw [List.take_succ_eq_append_getElem (by omega), iget_of]
theorem digits_append {n : Nat} {a b : List Int} : Digits n (a ++ b) ↔ Digits n a ∧ Digits n b := by
  constructor
  · intro h
    refine ⟨fun j hj => ?_, fun j hj => ?_⟩
    · have := h j (by rw [List.length_append]; omega); rwa [iget_append, if_pos hj] at this
    · have := h (a.length + j) (by rw [List.length_append]; omega)
      rwa [iget_append, if_neg (by omega), Nat.add_sub_cancel_left] at this
  · rintro ⟨h1, h2⟩ j hj
    rw [List.length_append] at hj
    rw [iget_append]
    split
    · exact h1 j ‹_›
    · exact h2 _ (by omega)
theorem digits_cons {n : Nat} {x : Int} {l : List Int} : Digits n (x :: l) ↔ (0 ≤ x ∧ x < n) ∧ Digits n l := by
  constructor
  · intro h
    have h0 := h 0 (by simp)
    rw [iget_cons_zero] at h0
    exact ⟨h0, h.tail⟩
  · rintro ⟨h1, h2⟩ j hj
    cases j with
    | zero => rw [iget_cons_zero]; exact h1
    | succ j => rw [iget_cons_succ]; exact h2 j (by simpa using hj)
theorem digits_zeros {n : Nat} (m : Nat) (hn : 0 < n) : Digits n (List.replicate m 0) := fun j hj => by
  simp at hj; simp [iget, List.getD, hj]; omega

/-- A round of Next: the digit that stands next is a digit; it is the greatest, and what was done so far is one step longer; or it grows, and all is done. -/
theorem step_facts {n : Nat} {l cur : List Int} {m : Nat} (hn0 : 0 < n) (hd : Digits n l) (hm : m < l.length)
    (h : cur = l.take ((m : Int) + 1).toNat ++ List.replicate (l.length - ((m : Int) + 1).toNat) 0 ∧ l = l.take ((m : Int) + 1).toNat ++ List.replicate (l.length - ((m : Int) + 1).toNat) ((n : Int) - 1)) :
    0 ≤ iget cur m ∧ iget cur m < n ∧
    ((iget cur m + 1 < n → (cur.set m (iget cur m + 1)).length = l.length ∧ Digits n (cur.set m (iget cur m + 1)) ∧ numA n 0 (cur.set m (iget cur m + 1)) = numA n 0 l + 1) ∧
     (¬ iget cur m + 1 < n → (cur.set m (iget cur m + 1)).set m 0 = l.take m ++ List.replicate (l.length - m) 0 ∧ l = l.take m ++ List.replicate (l.length - m) ((n : Int) - 1))) := by
  have e : ((m : Int) + 1).toNat = m + 1 := by omega
  rw [e] at h
  have hsp := split_at' (l := l) (m := m) (by omega)
  rw [hsp, List.append_assoc, List.append_assoc, List.singleton_append, List.singleton_append] at h
  have hlen : (l.take m).length = m := by simp; omega
  generalize hA : l.take m = A at *
  generalize hdd : iget l m = d at *
  have hdm := hd m hm
  rw [hdd] at hdm
  obtain ⟨h1, h2⟩ := h
  obtain ⟨k, hk⟩ : ∃ k, l.length = m + 1 + k := ⟨l.length - (m + 1), by omega⟩
  have hk1 : l.length - (m + 1) = k := by omega
  have hk2 : l.length - m = k + 1 := by omega
  rw [hk1] at h1 h2
  rw [hk2]
  subst hlen
  have hi : iget cur A.length = d := by rw [h1]; exact iget_snoc
  rw [hi]
  refine ⟨hdm.1, hdm.2, fun hlt => ?_, fun hnl => ?_⟩
  · have e1 : cur.set A.length (d + 1) = A ++ (d + 1) :: List.replicate k 0 := by rw [h1]; exact set_snoc
    rw [e1]
    refine ⟨by simp; omega, ?_, ?_⟩
    · rw [digits_append, digits_cons]
      refine ⟨?_, ⟨by omega, hlt⟩, digits_zeros k hn0⟩
      rw [h2] at hd
      exact (digits_append.1 hd).1
    · rw [num_next hn0 A d k hdm.1, ← h2]
  · have e1 : (cur.set A.length (d + 1)).set A.length 0 = A ++ 0 :: List.replicate k 0 := by rw [List.set_set, h1]; exact set_snoc
    rw [e1]
    have hd' : d = (n : Int) - 1 := by omega
    exact ⟨by rw [List.replicate_succ], by rw [List.replicate_succ]; rw [hd'] at h2; exact h2⟩

set_option maxHeartbeats 800000 in
theorem next_any (base : Nat) (p : Option Addr) (c n : Nat) (l : List Int) (w : World) (hn0 : 0 < n) (hn : n ≤ 1000000) (ho : Own w base p c l) (hlen : l.length ≤ 1000000) (hd : Digits n l) :
    Calls Try.prog 65 #[.slice p l.length c, .int .i64 n] w (NextP w base p c n l) := by
  go_enter Try.func65, Try.ntmps65
  go_wp2
  go_loopg [5] (l.length) (fun g i wr => ∃ (x : Int) (cur : List Int), g = (x + 1).toNat ∧ -1 ≤ x ∧ x < l.length ∧ i = .int .i64 x ∧ Own wr base p c cur ∧ w.grownBy wr (blk p) ∧
    Hid (cur = l.take (x + 1).toNat ++ List.replicate (l.length - (x + 1).toNat) 0 ∧ l = l.take (x + 1).toNat ++ List.replicate (l.length - (x + 1).toNat) ((n : Int) - 1)))
  case atStart =>
    refine ⟨(l.length : Int) - 1, l, by omega, by omega, by omega, rfl, ho, World.grownBy.refl _ _, ?_⟩
    have : ((l.length : Int) - 1 + 1).toNat = l.length := by omega
    rw [this]
    exact ⟨by simp, by simp⟩
  case round =>
    obtain ⟨x, cur, rfl, hx1, hx2, rfl, hc, hg, hH⟩ := hrel
    have hcl : cur.length = l.length := by
      have := congrArg List.length hH.out.1
      simp at this; omega
    by_cases hx0 : 0 ≤ x
    · obtain ⟨m, rfl⟩ := Int.eq_ofNat_of_zero_le hx0
      have hm : m < l.length := by omega
      obtain ⟨g, rfl, hg1, hg2, hcell, hfree⟩ := hc.get (j := m) (by omega)
      have hst := step_facts hn0 hd hm hH.out
      have hm1 : (m : Int) < l.length := by omega
      have Hst := Lib.hid hst
      have hd0 := hst.1
      have hd1 := hst.2.1
      have Hcl := Lib.hid hcl
      clear hst hcl
      obtain ⟨y, hy⟩ : ∃ y, iget cur m = y := ⟨_, rfl⟩
      rw [hy] at hd0 hd1 hcell Hst
      clear hy
      have hin : in64 (y + 1) := ⟨by omega, by omega⟩
      obtain ⟨hs1, hs2⟩ := hc.set m hin
      have hcell2 := hs1.at (j := m) (by rw [List.length_set, Hcl.out]; exact hm)
      have hfree2 := hs1.free m
      rw [iget_set (by rw [Hcl.out]; exact hm), if_pos rfl] at hcell2
      have hg3 : w.grownBy (wr.setCell ⟨g, m, none⟩ (.int .i64 (y + 1))) (some g) := grown_trans hg hs2
      obtain ⟨hs3, hs4⟩ := hs1.set m in64_zero
      have hg4 := grown_trans hg3 hs4
      go_wp2
      · have hlt : y + 1 < (n : Int) := by assumption
        go_ret
        obtain ⟨e1, e2, e3⟩ := Hst.out.2.2.1 hlt
        exact ⟨_, hs1, hg3, e1, e2, .inl ⟨rfl, e3⟩⟩
      · have hlt : (n : Int) ≤ y + 1 := by assumption
        go_roundg (m : Nat)
        case rel => exact ⟨(m : Int) - 1, _, by omega, by omega, by omega, rfl, hs3, hg4, by
          have := Hst.out.2.2.2 (by omega)
          have e : ((m : Int) - 1 + 1).toNat = m := by omega
          rw [e]; exact this⟩
        case measure => omega
    · obtain rfl : x = -1 := by omega
      go_wp2
      go_ret
      have h1 := hH.out
      simp at h1
      refine ⟨cur, hc, hg, hcl, ?_, .inr ⟨rfl, ?_⟩⟩
      · rw [h1.1]; exact digits_zeros _ hn0
      · have := num_last hn0 l.length
        rw [← h1.2] at this
        exact this
theorem fits_of {v : List (List Int)} {a : List Int} (hv : Bids v) (ha : IsA a v.length) : Fits v a :=
  ⟨by rw [ha.1]; exact hv.2.1, by rw [ha.1]; exact Nat.le_refl _, fun i hi => by
    rw [ha.1] at hi
    rw [(hv.2.2 i hi).1]; exact isA_lt ha i hi, fun i hi => by
    rw [ha.1] at hi
    exact (hv.2.2 i hi).2 _ (isA_lt ha i hi).2⟩

/-- What holds whenever Most's loop begins a round. -/
def MostRel (v : List (List Int)) (w : World) (g : Nat) (t5 t6 : Value) (wr : World) : Prop :=
  ∃ (b : Bool) (cur bst : List Int) (pb : Option Addr) (cb : Nat), t6 = .bool b ∧ t5 = .slice pb bst.length cb ∧ Own wr w.heap.size (some ⟨w.heap.size, 0, none⟩) v.length cur ∧ Own wr (w.heap.size + 1) pb cb bst ∧
    Below w.heap.size w wr ∧ cur.length = v.length ∧ Digits v.length cur ∧ MostInv v b cur bst ∧ g = (if b = true then v.length ^ v.length - numA v.length 0 cur else 0)

theorem worth_len {p q : Option Addr} {c d m : Nat} {v : List (List Int)} {a : List Int} {w : World} (hm : a.length = m) (hx : Mat w p c v) (hy : Ints w q d a) (hf : Fits v a) :
    Calls Try.prog 34 #[.slice p v.length c, .slice q m d] w fun e w' => e = .returned (.int .i64 (worthI v a)) ∧ ∃ n, w' = w.drewN n := by subst hm; exact worth_any p q c d v a w hx hy hf
theorem assigned_len {p : Option Addr} {c m : Nat} {a : List Int} {n : Nat} {w : World} (hm : a.length = m) (hn : n ≤ 9223372036854775807) (hx : Ints w p c a) :
    Calls Try.prog 35 #[.slice p m c, .int .i64 n] w fun e w' => e = .returned (.bool (isAB a n)) ∧ w' = w := by subst hm; exact assigned_any p c a n w hn hx
theorem next_len {base : Nat} {p : Option Addr} {c n m : Nat} {l : List Int} {w : World} (hm : l.length = m) (hn0 : 0 < n) (hn : n ≤ 1000000) (ho : Own w base p c l) (hlen : l.length ≤ 1000000) (hd : Digits n l) :
    Calls Try.prog 65 #[.slice p m c, .int .i64 n] w (NextP w base p c n l) := by subst hm; exact next_any base p c n l w hn0 hn ho hlen hd

/-- The copy that Most takes leaves its list as it is. -/
theorem most_copy {w wr w2 : World} {n : Nat} {cur : List Int} (hb : Below w.heap.size w wr) (hlt : w.heap.size + 1 ≤ wr.heap.size) (hO : Own wr w.heap.size (some ⟨w.heap.size, 0, none⟩) n cur)
    (hg : (wr.alloc (.cells #[] 3)).grownBy w2 (blk (some ⟨wr.heap.size, 0, none⟩))) : Own w2 w.heap.size (some ⟨w.heap.size, 0, none⟩) n cur ∧ Below w.heap.size w w2 := by
  have hb1 : Below wr.heap.size wr w2 := by
    refine ((Below.refl _ _).alloc (Nat.le_refl _) _).grown hg (by simp) ?_
    intro b hbb
    simp [blk] at hbb; omega
  exact ⟨hO.below hb1 (Nat.le_refl _), hb.trans (hb1.mono (by omega))⟩
/-- The end of a round of Most: Next has been called. -/
theorem most_round {v : List (List Int)} {w wr w2 : World} {cur bst : List Int} {pb : Option Addr} {cb : Nat} {e : Ending} (h0 : 0 < v.length)
    (hB : Own wr (w.heap.size + 1) pb cb bst) (hb : Below w.heap.size w wr) (hcl : cur.length = v.length) (hdg : Digits v.length cur)
    (hM : FirstMax (fun x => IsA x v.length ∧ numA v.length 0 x ≤ numA v.length 0 cur) (worthI v) bst)
    (hN : NextP wr w.heap.size (some ⟨w.heap.size, 0, none⟩) v.length v.length cur e w2) :
    ∃ b', e = .returned (.bool b') ∧ ∃ g', MostRel v w g' (.slice pb bst.length cb) (.bool b') w2 ∧ g' < v.length ^ v.length - numA v.length 0 cur := by
  obtain ⟨l', hO, hg, hl, hd, hr⟩ := hN
  have hlt := numA_lt cur hdg
  rw [hcl] at hlt
  have hB2 : Own w2 (w.heap.size + 1) pb cb bst := hB.keptBy hg (fun k hk e => by
    have := (hB.lt k hk).1
    simp [blk] at e; omega)
  have hb2 : Below w.heap.size w w2 := hb.grown hg hb.size (fun k e => by simp [blk] at e; omega)
  rcases hr with ⟨rfl, hn⟩ | ⟨rfl, hn⟩
  · exact ⟨true, rfl, _, ⟨true, l', bst, pb, cb, rfl, rfl, hO, hB2, hb2, by omega, hd, most_go hM hn, rfl⟩, by simp; omega⟩
  · exact ⟨false, rfl, _, ⟨false, l', bst, pb, cb, rfl, rfl, hO, hB2, hb2, by omega, hd, most_stop hM (by rw [← hcl]; rw [hcl] at hn ⊢; exact hn), rfl⟩, by simp; omega⟩

set_option maxHeartbeats 1600000 in
theorem most_any (p : Option Addr) (c : Nat) (v : List (List Int)) (w : World) (hx : Mat w p c v) (hv : Bids v) :
    Calls Try.prog 43 #[.slice p v.length c] w (Gives w (bestA v)) := by
  have h0 := hv.1
  have h6 := hv.2.1
  have HV := Lib.hid hv
  clear hv
  go_enter Try.func43, Try.ntmps43
  go_wp2_with (at_make; refine wpList_mk rfl (.tmp 9) (.tmp 9) rfl w.heap.size v.length rfl rfl (by omega) (Nat.le_refl _) ?_; intro w1 hO1 hg1 hs1)
  go_loopg [5, 6] (v.length ^ v.length) (fun g t5 t6 wr => MostRel v w g t5 t6 wr)
  case atStart =>
    have hz : numA v.length 0 (List.replicate v.length 0) = 0 := by rw [num_zeros, Nat.zero_mul]
    exact ⟨true, _, [], none, 0, rfl, rfl, hO1, Own.ofNil _ _, (Below.refl _ _).grown hg1 (Nat.le_refl _) (fun _ e => by cases e), by simp, digits_zeros _ h0, most_start v hz, by simp [hz]⟩
  case round =>
    obtain ⟨b, cur, bst, pb, cb, rfl, rfl, hO, hB, hb, hcl, hdg, hM, rfl⟩ := hrel
    cases b with
    | false =>
      have e := bestA_eq (most_end h0 hM)
      have E := Lib.hid e
      clear e
      go_wp2
      go_ret
      rw [E.out]
      exact ⟨pb, cb, rfl, hB.lower (by omega), hb⟩
    | true =>
      have hx := hx.below hb (Nat.le_refl _)
      have hlt : w.heap.size + 1 ≤ wr.heap.size := (hO.lt _ rfl).2
      have Hcl := Lib.hid hcl
      have Hup := Lib.hid (most_upto h0 hcl hdg hM)
      have HM := Lib.hid hM
      clear hcl hM
      by_cases hA : IsA cur v.length
      · have hAb := isAB_true hA
        have HA := Lib.hid hA
        clear hA
        by_cases hb0 : bst.length = 0
        · have hz : ((bst.length : Int) == 0) = true := by rw [beq_iff_eq]; omega
          have HS : Hid (MostStep v cur bst = cur) := if_pos ⟨HA.out, .inl hb0⟩
          have Hb0 := Lib.hid hb0
          clear hb0
          go_wp2_with fail
          refine (assigned_len Hcl.out (by omega) hO.ints).mono ?_
          rintro e w' ⟨rfl, rfl⟩
          go_wp2_with (at_builtin; refine wpList_app rfl (.tmp 32) (.tmp 33) rfl (w.heap.size + 1) _ _ _ _ [] cur rfl (by rw [Hcl.out]; rfl) (Own.made _ _ hlt) (hO.alloc _).ints (by rw [Hcl.out]; simp; omega) (by simp; omega) ?_; intro p2 c2 w2 zs hz2 hO2 hg2 hf2)
          obtain rfl : zs = cur := hz2.out
          obtain ⟨hO', hb'⟩ := most_copy hb hlt hO hg2
          refine (next_len Hcl.out h0 (by omega) hO' (by rw [Hcl.out]; omega) hdg).mono ?_
          intro e w3 hN
          have hM2 := Hup.out
          rw [HS.out] at hM2
          obtain ⟨b', rfl, g', hR, hlt'⟩ := most_round h0 hO2 hb' Hcl.out hdg hM2 hN
          clear hN hM2
          go_wp2
          go_roundg g'
          case rel => exact hR
          case measure => exact hlt'
        · have hz : ((bst.length : Int) == 0) = false := by rw [beq_eq_false_iff_ne]; omega
          have hBA : Hid (IsA bst v.length) := by
            rcases HM.out with ⟨e, _⟩ | ⟨h, _⟩
            · rw [e] at hb0; simp at hb0
            · exact h.1
          have hl1 := hx.length_le
          go_wp2_with fail
          refine (assigned_len Hcl.out (by omega) hO.ints).mono ?_
          rintro e w' ⟨rfl, rfl⟩
          go_wp2_with fail
          refine (worth_len Hcl.out hx hO.ints (fits_of HV.out HA.out)).mono ?_
          rintro e w' ⟨rfl, hw1⟩
          have hx1 := hx.drew hw1
          have hB1 := hB.drew hw1
          have hO1 := hO.drew hw1
          go_wp2_with fail
          refine (worth_any _ _ _ _ _ _ _ hx1 hB1.ints (fits_of HV.out hBA.out)).mono ?_
          rintro e w'' ⟨rfl, hw2⟩
          have hw := drew_trans hw1 hw2
          have hB2 := hB.drew hw
          have hO2 := hO.drew hw
          have hb2 := hb.drewP hw
          have hlt2 : w.heap.size + 1 ≤ w''.heap.size := by obtain ⟨n, rfl⟩ := hw; exact hlt
          clear hx1 hB1 hO1 hw1 hw2 hw
          have Hb0 := Lib.hid hb0
          clear hb0
          go_wp2_with (at_builtin; refine wpList_app rfl (.tmp 32) (.tmp 33) rfl (w.heap.size + 1) _ _ _ _ [] cur rfl (by rw [Hcl.out]; rfl) (Own.made _ _ hlt2) (hO2.alloc _).ints (by rw [Hcl.out]; simp; omega) (by simp; omega) ?_; intro p2 c2 w2 zs hz2 hO3 hg2 hf2)
          · have hgt : worthI v bst < worthI v cur := by assumption
            have HS : Hid (MostStep v cur bst = cur) := if_pos ⟨HA.out, .inr hgt⟩
            obtain rfl : zs = cur := hz2.out
            obtain ⟨hO', hb'⟩ := most_copy hb2 hlt2 hO2 hg2
            refine (next_len Hcl.out h0 (by omega) hO' (by rw [Hcl.out]; omega) hdg).mono ?_
            intro e w3 hN
            have hM2 := Hup.out
            rw [HS.out] at hM2
            obtain ⟨b', rfl, g', hR, hlt'⟩ := most_round h0 hO3 hb' Hcl.out hdg hM2 hN
            clear hN hM2
            go_wp2
            go_roundg g'
            case rel => exact hR
            case measure => exact hlt'
          · have hgt : worthI v cur ≤ worthI v bst := by assumption
            have HS : Hid (MostStep v cur bst = bst) := if_neg (fun h => by rcases h.2 with h | h; exact Hb0.out h; omega)
            refine (next_len Hcl.out h0 (by omega) hO2 (by rw [Hcl.out]; omega) hdg).mono ?_
            intro e w3 hN
            have hM2 := Hup.out
            rw [HS.out] at hM2
            obtain ⟨b', rfl, g', hR, hlt'⟩ := most_round h0 hB2 hb2 Hcl.out hdg hM2 hN
            clear hN hM2
            go_wp2
            go_roundg g'
            case rel => exact hR
            case measure => exact hlt'
      · have hAb := isAB_false hA
        have HS : Hid (MostStep v cur bst = bst) := if_neg (fun h => hA h.1)
        clear hA
        go_wp2_with fail
        refine (assigned_len Hcl.out (by omega) hO.ints).mono ?_
        rintro e w' ⟨rfl, rfl⟩
        go_wp2_with fail
        refine (next_len Hcl.out h0 (by omega) hO (by rw [Hcl.out]; omega) hdg).mono ?_
        intro e w3 hN
        have hM2 := Hup.out
        rw [HS.out] at hM2
        obtain ⟨b', rfl, g', hR, hlt'⟩ := most_round h0 hB hb Hcl.out hdg hM2 hN
        clear hN hM2
        go_wp2
        go_roundg g'
        case rel => exact hR
        case measure => exact hlt'
end Go.Proofs.Ytojldecldemfaaa
