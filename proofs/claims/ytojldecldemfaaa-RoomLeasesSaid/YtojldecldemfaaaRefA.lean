/- The walks of the reference's functions that only read: Great, Same, SameLists, Check, Assigned, Worth, Priced, Content; the slices read as lists. -/
import Derived.Test.YtojldecldemfaaaPure13
namespace Go.Proofs.Ytojldecldemfaaa
set_option linter.unusedVariables false
set_option linter.unusedSimpArgs false
open Go.ChangeShapes Go.WideShapes Go.ChangeAt Go.RowKit Go.Deep

def sameB (xs ys : List Int) : Bool := decide (xs = ys)
theorem sameB_true {xs ys : List Int} (h : xs = ys) : sameB xs ys = true := by simp [sameB, h]
theorem take_ext {xs ys : List Int} (h : ∀ j, j < xs.length → iget xs j = iget ys j) (hl : xs.length = ys.length) : xs = ys := by
  apply List.ext_getElem hl
  intro i h1 h2
  have := h i h1
  rwa [iget_of h1, iget_of h2] at this

theorem snoc_all {P : Nat → Prop} {k : Nat} (h : ∀ j, j < k → P j) (hk : P k) : ∀ j, j < k + 1 → P j := fun j hj => by
  by_cases e : j = k
  · exact e ▸ hk
  · exact h j (by omega)

set_option maxHeartbeats 400000 in
theorem same_any (p q : Option Addr) (c d : Nat) (xs ys : List Int) (w : World) (hx : Ints w p c xs) (hy : Ints w q d ys) :
    Calls Try.prog 27 #[.slice p xs.length c, .slice q ys.length d] w fun e w' => e = .returned (.bool (sameB xs ys)) ∧ ∃ n, w' = w.drewN n := by
  by_cases hl : xs.length = ys.length
  · have hb : ((xs.length : Int) != ys.length) = false := by simp [hl]
    have Hl := Lib.hid hl
    clear hl
    go_enter Try.func27, Try.ntmps27
    go_wp2
    go_loopw [5] (fun i wr => ∃ k : Nat, k ≤ xs.length ∧ i = .int .i64 k ∧ (Hid (∀ j, j < k → iget xs j = iget ys j)) ∧ ∃ n, wr = w.drewN n) (fun i _ => xs.length - (intOf i).toNat)
    case atStart => exact ⟨0, Nat.zero_le _, rfl, fun j hj => by omega, 0, rfl⟩
    case round =>
      obtain ⟨k, hk, rfl, ht, n, rfl⟩ := hrel
      by_cases hlt : k < xs.length
      · obtain ⟨b, o, rfl, _, hc⟩ := hx.get hlt
        have hlt' : k < ys.length := by rw [← Hl.out]; exact hlt
        obtain ⟨b', o', rfl, _, hc'⟩ := hy.get hlt'
        have hk1 : (k : Int) < xs.length := by omega
        have hk2 : (k : Int) < ys.length := by omega
        have hl1 := hx.length_le
        go_wp2
        go_quiet (fail)
        go_wp2
        · have hne : (iget xs k != iget ys k) = true := by assumption
          go_ret
          refine ⟨ret_bool ?_, drew_drewN _ ⟨_, rfl⟩⟩
          simp only [sameB]
          symm
          rw [decide_eq_false_iff_not]
          rintro rfl
          simp at hne
        · have he : (iget xs k != iget ys k) = false := by assumption
          go_roundw
          case rel => exact ⟨k + 1, by omega, by go_num, snoc_all ht.out (by simpa using he), _, rfl⟩
          case measure => simp [intOf]; omega
      · have hk1 : ¬ (k : Int) < xs.length := by omega
        go_wp2
        go_ret
        refine ⟨ret_bool ?_, _, rfl⟩
        rw [sameB_true]
        exact take_ext (fun j hj => ht.out j (by omega)) Hl.out
  · have hb : ((xs.length : Int) != ys.length) = true := by simp; omega
    have Hl := Lib.hid hl
    clear hl
    go_enter Try.func27, Try.ntmps27
    go_wp2
    go_ret
    refine ⟨ret_bool ?_, 0, rfl⟩
    simp only [sameB]
    symm
    rw [decide_eq_false_iff_not]
    rintro rfl
    exact Hl.out rfl

set_option maxHeartbeats 400000 in
theorem great_any (p : Option Addr) (c : Nat) (v : List (List Int)) (w : World) (hx : Mat w p c v) :
    Calls Try.prog 40 #[.slice p v.length c] w fun e w' => e = .returned (.bool (greatB v)) ∧ w' = w := by
  have hl1 := hx.length_le
  go_enter Try.func40, Try.ntmps40
  go_wp2
  go_loop [3] (fun i => ∃ k : Nat, k ≤ v.length ∧ k ≤ 20 ∧ i = .int .i64 k ∧ Hid (∀ j, j < k → ¬ 50 < (rget v j).length)) (fun i => v.length - (intOf i).toNat)
  case atStart => exact ⟨0, by omega, by omega, rfl, fun j hj => by omega⟩
  case round =>
    obtain ⟨k, hk, hk20, rfl, ht⟩ := hrel
    have hend : ¬ (k < v.length ∧ k < 20) → greatB v = decide (v.length = 6 ∨ 20 < v.length) := by
      intro h
      unfold greatB
      rw [Bool.eq_iff_iff, decide_eq_true_iff, decide_eq_true_iff]
      unfold GreatP
      constructor
      · rintro (⟨i, h1, h2, h3⟩ | h)
        · exact absurd h3 (ht.out i (by omega))
        · exact h
      · exact Or.inr
    by_cases hlt : k < v.length
    · by_cases hlt2 : k < 20
      · obtain ⟨b, o, rfl, _, q, d, hc, _⟩ := hx.get hlt
        have hd1 : decide ((k : Int) < v.length) = true := by simp; omega
        have hd2 : decide ((k : Int) < 20) = true := by simp; omega
        clear hend
        go_wp2
        · have hgt : 50 < ((rget v k).length : Int) := by assumption
          go_ret
          refine ⟨ret_bool ?_, rfl⟩
          symm
          unfold greatB
          rw [decide_eq_true_iff]
          exact Or.inl ⟨k, hlt, hlt2, by omega⟩
        · have hgt : ((rget v k).length : Int) ≤ 50 := by assumption
          go_round
          case rel => exact ⟨k + 1, by omega, by omega, by go_num, snoc_all ht.out (by omega)⟩
          case measure => simp [intOf]; omega
      · have hd1 : decide ((k : Int) < v.length) = true := by simp; omega
        have hd2 : decide ((k : Int) < 20) = false := by simp; omega
        have HE := Lib.hid (hend (by omega))
        clear hend
        have hn6 : v.length ≠ 6 := by omega
        have h6 : ((v.length : Int) == 6) = false := by simp; omega
        go_wp2
        go_ret
        refine ⟨ret_bool ?_, rfl⟩
        rw [HE.out]
        exact dec_congr (by omega)
    · have hd1 : decide ((k : Int) < v.length) = false := by simp; omega
      have HE := Lib.hid (hend (by omega))
      clear hend
      by_cases h6 : v.length = 6
      · have h6' : ((v.length : Int) == 6) = true := by simp; omega
        have H6 := Lib.hid h6
        clear h6
        go_wp2
        go_ret
        refine ⟨ret_bool ?_, rfl⟩
        rw [HE.out]
        exact (decide_eq_true (Or.inl H6.out)).symm
      · have h6' : ((v.length : Int) == 6) = false := by simp; omega
        go_wp2
        go_ret
        refine ⟨ret_bool ?_, rfl⟩
        rw [HE.out]
        exact dec_congr (by omega)
def sameLB (u v : List (List Int)) : Bool := decide (u = v)
theorem rows_ext {u v : List (List Int)} (h : ∀ j, j < u.length → rget u j = rget v j) (hl : u.length = v.length) : u = v := by
  apply List.ext_getElem hl
  intro i h1 h2
  have := h i h1
  rwa [rget_of h1, rget_of h2] at this
theorem sameB_eq {xs ys : List Int} (h : sameB xs ys = true) : xs = ys := by simpa [sameB] using h

set_option maxHeartbeats 400000 in
theorem sameLists_any (p q : Option Addr) (c d : Nat) (u v : List (List Int)) (w : World) (hx : Mat w p c u) (hy : Mat w q d v) :
    Calls Try.prog 20 #[.slice p u.length c, .slice q v.length d] w fun e w' => e = .returned (.bool (sameLB u v)) ∧ ∃ n, w' = w.drewN n := by
  by_cases hl : u.length = v.length
  · have hb : ((u.length : Int) != v.length) = false := by simp [hl]
    have Hl := Lib.hid hl
    clear hl
    go_enter Try.func20, Try.ntmps20
    go_wp2
    go_loopw [5] (fun i wr => ∃ k : Nat, k ≤ u.length ∧ i = .int .i64 k ∧ (Hid (∀ j, j < k → rget u j = rget v j)) ∧ ∃ n, wr = w.drewN n) (fun i _ => u.length - (intOf i).toNat)
    case atStart => exact ⟨0, Nat.zero_le _, rfl, fun j hj => by omega, drew_refl w⟩
    case round =>
      obtain ⟨k, hk, rfl, ht, hw⟩ := hrel
      have hx := hx.drew hw
      have hy := hy.drew hw
      have Hw := Lib.hid hw
      clear hw
      by_cases hlt : k < u.length
      · obtain ⟨b, o, rfl, _, q1, d1, hc, hi⟩ := hx.get hlt
        have hlt' : k < v.length := by rw [← Hl.out]; exact hlt
        obtain ⟨b', o', rfl, _, q2, d2, hc', hi'⟩ := hy.get hlt'
        have hk1 : (k : Int) < u.length := by omega
        have hk2 : (k : Int) < v.length := by omega
        have hl1 := hx.length_le
        go_wp2_with fail
        go_quiet ((go_at_call 27; exact Calls.quiet_of (same_any _ _ _ _ _ _ _ (hi.drewN _) (hi'.drewN _))))
        go_wp2_with fail
        · have hne : (!sameB (rget u k) (rget v k)) = true := by assumption
          go_ret
          refine ⟨ret_bool ?_, drew_drewN _ Hw.out⟩
          simp only [sameLB]
          symm
          rw [decide_eq_false_iff_not]
          rintro rfl
          simp [sameB] at hne
        · have he : (!sameB (rget u k) (rget v k)) = false := by assumption
          go_roundw
          case rel => exact ⟨k + 1, by omega, by go_num, snoc_all ht.out (sameB_eq (by simpa using he)), drew_drewN _ Hw.out⟩
          case measure => simp [intOf]; omega
      · have hk1 : ¬ (k : Int) < u.length := by omega
        go_wp2
        go_ret
        refine ⟨ret_bool ?_, Hw.out⟩
        simp only [sameLB]
        symm
        rw [decide_eq_true_iff]
        exact rows_ext (fun j hj => ht.out j (by omega)) Hl.out
  · have hb : ((u.length : Int) != v.length) = true := by simp; omega
    have Hl := Lib.hid hl
    clear hl
    go_enter Try.func20, Try.ntmps20
    go_wp2
    go_ret
    refine ⟨ret_bool ?_, 0, rfl⟩
    simp only [sameLB]
    symm
    rw [decide_eq_false_iff_not]
    rintro rfl
    exact Hl.out rfl

set_option maxHeartbeats 800000 in
theorem refCheck_any (p : Option Addr) (c : Nat) (v : List (List Int)) (w : World) (hx : Mat w p c v) :
    Calls Try.prog 50 #[.slice p v.length c] w fun e w' => e = .returned (.int .i64 (chkI v)) ∧ w' = w := by
  have hl1 := hx.length_le
  by_cases h6 : 6 < v.length
  · have H := Lib.hid (chkI_many h6)
    go_enter Try.func50, Try.ntmps50
    go_wp2
    go_ret
    exact ⟨ret_int H.out.symm, rfl⟩
  · go_enter Try.func50, Try.ntmps50
    go_wp2
    go_loop [4] (fun i => ∃ k : Nat, k ≤ v.length ∧ i = .int .i64 k ∧ Hid (∀ i, i < k → (rget v i).length = v.length ∧ ∀ j, j < v.length → 0 ≤ iget (rget v i) j ∧ iget (rget v i) j ≤ 1000000)) (fun i => v.length - (intOf i).toNat)
    case atStart => exact ⟨0, by omega, rfl, fun j hj => by omega⟩
    case round =>
      obtain ⟨k, hk, rfl, ht⟩ := hrel
      by_cases hlt : k < v.length
      · obtain ⟨b, o, rfl, _, q, d, hc, hi⟩ := hx.get hlt
        have hk1 : (k : Int) < v.length := by omega
        by_cases hrl : (rget v k).length = v.length
        · have hrb : (((rget v k).length : Int) != v.length) = false := by simp [hrl]
          have Hrl := Lib.hid hrl
          clear hrl
          go_wp2
          go_loop [5] (fun i => ∃ j : Nat, j ≤ v.length ∧ i = .int .i64 j ∧ Hid (∀ i, i < j → 0 ≤ iget (rget v k) i ∧ iget (rget v k) i ≤ 1000000)) (fun i => v.length - (intOf i).toNat)
          case atStart => exact ⟨0, by omega, rfl, fun j hj => by omega⟩
          case round =>
            obtain ⟨j, hj, rfl, htj⟩ := hrel
            by_cases hlt2 : j < v.length
            · have hlt3 : j < (rget v k).length := by rw [Hrl.out]; exact hlt2
              obtain ⟨b', o', rfl, _, hc'⟩ := hi.get hlt3
              have hk2 : (j : Int) < v.length := by omega
              have hk3 : (j : Int) < (rget v k).length := by omega
              by_cases hlow : iget (rget v k) j < 0
              · have hdl : decide (iget (rget v k) j < 0) = true := by simpa using hlow
                go_wp2
                go_ret
                refine ⟨ret_int (chkI_bad (v := v) h6 fun hB => ?_).symm, rfl⟩
                have := ((hB.2.2 k hlt).2 j hlt2).1
                omega
              · have hdl : decide (iget (rget v k) j < 0) = false := by simpa using hlow
                go_wp2
                · have hgt : 1000000 < iget (rget v k) j := by assumption
                  go_ret
                  refine ⟨ret_int (chkI_bad (v := v) h6 fun hB => ?_).symm, rfl⟩
                  have := ((hB.2.2 k hlt).2 j hlt2).2
                  omega
                · have hgt : iget (rget v k) j ≤ 1000000 := by assumption
                  go_round
                  case rel => exact ⟨j + 1, by omega, by go_num, snoc_all htj.out ⟨by omega, hgt⟩⟩
                  case measure => simp [intOf]; omega
            · have hk2 : ¬ (j : Int) < v.length := by omega
              go_wp2
              go_round
              case rel => exact ⟨k + 1, by omega, by go_num, snoc_all ht.out ⟨Hrl.out, fun i hi => htj.out i (by omega)⟩⟩
              case measure => simp [intOf]; omega
        · have hrb : (((rget v k).length : Int) != v.length) = true := by simp; omega
          have Hrl := Lib.hid hrl
          clear hrl
          go_wp2
          go_ret
          exact ⟨ret_int (chkI_bad (v := v) h6 fun hB => Hrl.out (hB.2.2 k hlt).1).symm, rfl⟩
      · have hk1 : ¬ (k : Int) < v.length := by omega
        by_cases h0 : v.length = 0
        · have hb0 : ((v.length : Int) == 0) = true := by rw [beq_iff_eq]; omega
          have H0 := Lib.hid h0
          clear h0
          go_wp2
          go_ret
          exact ⟨ret_int (chkI_bad (v := v) h6 fun hB => by have := hB.1; have := H0.out; omega).symm, rfl⟩
        · have hb0 : ((v.length : Int) == 0) = false := by rw [beq_eq_false_iff_ne]; omega
          go_wp2
          go_ret
          exact ⟨ret_int (chkI_bids (v := v) ⟨by omega, by omega, fun i hi => ht.out i (by omega)⟩).symm, rfl⟩

end Go.Proofs.Ytojldecldemfaaa
