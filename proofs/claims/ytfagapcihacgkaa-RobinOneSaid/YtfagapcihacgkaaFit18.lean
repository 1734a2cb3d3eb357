/- The walk of the laws' fit, for every goods and turns. -/
import Derived.Test.YtfagapcihacgkaaRobinA
namespace Go.Proofs.Ytfagapcihacgkaa
set_option linter.unusedVariables false
set_option linter.unusedSimpArgs false
open Go.ChangeShapes Go.WideShapes Go.ChangeAt Go.RowKit Go.Deep
def fit18 (v : List (List Int)) (ts : List Int) : Bool := decide (chkG v = 0 ∧ chkT v.length ts = 0)
theorem gds_ngreat {v : List (List Int)} (h : Gds v) : greatG v [] = false := by
  unfold greatG
  have h2 := h.2.1
  have h3 := h.2.2.1
  rw [decide_eq_false_iff_not]
  unfold GreatG
  rintro (h4 | h4 | h4)
  · exact h4 fun i hi _ => by rw [(h.2.2.2 i hi).1]; omega
  · omega
  · simp at h4
set_option maxHeartbeats 1600000 in
theorem fit18_any (p q : Option Addr) (c d : Nat) (v : List (List Int)) (ts : List Int) (w : World) (hx : Mat w p c v) (hy : Ints w q d ts) :
    Calls Try.prog 25 #[.agg #[.slice p v.length c], .slice q ts.length d] w fun e w' => e = .returned (.bool (fit18 v ts)) ∧ Below w.heap.size w w' := by
  obtain ⟨W0, hW0⟩ : ∃ W0, w.alloc (.cells #[.slice p v.length c] 24) = W0 := ⟨_, rfl⟩
  have hB : Below w.heap.size w W0 := below_alloc hW0
  have bX : BoxV W0 w.heap.size [.slice p v.length c] := BoxV.new rfl hW0
  have hx := hx.below hB (Nat.le_refl _)
  have hy := hy.below hB (Nat.le_refl _)
  have x0 := bX.cell 0 _ rfl
  have HW0 := Lib.hid hW0
  clear hW0
  have hl1 := hx.length_le
  have hl2 := hy.length_le
  go_enter Try.func25, Try.ntmps25
  go_wp2_with fail
  rw [HW0.out]
  refine (great16_any p none c 0 v [] _ hx).mono ?_
  rintro e w1 ⟨rfl, hb1⟩
  have hx := hx.below hb1 (Nat.le_refl _)
  have hy := hy.below hb1 (Nat.le_refl _)
  have bX := bX.below hb1
  have x0 := bX.cell 0 _ rfl
  have hB := hB.trans (hb1.mono hB.size)
  cases hG : greatG v [] with
  | true =>
    have HR : Hid (fit18 v ts = false) := by
      unfold Hid fit18; rw [decide_eq_false_iff_not]; rintro ⟨h, _⟩; rw [gds_ngreat (chkG_zero.1 h)] at hG; cases hG
    clear hG hb1
    go_wp2_with fail
    go_ret
    exact ⟨ret_bool HR.out.symm, hB⟩
  | false =>
    clear hG hb1
    go_wp2_with fail
    refine (ref16Check_any p c v _ hx).mono ?_
    rintro e w2 ⟨rfl, hb1⟩
    have hx := hx.below hb1 (Nat.le_refl _)
    have hy := hy.below hb1 (Nat.le_refl _)
    have bX := bX.below hb1
    have x0 := bX.cell 0 _ rfl
    have hB := hB.trans (hb1.mono hB.size)
    by_cases hF : chkG v = 0
    · have hz : (chkG v == 0) = true := by rw [beq_iff_eq]; exact hF
      have HF := Lib.hid hF
      clear hF hb1
      go_wp2_with fail
      refine (long_any q d ts.length _).mono ?_
      rintro e w3 ⟨rfl, rfl⟩
      cases hL : decide (100 < ts.length) with
      | true =>
        have HR : Hid (fit18 v ts = false) := by
          unfold Hid fit18; rw [decide_eq_false_iff_not]; rintro ⟨_, h⟩
          have := (chkT_zero.1 h).2.2.1
          simp at hL; omega
        clear hL
        go_wp2_with fail
        go_ret
        exact ⟨ret_bool HR.out.symm, hB⟩
      | false =>
        clear hL
        go_wp2_with fail
        refine (ref18Check_any v.length q d ts _ hy).mono ?_
        rintro e w4 ⟨rfl, rfl⟩
        have HR : Hid (fit18 v ts = (chkT v.length ts == 0)) := by
          unfold Hid fit18; rw [Bool.eq_iff_iff, decide_eq_true_iff, beq_iff_eq]; exact ⟨fun h => h.2, fun h => ⟨HF.out, h⟩⟩
        cases hT : (chkT v.length ts == 0) with
        | true =>
          rw [hT] at HR
          go_wp2_with fail
          go_ret
          exact ⟨ret_bool HR.out.symm, hB⟩
        | false =>
          rw [hT] at HR
          go_wp2_with fail
          go_ret
          exact ⟨ret_bool HR.out.symm, hB⟩
    · have hz : (chkG v == 0) = false := by rw [beq_eq_false_iff_ne]; exact hF
      have HR : Hid (fit18 v ts = false) := by
        unfold Hid fit18; rw [decide_eq_false_iff_not]; rintro ⟨h, _⟩; exact hF h
      clear hF hb1
      go_wp2_with fail
      go_ret
      exact ⟨ret_bool HR.out.symm, hB⟩
end Go.Proofs.Ytfagapcihacgkaa
