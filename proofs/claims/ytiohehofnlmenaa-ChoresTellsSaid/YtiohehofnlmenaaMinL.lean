/- The walk of slices.Min at a list that is not empty. -/
import Derived.Test.YtiohehofnlmenaaOwn
import Derived.Test.YtiohehofnlmenaaFuncs
namespace Go.Proofs.Ytiohehofnlmenaa
set_option linter.unusedVariables false
set_option linter.unusedSimpArgs false
open Go.ChangeShapes Go.WideShapes Go.ChangeAt Go.RowKit Go.Deep

def lowTo (xs : List Int) : Nat → Int
  | 0 => iget xs 0
  | k + 1 => min (lowTo xs k) (iget xs k)
theorem lowTo_one (xs : List Int) : lowTo xs 1 = iget xs 0 := by simp [lowTo]
theorem lowTo_le (xs : List Int) : ∀ k j, j < k → lowTo xs k ≤ iget xs j
  | k + 1, j, h => by
    rw [lowTo]
    by_cases e : j = k
    · subst e; omega
    · have := lowTo_le xs k j (by omega); omega
theorem lowTo_mem (xs : List Int) : ∀ k, 1 ≤ k → ∃ j, j < k ∧ lowTo xs k = iget xs j
  | k + 1, _ => by
    by_cases h0 : k = 0
    · subst h0; exact ⟨0, by omega, lowTo_one xs⟩
    · obtain ⟨j, hj, he⟩ := lowTo_mem xs k (by omega)
      rw [lowTo]
      by_cases h : lowTo xs k ≤ iget xs k
      · exact ⟨j, by omega, by omega⟩
      · exact ⟨k, by omega, by omega⟩
set_option maxHeartbeats 800000 in
theorem sMin_any (p : Option Addr) (c : Nat) (xs : List Int) (w : World) (hx : Ints w p c xs) (h0 : 0 < xs.length) :
    Calls Try.prog 63 #[.slice p xs.length c] w fun e w' => e = .returned (.int .i64 (lowTo xs xs.length)) ∧ w' = w := by
  have hl1 := hx.length_le
  obtain ⟨b, o, rfl, _, hc0⟩ := hx.get h0
  rw [Nat.add_zero] at hc0
  have hd : decide ((xs.length : Int) < 1) = false := by rw [decide_eq_false_iff_not]; omega
  have h01 : (0 : Int) < xs.length := by omega
  have H1 := Lib.hid (lowTo_one xs)
  go_enter Try.func63, Try.ntmps63
  go_wp2_with fail
  go_loop [3, 4] (fun s t => ∃ k : Nat, 1 ≤ k ∧ k ≤ xs.length ∧ t = .int .i64 k ∧ s = .int .i64 (lowTo xs k)) (fun _ t => xs.length - (intOf t).toNat)
  case atStart => exact ⟨1, Nat.le_refl _, h0, rfl, by rw [H1.out]⟩
  case round =>
    obtain ⟨k, hk0, hk, rfl, rfl⟩ := hrel
    by_cases hlt : k < xs.length
    · have hk1 : (k : Int) < xs.length := by omega
      have hc := hx.at hlt
      have HS : Hid (lowTo xs (k + 1) = min (lowTo xs k) (iget xs k)) := rfl
      generalize lowTo xs k = y at *
      generalize iget xs k = z at *
      by_cases hyz : y ≤ z
      · have hm : min y z = y := by omega
        rw [hm] at HS
        go_wp2_with fail
        go_round
        case rel => exact ⟨k + 1, by omega, by omega, by go_num, by rw [HS.out] <;> first | rfl | (congr 1; omega)⟩
        case measure => (simp [intOf] <;> omega)
      · have hm : min y z = z := by omega
        rw [hm] at HS
        go_wp2_with fail
        go_round
        case rel => exact ⟨k + 1, by omega, by omega, by go_num, by rw [HS.out] <;> first | rfl | (congr 1; omega)⟩
        case measure => (simp [intOf] <;> omega)
    · have hk1 : ¬ (k : Int) < xs.length := by omega
      obtain rfl : k = xs.length := by omega
      go_wp2_with fail
      go_ret
      exact ⟨rfl, rfl⟩
end Go.Proofs.Ytiohehofnlmenaa
