/- The walks of slices.IndexFunc and slices.ContainsFunc at slices of integers, for a function that only computes. -/
import Derived.Test.YtknincjfcicjfaaOwn
namespace Go.Proofs.Ytknincjfcicjfaa
set_option linter.unusedVariables false
set_option linter.unusedSimpArgs false
open Go.ChangeShapes Go.WideShapes Go.ChangeAt Go.RowKit Go.Deep

/-- The first index at which P holds, or -1. -/
def firstIdx (P : Int → Bool) (xs : List Int) : Int := match xs.findIdx? P with
  | some k => k
  | none => -1
def anyB (P : Int → Bool) (xs : List Int) : Bool := xs.any P
theorem findIdx?_of {P : Int → Bool} {xs : List Int} {k : Nat} (hk : k < xs.length) (h : P (iget xs k) = true) (hb : ∀ j, j < k → P (iget xs j) = false) : xs.findIdx? P = some k := by
  rw [List.findIdx?_eq_some_iff_getElem]
  refine ⟨hk, by rw [← iget_of hk]; exact h, fun j hj => ?_⟩
  have := hb j hj
  rw [iget_of (by omega)] at this
  simp [this]
theorem findIdx?_none {P : Int → Bool} {xs : List Int} (hb : ∀ j, j < xs.length → P (iget xs j) = false) : xs.findIdx? P = none := by
  rw [List.findIdx?_eq_none_iff]
  intro x hx
  obtain ⟨j, hj, rfl⟩ := List.getElem_of_mem hx
  have := hb j hj
  rwa [iget_of hj] at this
theorem anyB_of {P : Int → Bool} {xs : List Int} {k : Nat} (hk : k < xs.length) (h : P (iget xs k) = true) : anyB P xs = true := List.any_eq_true.2 ⟨_, iget_mem hk, h⟩
theorem anyB_none {P : Int → Bool} {xs : List Int} (hb : ∀ j, j < xs.length → P (iget xs j) = false) : anyB P xs = false := by
  unfold anyB
  rw [List.any_eq_false]
  intro x hx
  obtain ⟨j, hj, rfl⟩ := List.getElem_of_mem hx
  have := hb j hj
  rw [iget_of hj] at this
  simp [this]
theorem firstIdx_any (P : Int → Bool) (xs : List Int) : decide (0 ≤ firstIdx P xs) = anyB P xs := by
  unfold firstIdx anyB
  cases h : xs.findIdx? P with
  | none =>
    rw [List.findIdx?_eq_none_iff] at h
    symm
    simp
    intro x hx; simpa using h x hx
  | some k =>
    rw [List.findIdx?_eq_some_iff_getElem] at h
    obtain ⟨h1, h2, _⟩ := h
    have : (xs.any P) = true := List.any_eq_true.2 ⟨_, List.getElem_mem h1, h2⟩
    simp [this]

set_option maxHeartbeats 800000 in
theorem indexFunc_any (K : Nat) (P : Int → Bool) (hcf : ∀ args W, (callFunc K args).run Try.prog W = .ok (.enter K args) W) (hf : ∀ x W, in64 x → Calls Try.prog K #[.int .i64 x] W fun e w' => e = .returned (.bool (P x)) ∧ w' = W) (p : Option Addr) (c : Nat) (xs : List Int) (w : World) (hx : Ints w p c xs) :
    Calls Try.prog 37 #[.slice p xs.length c, .func (.func K) #[] #[]] w fun e w' => e = .returned (.int .i64 (firstIdx P xs)) ∧ w' = w := by
  have hl1 := hx.length_le
  have Hf := Lib.hid hf
  clear hf
  go_enter Try.func37, Try.ntmps37
  go_wp2_with fail
  go_loop [8] (fun t => ∃ k : Nat, k ≤ xs.length ∧ t = .int .i64 k ∧ Hid (∀ j, j < k → P (iget xs j) = false)) (fun t => xs.length - (intOf t).toNat)
  case atStart => exact ⟨0, Nat.zero_le _, rfl, fun j hj => absurd hj (Nat.not_lt_zero j)⟩
  case round =>
    obtain ⟨k, hk, rfl, ht⟩ := hrel
    by_cases hlt : k < xs.length
    · obtain ⟨b, o, rfl, _, hc⟩ := hx.get hlt
      have hk1 : (k : Int) < xs.length := by omega
      have hin := hx.rng k hlt
      go_wp2_with fail
      refine (Hf.out _ _ hin).mono ?_
      rintro e w' ⟨rfl, rfl⟩
      cases hP : P (iget xs k) with
      | true =>
        have HP := Lib.hid hP
        clear hP
        go_wp2_with fail
        go_ret
        refine ⟨ret_int ?_, rfl⟩
        simp only [firstIdx, findIdx?_of hlt HP.out ht.out]
      | false =>
        have HP := Lib.hid hP
        clear hP
        go_wp2_with fail
        go_round
        case rel => exact ⟨k + 1, by omega, by go_num, snoc_all' ht.out HP.out⟩
        case measure => simp [intOf]; omega
    · have hk1 : ¬ (k : Int) < xs.length := by omega
      go_wp2_with fail
      go_ret
      refine ⟨ret_int ?_, rfl⟩
      simp only [firstIdx, findIdx?_none (fun j hj => ht.out j (by omega))]

set_option maxHeartbeats 400000 in
theorem containsFunc_any (K : Nat) (P : Int → Bool) (hcf : ∀ args W, (callFunc K args).run Try.prog W = .ok (.enter K args) W) (hf : ∀ x W, in64 x → Calls Try.prog K #[.int .i64 x] W fun e w' => e = .returned (.bool (P x)) ∧ w' = W) (p : Option Addr) (c : Nat) (xs : List Int) (w : World) (hx : Ints w p c xs) :
    Calls Try.prog 51 #[.slice p xs.length c, .func (.func K) #[] #[]] w fun e w' => e = .returned (.bool (anyB P xs)) ∧ w' = w := by
  have HA := Lib.hid (firstIdx_any P xs)
  go_enter Try.func51, Try.ntmps51
  go_wp2_with fail
  refine (indexFunc_any K P hcf hf p c xs w hx).mono ?_
  rintro e w' ⟨rfl, rfl⟩
  go_wp2_with fail
  go_ret
  exact ⟨ret_bool HA.out, rfl⟩
def oddBid (x : Int) : Bool := decide (x < 0 ∨ 1000000 < x)
end Go.Proofs.Ytknincjfcicjfaa
