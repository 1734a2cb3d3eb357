/- The walk of chores.least: the first least number of those that count.  (Printed by wip/genleast.py.) -/
import Derived.Test.YtiohehofnlmenaaOwn
import Derived.Test.YtiohehofnlmenaaFuncs
namespace Go.Proofs.Ytiohehofnlmenaa
set_option linter.unusedVariables false
set_option linter.unusedSimpArgs false
open Go.ChangeShapes Go.WideShapes Go.ChangeAt Go.RowKit Go.Deep

/-- Of the first k, the first least one of those that count, or -1. -/
def leastTo (xs : List Int) (P : Nat → Bool) : Nat → Int
  | 0 => -1
  | k + 1 => if P k = true ∧ (leastTo xs P k < 0 ∨ iget xs k < iget xs (leastTo xs P k).toNat) then (k : Int) else leastTo xs P k
theorem leastTo_range (xs : List Int) (P : Nat → Bool) : ∀ k, -1 ≤ leastTo xs P k ∧ leastTo xs P k < k
  | 0 => by simp [leastTo]
  | k + 1 => by
    have := leastTo_range xs P k
    rw [leastTo]; split <;> omega
set_option maxHeartbeats 1600000 in
theorem least0_any (K : Nat) (P : Nat → Bool) (R : World → Prop) (hcf : ∀ args W, (callFunc K args).run Try.prog W = .ok (.enter K args) W) (p : Option Addr) (c : Nat) (xs : List Int) (w : World) (hR : R w) (hI : Hid (∀ W, R W → Ints W p c xs))
    (hf : ∀ j W, j < xs.length → R W → Calls Try.prog K #[.int .i64 (j : Nat)] W fun e w' => e = .returned (.bool (P j)) ∧ R w') :
    Calls Try.prog 48 #[.slice p xs.length c, .func (.func K) #[] #[]] w fun e w' => e = .returned (.int .i64 (leastTo xs P xs.length)) ∧ R w' := by
  have hl1 := (hI.out _ hR).length_le
  have Hf := Lib.hid hf
  clear hf
  go_enter Try.func48, Try.ntmps48
  go_wp2_with fail
  go_loopw [5, 10] (fun s t wr => ∃ k : Nat, k ≤ xs.length ∧ t = .int .i64 k ∧ s = .int .i64 (leastTo xs P k) ∧ R wr) (fun _ t _ => xs.length - (intOf t).toNat)
  case atStart => exact ⟨0, Nat.zero_le _, rfl, rfl, hR⟩
  case round =>
    obtain ⟨k, hk, rfl, rfl, hRr⟩ := hrel
    by_cases hlt : k < xs.length
    · obtain ⟨b, o, rfl, _, hc⟩ := (hI.out _ hRr).get hlt
      have hk1 : (k : Int) < xs.length := by omega
      have Hst : Hid (leastTo xs P (k + 1) = if P k = true ∧ (leastTo xs P k < 0 ∨ iget xs k < iget xs (leastTo xs P k).toNat) then (k : Int) else leastTo xs P k) := rfl
      have hrg := leastTo_range xs P k
      obtain ⟨B, eB⟩ : ∃ B, leastTo xs P k = B := ⟨_, rfl⟩
      rw [eB] at Hst hrg ⊢
      clear eB
      go_wp2_with fail
      refine (Hf.out k _ hlt hRr).mono ?_
      rintro e w' ⟨rfl, hR'⟩
      have hx' := hI.out _ hR'
      cases hP : P k with
      | false =>
        have HS : Hid (leastTo xs P (k + 1) = B) := by unfold Hid; rw [Hst.out, if_neg (by simp [hP])]
        clear hP
        go_wp2_with fail
        go_roundw
        case rel => exact ⟨k + 1, by omega, by go_num, by rw [HS.out], hR'⟩
        case measure => (simp [intOf] <;> omega)
      | true =>
        by_cases hneg : B < 0
        · have hd : decide (B < 0) = true := by simpa using hneg
          have HS : Hid (leastTo xs P (k + 1) = k) := by unfold Hid; rw [Hst.out, if_pos ⟨hP, .inl hneg⟩]
          clear hP hneg
          go_wp2_with fail
          go_roundw
          case rel => exact ⟨k + 1, by omega, by go_num, by rw [HS.out], hR'⟩
          case measure => (simp [intOf] <;> omega)
        · have hd : decide (B < 0) = false := by simpa using hneg
          obtain ⟨m, rfl⟩ : ∃ m : Nat, B = m := ⟨B.toNat, by omega⟩
          have hm : m < xs.length := by omega
          have hm1 : (m : Int) < xs.length := by omega
          have hcm := hx'.at hm
          rw [Int.toNat_natCast] at Hst
          cases hlt2 : decide (iget xs k < iget xs m) with
          | true =>
            have HS : Hid (leastTo xs P (k + 1) = k) := by unfold Hid; rw [Hst.out, if_pos ⟨hP, .inr (of_decide_eq_true hlt2)⟩]
            clear hP hneg
            go_wp2_with fail
            go_roundw
            case rel => exact ⟨k + 1, by omega, by go_num, by rw [HS.out], hR'⟩
            case measure => (simp [intOf] <;> omega)
          | false =>
            have HS : Hid (leastTo xs P (k + 1) = m) := by unfold Hid; rw [Hst.out, if_neg (by rintro ⟨_, h | h⟩; exact hneg h; simp at hlt2; omega)]
            clear hP hneg
            go_wp2_with fail
            go_roundw
            case rel => exact ⟨k + 1, by omega, by go_num, by rw [HS.out], hR'⟩
            case measure => (simp [intOf] <;> omega)
    · have hk1 : ¬ (k : Int) < xs.length := by omega
      obtain rfl : k = xs.length := by omega
      go_wp2_with fail
      go_ret
      exact ⟨rfl, hRr⟩

set_option maxHeartbeats 1600000 in
theorem least1_any (K : Nat) (u : Value) (P : Nat → Bool) (R : World → Prop) (hcf : ∀ args W, (callFunc K args).run Try.prog W = .ok (.enter K args) W) (p : Option Addr) (c : Nat) (xs : List Int) (w : World) (hR : R w) (hI : Hid (∀ W, R W → Ints W p c xs))
    (hf : ∀ j W, j < xs.length → R W → Calls Try.prog K #[.int .i64 (j : Nat), u] W fun e w' => e = .returned (.bool (P j)) ∧ R w') :
    Calls Try.prog 48 #[.slice p xs.length c, .func (.func K) #[] #[u]] w fun e w' => e = .returned (.int .i64 (leastTo xs P xs.length)) ∧ R w' := by
  have hl1 := (hI.out _ hR).length_le
  have Hf := Lib.hid hf
  clear hf
  go_enter Try.func48, Try.ntmps48
  go_wp2_with fail
  go_loopw [5, 10] (fun s t wr => ∃ k : Nat, k ≤ xs.length ∧ t = .int .i64 k ∧ s = .int .i64 (leastTo xs P k) ∧ R wr) (fun _ t _ => xs.length - (intOf t).toNat)
  case atStart => exact ⟨0, Nat.zero_le _, rfl, rfl, hR⟩
  case round =>
    obtain ⟨k, hk, rfl, rfl, hRr⟩ := hrel
    by_cases hlt : k < xs.length
    · obtain ⟨b, o, rfl, _, hc⟩ := (hI.out _ hRr).get hlt
      have hk1 : (k : Int) < xs.length := by omega
      have Hst : Hid (leastTo xs P (k + 1) = if P k = true ∧ (leastTo xs P k < 0 ∨ iget xs k < iget xs (leastTo xs P k).toNat) then (k : Int) else leastTo xs P k) := rfl
      have hrg := leastTo_range xs P k
      obtain ⟨B, eB⟩ : ∃ B, leastTo xs P k = B := ⟨_, rfl⟩
      rw [eB] at Hst hrg ⊢
      clear eB
      go_wp2_with fail
      refine (Hf.out k _ hlt hRr).mono ?_
      rintro e w' ⟨rfl, hR'⟩
      have hx' := hI.out _ hR'
      cases hP : P k with
      | false =>
        have HS : Hid (leastTo xs P (k + 1) = B) := by unfold Hid; rw [Hst.out, if_neg (by simp [hP])]
        clear hP
        go_wp2_with fail
        go_roundw
        case rel => exact ⟨k + 1, by omega, by go_num, by rw [HS.out], hR'⟩
        case measure => (simp [intOf] <;> omega)
      | true =>
        by_cases hneg : B < 0
        · have hd : decide (B < 0) = true := by simpa using hneg
          have HS : Hid (leastTo xs P (k + 1) = k) := by unfold Hid; rw [Hst.out, if_pos ⟨hP, .inl hneg⟩]
          clear hP hneg
          go_wp2_with fail
          go_roundw
          case rel => exact ⟨k + 1, by omega, by go_num, by rw [HS.out], hR'⟩
          case measure => (simp [intOf] <;> omega)
        · have hd : decide (B < 0) = false := by simpa using hneg
          obtain ⟨m, rfl⟩ : ∃ m : Nat, B = m := ⟨B.toNat, by omega⟩
          have hm : m < xs.length := by omega
          have hm1 : (m : Int) < xs.length := by omega
          have hcm := hx'.at hm
          rw [Int.toNat_natCast] at Hst
          cases hlt2 : decide (iget xs k < iget xs m) with
          | true =>
            have HS : Hid (leastTo xs P (k + 1) = k) := by unfold Hid; rw [Hst.out, if_pos ⟨hP, .inr (of_decide_eq_true hlt2)⟩]
            clear hP hneg
            go_wp2_with fail
            go_roundw
            case rel => exact ⟨k + 1, by omega, by go_num, by rw [HS.out], hR'⟩
            case measure => (simp [intOf] <;> omega)
          | false =>
            have HS : Hid (leastTo xs P (k + 1) = m) := by unfold Hid; rw [Hst.out, if_neg (by rintro ⟨_, h | h⟩; exact hneg h; simp at hlt2; omega)]
            clear hP hneg
            go_wp2_with fail
            go_roundw
            case rel => exact ⟨k + 1, by omega, by go_num, by rw [HS.out], hR'⟩
            case measure => (simp [intOf] <;> omega)
    · have hk1 : ¬ (k : Int) < xs.length := by omega
      obtain rfl : k = xs.length := by omega
      go_wp2_with fail
      go_ret
      exact ⟨rfl, hRr⟩
end Go.Proofs.Ytiohehofnlmenaa
