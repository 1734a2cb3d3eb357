/- The walk of slices.Concat at rows of ints. -/
import Derived.Test.YtknincjfcicjfaaGrow
namespace Go.Proofs.Ytknincjfcicjfaa
set_option linter.unusedVariables false
set_option linter.unusedSimpArgs false
open Go.ChangeShapes Go.WideShapes Go.ChangeAt Go.RowKit Go.Deep

/-- The first k rows, one behind the other. -/
def catN (v : List (List Int)) : Nat → List Int
  | 0 => []
  | k + 1 => catN v k ++ rget v k
theorem catN_mono (v : List (List Int)) {a : Nat} : ∀ b, a ≤ b → (catN v a).length ≤ (catN v b).length
  | 0, h => by obtain rfl : a = 0 := by omega
               exact Nat.le_refl _
  | b + 1, h => by
    by_cases e : a = b + 1
    · subst e; exact Nat.le_refl _
    · have := catN_mono v (a := a) b (by omega)
      rw [catN, List.length_append]; omega
theorem catN_row (v : List (List Int)) {k : Nat} (h : k < v.length) : (catN v k).length + (rget v k).length ≤ (catN v v.length).length := by
  have := catN_mono v (a := k + 1) v.length h
  rwa [catN, List.length_append] at this

set_option maxHeartbeats 1600000 in
set_option maxRecDepth 100000 in
theorem concat_any (p : Option Addr) (c : Nat) (v : List (List Int)) (w : World) (hx : Mat w p c v) (hn : (catN v v.length).length ≤ 100000) :
    Calls Try.prog 48 #[.slice p v.length c] w (Gives w (catN v v.length)) := by
  have hl1 := hx.length_le
  have Hrow := Lib.hid (fun k (h : k < v.length) => catN_row v h)
  have Hst : Hid (∀ k, catN v (k + 1) = catN v k ++ rget v k) := fun k => rfl
  have H0 : Hid (catN v 0 = []) := rfl
  go_enter Try.func48, Try.ntmps48
  go_wp2_with fail
  go_loop [3, 11] (fun s t => ∃ k : Nat, k ≤ v.length ∧ t = .int .i64 k ∧ s = .int .i64 ((catN v k).length : Nat)) (fun _ t => v.length - (intOf t).toNat)
  case atStart => exact ⟨0, Nat.zero_le _, rfl, by rw [H0.out]; rfl⟩
  case round =>
    obtain ⟨k, hk, rfl, rfl⟩ := hrel
    by_cases hlt : k < v.length
    · have hk1 : (k : Int) < v.length := by omega
      obtain ⟨b, o, rfl, _, q, d, hc, hi⟩ := hx.get hlt
      have hr := Hrow.out k hlt
      have hS : (catN v (k + 1)).length = (catN v k).length + (rget v k).length := by rw [Hst.out, List.length_append]
      have HS := Lib.hid hS
      obtain ⟨A, eA⟩ : ∃ A, (catN v k).length = A := ⟨_, rfl⟩
      obtain ⟨L, eL⟩ : ∃ L, (rget v k).length = L := ⟨_, rfl⟩
      rw [eL] at hc
      rw [eA, eL] at hr HS
      rw [eA]
      clear hi hS eA eL
      have hd : decide (((A : Int) + (L : Int)) < 0) = false := by rw [decide_eq_false_iff_not]; omega
      go_wp2_with fail
      go_round
      case rel => exact ⟨k + 1, by omega, by go_num, by rw [HS.out]; go_num⟩
      case measure => (simp [intOf] <;> omega)
    · have hk1 : ¬ (k : Int) < v.length := by omega
      obtain rfl : k = v.length := by omega
      have HN := Lib.hid hn
      go_wp2_with fail
      refine (grow0_any _ _ HN.out).mono ?_
      rintro e w1 ⟨p1, c1, rfl, hO1, hb1⟩
      go_wp2_with fail
      go_loopw [6, 27] (fun s t wr => ∃ k : Nat, k ≤ v.length ∧ t = .int .i64 k ∧ (∃ zs qz dz, Hid (zs = catN v k) ∧ s = .slice qz (zs : List Int).length dz ∧ Own wr w.heap.size qz dz zs) ∧ Below w.heap.size w wr) (fun _ t _ => v.length - (intOf t).toNat)
      case atStart => exact ⟨0, Nat.zero_le _, rfl, ⟨[], _, _, rfl, rfl, hO1⟩, hb1⟩
      case round =>
        obtain ⟨k, hk, rfl, ⟨zs, qz, dz, hz, rfl, hO⟩, hbr⟩ := hrel
        by_cases hlt : k < v.length
        · have hk1 : (k : Int) < v.length := by omega
          obtain ⟨b, o, rfl, _, q, d, hc, hi⟩ := (hx.below hbr (Nat.le_refl _)).get hlt
          have hr := Hrow.out k hlt
          have hsz2 := hbr.size
          have hzl : zs.length + (rget v k).length ≤ 1000000 := by rw [hz.out]; omega
          clear hr
          go_wp2_with (at_builtin; refine wpList_app rfl (.tmp 31) (.tmp 32) rfl w.heap.size _ _ _ _ zs (rget v k) rfl rfl hO hi hzl hsz2 ?_; intro p3 c3 w3 u3 hu3 hO3 hg3 hf3)
          go_roundw
          case rel => exact ⟨k + 1, by omega, by go_num, ⟨u3, _, _, by unfold Hid; rw [hu3.out, hz.out, Hst.out], rfl, hO3⟩, hbr.grown hg3 hsz2 (fun k' e => (hO.lt k' e).1)⟩
          case measure => (simp [intOf] <;> omega)
        · have hk1 : ¬ (k : Int) < v.length := by omega
          obtain rfl : k = v.length := by omega
          obtain rfl := hz.out
          go_wp2_with fail
          go_ret
          exact ⟨_, _, rfl, hO, hbr⟩
end Go.Proofs.Ytknincjfcicjfaa
