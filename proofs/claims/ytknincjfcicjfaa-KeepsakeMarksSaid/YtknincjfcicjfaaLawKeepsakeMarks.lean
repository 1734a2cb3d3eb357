/- The walk of the law KeepsakeMarks: for every number and markers it returns true, and changes nothing that was there.  (Printed by wip/genmarks.py.) -/
import Derived.Test.YtknincjfcicjfaaKeepG
import Derived.Test.YtknincjfcicjfaaSame25
namespace Go.Proofs.Ytknincjfcicjfaa
set_option linter.unusedVariables false
set_option linter.unusedSimpArgs false
open Go.ChangeShapes Go.WideShapes Go.ChangeAt Go.RowKit Go.Deep

set_option maxHeartbeats 4000000 in
set_option maxRecDepth 100000 in
theorem keepsakeMarks_walk (m : Int) (p : Option Addr) (c : Nat) (v : List (List Int)) (w : World) (hm64 : in64 m) (hx : Mat w p c v) :
    Calls Try.prog 3 #[.int .i64 m, .slice p v.length c] w fun e w' => e = .returned (.bool true) ∧ Below w.heap.size w w' := by
  by_cases h20 : 20 < v.length
  · have hd : decide (20 < (v.length : Int)) = true := by rw [decide_eq_true_iff]; omega
    clear h20
    go_enter Try.func3, Try.ntmps3
    go_wp2_with fail
    go_ret
    exact ⟨rfl, Below.refl _ _⟩
  have hd : decide (20 < (v.length : Int)) = false := by rw [decide_eq_false_iff_not]; omega
  have H1 := Lib.hid (fun W h => keepRoundsTop_any m p c v W hm64 h)
  have H2 := Lib.hid (fun W h => ref29RoundsTop_any m p c v W hm64 h)
  have H3 := Lib.hid (fun W h => keepGive_any m p c v W hm64 h)
  have H4 := Lib.hid (fun W h => ref29Give_any m p c v W hm64 h)
  have H5 := Lib.hid (fun W h => keepCheck_any m p c v W hm64 h)
  have H6 := Lib.hid (fun W h => ref29Check_any m p c v W hm64 h)
  obtain ⟨E, hE⟩ : ∃ x, chkM m v = x := ⟨_, rfl⟩
  obtain ⟨X, hX⟩ : ∃ x, rndsL m v = x := ⟨_, rfl⟩
  obtain ⟨Y, hY⟩ : ∃ x, givL m v = x := ⟨_, rfl⟩
  rw [hE, hX] at H1 H2
  rw [hE, hY] at H3 H4
  rw [hE] at H5 H6
  clear hE hX hY h20
  have hB : Below w.heap.size w w := Below.refl _ _
  go_enter Try.func3, Try.ntmps3
  go_wp2_with fail
  refine (H1.out _ hx).mono ?_
  rintro e w1 ⟨p1, c1, rfl, o1, hb⟩
  replace hx := hx.below hb (Nat.le_refl _)
  replace hB := hB.trans (hb.mono hB.size)
  clear hb
  have i1 := o1.ints
  clear o1
  go_wp2_with fail
  refine (H2.out _ hx).mono ?_
  rintro e w2 ⟨p2, c2, rfl, o2, hb⟩
  replace hx := hx.below hb (Nat.le_refl _)
  replace i1 := i1.below hb (Nat.le_refl _)
  replace hB := hB.trans (hb.mono hB.size)
  clear hb
  have i2 := o2.ints
  clear o2
  go_wp2_with fail
  refine (H3.out _ hx).mono ?_
  rintro e w3 ⟨p3, c3, rfl, o3, hb⟩
  replace hx := hx.below hb (Nat.le_refl _)
  replace i1 := i1.below hb (Nat.le_refl _)
  replace i2 := i2.below hb (Nat.le_refl _)
  replace hB := hB.trans (hb.mono hB.size)
  clear hb
  have i3 := o3.ints
  clear o3
  go_wp2_with fail
  refine (H4.out _ hx).mono ?_
  rintro e w4 ⟨p4, c4, rfl, o4, hb⟩
  replace hx := hx.below hb (Nat.le_refl _)
  replace i1 := i1.below hb (Nat.le_refl _)
  replace i2 := i2.below hb (Nat.le_refl _)
  replace i3 := i3.below hb (Nat.le_refl _)
  replace hB := hB.trans (hb.mono hB.size)
  clear hb
  have i4 := o4.ints
  clear o4
  go_wp2_with fail
  refine (H5.out _ hx).mono ?_
  rintro e w5 ⟨rfl, rfl⟩
  go_wp2_with fail
  refine (H6.out _ hx).mono ?_
  rintro e w6 ⟨rfl, hw⟩
  have hb : Below _ _ _ := drew_below25 hw
  replace hx := hx.below hb (Nat.le_refl _)
  replace i1 := i1.below hb (Nat.le_refl _)
  replace i2 := i2.below hb (Nat.le_refl _)
  replace i3 := i3.below hb (Nat.le_refl _)
  replace i4 := i4.below hb (Nat.le_refl _)
  replace hB := hB.trans (hb.mono hB.size)
  clear hb hw
  go_wp2_with fail
  refine (eq25_true i1 i2).mono ?_
  rintro e w7 ⟨rfl, hw⟩
  have hb : Below _ _ _ := drew_below25 hw
  replace hx := hx.below hb (Nat.le_refl _)
  replace i1 := i1.below hb (Nat.le_refl _)
  replace i2 := i2.below hb (Nat.le_refl _)
  replace i3 := i3.below hb (Nat.le_refl _)
  replace i4 := i4.below hb (Nat.le_refl _)
  replace hB := hB.trans (hb.mono hB.size)
  clear hb hw
  go_wp2_with fail
  refine (eq25_true i3 i4).mono ?_
  rintro e w8 ⟨rfl, hw⟩
  have hb : Below _ _ _ := drew_below25 hw
  replace hx := hx.below hb (Nat.le_refl _)
  replace i1 := i1.below hb (Nat.le_refl _)
  replace i2 := i2.below hb (Nat.le_refl _)
  replace i3 := i3.below hb (Nat.le_refl _)
  replace i4 := i4.below hb (Nat.le_refl _)
  replace hB := hB.trans (hb.mono hB.size)
  clear hb hw
  go_wp2_with fail
  go_ret
  exact ⟨rfl, hB⟩
end Go.Proofs.Ytknincjfcicjfaa
