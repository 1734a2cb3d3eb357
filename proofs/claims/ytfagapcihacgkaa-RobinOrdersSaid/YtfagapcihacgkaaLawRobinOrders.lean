/- The walk of the law RobinOrders: for every first round and number it returns true, and changes nothing that was there. -/
import Derived.Test.YtfagapcihacgkaaRobinG
import Derived.Test.YtfagapcihacgkaaSame
namespace Go.Proofs.Ytfagapcihacgkaa
set_option linter.unusedVariables false
set_option linter.unusedSimpArgs false
open Go.ChangeShapes Go.WideShapes Go.ChangeAt Go.RowKit Go.Deep

set_option maxHeartbeats 4000000 in
set_option maxRecDepth 100000 in
theorem robinOrders_walk (p : Option Addr) (c : Nat) (f : List Int) (n : Int) (w : World) (hx : Ints w p c f) (hn64 : in64 n) :
    Calls Try.prog 4 #[.slice p f.length c, .int .i64 n] w fun e w' => e = .returned (.bool true) ∧ Below w.heap.size w w' := by
  by_cases hL : 100 < f.length
  · have hl : decide (100 < f.length) = true := by simpa using hL
    have Hl := Lib.hid hl
    clear hL hl
    go_enter Try.func4, Try.ntmps4
    go_wp2_with fail
    refine (long_any p c f.length w).mono ?_
    rintro e w2 ⟨rfl, rfl⟩
    rw [Hl.out]
    go_wp2_with fail
    go_ret
    exact ⟨rfl, Below.refl _ _⟩
  have hl : decide (100 < f.length) = false := by simpa using hL
  have hl1 : f.length ≤ 1000000 := by omega
  have Hl := Lib.hid hl
  clear hL hl
  obtain ⟨E, hE⟩ : ∃ x, rndE f n = x := ⟨_, rfl⟩
  obtain ⟨X, hX⟩ : ∃ x, rndL f false n = x := ⟨_, rfl⟩
  obtain ⟨Y, hY⟩ : ∃ x, rndL f true n = x := ⟨_, rfl⟩
  have C1 := Lib.hid (fun W (h : Ints W p c f) => robinRounds_any p c f n W h hl1)
  have C2 := Lib.hid (fun W (h : Ints W p c f) => ref18Rounds_any p c f n W h)
  have C3 := Lib.hid (fun W (h : Ints W p c f) => robinSnake_any p c f n W h hl1)
  have C4 := Lib.hid (fun W (h : Ints W p c f) => ref18Snake_any p c f n W h)
  rw [hE, hX] at C1 C2
  rw [hE, hY] at C3 C4
  clear hE hX hY
  go_enter Try.func4, Try.ntmps4
  go_wp2_with fail
  refine (long_any p c f.length w).mono ?_
  rintro e w2 ⟨rfl, rfl⟩
  rw [Hl.out]
  go_wp2_with fail
  refine (C1.out w2 hx).mono ?_
  rintro e wA ⟨pa, ca, rfl, oA, hb⟩
  have iA := oA.ints
  have hB := hb
  replace hx := hx.below hb (Nat.le_refl _)
  clear hb oA
  go_wp2_with fail
  refine (C2.out wA hx).mono ?_
  rintro e wB ⟨pb, cb, rfl, oB, hb⟩
  have iB := oB.ints
  replace iA := iA.below hb (Nat.le_refl _)
  replace hx := hx.below hb (Nat.le_refl _)
  replace hB := hB.trans (hb.mono hB.size)
  clear hb oB
  go_wp2_with fail
  refine (C3.out wB hx).mono ?_
  rintro e wC ⟨pc, cc, rfl, oC, hb⟩
  have iC := oC.ints
  replace iA := iA.below hb (Nat.le_refl _)
  replace iB := iB.below hb (Nat.le_refl _)
  replace hx := hx.below hb (Nat.le_refl _)
  replace hB := hB.trans (hb.mono hB.size)
  clear hb oC
  go_wp2_with fail
  refine (C4.out wC hx).mono ?_
  rintro e wD ⟨pd, cd, rfl, oD, hb⟩
  have iD := oD.ints
  replace iA := iA.below hb (Nat.le_refl _)
  replace iB := iB.below hb (Nat.le_refl _)
  replace iC := iC.below hb (Nat.le_refl _)
  replace hB := hB.trans (hb.mono hB.size)
  clear hb oD
  go_wp2_with fail
  refine (eqI_true iA iB).mono ?_
  rintro e wE ⟨rfl, hw⟩
  replace iC := iC.drew hw
  replace iD := iD.drew hw
  replace hB := hB.drewP hw
  clear hw
  go_wp2_with fail
  refine (eqI_true iC iD).mono ?_
  rintro e wF ⟨rfl, hw⟩
  replace hB := hB.drewP hw
  clear hw
  go_wp2_with fail
  go_ret
  exact ⟨rfl, hB⟩
end Go.Proofs.Ytfagapcihacgkaa
