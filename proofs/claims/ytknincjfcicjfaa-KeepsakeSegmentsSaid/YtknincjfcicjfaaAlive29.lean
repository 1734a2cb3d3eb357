/- The walk of alive (keepsake): the chapter's examples hold; no condition.  (Printed by wip/genalive29.py.) -/
import Derived.Test.YtknincjfcicjfaaKeepE
namespace Go.Proofs.Ytknincjfcicjfaa
set_option linter.unusedVariables false
set_option linter.unusedSimpArgs false
open Go.ChangeShapes Go.WideShapes Go.ChangeAt Go.RowKit Go.Deep

set_option maxHeartbeats 4000000 in
set_option maxRecDepth 100000 in
theorem alive29_any (w : World) : Calls Try.prog 24 #[] w fun e w' => e = .returned (.bool true) ∧ Below w.heap.size w w' := by
  go_enter Try.func24, Try.ntmps24
  have hS := St.start w
  replace hS := hS.lit [2] 1
  replace hS := hS.lit [3] 1
  replace hS := hS.litM (ks := [1, 0]) (.cons rfl (.cons rfl .nil)) 2
  go_wp2_with fail
  refine (give29_e (xs := [0, 0, -1, 1]) (e := 0) (by decide +kernel) (by decide +kernel) (hS.matAt 0 rfl)).mono ?_
  rintro e w1 ⟨p1, c1, rfl, hA, hb⟩
  replace hS := hS.step hb
  replace hS := hS.addI rfl hA
  clear hb hA
  replace hS := hS.lit [0, 1, 2, 3] 4
  replace hS := hS.lit [0, 1, 2, 3] 4
  replace hS := hS.litM (ks := [1, 0]) (.cons rfl (.cons rfl .nil)) 2
  replace hS := hS.lit [1, 0] 2
  go_wp2_with fail
  refine (turns29_e (xs := [0, 0, 1, 1]) (e := 0) (by decide +kernel) (by decide +kernel) (hS.intsAt 4 rfl) (hS.intsAt 0 rfl) (hS.matAt 1 rfl)).mono ?_
  rintro e w2 ⟨p2, c2, rfl, hA, hb⟩
  replace hS := hS.step hb
  replace hS := hS.addI rfl hA
  clear hb hA
  go_wp2_with fail
  refine (trade29_e (e := 6) (exV_no (by decide +kernel)) (by decide +kernel) (hS.intsAt 0 rfl) (hS.matAt 2 rfl)).mono ?_
  rintro e w3 ⟨rfl, hb⟩
  replace hS := hS.step hb
  clear hb 
  replace hS := hS.box [.int .i64 0, .int .i64 0, .int .i64 0, .int .i64 0] 37
  replace hS := hS.lit [3, 2, 1, 0] 4
  replace hS := hS.lit [0, 1, 2, 3] 4
  replace hS := hS.litM (ks := [1, 0]) (.cons rfl (.cons rfl .nil)) 2
  go_wp2_with fail
  refine (trade29_e (e := 0) (exV_of (i := 0) (j := 1) (x := 0) (y := 2) (by decide +kernel)) (by decide +kernel) (hS.intsAt 4 rfl) (hS.matAt 0 rfl)).mono ?_
  rintro e w4 ⟨rfl, hb⟩
  replace hS := hS.step hb
  clear hb 
  replace hS := hS.box [.int .i64 0, .int .i64 1, .int .i64 0, .int .i64 2] 37
  replace hS := hS.lit [0, 0, -1, 1] 4
  go_wp2_with fail
  refine (same25_e rfl (hS.intsAt 11 rfl) (hS.intsAt 0 rfl)).mono ?_
  rintro e w5 ⟨rfl, hw⟩
  replace hS := hS.drew hw
  clear hw 
  replace hS := hS.lit [0, 0, 1, 1] 4
  go_wp2_with fail
  refine (same25_e rfl (hS.intsAt 7 rfl) (hS.intsAt 0 rfl)).mono ?_
  rintro e w6 ⟨rfl, hw⟩
  replace hS := hS.drew hw
  clear hw 
  have kt2_0 := hS.boxAt 2 0 rfl rfl
  have kt2_1 := hS.boxAt 2 1 rfl rfl
  have kt2_2 := hS.boxAt 2 2 rfl rfl
  have kt2_3 := hS.boxAt 2 3 rfl rfl
  have lt2 := hS.boxLt 2 rfl
  go_wp2_with fail
  go_ret
  exact ⟨rfl, hS.bel⟩
end Go.Proofs.Ytknincjfcicjfaa
