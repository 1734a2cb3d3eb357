/- The walk of alive (robin): the chapter's examples hold; no condition. -/
import Derived.Test.YtfagapcihacgkaaRobinS
namespace Go.Proofs.Ytfagapcihacgkaa
set_option linter.unusedVariables false
set_option linter.unusedSimpArgs false
open Go.ChangeShapes Go.WideShapes Go.ChangeAt Go.RowKit Go.Deep

set_option maxHeartbeats 4000000 in
set_option maxRecDepth 100000 in
theorem alive18_any (w : World) : Calls Try.prog 24 #[] w fun e w' => e = .returned (.bool true) ∧ Below w.heap.size w w' := by
  go_enter Try.func24, Try.ntmps24
  have hS := St.start w
  go_wp2_with fail
  refine (given18_any _).mono ?_
  rintro e w1 ⟨p1, c1, rfl, hM, hb⟩
  replace hS := hS.step hb
  replace hS := hS.addM rfl hM
  clear hb hM
  replace hS := hS.lit [0, 1, 0] 3
  go_wp2_with fail
  refine (pick_e (a := [0, 1, 0]) (k := [0, 1, 2]) (e := 0) (by decide +kernel) (by decide +kernel) (by decide +kernel) (hS.matAt 1 rfl) (hS.intsAt 0 rfl)).mono ?_
  rintro e w2 ⟨pa, ca, pk, ck, rfl, hA, hK, hb⟩
  replace hS := hS.step hb
  replace hS := hS.addI rfl hA
  replace hS := hS.addI rfl hK
  clear hb hA hK
  go_wp2_with fail
  refine (given18_any _).mono ?_
  rintro e w3 ⟨p1, c1, rfl, hM, hb⟩
  replace hS := hS.step hb
  replace hS := hS.addM rfl hM
  clear hb hM
  replace hS := hS.lit [1, 0, 0] 3
  go_wp2_with fail
  refine (pick_e (a := [1, 0, 0]) (k := [0, 1, 2]) (e := 0) (by decide +kernel) (by decide +kernel) (by decide +kernel) (hS.matAt 1 rfl) (hS.intsAt 0 rfl)).mono ?_
  rintro e w4 ⟨pb, cb, pl, cl, rfl, hA, hK, hb⟩
  replace hS := hS.step hb
  replace hS := hS.addI rfl hA
  replace hS := hS.addI rfl hK
  clear hb hA hK
  replace hS := hS.lit [1, 0] 2
  go_wp2_with fail
  refine (rounds_e (xs := [1, 0, 1, 0, 1]) (e := 0) (by decide +kernel) (by decide +kernel) (hS.intsAt 0 rfl)).mono ?_
  rintro e w5 ⟨px, cx, rfl, hA, hb⟩
  replace hS := hS.step hb
  replace hS := hS.addI rfl hA
  clear hb hA
  replace hS := hS.lit [1, 0] 2
  go_wp2_with fail
  refine (snake_e (xs := [1, 0, 0, 1, 1]) (e := 0) (by decide +kernel) (by decide +kernel) (hS.intsAt 0 rfl)).mono ?_
  rintro e w6 ⟨py, cy, rfl, hA, hb⟩
  replace hS := hS.step hb
  replace hS := hS.addI rfl hA
  clear hb hA
  replace hS := hS.lit [0, 1, 2] 3
  replace hS := hS.lit [0, 1, 0] 3
  go_wp2_with fail
  refine (sameI_e rfl (hS.intsAt 11 rfl) (hS.intsAt 0 rfl)).mono ?_
  rintro e w7 ⟨rfl, hw⟩
  replace hS := hS.drew hw
  clear hw 
  go_wp2_with fail
  refine (sameI_e rfl (hS.intsAt 10 rfl) (hS.intsAt 1 rfl)).mono ?_
  rintro e w8 ⟨rfl, hw⟩
  replace hS := hS.drew hw
  clear hw 
  replace hS := hS.lit [1, 0, 0] 3
  go_wp2_with fail
  refine (sameI_e rfl (hS.intsAt 8 rfl) (hS.intsAt 0 rfl)).mono ?_
  rintro e w9 ⟨rfl, hw⟩
  replace hS := hS.drew hw
  clear hw 
  go_wp2_with fail
  refine (sameI_e rfl (hS.intsAt 7 rfl) (hS.intsAt 2 rfl)).mono ?_
  rintro e wa ⟨rfl, hw⟩
  replace hS := hS.drew hw
  clear hw 
  replace hS := hS.lit [1, 0, 1, 0, 1] 5
  go_wp2_with fail
  refine (sameI_e rfl (hS.intsAt 6 rfl) (hS.intsAt 0 rfl)).mono ?_
  rintro e wb ⟨rfl, hw⟩
  replace hS := hS.drew hw
  clear hw 
  replace hS := hS.lit [1, 0, 0, 1, 1] 5
  go_wp2_with fail
  refine (sameI_e rfl (hS.intsAt 5 rfl) (hS.intsAt 0 rfl)).mono ?_
  rintro e wc ⟨rfl, hw⟩
  replace hS := hS.drew hw
  clear hw 
  go_wp2_with fail
  go_ret
  exact ⟨rfl, hS.bel⟩
end Go.Proofs.Ytfagapcihacgkaa
