/- The walk of RobinNames: the limits and errors are as they are told; no condition. -/
import Derived.Test.YtfagapcihacgkaaAlive18
import Derived.Test.YtfagapcihacgkaaMkI
import Derived.Deep.RegionWith
import Derived.Deep.DeepCutAuto
namespace Go.Proofs.Ytfagapcihacgkaa
set_option linter.unusedVariables false
set_option linter.unusedSimpArgs false
open Go.ChangeShapes Go.WideShapes Go.ChangeAt Go.RowKit Go.Deep

set_option maxHeartbeats 8000000 in
set_option maxRecDepth 100000 in
theorem names18_walk (w : World) : Calls Try.prog 6 #[] w fun e w' => e = .returned (.bool true) ∧ Below w.heap.size w w' := by
  have mk60 : ∀ W, (Instr.makeSlice 25 (.int .i64 60) (.int .i64 60)).run Try.prog W = .ok (.slice (some ⟨W.heap.size, 0, none⟩) 60 60) (W.alloc (.cells (intCells 60) 3)) := fun W => run_mkI 60 (by omega) W
  have mk61 : ∀ W, (Instr.makeSlice 25 (.int .i64 61) (.int .i64 61)).run Try.prog W = .ok (.slice (some ⟨W.heap.size, 0, none⟩) 61 61) (W.alloc (.cells (intCells 61) 3)) := fun W => run_mkI 61 (by omega) W
  have mk7 : ∀ W, (Instr.makeSlice 25 (.int .i64 7) (.int .i64 7)).run Try.prog W = .ok (.slice (some ⟨W.heap.size, 0, none⟩) 7 7) (W.alloc (.cells (intCells 7) 3)) := fun W => run_mkI 7 (by omega) W
  go_enter Try.func6, Try.ntmps6
  have hS := St.start w
  go_wp2_with fail
  refine (check18_e (e := 2) (by decide +kernel) (Ints.ofNil _)).mono ?_
  rintro e w1 ⟨rfl, hb⟩
  replace hS := hS.step hb
  clear hb 
  go_wp2_with fail
  refine (check18_e (e := 2) (by decide +kernel) (Ints.ofNil _)).mono ?_
  rintro e w2 ⟨rfl, hb⟩
  replace hS := hS.step hb
  clear hb 
  replace hS := hS.mkI 60
  go_wp2_with fail
  refine (check18_e (e := 0) (by decide +kernel) (hS.intsAt 0 rfl)).mono ?_
  rintro e w3 ⟨rfl, hb⟩
  replace hS := hS.step hb
  clear hb 
  replace hS := hS.mkI 61
  go_wp2_with fail
  refine (check18_e (e := 4) (by decide +kernel) (hS.intsAt 0 rfl)).mono ?_
  rintro e w4 ⟨rfl, hb⟩
  replace hS := hS.step hb
  clear hb 
  replace hS := hS.lit [2] 1
  go_wp2_with fail
  refine (check18_e (e := 8) (by decide +kernel) (hS.intsAt 0 rfl)).mono ?_
  rintro e w5 ⟨rfl, hb⟩
  replace hS := hS.step hb
  clear hb 
  replace hS := hS.lit [-1] 1
  go_wp2_with fail
  refine (check18_e (e := 8) (by decide +kernel) (hS.intsAt 0 rfl)).mono ?_
  rintro e w6 ⟨rfl, hb⟩
  replace hS := hS.step hb
  clear hb 
  replace hS := hS.lit [9] 1
  go_wp2_with fail
  refine (pick_e (a := []) (k := []) (e := 8) (by decide +kernel) (by decide +kernel) (by decide +kernel) (Mat.ofNil _) (hS.intsAt 0 rfl)).mono ?_
  rintro e w7 ⟨paw7, caw7, pkw7, ckw7, rfl, hA, hK, hb⟩
  replace hS := hS.step hb
  replace hS := hS.addI rfl hA
  replace hS := hS.addI rfl hK
  clear hb hA hK
  go_wp2_with fail
  refine (given18_any _).mono ?_
  rintro e w8 ⟨pw8, cw8, rfl, hM, hb⟩
  replace hS := hS.step hb
  replace hS := hS.addM rfl hM
  clear hb hM
  replace hS := hS.lit [2] 1
  go_wp2_with fail
  refine (pick_e (a := []) (k := []) (e := 8) (by decide +kernel) (by decide +kernel) (by decide +kernel) (hS.matAt 1 rfl) (hS.intsAt 0 rfl)).mono ?_
  rintro e w9 ⟨paw9, caw9, pkw9, ckw9, rfl, hA, hK, hb⟩
  replace hS := hS.step hb
  replace hS := hS.addI rfl hA
  replace hS := hS.addI rfl hK
  clear hb hA hK
  go_upto_region 4 with (fail)
  obtain ⟨G, hG0, hGs, hG⟩ := hS.frame
  clear hS
  obtain ⟨wq, hwq⟩ : ∃ wq : World, wq = w9 := ⟨_, rfl⟩
  rw [← hwq] at hG0 ⊢
  clear hwq
  go_cut [8, 9, 10] (fun s8 s9 s10 wx => (∃ x, s8 = x) ∧ (∃ x, s9 = x) ∧ s10 = .int .i64 4 ∧ G wx)
  case first =>
    have hB1 : Below wq.heap.size wq wq.drew := below_drewN wq.heap.size wq 1
    have hB2 : Below wq.heap.size wq (wq.alloc (.cells (intCells 61) 3)).drew := ((Below.refl _ wq).alloc (Nat.le_refl _) _).drew
    have hGd := hGs.out _ _ hG0 hB1
    have hGa := hGs.out _ _ hG0 hB2
    have hLa : Ints (wq.alloc (.cells (intCells 61) 3)).drew (some ⟨wq.heap.size, 0, none⟩) 61 (List.replicate 61 0) := (ints_cells wq 61 (by omega)).drewN 1
    have P1 : ∀ (W : World) (p q : Option Addr) (c d : Nat), Mat W p c GV18 → Ints W q d (List.replicate 61 0) → Calls Try.prog 12 #[.agg #[.slice p 2 c], .slice q 61 d] W fun e' w' => ∃ pa ca pk ck, e' = .returned (.tuple #[.slice pa 0 ca, .slice pk 0 ck, .int .i64 4]) ∧ Ints w' pa ca [] ∧ Ints w' pk ck [] ∧ Below W.heap.size W w' :=
      fun W p q c d hx hy => pick_e (a := []) (k := []) (e := 4) (by decide +kernel) (by decide +kernel) (by decide +kernel) hx hy
    have HP := Lib.hid P1
    clear P1
    go_region_with (first
      | (go_at_call 28; (with_reducible refine (given18_any wq.drew).mono ?_); rintro e w3 ⟨pg, cg, rfl, hMg, hbg⟩; have hG3 := hGs.out _ _ hGd hbg)
      | (go_at_call 28; (with_reducible refine (given18_any (wq.alloc (.cells (intCells 61) 3)).drew).mono ?_); rintro e w3 ⟨pg, cg, rfl, hMg, hbg⟩; have hG3 := hGs.out _ _ hGa hbg; have hL3 := hLa.below hbg (Nat.le_refl _))
      | (go_at_call 12; (with_reducible refine (HP.out _ _ _ _ _ hMg hL3).mono ?_); rintro e w4 ⟨_, _, _, _, rfl, _, _, hb4⟩; have hG4 := hGs.out _ _ hG3 hb4)
      | (go_at_call 12; (with_reducible refine (HP.out _ _ _ _ _ (hMg.below ((Below.refl _ w3).alloc (Nat.le_refl _) (.cells (intCells 61) 3)) (Nat.le_refl _)) (ints_cells w3 61 (by omega))).mono ?_); rintro e w4 ⟨_, _, _, _, rfl, _, _, hb4⟩; have hG4 := hGs.out _ _ hG3 (((Below.refl _ w3).alloc (Nat.le_refl _) _).trans (hb4.mono (by simp)))))
    all_goals (go_wp2_with fail; go_meet; exact ⟨⟨_, rfl⟩, ⟨_, rfl⟩, rfl, hG4⟩)
  case rest =>
    obtain ⟨⟨x8, rfl⟩, ⟨x9, rfl⟩, rfl, hGc⟩ := hcut
    have hS := hG.out _ hGc
    clear hG0 hGs hG hGc
    go_wp2_with fail
    refine (given18_any _).mono ?_
    rintro e w10 ⟨pw10, cw10, rfl, hM, hb⟩
    replace hS := hS.step hb
    replace hS := hS.addM rfl hM
    clear hb hM
    replace hS := hS.lit [0, 0, 0, 1, 0] 5
    go_wp2_with fail
    refine (pick_e (a := [0, 0, 0]) (k := [0, 1, 2, -1, -1]) (e := 0) (by decide +kernel) (by decide +kernel) (by decide +kernel) (hS.matAt 1 rfl) (hS.intsAt 0 rfl)).mono ?_
    rintro e w11 ⟨paw11, caw11, pkw11, ckw11, rfl, hA, hK, hb⟩
    replace hS := hS.step hb
    replace hS := hS.addI rfl hA
    replace hS := hS.addI rfl hK
    clear hb hA hK
    go_wp2_with fail
    refine (given18_any _).mono ?_
    rintro e w12 ⟨pw12, cw12, rfl, hM, hb⟩
    replace hS := hS.step hb
    replace hS := hS.addM rfl hM
    clear hb hM
    go_wp2_with fail
    refine (pick_e (a := [-1, -1, -1]) (k := []) (e := 0) (by decide +kernel) (by decide +kernel) (by decide +kernel) (hS.matAt 0 rfl) (Ints.ofNil _)).mono ?_
    rintro e w13 ⟨paw13, caw13, pkw13, ckw13, rfl, hA, hK, hb⟩
    replace hS := hS.step hb
    replace hS := hS.addI rfl hA
    replace hS := hS.addI rfl hK
    clear hb hA hK
    go_wp2_with fail
    refine (rounds_e (xs := []) (e := 8) (by decide +kernel) (by decide +kernel) (Ints.ofNil _)).mono ?_
    rintro e w14 ⟨pw14, cw14, rfl, hA, hb⟩
    replace hS := hS.step hb
    replace hS := hS.addI rfl hA
    clear hb hA
    replace hS := hS.lit [0, 0] 2
    go_wp2_with fail
    refine (rounds_e (xs := []) (e := 8) (by decide +kernel) (by decide +kernel) (hS.intsAt 0 rfl)).mono ?_
    rintro e w15 ⟨pw15, cw15, rfl, hA, hb⟩
    replace hS := hS.step hb
    replace hS := hS.addI rfl hA
    clear hb hA
    replace hS := hS.lit [1] 1
    go_wp2_with fail
    refine (rounds_e (xs := []) (e := 8) (by decide +kernel) (by decide +kernel) (hS.intsAt 0 rfl)).mono ?_
    rintro e w16 ⟨pw16, cw16, rfl, hA, hb⟩
    replace hS := hS.step hb
    replace hS := hS.addI rfl hA
    clear hb hA
    replace hS := hS.lit [0] 1
    go_wp2_with fail
    refine (rounds_e (xs := []) (e := 2) (by decide +kernel) (by decide +kernel) (hS.intsAt 0 rfl)).mono ?_
    rintro e w17 ⟨pw17, cw17, rfl, hA, hb⟩
    replace hS := hS.step hb
    replace hS := hS.addI rfl hA
    clear hb hA
    replace hS := hS.lit [0] 1
    go_wp2_with fail
    refine (snake_e (xs := []) (e := 2) (by decide +kernel) (by decide +kernel) (hS.intsAt 0 rfl)).mono ?_
    rintro e w18 ⟨pw18, cw18, rfl, hA, hb⟩
    replace hS := hS.step hb
    replace hS := hS.addI rfl hA
    clear hb hA
    replace hS := hS.mkI 7
    go_wp2_with fail
    refine (snake_e (xs := []) (e := 4) (by decide +kernel) (by decide +kernel) (hS.intsAt 0 rfl)).mono ?_
    rintro e w19 ⟨pw19, cw19, rfl, hA, hb⟩
    replace hS := hS.step hb
    replace hS := hS.addI rfl hA
    clear hb hA
    replace hS := hS.lit [2, 0, 1] 3
    go_wp2_with fail
    refine (snake_e (xs := [2, 0, 1, 1, 0, 2, 2, 0]) (e := 0) (by decide +kernel) (by decide +kernel) (hS.intsAt 0 rfl)).mono ?_
    rintro e w20 ⟨pw20, cw20, rfl, hA, hb⟩
    replace hS := hS.step hb
    replace hS := hS.addI rfl hA
    clear hb hA
    replace hS := hS.lit [0, 1, 1, 0, 1] 5
    go_wp2_with fail
    refine (bal_e (b := true) (e := 0) (by decide +kernel) (by decide +kernel) (hS.intsAt 0 rfl)).mono ?_
    rintro e w21 ⟨rfl, hb⟩
    replace hS := hS.step hb
    clear hb 
    replace hS := hS.lit [0, 1, 1, 1] 4
    go_wp2_with fail
    refine (bal_e (b := false) (e := 0) (by decide +kernel) (by decide +kernel) (hS.intsAt 0 rfl)).mono ?_
    rintro e w22 ⟨rfl, hb⟩
    replace hS := hS.step hb
    clear hb 
    replace hS := hS.lit [0, 1, 0] 3
    go_wp2_with fail
    refine (bal_e (b := false) (e := 0) (by decide +kernel) (by decide +kernel) (hS.intsAt 0 rfl)).mono ?_
    rintro e w23 ⟨rfl, hb⟩
    replace hS := hS.step hb
    clear hb 
    go_wp2_with fail
    refine (bal_e (b := false) (e := 2) (by decide +kernel) (by decide +kernel) (Ints.ofNil _)).mono ?_
    rintro e w24 ⟨rfl, hb⟩
    replace hS := hS.step hb
    clear hb 
    go_wp2_with fail
    refine (alive18_any _).mono ?_
    rintro e w25 ⟨rfl, hb⟩
    replace hS := hS.step hb
    clear hb 
    replace hS := hS.lit [0, 0, 0] 3
    go_wp2_with fail
    refine (sameI_e rfl (hS.intsAt 21 rfl) (hS.intsAt 0 rfl)).mono ?_
    rintro e w26 ⟨rfl, hw⟩
    replace hS := hS.drew hw
    clear hw 
    replace hS := hS.lit [0, 1, 2, -1, -1] 5
    go_wp2_with fail
    refine (sameI_e rfl (hS.intsAt 21 rfl) (hS.intsAt 0 rfl)).mono ?_
    rintro e w27 ⟨rfl, hw⟩
    replace hS := hS.drew hw
    clear hw 
    replace hS := hS.lit [-1, -1, -1] 3
    go_wp2_with fail
    refine (sameI_e rfl (hS.intsAt 20 rfl) (hS.intsAt 0 rfl)).mono ?_
    rintro e w28 ⟨rfl, hw⟩
    replace hS := hS.drew hw
    clear hw 
    replace hS := hS.lit [2, 0, 1, 1, 0, 2, 2, 0] 8
    go_wp2_with fail
    refine (sameI_e rfl (hS.intsAt 7 rfl) (hS.intsAt 0 rfl)).mono ?_
    rintro e w29 ⟨rfl, hw⟩
    replace hS := hS.drew hw
    clear hw 
    go_wp2_with fail
    go_ret
    exact ⟨rfl, hS.bel⟩
end Go.Proofs.Ytfagapcihacgkaa
