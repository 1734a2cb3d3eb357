/- RentNames: for every input the law returns true, and each argument reads as it read before; no condition. -/
import Derived.Test.YtllcbcanohdepaaTopRentNamesm28
import Derived.Test.YtllcbcanohdepaaTopRentNamesm24
import Derived.Deep.RegionHeld3
import Derived.BigQuiet
import Derived.ChangeOld
/- The walk of RentNames: the errors and the examples are as they are told; no condition.  (Printed by wip/gennames15.py.) -/
namespace Go.Proofs.Ytllcbcanohdepaa
set_option linter.unusedVariables false
set_option linter.unusedSimpArgs false
open Go.ChangeShapes Go.WideShapes Go.ChangeAt Go.RowKit Go.Deep

/-- 'make([][]int, n)' at a numeral, run wherever it stands. -/
theorem run_mkM (n : Nat) (hn : n ≤ 100000) (W : World) : (Instr.makeSlice 22 (.int .i64 (n : Int)) (.int .i64 (n : Int))).run Try.prog W = .ok (.slice (some ⟨W.heap.size, 0, none⟩) n n) (W.alloc (.cells (List.replicate n (.slice none 0 0)).toArray 25)) := by
  obtain ⟨i, hi, hz0, hz1, hz2⟩ := info_parts infoRow
  have hrun := run_make (P := Try.prog) W 22 25 i (.slice none 0 0) Try.underlying22 hi hz0 .i64 .i64 (n : Int) (n : Int) (by omega) (by omega) (by rw [hz2]; omega) (by omega)
  rw [hz1] at hrun
  simp only [Int.toNat_natCast] at hrun
  have hcs : madeCells (Value.slice none 0 0).cells (n * 1) = (List.replicate n (Value.slice none 0 0)).toArray := by
    apply Array.toList_inj.1
    rw [Nat.mul_one]
    exact (toList_madeCells_one _ _).trans (by simp)
  rw [hcs] at hrun
  exact hrun
theorem lea_bad {v : List (List Int)} {r : Int} {g : List Int} (h : chkR v r ≠ 0) : bestI v r = [] ∧ leaY v r g = [] ∧ leaZ v r g = 0 := by
  unfold bestI leaY leaZ; rw [if_neg h, if_neg h, if_neg h]; exact ⟨rfl, rfl, rfl⟩
theorem stake_off {v : List (List Int)} {r g : Int} (h : chkR v r = 0) (hg : ¬ (0 ≤ g ∧ g < v.length)) : skLo v r g = .agg #[.int .i64 0, .int .i64 0] ∧ skHi v r g = .agg #[.int .i64 0, .int .i64 0] ∧ skE v r g = 2 := sk_off h hg
theorem stake_bad {v : List (List Int)} {r g e : Int} (h : chkR v r = e) (he : e ≠ 0) : skLo v r g = .agg #[.int .i64 0, .int .i64 0] ∧ skHi v r g = .agg #[.int .i64 0, .int .i64 0] ∧ skE v r g = e := by
  have := sk_bad (v := v) (r := r) (g := g) (by rw [h]; exact he)
  rw [h] at this; exact this
def TV15 : List (List Int) := [[3, 0, 0], [0, 0, 0], [0, 0, 0]]
theorem tv15_best : IsBest TV15 [0, 1, 2] := isBest_of_chk (by decide +kernel)
theorem tv15_chk : chkR TV15 0 = 0 := by decide +kernel
theorem tv15_fair : bestI TV15 0 = [0, 1, 2] ∧ leaY TV15 0 (fairG TV15) = [2, -1, -1] ∧ leaZ TV15 0 (fairG TV15) = (1 : Nat) := fair_e tv15_best (by decide) tv15_chk (by rfl) (by decide +kernel) (by decide +kernel)
theorem tv15_calm : bestI TV15 0 = [0, 1, 2] ∧ leaY TV15 0 (calmG TV15) = [2, -1, -1] ∧ leaZ TV15 0 (calmG TV15) = 1 := calm_e tv15_best (by decide) tv15_chk (by rfl) (by decide +kernel) (by decide +kernel)
theorem tv15_worst : wLo TV15 0 [0, 1, 2] [2, -1, -1] (1 : Nat) = .agg #[.int .i64 1, .int .i64 1] ∧ wHi TV15 0 [0, 1, 2] [2, -1, -1] (1 : Nat) = .agg #[.int .i64 1, .int .i64 1] ∧ vldR TV15 0 [0, 1, 2] [2, -1, -1] (1 : Nat) = 0 :=
  worst_e (by decide +kernel) (by decide +kernel) (by decide +kernel) (by decide +kernel) (by decide +kernel)
theorem tv15_stake : skLo TV15 0 (0 : Nat) = .agg #[.int .i64 1, .int .i64 1] ∧ skHi TV15 0 (0 : Nat) = .agg #[.int .i64 3, .int .i64 1] ∧ skE TV15 0 (0 : Nat) = 0 :=
  stake_e tv15_best (by decide) tv15_chk (by decide) (by decide +kernel) (by decide +kernel) (by decide +kernel) (by decide +kernel)
def OV15 : List (List Int) := [[7]]
theorem ov15_best : IsBest OV15 [0] := isBest_of_chk (by decide +kernel)
theorem ov15_chk : chkR OV15 9 = 0 := by decide +kernel
theorem ov15_fair : bestI OV15 9 = [0] ∧ leaY OV15 9 (fairG OV15) = [9] ∧ leaZ OV15 9 (fairG OV15) = 1 := fair_e ov15_best (by decide) ov15_chk (by rfl) (by decide +kernel) (by decide +kernel)
theorem ov15_worst : wLo OV15 9 [0] [9] (1 : Nat) = .agg #[.int .i64 (-2), .int .i64 1] ∧ wHi OV15 9 [0] [9] (1 : Nat) = .agg #[.int .i64 (-2), .int .i64 1] ∧ vldR OV15 9 [0] [9] (1 : Nat) = 0 :=
  worst_e (by decide +kernel) (by decide +kernel) (by decide +kernel) (by decide +kernel) (by decide +kernel)
set_option maxHeartbeats 16000000 in
set_option maxRecDepth 100000 in
theorem rentNames_walk (w : World) : Calls Try.prog 3 #[] w fun e w' => e = .returned (.bool true) ∧ Below w.heap.size w w' := by
  have mk7 : ∀ W, (Instr.makeSlice 22 (.int .i64 7) (.int .i64 7)).run Try.prog W = .ok (.slice (some ⟨W.heap.size, 0, none⟩) 7 7) (W.alloc (.cells (List.replicate 7 (.slice none 0 0)).toArray 25)) := fun W => run_mkM 7 (by omega) W
  go_enter Try.func3, Try.ntmps3
  have hS := St.start w
  replace hS := hS.box [.slice none 0 0, .int .i64 0] 24
  have knone_0 := hS.boxAt 0 0 rfl rfl
  have knone_1 := hS.boxAt 0 1 rfl rfl
  have lnone := hS.boxLt 0 rfl
  go_wp2_with fail
  refine (rentFair_e (v := []) (r := 0) (e := 8) (lea_bad (by decide)) (by decide +kernel) (Mat.ofNil _)).mono ?_
  rintro e w1 ⟨paw1, caw1, ppw1, cpw1, rfl, hA, hP, hb⟩
  replace hS := hS.step hb
  replace hS := hS.addI rfl hA
  replace hS := hS.addI rfl hP
  clear hb hA hP
  clear knone_0 knone_1 lnone
  replace hS := hS.box [.slice paw1 0 caw1, .slice ppw1 0 cpw1, .int .i64 0] 27
  replace hS := hS.mkM 7
  go_wp2_with fail
  refine (rentCalm_e (v := List.replicate 7 []) (r := 0) (e := 4) (lea_bad (by decide)) (by decide +kernel) (hS.matAt 0 rfl)).mono ?_
  rintro e w2 ⟨paw2, caw2, ppw2, cpw2, rfl, hA, hP, hb⟩
  replace hS := hS.step hb
  replace hS := hS.addI rfl hA
  replace hS := hS.addI rfl hP
  clear hb hA hP
  replace hS := hS.box [.slice paw2 0 caw2, .slice ppw2 0 cpw2, .int .i64 0] 27
  go_wp2_with fail
  refine (given15_any _).mono ?_
  rintro e w3 ⟨pw3, cw3, rfl, hM, hb⟩
  replace hS := hS.step hb
  replace hS := hS.addM rfl hM
  clear hb hM
  go_wp2_with fail
  refine (rentWorst_e (v := GV15) (r := 5) (al := []) (ps := []) (z := 0) (worst_off (e := 8) (by decide +kernel) (by decide)) (hS.matAt 0 rfl) (Ints.ofNil _) (Ints.ofNil _)).mono ?_
  rintro e w4 ⟨rfl, hb⟩
  replace hS := hS.step hb
  clear hb 
  replace hS := hS.box [.int .i64 0, .int .i64 0] 32
  replace hS := hS.box [.int .i64 0, .int .i64 0] 32
  go_wp2_with fail
  refine (given15_any _).mono ?_
  rintro e w5 ⟨pw5, cw5, rfl, hM, hb⟩
  replace hS := hS.step hb
  replace hS := hS.addM rfl hM
  clear hb hM
  go_wp2_with fail
  refine (rentStake_e (g := 2) (stake_off gv15_chk (by decide)) (hS.matAt 0 rfl)).mono ?_
  rintro e w6 ⟨rfl, hb⟩
  replace hS := hS.step hb
  clear hb 
  replace hS := hS.box [.int .i64 0, .int .i64 0] 32
  replace hS := hS.box [.int .i64 0, .int .i64 0] 32
  go_wp2_with fail
  refine (given15_any _).mono ?_
  rintro e w7 ⟨pw7, cw7, rfl, hM, hb⟩
  replace hS := hS.step hb
  replace hS := hS.addM rfl hM
  clear hb hM
  go_wp2_with fail
  refine (rentStake_e (g := -1) (stake_off gv15_chk (by decide)) (hS.matAt 0 rfl)).mono ?_
  rintro e w8 ⟨rfl, hb⟩
  replace hS := hS.step hb
  clear hb 
  replace hS := hS.box [.int .i64 0, .int .i64 0] 32
  replace hS := hS.box [.int .i64 0, .int .i64 0] 32
  have knone_0 := hS.boxAt 16 0 rfl rfl
  have knone_1 := hS.boxAt 16 1 rfl rfl
  have lnone := hS.boxLt 16 rfl
  go_wp2_with fail
  refine (rentStake_e (v := []) (r := 0) (g := 9) (stake_bad (e := 8) (by decide +kernel) (by decide)) (Mat.ofNil _)).mono ?_
  rintro e w9 ⟨rfl, hb⟩
  replace hS := hS.step hb
  clear hb 
  clear knone_0 knone_1 lnone
  replace hS := hS.box [.int .i64 0, .int .i64 0] 32
  replace hS := hS.box [.int .i64 0, .int .i64 0] 32
  replace hS := hS.lit [3, 0, 0] 3
  replace hS := hS.lit [0, 0, 0] 3
  replace hS := hS.lit [0, 0, 0] 3
  replace hS := hS.litM (ks := [2, 1, 0]) (.cons rfl (.cons rfl (.cons rfl .nil))) 3
  skip
  have hmm := hS.matAt 0 rfl
  replace hS := hS.box [.slice (some ⟨w9.heap.size + 1 + 1 + 1 + 1 + 1, 0, none⟩) 3 3, .int .i64 0] 24
  clear hmm
  have kr_0 := hS.boxAt 0 0 rfl rfl
  have kr_1 := hS.boxAt 0 1 rfl rfl
  have lr := hS.boxLt 0 rfl
  go_wp2_with fail
  refine (rentFair_e tv15_fair tv15_chk (hS.matAt 1 rfl)).mono ?_
  rintro e w14 ⟨paw14, caw14, ppw14, cpw14, rfl, hA, hP, hb⟩
  replace hS := hS.step hb
  replace hS := hS.addI rfl hA
  replace hS := hS.addI rfl hP
  clear hb hA hP
  clear kr_0 kr_1 lr
  replace hS := hS.box [.slice paw14 3 caw14, .slice ppw14 3 cpw14, .int .i64 1] 27
  have kr_0 := hS.boxAt 3 0 rfl rfl
  have kr_1 := hS.boxAt 3 1 rfl rfl
  have lr := hS.boxLt 3 rfl
  go_wp2_with fail
  refine (rentCalm_e tv15_calm tv15_chk (hS.matAt 4 rfl)).mono ?_
  rintro e w15 ⟨paw15, caw15, ppw15, cpw15, rfl, hA, hP, hb⟩
  replace hS := hS.step hb
  replace hS := hS.addI rfl hA
  replace hS := hS.addI rfl hP
  clear hb hA hP
  clear kr_0 kr_1 lr
  replace hS := hS.box [.slice paw15 3 caw15, .slice ppw15 3 cpw15, .int .i64 1] 27
  have kr_0 := hS.boxAt 6 0 rfl rfl
  have kr_1 := hS.boxAt 6 1 rfl rfl
  have lr := hS.boxLt 6 rfl
  have kew14_0 := hS.boxAt 3 0 rfl rfl
  have kew14_1 := hS.boxAt 3 1 rfl rfl
  have kew14_2 := hS.boxAt 3 2 rfl rfl
  have lew14 := hS.boxLt 3 rfl
  go_wp2_with fail
  refine (rentWorst_e tv15_worst (hS.matAt 7 rfl) (hS.intsAt 5 rfl) (hS.intsAt 4 rfl)).mono ?_
  rintro e w16 ⟨rfl, hb⟩
  replace hS := hS.step hb
  clear hb 
  clear kr_0 kr_1 lr kew14_0 kew14_1 kew14_2 lew14
  replace hS := hS.box [.int .i64 1, .int .i64 1] 32
  replace hS := hS.box [.int .i64 1, .int .i64 1] 32
  have kr_0 := hS.boxAt 8 0 rfl rfl
  have kr_1 := hS.boxAt 8 1 rfl rfl
  have lr := hS.boxLt 8 rfl
  go_wp2_with fail
  refine (rentStake_e tv15_stake (hS.matAt 9 rfl)).mono ?_
  rintro e w17 ⟨rfl, hb⟩
  replace hS := hS.step hb
  clear hb 
  clear kr_0 kr_1 lr
  replace hS := hS.box [.int .i64 1, .int .i64 1] 32
  replace hS := hS.box [.int .i64 3, .int .i64 1] 32
  replace hS := hS.lit [7] 1
  replace hS := hS.litM (ks := [0]) (.cons rfl .nil) 1
  go_wp2_with fail
  refine (rentFair_e ov15_fair ov15_chk (hS.matAt 0 rfl)).mono ?_
  rintro e w20 ⟨paw20, caw20, ppw20, cpw20, rfl, hA, hP, hb⟩
  replace hS := hS.step hb
  replace hS := hS.addI rfl hA
  replace hS := hS.addI rfl hP
  clear hb hA hP
  replace hS := hS.box [.slice paw20 1 caw20, .slice ppw20 1 cpw20, .int .i64 1] 27
  have kew20_0 := hS.boxAt 0 0 rfl rfl
  have kew20_1 := hS.boxAt 0 1 rfl rfl
  have kew20_2 := hS.boxAt 0 2 rfl rfl
  have lew20 := hS.boxLt 0 rfl
  replace hS := hS.lit [7] 1
  replace hS := hS.litM (ks := [0]) (.cons rfl .nil) 1
  go_wp2_with fail
  refine (rentWorst_e ov15_worst (hS.matAt 0 rfl) (hS.intsAt 4 rfl) (hS.intsAt 3 rfl)).mono ?_
  rintro e w23 ⟨rfl, hb⟩
  replace hS := hS.step hb
  clear hb 
  clear kew20_0 kew20_1 kew20_2 lew20
  replace hS := hS.box [.int .i64 (-2), .int .i64 1] 32
  replace hS := hS.box [.int .i64 (-2), .int .i64 1] 32
  go_wp2_with fail
  refine (alive15_any _).mono ?_
  rintro e w24 ⟨rfl, hb⟩
  replace hS := hS.step hb
  clear hb 
  have kew14_0 := hS.boxAt 16 0 rfl rfl
  have kew14_1 := hS.boxAt 16 1 rfl rfl
  have kew14_2 := hS.boxAt 16 2 rfl rfl
  have lew14 := hS.boxLt 16 rfl
  replace hS := hS.lit [0, 1, 2] 3
  replace hS := hS.lit [2, -1, -1] 3
  go_wp2_with fail
  refine (sameLease_true rfl rfl rfl rfl rfl rfl rfl (hS.intsAt 20 rfl) (hS.intsAt 19 rfl) (hS.intsAt 1 rfl) (hS.intsAt 0 rfl)).mono ?_
  rintro e w27 ⟨rfl, hb⟩
  replace hS := hS.step hb
  clear hb 
  clear kew14_0 kew14_1 kew14_2 lew14
  have kew14_0 := hS.boxAt 18 0 rfl rfl
  have kew14_1 := hS.boxAt 18 1 rfl rfl
  have kew14_2 := hS.boxAt 18 2 rfl rfl
  have lew14 := hS.boxLt 18 rfl
  have kew15_0 := hS.boxAt 15 0 rfl rfl
  have kew15_1 := hS.boxAt 15 1 rfl rfl
  have kew15_2 := hS.boxAt 15 2 rfl rfl
  have lew15 := hS.boxLt 15 rfl
  go_wp2_with fail
  refine (sameLease_true rfl rfl rfl rfl rfl rfl rfl (hS.intsAt 20 rfl) (hS.intsAt 19 rfl) (hS.intsAt 17 rfl) (hS.intsAt 16 rfl)).mono ?_
  rintro e w28 ⟨rfl, hb⟩
  replace hS := hS.step hb
  clear hb 
  clear kew14_0 kew14_1 kew14_2 lew14 kew15_0 kew15_1 kew15_2 lew15
  have kew20_0 := hS.boxAt 6 0 rfl rfl
  have kew20_1 := hS.boxAt 6 1 rfl rfl
  have kew20_2 := hS.boxAt 6 2 rfl rfl
  have lew20 := hS.boxLt 6 rfl
  have klow_0 := hS.boxAt 14 0 rfl rfl
  have klow_1 := hS.boxAt 14 1 rfl rfl
  have llow := hS.boxLt 14 rfl
  have khiw_0 := hS.boxAt 13 0 rfl rfl
  have khiw_1 := hS.boxAt 13 1 rfl rfl
  have lhiw := hS.boxLt 13 rfl
  have klos_0 := hS.boxAt 12 0 rfl rfl
  have klos_1 := hS.boxAt 12 1 rfl rfl
  have llos := hS.boxLt 12 rfl
  have khis_0 := hS.boxAt 11 0 rfl rfl
  have khis_1 := hS.boxAt 11 1 rfl rfl
  have lhis := hS.boxLt 11 rfl
  replace hS := hS.lit [0] 1
  replace hS := hS.lit [9] 1
  go_wp2_with fail
  refine (sameLease_true rfl rfl rfl rfl rfl rfl rfl (hS.intsAt 10 rfl) (hS.intsAt 9 rfl) (hS.intsAt 1 rfl) (hS.intsAt 0 rfl)).mono ?_
  rintro e w31 ⟨rfl, hb⟩
  replace hS := hS.step hb
  clear hb 
  clear kew20_0 kew20_1 kew20_2 lew20 klow_0 klow_1 llow khiw_0 khiw_1 lhiw klos_0 klos_1 llos khis_0 khis_1 lhis
  have kloo_0 := hS.boxAt 5 0 rfl rfl
  have kloo_1 := hS.boxAt 5 1 rfl rfl
  have lloo := hS.boxLt 5 rfl
  have khio_0 := hS.boxAt 4 0 rfl rfl
  have khio_1 := hS.boxAt 4 1 rfl rfl
  have lhio := hS.boxLt 4 rfl
  go_wp2_with fail
  go_ret
  exact ⟨rfl, hS.bel⟩
end Go.Proofs.Ytllcbcanohdepaa

/- RentNames: for every input the law returns true, and each argument reads as it read before; no condition. -/
namespace Go.Proofs.Ytllcbcanohdepaa.RentNamesTop
open Go.ChangeShapes Go.WideShapes Go.ChangeAt Go.RowKit Go.Deep
set_option linter.unusedVariables false

set_option maxRecDepth 100000 in
theorem lifted (os : Os) (started : os.Started) (H : Type) (enc : TypeId × Value → H) :
    ReturnsInHanded {} Try.checked os 3 .any (Rows.rentNamesSpec.pre6 enc Try.prog Try.f3 Rows.rentNamesRow.domain false) (Rows.rentNamesSpec.post enc Try.prog Try.f3 false true false false) := by
  refine returnsInHanded_of_change (C := Try.checked) own started (by kernel_rfl) Try.func3
    (ChangeSpec.witness6 (enc := enc) (C := Try.checked) false ⟨#[], #[], []⟩ 8 (by kernel_rfl) (by kernel_rfl) (by kernel_rfl) (by kernel_rfl)) ?_
  intro W base args ds gs before hval0 hW hcnd _
  have hval : ∀ (j : Nat) t v, Try.f3.params[j]? = some t → args[j]? = some v → Value.okWide Try.prog W .any base t v := hval0
  have hW' := hW
  obtain ⟨p, q, hA0, hV, rfl, hfz, hnd⟩ := hW
  have hA : DataW.TrodAll enc Try.prog W 0 (fun _ => true) true Try.f3.params.toList args.toList ds p := hA0
  rw [Try.params3] at hA hval
  obtain ⟨hargs, rfl, rfl⟩ := trodAll_nil hA
  obtain rfl : args = #[] := by cases args; simp_all
  obtain ⟨rfl, rfl⟩ := trodVars_none hV
  clear hA0 hval0
  refine (rentNames_walk W).mono fun e W' ⟨he, bel⟩ => ?_
  subst he
  exact ⟨_, rfl, _, _, _, [], _, [], hW', trodAll_mk1 (shut_bool Try.underlying4 _), trodAll_mk0, rfl, bel.frame _, fun h => by cases h⟩

theorem over : Rows.rentNamesRow.holds Try.pinned (OpenSpec.ofChange Rows.rentNamesSpec) :=
  OpenClaim.holds_of_wide 3 Try.f3 rfl rfl rfl rfl rfl rfl rfl ⟨rfl, rfl, rfl, rfl, rfl⟩ rfl rfl rfl rfl rfl (by kernel_rfl) Try.func3 (by kernel_rfl)
    (of_decide_eq_true (by kernel_rfl)) (by unfold Func.isWrapper; first | (rw [if_pos (by decide +kernel)]; kernel_rfl) | (rw [if_neg (by decide +kernel)]; exact ⟨rfl, rfl⟩))
    (fun os started H enc _ => lifted os started H enc)
end Go.Proofs.Ytllcbcanohdepaa.RentNamesTop
namespace Go.Proofs.Ytllcbcanohdepaa
/-- The statement. -/
theorem rentNames_holds : Rows.RentNamesSaid := RentNamesTop.over
#print axioms rentNames_holds
end Go.Proofs.Ytllcbcanohdepaa
