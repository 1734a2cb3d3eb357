/- The walk of KeepsakeNames: the errors and the examples are as they are told; no condition.  (Printed by wip/gennames29.py.) -/
import Derived.Test.YtknincjfcicjfaaAlive29
import Derived.Test.YtknincjfcicjfaaMkI
namespace Go.Proofs.Ytknincjfcicjfaa
set_option linter.unusedVariables false
set_option linter.unusedSimpArgs false
open Go.ChangeShapes Go.WideShapes Go.ChangeAt Go.RowKit Go.Deep

/-- 'make([][]int, n)' at a numeral, run wherever it stands. -/
theorem run_mkM (n : Nat) (hn : n ≤ 100000) (W : World) : (Instr.makeSlice 22 (.int .i64 (n : Int)) (.int .i64 (n : Int))).run Try.prog W = .ok (.slice (some ⟨W.heap.size, 0, none⟩) n n) (W.alloc (.cells (List.replicate n (.slice none 0 0)).toArray 23)) := by
  obtain ⟨i, hi, hz0, hz1, hz2⟩ := info_parts infoRow
  have hrun := run_make (P := Try.prog) W 22 23 i (.slice none 0 0) Try.underlying22 hi hz0 .i64 .i64 (n : Int) (n : Int) (by omega) (by omega) (by rw [hz2]; omega) (by omega)
  rw [hz1] at hrun
  simp only [Int.toNat_natCast] at hrun
  have hcs : madeCells (Value.slice none 0 0).cells (n * 1) = (List.replicate n (Value.slice none 0 0)).toArray := by
    apply Array.toList_inj.1
    rw [Nat.mul_one]
    exact (toList_madeCells_one _ _).trans (by simp)
  rw [hcs] at hrun
  exact hrun
theorem settle29_e {pa p : Option Addr} {ca c na n nx : Nat} {m e : Int} {a : List Int} {v : List (List Int)} {xs : List Int} {w : World} (h1 : stlL a v = xs) (h2 : stlN a v = m) (h3 : lkdI a v = e) (ha : Ints w pa ca a) (hx : Mat w p c v)
    (hr : rowsB v = true := by decide +kernel) (h4 : a.length = na := by rfl) (hv : v.length = n := by rfl) (hna : xs.length = nx := by rfl) :
    Calls Try.prog 22 #[.slice pa na ca, .slice p n c] w fun e' w' => ∃ q d, e' = .returned (.tuple #[.slice q nx d, .int .i64 m, .int .i64 e]) ∧ Ints w' q d xs ∧ Below w.heap.size w w' := by
  subst h4 hv hna h1 h2 h3
  exact (keepSettle_any pa ca a p c v w ha hx (rows_of hr)).mono fun e w' ⟨q, d, h2, h3, h4⟩ => ⟨q, d, h2, h3.ints, h4⟩
set_option maxHeartbeats 8000000 in
set_option maxRecDepth 100000 in
theorem keepsakeNames_walk (w : World) : Calls Try.prog 9 #[] w fun e w' => e = .returned (.bool true) ∧ Below w.heap.size w w' := by
  have mk7 : ∀ W, (Instr.makeSlice 22 (.int .i64 7) (.int .i64 7)).run Try.prog W = .ok (.slice (some ⟨W.heap.size, 0, none⟩) 7 7) (W.alloc (.cells (List.replicate 7 (.slice none 0 0)).toArray 23)) := fun W => run_mkM 7 (by omega) W
  have mk31 : ∀ W, (Instr.makeSlice 23 (.int .i64 31) (.int .i64 31)).run Try.prog W = .ok (.slice (some ⟨W.heap.size, 0, none⟩) 31 31) (W.alloc (.cells (intCells 31) 3)) := fun W => run_mkI 31 (by omega) W
  go_enter Try.func9, Try.ntmps9
  have hS := St.start w
  replace hS := hS.lit [0, 1] 2
  replace hS := hS.lit [1, 0] 2
  replace hS := hS.litM (ks := [1, 0]) (.cons rfl (.cons rfl .nil)) 2
  replace hS := hS.litM (ks := [0]) (.nul .nil) 1
  go_wp2_with fail
  refine (check29_e (e := 2) (by decide +kernel) (hS.matAt 0 rfl)).mono ?_
  rintro e w5 ⟨rfl, hb⟩
  replace hS := hS.step hb
  clear hb 
  replace hS := hS.litM (ks := [0]) (.nul .nil) 1
  go_wp2_with fail
  refine (check29_e (e := 2) (by decide +kernel) (hS.matAt 0 rfl)).mono ?_
  rintro e w7 ⟨rfl, hb⟩
  replace hS := hS.step hb
  clear hb 
  go_wp2_with fail
  refine (check29_e (e := 8) (by decide +kernel) (Mat.ofNil _)).mono ?_
  rintro e w8 ⟨rfl, hb⟩
  replace hS := hS.step hb
  clear hb 
  replace hS := hS.mkM 7
  go_wp2_with fail
  refine (check29_e (e := 4) (by decide +kernel) (hS.matAt 0 rfl)).mono ?_
  rintro e w9 ⟨rfl, hb⟩
  replace hS := hS.step hb
  clear hb 
  replace hS := hS.lit [1] 1
  replace hS := hS.lit [3] 1
  replace hS := hS.litM (ks := [1, 0]) (.cons rfl (.cons rfl .nil)) 2
  go_wp2_with fail
  refine (check29_e (e := 8) (by decide +kernel) (hS.matAt 0 rfl)).mono ?_
  rintro e w13 ⟨rfl, hb⟩
  replace hS := hS.step hb
  clear hb 
  replace hS := hS.lit [1] 1
  replace hS := hS.lit [0] 1
  replace hS := hS.litM (ks := [1, 0]) (.cons rfl (.cons rfl .nil)) 2
  go_wp2_with fail
  refine (check29_e (e := 8) (by decide +kernel) (hS.matAt 0 rfl)).mono ?_
  rintro e w17 ⟨rfl, hb⟩
  replace hS := hS.step hb
  clear hb 
  replace hS := hS.lit [1, 1] 2
  replace hS := hS.lit [1, 2] 2
  replace hS := hS.lit [1, 2] 2
  replace hS := hS.litM (ks := [2, 1, 0]) (.cons rfl (.cons rfl (.cons rfl .nil))) 3
  go_wp2_with fail
  refine (check29_e (e := 8) (by decide +kernel) (hS.matAt 0 rfl)).mono ?_
  rintro e w22 ⟨rfl, hb⟩
  replace hS := hS.step hb
  clear hb 
  replace hS := hS.lit [1] 1
  replace hS := hS.lit [1, 2] 2
  replace hS := hS.litM (ks := [1, 0]) (.cons rfl (.cons rfl .nil)) 2
  go_wp2_with fail
  refine (check29_e (e := 8) (by decide +kernel) (hS.matAt 0 rfl)).mono ?_
  rintro e w26 ⟨rfl, hb⟩
  replace hS := hS.step hb
  clear hb 
  replace hS := hS.litM (ks := [0]) (.nul .nil) 1
  go_wp2_with fail
  refine (check29_e (e := 0) (by decide +kernel) (hS.matAt 0 rfl)).mono ?_
  rintro e w28 ⟨rfl, hb⟩
  replace hS := hS.step hb
  clear hb 
  replace hS := hS.litM (ks := [0]) (.nul .nil) 1
  go_wp2_with fail
  refine (give29_e (xs := [0, 0, 0]) (e := 0) (by decide +kernel) (by decide +kernel) (hS.matAt 0 rfl)).mono ?_
  rintro e w30 ⟨pw30, cw30, rfl, hA, hb⟩
  replace hS := hS.step hb
  replace hS := hS.addI rfl hA
  clear hb hA
  replace hS := hS.lit [2] 1
  replace hS := hS.lit [2] 1
  replace hS := hS.litM (ks := [1, 0]) (.cons rfl (.cons rfl .nil)) 2
  go_wp2_with fail
  refine (rounds29_e (xs := [0, 1]) (e := 0) (by decide +kernel) (by decide +kernel) (hS.matAt 0 rfl)).mono ?_
  rintro e w34 ⟨pw34, cw34, rfl, hA, hb⟩
  replace hS := hS.step hb
  replace hS := hS.addI rfl hA
  clear hb hA
  replace hS := hS.lit [0, 2] 2
  replace hS := hS.lit [0, 1] 2
  go_wp2_with fail
  refine (turns29_e (xs := []) (e := 8) (by decide +kernel) (by decide +kernel) (hS.intsAt 1 rfl) (hS.intsAt 0 rfl) (hS.matAt 25 rfl)).mono ?_
  rintro e w37 ⟨pw37, cw37, rfl, hA, hb⟩
  replace hS := hS.step hb
  replace hS := hS.addI rfl hA
  clear hb hA
  replace hS := hS.lit [0, -1] 2
  replace hS := hS.lit [0, 0] 2
  go_wp2_with fail
  refine (turns29_e (xs := []) (e := 2) (by decide +kernel) (by decide +kernel) (hS.intsAt 1 rfl) (hS.intsAt 0 rfl) (hS.matAt 28 rfl)).mono ?_
  rintro e w40 ⟨pw40, cw40, rfl, hA, hb⟩
  replace hS := hS.step hb
  replace hS := hS.addI rfl hA
  clear hb hA
  replace hS := hS.lit [0] 1
  replace hS := hS.lit [0, 1] 2
  go_wp2_with fail
  refine (turns29_e (xs := []) (e := 8) (by decide +kernel) (by decide +kernel) (hS.intsAt 1 rfl) (hS.intsAt 0 rfl) (hS.matAt 31 rfl)).mono ?_
  rintro e w43 ⟨pw43, cw43, rfl, hA, hb⟩
  replace hS := hS.step hb
  replace hS := hS.addI rfl hA
  clear hb hA
  go_wp2_with fail
  refine (turns29_e (xs := []) (e := 8) (by decide +kernel) (by decide +kernel) (Ints.ofNil _) (Ints.ofNil _) (Mat.ofNil _)).mono ?_
  rintro e w44 ⟨pw44, cw44, rfl, hA, hb⟩
  replace hS := hS.step hb
  replace hS := hS.addI rfl hA
  clear hb hA
  replace hS := hS.mkI 31
  go_wp2_with fail
  refine (turns29_e (xs := []) (e := 4) (by decide +kernel) (by decide +kernel) (hS.intsAt 0 rfl) (Ints.ofNil _) (Mat.ofNil _)).mono ?_
  rintro e w45 ⟨pw45, cw45, rfl, hA, hb⟩
  replace hS := hS.step hb
  replace hS := hS.addI rfl hA
  clear hb hA
  replace hS := hS.lit [0, 1] 2
  replace hS := hS.lit [0, 0] 2
  replace hS := hS.lit [1, 0] 2
  replace hS := hS.litM (ks := [1, 0]) (.cons rfl (.cons rfl .nil)) 2
  go_wp2_with fail
  refine (trade29_e (e := 8) (exV_no (by decide +kernel)) (by decide +kernel) (hS.intsAt 3 rfl) (hS.matAt 0 rfl)).mono ?_
  rintro e w50 ⟨rfl, hb⟩
  replace hS := hS.step hb
  clear hb 
  replace hS := hS.box [.int .i64 0, .int .i64 0, .int .i64 0, .int .i64 0] 37
  replace hS := hS.lit [1, 0] 2
  go_wp2_with fail
  refine (trade29_e (e := 0) (exV_of (i := 0) (j := 1) (x := 1) (y := 0) (by decide +kernel)) (by decide +kernel) (hS.intsAt 0 rfl) (hS.matAt 41 rfl)).mono ?_
  rintro e w52 ⟨rfl, hb⟩
  replace hS := hS.step hb
  clear hb 
  replace hS := hS.box [.int .i64 0, .int .i64 1, .int .i64 1, .int .i64 0] 37
  replace hS := hS.lit [1, 0] 2
  go_wp2_with fail
  refine (settle29_e (xs := [0, 1]) (m := 1) (e := 0) (by decide +kernel) (by decide +kernel) (by decide +kernel) (hS.intsAt 0 rfl) (hS.matAt 43 rfl)).mono ?_
  rintro e w54 ⟨pw54, cw54, rfl, hA, hb⟩
  replace hS := hS.step hb
  replace hS := hS.addI rfl hA
  clear hb hA
  replace hS := hS.mkM 7
  go_wp2_with fail
  refine (trade29_e (e := 4) (exV_no (by decide +kernel)) (by decide +kernel) (Ints.ofNil _) (hS.matAt 0 rfl)).mono ?_
  rintro e w55 ⟨rfl, hb⟩
  replace hS := hS.step hb
  clear hb 
  replace hS := hS.box [.int .i64 0, .int .i64 0, .int .i64 0, .int .i64 0] 37
  replace hS := hS.lit [0] 1
  replace hS := hS.litM (ks := [0]) (.nul .nil) 1
  go_wp2_with fail
  refine (turns29_e (xs := []) (e := 0) (by decide +kernel) (by decide +kernel) (Ints.ofNil _) (hS.intsAt 1 rfl) (hS.matAt 0 rfl)).mono ?_
  rintro e w58 ⟨pw58, cw58, rfl, hA, hb⟩
  replace hS := hS.step hb
  replace hS := hS.addI rfl hA
  clear hb hA
  go_wp2_with fail
  refine (alive29_any _).mono ?_
  rintro e w59 ⟨rfl, hb⟩
  replace hS := hS.step hb
  clear hb 
  replace hS := hS.lit [0, 0, 0] 3
  go_wp2_with fail
  refine (same25_e rfl (hS.intsAt 31 rfl) (hS.intsAt 0 rfl)).mono ?_
  rintro e w61 ⟨rfl, hw⟩
  replace hS := hS.drew hw
  clear hw 
  replace hS := hS.lit [0, 1] 2
  go_wp2_with fail
  refine (same25_e rfl (hS.intsAt 28 rfl) (hS.intsAt 0 rfl)).mono ?_
  rintro e w63 ⟨rfl, hw⟩
  replace hS := hS.drew hw
  clear hw 
  have kbw52_0 := hS.boxAt 9 0 rfl rfl
  have kbw52_1 := hS.boxAt 9 1 rfl rfl
  have kbw52_2 := hS.boxAt 9 2 rfl rfl
  have kbw52_3 := hS.boxAt 9 3 rfl rfl
  have lbw52 := hS.boxLt 9 rfl
  replace hS := hS.lit [0, 1] 2
  go_wp2_with fail
  refine (same25_e rfl (hS.intsAt 8 rfl) (hS.intsAt 0 rfl)).mono ?_
  rintro e w65 ⟨rfl, hw⟩
  replace hS := hS.drew hw
  clear hw 
  clear kbw52_0 kbw52_1 kbw52_2 kbw52_3 lbw52
  go_wp2_with fail
  go_ret
  exact ⟨rfl, hS.bel⟩
end Go.Proofs.Ytknincjfcicjfaa
