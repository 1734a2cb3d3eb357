/- RotaNames: for every input the law returns true, and each argument reads as it read before; no condition. -/
import Derived.Test.YtcgaojnfgkfnkaaTopRotaCheapestm14
import Derived.Test.YtcgaojnfgkfnkaaTopRotaFairm5
import Derived.Test.YtcgaojnfgkfnkaaTopRotaAddsm2
import Derived.Test.YtcgaojnfgkfnkaaTopRotaAddsm3
import Derived.Test.YtcgaojnfgkfnkaaTopRotaFairm4
import Derived.ChangeOld
namespace Go.Proofs.Ytcgaojnfgkfnkaa
set_option linter.unusedVariables false
set_option linter.unusedSimpArgs false
open Go.ChangeShapes Go.WideShapes Go.ChangeAt Go.RowKit Go.Deep

theorem check_e {p : Option Addr} {c : Nat} {v : List (List Int)} {k : Int} {w : World} (h : chk32 v = k) (hx : Mat w p c v) :
    Calls Try.prog 22 #[.slice p v.length c] w fun e w' => e = .returned (.int .i64 k) ∧ Below w.heap.size w w' := by
  have := check_any p c v w hx
  rwa [h] at this
theorem followx_e {p : Option Addr} {c m : Nat} {v r : List (List Int)} {n k : Int} {w : World} (hE : folE v n = k) (hR : folR v n = r) (hl : r.length = m) (hx : Mat w p c v) :
    Calls Try.prog 18 #[.slice p v.length c, .int .i64 n] w fun e w' => ∃ q d, e = .returned (.tuple #[.slice q m d, .int .i64 k]) ∧ Mat w' q d r ∧ Below w.heap.size w w' := by
  have := follow_any p c v n w hx
  rw [hE, hR] at this
  subst hl
  exact this
theorem trn_e {n t k : Int} {xs : List Int} {m : Nat} {w : World} (hE : trnE n t = k) (hL : trnL n t = xs) (hl : xs.length = m) :
    Calls Try.prog 20 #[.int .i64 n, .int .i64 t] w fun e w' => ∃ q d, e = .returned (.tuple #[.slice q m d, .int .i64 k]) ∧ Ints w' q d xs ∧ Below w.heap.size w w' := by
  have := turning_any n t w
  rw [hE, hL] at this
  subst hl
  exact this.mono fun e w' h => by obtain ⟨q, d, h1, h2, _, h3⟩ := h; exact ⟨q, d, h1, h2, h3⟩
theorem add_e {p q : Option Addr} {c d m : Nat} {v r R : List (List Int)} {k : Int} {w : World} (hE : addE v r = k) (hR : addR v r = R) (hl : R.length = m) (hx : Mat w p c v) (hy : Mat w q d r) :
    Calls Try.prog 25 #[.slice p v.length c, .slice q r.length d] w fun e w' => ∃ q d, e = .returned (.tuple #[.slice q m d, .int .i64 k]) ∧ Mat w' q d R ∧ Below w.heap.size w w' := by
  have := add32_any p q c d v r w hx hy
  rw [hE, hR] at this
  subst hl
  exact this
theorem sw_e {p : Option Addr} {c n : Nat} {r R : List (List Int)} {m a b k : Int} {w : World} (hE : swE r m a b = k) (hR : swR r m a b = R) (hl : R.length = n) (h0 : (rget r 0).length ≤ 1000000) (hx : Mat w p c r) :
    Calls Try.prog 27 #[.slice p r.length c, .int .i64 m, .int .i64 a, .int .i64 b] w fun e w' => ∃ q d, e = .returned (.tuple #[.slice q n d, .int .i64 k]) ∧ Mat w' q d R ∧ Below w.heap.size w w' := by
  have := swap32_any p c r m a b w hx h0
  rw [hE, hR] at this
  subst hl
  exact this
theorem even_e {p : Option Addr} {c : Nat} {v : List (List Int)} {b : Bool} {w : World} (hC : chk32 v = 0) (hb : lvlB v = b) (hx : Mat w p c v) :
    Calls Try.prog 15 #[.slice p v.length c] w fun e w' => e = .returned (.tuple #[.bool b, .int .i64 0]) ∧ Below w.heap.size w w' := by
  have := even32_any p c v w hx
  rwa [hC, evenB_ok hC, hb] at this
set_option maxHeartbeats 1600000 in
theorem addMany_any (p q : Option Addr) (c d n : Nat) (v : List (List Int)) (w : World) (hC : chk32 v = 0) (hn : 400 < n) (hx : Mat w p c v) :
    Calls Try.prog 25 #[.slice p v.length c, .slice q n d] w fun e w' => e = .returned (.tuple #[.slice none 0 0, .int .i64 4]) ∧ Below w.heap.size w w' := by
  have CK := check_any p c v w hx
  rw [hC] at CK
  have CKh := Lib.hid CK
  have hd : decide (400 < (n : Int)) = true := by simp; omega
  clear CK hC
  go_enter Try.func25, Try.ntmps25
  go_wp2_with fail
  refine CKh.out.mono ?_
  rintro e w1 ⟨rfl, hb1⟩
  go_wp2_with fail
  go_ret2
  exact ⟨rfl, hb1⟩
theorem few_not {v : List (List Int)} (h : v.length ≤ 12 ∧ ∀ x ∈ v, x.length ≤ 12) : ¬ Many32 v := by
  rintro (h1 | ⟨i, hi, h1⟩)
  · omega
  · have := h.2 _ (rget_mem hi); omega
theorem c_z13 : chk32 (zeroL 13) = 4 := chk32_many (.inl (by simp [zeroL]))
theorem c_r13 : chk32 [List.replicate 13 0] = 4 := chk32_many (.inr ⟨0, by simp, by simp [rget]⟩)
theorem c_nil : chk32 [] = 8 := chk32_bad (few_not (by simp)) (fun h => by have := h.1; simp at this)
theorem c_00 : chk32 [[0, 0]] = 8 := chk32_bad (few_not (by simp)) (fun h => by have := (h.2 0 (by simp)).1; simp [rget] at this)
theorem c_401 : chk32 [[401]] = 8 := chk32_bad (few_not (by simp)) (fun h => by have := ((h.2 0 (by simp)).2 0 (by simp)).2; simp [rget, iget] at this)
theorem c_neg : chk32 [[-1]] = 8 := chk32_bad (few_not (by simp)) (fun h => by have := ((h.2 0 (by simp)).2 0 (by simp)).1; simp [rget, iget] at this)
theorem c_z1 : chk32 [[0]] = 0 := chk32_B (by decide +kernel) (by decide)
theorem f_401 : folE [[0]] 401 = 2 ∧ folR [[0]] 401 = [] := by
  have h : folE [[0]] 401 = 2 := folE_arg c_z1 (.inr (by omega))
  exact ⟨h, folR_bad (by rw [h]; omega)⟩
theorem f_neg : folE [[0]] (-1) = 2 ∧ folR [[0]] (-1) = [] := by
  have h : folE [[0]] (-1) = 2 := folE_arg c_z1 (.inl (by omega))
  exact ⟨h, folR_bad (by rw [h]; omega)⟩
theorem f_0 : folE [[0]] 0 = 0 ∧ folR [[0]] 0 = [] := by
  have h : folE [[0]] ((0 : Nat) : Int) = 0 := folE_ok c_z1 (by omega)
  exact ⟨h, folR_ok h⟩
theorem t_00 : trnE 0 0 = 2 ∧ trnL 0 0 = [] := ⟨trnE_bad (.inl (by omega)), trnL_bad (.inl (by omega))⟩
theorem t_13 : trnE 13 0 = 2 ∧ trnL 13 0 = [] := ⟨trnE_bad (.inr (.inl (by omega))), trnL_bad (.inr (.inl (by omega)))⟩
theorem t_2 : trnE 2 (-1) = 2 ∧ trnL 2 (-1) = [] := ⟨trnE_bad (.inr (.inr (by omega))), trnL_bad (.inr (.inr (by omega)))⟩
theorem t_3 : trnE 3 9223372036854775807 = 0 ∧ trnL 3 9223372036854775807 = [1, 2, 0] := by
  have hb : ¬ (((3 : Nat) : Int) < 1 ∨ 12 < ((3 : Nat) : Int) ∨ ((9223372036854775807 : Nat) : Int) < 0) := by omega
  refine ⟨trnE_ok hb, Eq.trans (trnL_ok hb) ?_⟩
  decide +kernel
theorem a_00 : addE [[0, 0], [0, 0]] [[0, 0]] = 8 ∧ addR [[0, 0], [0, 0]] [[0, 0]] = [] := by
  have h : addE [[0, 0], [0, 0]] [[0, 0]] = 8 := addE_bad (chk32_B (by decide +kernel) (by decide)) (by simp) (fun h => absurd (h 0 (by simp)) (by decide +kernel))
  exact ⟨h, addR_bad (by rw [h]; omega)⟩
theorem a_400 : addE [[400]] [[0]] = 2 ∧ addR [[400]] [[0]] = [] := by
  have hw : WksTo [[400]] [[0]] 1 := fun t ht => by
    obtain rfl : t = 0 := by omega
    decide +kernel
  have h : addE [[400]] [[0]] = 2 := addE_over (chk32_B (by decide +kernel) (by decide)) (by simp) hw ⟨0, 0, by decide +kernel, by decide +kernel, by decide +kernel⟩
  exact ⟨h, addR_bad (by rw [h]; omega)⟩
theorem s_nil : swE [] 0 0 0 = 2 ∧ swR [] 0 0 0 = [] := by
  have h : swE [] 0 0 0 = 2 := swE_arg (by simp) (fun t ht => by simp at ht) (fun h => by have := h.2.1; simp at this)
  exact ⟨h, swR_bad (by rw [h]; omega)⟩
theorem s_bad : swE [[0, 1], [0]] 0 0 1 = 8 ∧ swR [[0, 1], [0]] 0 0 1 = [] := by
  have h : swE [[0, 1], [0]] 0 0 1 = 8 := swE_bad (by simp) (fun h => absurd (h 1 (by simp)) (by decide +kernel))
  exact ⟨h, swR_bad (by rw [h]; omega)⟩
theorem w_01 : WksR [[0, 1]] [[0, 1]].length := fun t ht => by
  obtain rfl : t = 0 := by simp at ht; omega
  decide +kernel
theorem s_2 : swE [[0, 1]] 0 0 2 = 2 ∧ swR [[0, 1]] 0 0 2 = [] := by
  have h : swE [[0, 1]] 0 0 2 = 2 := swE_arg (by simp) w_01 (fun h => by have := h.2.2.2.2.2; simp [rget] at this)
  exact ⟨h, swR_bad (by rw [h]; omega)⟩
theorem s_ok : swE [[0, 1]] 0 0 1 = 0 ∧ swR [[0, 1]] 0 0 1 = [[1, 0]] := by
  have h : swE [[0, 1]] ((0 : Nat) : Int) ((0 : Nat) : Int) ((1 : Nat) : Int) = 0 := swE_ok (by simp) w_01 (by unfold SwIn; simp [rget])
  refine ⟨h, Eq.trans (swR_ok h) ?_⟩
  decide +kernel
theorem s_e : swE [[]] 0 0 0 = 8 ∧ swR [[]] 0 0 0 = [] := by
  have h : swE [[]] 0 0 0 = 8 := swE_bad (by simp) (fun h => absurd (h 0 (by simp)) (by decide +kernel))
  exact ⟨h, swR_bad (by rw [h]; omega)⟩
def lvlC (v : List (List Int)) : Bool := ((List.range v.length).all fun i => decide (rowS v i = rowS v 0 ∧ colS v i = rowS v 0)) && (List.range v.length).all fun i => (List.range v.length).all fun k => (List.range v.length).all fun j => (List.range v.length).all fun l => decide (iget (rget v i) k - iget (rget v j) l ≤ 1)
theorem lvl_of {v : List (List Int)} (h : lvlC v = true) : LvlP v := by
  unfold lvlC at h
  rw [Bool.and_eq_true] at h
  refine ⟨fun i hi => ?_, fun i k j l hi hk hj hl => ?_⟩
  · have := List.all_eq_true.1 h.1 i (List.mem_range.2 hi)
    simpa using this
  · have h1 := List.all_eq_true.1 h.2 i (List.mem_range.2 hi)
    have h2 := List.all_eq_true.1 h1 k (List.mem_range.2 hk)
    have h3 := List.all_eq_true.1 h2 j (List.mem_range.2 hj)
    have h4 := List.all_eq_true.1 h3 l (List.mem_range.2 hl)
    simpa using h4
theorem e_yes : chk32 [[1, 0], [0, 1]] = 0 ∧ lvlB [[1, 0], [0, 1]] = true := ⟨chk32_B (by decide +kernel) (by decide), lvlB_true.2 (lvl_of (by decide +kernel))⟩
theorem e_no : chk32 [[1, 1], [0, 0]] = 0 ∧ lvlB [[1, 1], [0, 0]] = false := ⟨chk32_B (by decide +kernel) (by decide), lvlB_false fun h => absurd (h.sums 1 (by simp)).1 (by decide +kernel)⟩
theorem e_far : chk32 [[2, 0], [0, 2]] = 0 ∧ lvlB [[2, 0], [0, 2]] = false := ⟨chk32_B (by decide +kernel) (by decide), lvlB_false fun h => absurd (h.near 0 0 0 1 (by simp) (by simp) (by simp) (by simp)) (by decide +kernel)⟩
theorem run_mk13 (W : World) : (Instr.makeSlice 23 (.int .i64 13) (.int .i64 13)).run Try.prog W = .ok (.slice (some ⟨W.heap.size, 0, none⟩) 13 13) (W.alloc (.cells ((List.replicate 13 (0 : Int)).map (Value.int .i64)).toArray 3)) := by
  have h := run_zI 13 (by omega) W
  have e : zI 13 = ((List.replicate 13 (0 : Int)).map (Value.int .i64)).toArray := by
    apply Array.toList_inj.1
    unfold zI
    rw [Nat.mul_one]
    exact (toList_madeCells_one _ _).trans (by simp)
  rw [e] at h
  exact h
end Go.Proofs.Ytcgaojnfgkfnkaa

/- The walk of RotaNames: limits and errors; no condition.  (Printed by wip/gennames32.py.) -/
namespace Go.Proofs.Ytcgaojnfgkfnkaa
set_option linter.unusedVariables false
set_option linter.unusedSimpArgs false
open Go.ChangeShapes Go.WideShapes Go.ChangeAt Go.RowKit Go.Deep

theorem bel_st {a b c : World} (h : Below a.heap.size a b) (k : Below b.heap.size b c) : Below a.heap.size a c := h.trans (k.mono h.size)
set_option maxHeartbeats 64000000 in
set_option maxRecDepth 100000 in
theorem rotaNames_walk (w : World) : Calls Try.prog 9 #[] w fun e w' => e = .returned (.bool true) ∧ Below w.heap.size w w' := by
  have mk13 := run_mk13
  have mk401 : ∀ W, (Instr.makeSlice 22 (.int .i64 401) (.int .i64 401)).run Try.prog W = .ok (.slice (some ⟨W.heap.size, 0, none⟩) 401 401) (W.alloc (.cells (nilRows 401) 23)) := fun W => run_mkMk 401 (by omega) W
  go_enter Try.func9, Try.ntmps9
  have hS := St.start w
  go_wp2_with fail
  refine (zeros_e (n := 13) (v := (zeroL 13)) (by decide) rfl rfl).mono ?_
  rintro e w2 ⟨q2, d2, rfl, hM, hb⟩
  replace hS := hS.step hb
  replace hS := hS.addM rfl hM
  clear hb hM
  go_wp2_with fail
  refine (check_e c_z13 (hS.matAt 0 rfl)).mono ?_
  rintro e w3 ⟨rfl, hb⟩
  replace hS := hS.step hb
  clear hb
  replace hS := hS.lit (List.replicate 13 0) 13
  replace hS := hS.litM (ks := [0]) (v := [List.replicate 13 0]) (.cons rfl .nil) 1
  go_wp2_with fail
  refine (check_e c_r13 (hS.matAt 0 rfl)).mono ?_
  rintro e w4 ⟨rfl, hb⟩
  replace hS := hS.step hb
  clear hb
  go_wp2_with fail
  refine (check_e (p := none) (c := 0) c_nil (Mat.ofNil _)).mono ?_
  rintro e wn ⟨rfl, hb⟩
  replace hS := hS.step hb
  clear hb
  replace hS := hS.lit [0, 0] 2
  replace hS := hS.litM (ks := [0]) (.cons rfl .nil) 1
  go_wp2_with fail
  refine (check_e c_00 (hS.matAt 0 rfl)).mono ?_
  rintro e w5 ⟨rfl, hb⟩
  replace hS := hS.step hb
  clear hb
  replace hS := hS.lit [401] 1
  replace hS := hS.litM (ks := [0]) (.cons rfl .nil) 1
  go_wp2_with fail
  refine (check_e c_401 (hS.matAt 0 rfl)).mono ?_
  rintro e w6 ⟨rfl, hb⟩
  replace hS := hS.step hb
  clear hb
  replace hS := hS.lit [-1] 1
  replace hS := hS.litM (ks := [0]) (.cons rfl .nil) 1
  go_wp2_with fail
  refine (check_e c_neg (hS.matAt 0 rfl)).mono ?_
  rintro e w7 ⟨rfl, hb⟩
  replace hS := hS.step hb
  clear hb
  go_wp2_with fail
  refine (zeros_e (n := 1) (v := [[0]]) (by decide) rfl rfl).mono ?_
  rintro e w8 ⟨q8, d8, rfl, hM, hb⟩
  replace hS := hS.step hb
  replace hS := hS.addM rfl hM
  clear hb hM
  go_wp2_with fail
  refine (followx_e f_401.1 f_401.2 rfl (hS.matAt 0 rfl)).mono ?_
  rintro e w9 ⟨q9, d9, rfl, hM, hb⟩
  replace hS := hS.step hb
  replace hS := hS.addM rfl hM
  clear hb hM
  go_wp2_with fail
  refine (zeros_e (n := 1) (v := [[0]]) (by decide) rfl rfl).mono ?_
  rintro e w10 ⟨q10, d10, rfl, hM, hb⟩
  replace hS := hS.step hb
  replace hS := hS.addM rfl hM
  clear hb hM
  go_wp2_with fail
  refine (followx_e f_neg.1 f_neg.2 rfl (hS.matAt 0 rfl)).mono ?_
  rintro e w11 ⟨q11, d11, rfl, hM, hb⟩
  replace hS := hS.step hb
  replace hS := hS.addM rfl hM
  clear hb hM
  go_wp2_with fail
  refine (zeros_e (n := 1) (v := [[0]]) (by decide) rfl rfl).mono ?_
  rintro e w12 ⟨q12, d12, rfl, hM, hb⟩
  replace hS := hS.step hb
  replace hS := hS.addM rfl hM
  clear hb hM
  go_wp2_with fail
  refine (followx_e f_0.1 f_0.2 rfl (hS.matAt 0 rfl)).mono ?_
  rintro e w13 ⟨q13, d13, rfl, hM, hb⟩
  replace hS := hS.step hb
  replace hS := hS.addM rfl hM
  clear hb hM
  go_wp2_with fail
  refine (trn_e t_00.1 t_00.2 rfl).mono ?_
  rintro e w14 ⟨q14, d14, rfl, hM, hb⟩
  replace hS := hS.step hb
  replace hS := hS.addI rfl hM
  clear hb hM
  go_wp2_with fail
  refine (trn_e t_13.1 t_13.2 rfl).mono ?_
  rintro e w15 ⟨q15, d15, rfl, hM, hb⟩
  replace hS := hS.step hb
  replace hS := hS.addI rfl hM
  clear hb hM
  go_wp2_with fail
  refine (trn_e t_2.1 t_2.2 rfl).mono ?_
  rintro e w16 ⟨q16, d16, rfl, hM, hb⟩
  replace hS := hS.step hb
  replace hS := hS.addI rfl hM
  clear hb hM
  go_wp2_with fail
  refine (trn_e t_3.1 t_3.2 rfl).mono ?_
  rintro e w17 ⟨q17, d17, rfl, hM, hb⟩
  replace hS := hS.step hb
  replace hS := hS.addI rfl hM
  clear hb hM
  go_wp2_with fail
  refine (zeros_e (n := 2) (v := [[0, 0], [0, 0]]) (by decide) rfl rfl).mono ?_
  rintro e w18 ⟨q18, d18, rfl, hM, hb⟩
  replace hS := hS.step hb
  replace hS := hS.addM rfl hM
  clear hb hM
  replace hS := hS.lit [0, 0] 2
  replace hS := hS.litM (ks := [0]) (.cons rfl .nil) 1
  go_wp2_with fail
  refine (add_e a_00.1 a_00.2 rfl (hS.matAt 2 rfl) (hS.matAt 0 rfl)).mono ?_
  rintro e w19 ⟨q19, d19, rfl, hM, hb⟩
  replace hS := hS.step hb
  replace hS := hS.addM rfl hM
  clear hb hM
  replace hS := hS.lit [400] 1
  replace hS := hS.litM (ks := [0]) (.cons rfl .nil) 1
  replace hS := hS.lit [0] 1
  replace hS := hS.litM (ks := [0]) (.cons rfl .nil) 1
  go_wp2_with fail
  refine (add_e a_400.1 a_400.2 rfl (hS.matAt 2 rfl) (hS.matAt 0 rfl)).mono ?_
  rintro e w20 ⟨q20, d20, rfl, hM, hb⟩
  replace hS := hS.step hb
  replace hS := hS.addM rfl hM
  clear hb hM
  have CZ := Lib.hid (fun W => zeros_e (n := 1) (v := [[0]]) (w := W) (by decide) rfl rfl)
  have CM := Lib.hid (fun W p c q d (h : Mat W p c [[0]]) => addMany_any p q c d 401 [[0]] W c_z1 (by omega) h)
  clear mk13
  go_wp2_with fail
  go_region_with (first
    | (go_at_call 30; refine (CZ.out _).mono ?_; rintro e wz ⟨qz, dz, rfl, hMz, hbz⟩)
    | (go_at_call 25; refine (CM.out _ _ _ _ _ (by first | exact hMz | exact hMz.below ((Below.refl _ _).alloc (Nat.le_refl _) _) (Nat.le_refl _))).mono ?_; rintro e wy ⟨rfl, hby⟩))
  · replace hS := hS.step (w' := wy) (by first | exact bel_st (bel_st (bel_st (below_drewN _ _ 1) hbz) ((Below.refl _ _).alloc (Nat.le_refl _) _)) hby | exact bel_st (bel_st (bel_st (below_drewN _ _ 1) ((Below.refl _ _).alloc (Nat.le_refl _) _)) hbz) hby | exact bel_st (bel_st (below_drewN _ _ 1) ((Below.refl _ _).alloc (Nat.le_refl _) _)) hby | exact bel_st (bel_st hbz ((Below.refl _ _).alloc (Nat.le_refl _) _)) hby)
    clear hby hbz hMz CZ CM mk401
    go_wp2_with fail
    refine (sw_e (p := none) (c := 0) s_nil.1 s_nil.2 rfl (by simp [rget]) (Mat.ofNil _)).mono ?_
    rintro e w21 ⟨q21, d21, rfl, hM, hb⟩
    replace hS := hS.step hb
    replace hS := hS.addM rfl hM
    clear hb hM
    replace hS := hS.lit [0, 1] 2
    replace hS := hS.lit [0] 1
    replace hS := hS.litM (ks := [1, 0]) (.cons rfl (.cons rfl .nil)) 2
    go_wp2_with fail
    refine (sw_e s_bad.1 s_bad.2 rfl (by simp [rget]) (hS.matAt 0 rfl)).mono ?_
    rintro e w22 ⟨q22, d22, rfl, hM, hb⟩
    replace hS := hS.step hb
    replace hS := hS.addM rfl hM
    clear hb hM
    replace hS := hS.lit [0, 1] 2
    replace hS := hS.litM (ks := [0]) (.cons rfl .nil) 1
    go_wp2_with fail
    refine (sw_e s_2.1 s_2.2 rfl (by simp [rget]) (hS.matAt 0 rfl)).mono ?_
    rintro e w23 ⟨q23, d23, rfl, hM, hb⟩
    replace hS := hS.step hb
    replace hS := hS.addM rfl hM
    clear hb hM
    replace hS := hS.lit [0, 1] 2
    replace hS := hS.litM (ks := [0]) (.cons rfl .nil) 1
    go_wp2_with fail
    refine (sw_e s_ok.1 s_ok.2 rfl (by simp [rget]) (hS.matAt 0 rfl)).mono ?_
    rintro e w24 ⟨q24, d24, rfl, hM, hb⟩
    replace hS := hS.step hb
    replace hS := hS.addM rfl hM
    clear hb hM
    replace hS := hS.lit [] 0
    replace hS := hS.litM (ks := [0]) (.cons rfl .nil) 1
    go_wp2_with fail
    refine (sw_e s_e.1 s_e.2 rfl (by simp [rget]) (hS.matAt 0 rfl)).mono ?_
    rintro e w25 ⟨q25, d25, rfl, hM, hb⟩
    replace hS := hS.step hb
    replace hS := hS.addM rfl hM
    clear hb hM
    replace hS := hS.lit [1, 0] 2
    replace hS := hS.lit [0, 1] 2
    replace hS := hS.litM (ks := [1, 0]) (.cons rfl (.cons rfl .nil)) 2
    go_wp2_with fail
    refine (even_e e_yes.1 e_yes.2 (hS.matAt 0 rfl)).mono ?_
    rintro e w26 ⟨rfl, hb⟩
    replace hS := hS.step hb
    clear hb
    replace hS := hS.lit [1, 1] 2
    replace hS := hS.lit [0, 0] 2
    replace hS := hS.litM (ks := [1, 0]) (.cons rfl (.cons rfl .nil)) 2
    go_wp2_with fail
    refine (even_e e_no.1 e_no.2 (hS.matAt 0 rfl)).mono ?_
    rintro e w27 ⟨rfl, hb⟩
    replace hS := hS.step hb
    clear hb
    replace hS := hS.lit [2, 0] 2
    replace hS := hS.lit [0, 2] 2
    replace hS := hS.litM (ks := [1, 0]) (.cons rfl (.cons rfl .nil)) 2
    go_wp2_with fail
    refine (even_e e_far.1 e_far.2 (hS.matAt 0 rfl)).mono ?_
    rintro e w28 ⟨rfl, hb⟩
    replace hS := hS.step hb
    clear hb
    go_wp2_with fail
    refine (alive32_any _).mono ?_
    rintro e w29 ⟨rfl, hb⟩
    replace hS := hS.step hb
    clear hb
    replace hS := hS.lit [1, 2, 0] 3
    go_wp2_with fail
    refine (eq25_true (xs := [1, 2, 0]) (hS.intsAt 33 rfl) (hS.intsAt 0 rfl)).mono ?_
    rintro e wt ⟨rfl, hw⟩
    replace hS := hS.drew hw
    clear hw
    replace hS := hS.lit [1, 0] 2
    replace hS := hS.litM (ks := [0]) (.cons rfl .nil) 1
    go_wp2_with fail
    refine (same32_t (v := [[1, 0]]) (hS.matAt 15 rfl) (hS.matAt 0 rfl)).mono ?_
    rintro e wu ⟨rfl, hw⟩
    replace hS := hS.drew hw
    clear hw
    go_wp2_with fail
    go_ret
    exact ⟨rfl, hS.bel⟩
  · replace hS := hS.step (w' := wy) (by first | exact bel_st (bel_st (bel_st (below_drewN _ _ 1) hbz) ((Below.refl _ _).alloc (Nat.le_refl _) _)) hby | exact bel_st (bel_st (bel_st (below_drewN _ _ 1) ((Below.refl _ _).alloc (Nat.le_refl _) _)) hbz) hby | exact bel_st (bel_st (below_drewN _ _ 1) ((Below.refl _ _).alloc (Nat.le_refl _) _)) hby | exact bel_st (bel_st hbz ((Below.refl _ _).alloc (Nat.le_refl _) _)) hby)
    clear hby hbz hMz CZ CM mk401
    go_wp2_with fail
    refine (sw_e (p := none) (c := 0) s_nil.1 s_nil.2 rfl (by simp [rget]) (Mat.ofNil _)).mono ?_
    rintro e w21 ⟨q21, d21, rfl, hM, hb⟩
    replace hS := hS.step hb
    replace hS := hS.addM rfl hM
    clear hb hM
    replace hS := hS.lit [0, 1] 2
    replace hS := hS.lit [0] 1
    replace hS := hS.litM (ks := [1, 0]) (.cons rfl (.cons rfl .nil)) 2
    go_wp2_with fail
    refine (sw_e s_bad.1 s_bad.2 rfl (by simp [rget]) (hS.matAt 0 rfl)).mono ?_
    rintro e w22 ⟨q22, d22, rfl, hM, hb⟩
    replace hS := hS.step hb
    replace hS := hS.addM rfl hM
    clear hb hM
    replace hS := hS.lit [0, 1] 2
    replace hS := hS.litM (ks := [0]) (.cons rfl .nil) 1
    go_wp2_with fail
    refine (sw_e s_2.1 s_2.2 rfl (by simp [rget]) (hS.matAt 0 rfl)).mono ?_
    rintro e w23 ⟨q23, d23, rfl, hM, hb⟩
    replace hS := hS.step hb
    replace hS := hS.addM rfl hM
    clear hb hM
    replace hS := hS.lit [0, 1] 2
    replace hS := hS.litM (ks := [0]) (.cons rfl .nil) 1
    go_wp2_with fail
    refine (sw_e s_ok.1 s_ok.2 rfl (by simp [rget]) (hS.matAt 0 rfl)).mono ?_
    rintro e w24 ⟨q24, d24, rfl, hM, hb⟩
    replace hS := hS.step hb
    replace hS := hS.addM rfl hM
    clear hb hM
    replace hS := hS.lit [] 0
    replace hS := hS.litM (ks := [0]) (.cons rfl .nil) 1
    go_wp2_with fail
    refine (sw_e s_e.1 s_e.2 rfl (by simp [rget]) (hS.matAt 0 rfl)).mono ?_
    rintro e w25 ⟨q25, d25, rfl, hM, hb⟩
    replace hS := hS.step hb
    replace hS := hS.addM rfl hM
    clear hb hM
    replace hS := hS.lit [1, 0] 2
    replace hS := hS.lit [0, 1] 2
    replace hS := hS.litM (ks := [1, 0]) (.cons rfl (.cons rfl .nil)) 2
    go_wp2_with fail
    refine (even_e e_yes.1 e_yes.2 (hS.matAt 0 rfl)).mono ?_
    rintro e w26 ⟨rfl, hb⟩
    replace hS := hS.step hb
    clear hb
    replace hS := hS.lit [1, 1] 2
    replace hS := hS.lit [0, 0] 2
    replace hS := hS.litM (ks := [1, 0]) (.cons rfl (.cons rfl .nil)) 2
    go_wp2_with fail
    refine (even_e e_no.1 e_no.2 (hS.matAt 0 rfl)).mono ?_
    rintro e w27 ⟨rfl, hb⟩
    replace hS := hS.step hb
    clear hb
    replace hS := hS.lit [2, 0] 2
    replace hS := hS.lit [0, 2] 2
    replace hS := hS.litM (ks := [1, 0]) (.cons rfl (.cons rfl .nil)) 2
    go_wp2_with fail
    refine (even_e e_far.1 e_far.2 (hS.matAt 0 rfl)).mono ?_
    rintro e w28 ⟨rfl, hb⟩
    replace hS := hS.step hb
    clear hb
    go_wp2_with fail
    refine (alive32_any _).mono ?_
    rintro e w29 ⟨rfl, hb⟩
    replace hS := hS.step hb
    clear hb
    replace hS := hS.lit [1, 2, 0] 3
    go_wp2_with fail
    refine (eq25_true (xs := [1, 2, 0]) (hS.intsAt 33 rfl) (hS.intsAt 0 rfl)).mono ?_
    rintro e wt ⟨rfl, hw⟩
    replace hS := hS.drew hw
    clear hw
    replace hS := hS.lit [1, 0] 2
    replace hS := hS.litM (ks := [0]) (.cons rfl .nil) 1
    go_wp2_with fail
    refine (same32_t (v := [[1, 0]]) (hS.matAt 15 rfl) (hS.matAt 0 rfl)).mono ?_
    rintro e wu ⟨rfl, hw⟩
    replace hS := hS.drew hw
    clear hw
    go_wp2_with fail
    go_ret
    exact ⟨rfl, hS.bel⟩
end Go.Proofs.Ytcgaojnfgkfnkaa

/- RotaNames: for every input the law returns true, and each argument reads as it read before; no condition. -/
namespace Go.Proofs.Ytcgaojnfgkfnkaa.RotaNamesTop
open Go.ChangeShapes Go.WideShapes Go.ChangeAt Go.RowKit Go.Deep
set_option linter.unusedVariables false

set_option maxRecDepth 100000 in
theorem lifted (os : Os) (started : os.Started) (H : Type) (enc : TypeId × Value → H) :
    ReturnsInHanded {} Try.checked os 9 .any (Rows.rotaNamesSpec.pre6 enc Try.prog Try.f9 Rows.rotaNamesRow.domain false) (Rows.rotaNamesSpec.post enc Try.prog Try.f9 false true false false) := by
  refine returnsInHanded_of_change (C := Try.checked) own started (by kernel_rfl) Try.func9
    (ChangeSpec.witness6 (enc := enc) (C := Try.checked) false ⟨#[], #[], []⟩ 8 (by kernel_rfl) (by kernel_rfl) (by kernel_rfl) (by kernel_rfl)) ?_
  intro W base args ds gs before hval0 hW hcnd _
  have hval : ∀ (j : Nat) t v, Try.f9.params[j]? = some t → args[j]? = some v → Value.okWide Try.prog W .any base t v := hval0
  have hW' := hW
  obtain ⟨p, q, hA0, hV, rfl, hfz, hnd⟩ := hW
  have hA : DataW.TrodAll enc Try.prog W 0 (fun _ => true) true Try.f9.params.toList args.toList ds p := hA0
  rw [Try.params9] at hA hval
  obtain ⟨hargs, rfl, rfl⟩ := trodAll_nil hA
  obtain rfl : args = #[] := by cases args; simp_all
  obtain ⟨rfl, rfl⟩ := trodVars_none hV
  clear hA0 hval0
  refine (rotaNames_walk W).mono fun e W' ⟨he, bel⟩ => ?_
  subst he
  exact ⟨_, rfl, _, _, _, [], _, [], hW', trodAll_mk1 (shut_bool Try.underlying4 _), trodAll_mk0, rfl, bel.frame _, fun h => by cases h⟩

theorem over : Rows.rotaNamesRow.holds Try.pinned (OpenSpec.ofChange Rows.rotaNamesSpec) :=
  OpenClaim.holds_of_wide 9 Try.f9 rfl rfl rfl rfl rfl rfl rfl ⟨rfl, rfl, rfl, rfl, rfl⟩ rfl rfl rfl rfl rfl (by kernel_rfl) Try.func9 (by kernel_rfl)
    (of_decide_eq_true (by kernel_rfl)) (by unfold Func.isWrapper; first | (rw [if_pos (by decide +kernel)]; kernel_rfl) | (rw [if_neg (by decide +kernel)]; exact ⟨rfl, rfl⟩))
    (fun os started H enc _ => lifted os started H enc)
end Go.Proofs.Ytcgaojnfgkfnkaa.RotaNamesTop
namespace Go.Proofs.Ytcgaojnfgkfnkaa
/-- The statement. -/
theorem rotaNames_holds : Rows.RotaNamesSaid := RotaNamesTop.over
#print axioms rotaNames_holds
end Go.Proofs.Ytcgaojnfgkfnkaa
