/- The walks of robin.Check and of the reference's Check, Long and Great, for all turns; no condition. -/
import Derived.Test.YtiohehofnlmenaaGoodsA
import Derived.Test.YtiohehofnlmenaaRobinP
namespace Go.Proofs.Ytiohehofnlmenaa
set_option linter.unusedVariables false
set_option linter.unusedSimpArgs false
open Go.ChangeShapes Go.WideShapes Go.ChangeAt Go.RowKit Go.Deep

def offTurn (n : Int) (ts : List Int) (j : Nat) : Bool := decide (iget ts j < 0 ∨ n ≤ iget ts j)
theorem enter_robinCheck1 (args : Array Value) (W : World) : (callFunc 70 args).run Try.prog W = .ok (.enter 70 args) W := by kernel_rfl
set_option maxHeartbeats 400000 in
theorem robinCheck1_any (x n : Int) (B : Nat) (w : World) (hx : in64 x) (hc : w.cell? ⟨B, 0, none⟩ = some (.int .i64 n)) :
    Calls Try.prog 70 #[.int .i64 x, .pointer (some ⟨B, 0, none⟩)] w fun e w' => e = .returned (.bool (decide (x < 0 ∨ n ≤ x))) ∧ w' = w := by
  obtain ⟨h1, h2⟩ := hx
  by_cases hlow : x < 0
  · have hd : decide (x < 0) = true := by simpa using hlow
    go_enter Try.func70, Try.ntmps70
    go_wp2_with fail
    go_ret
    exact ⟨ret_bool (by simp [hlow]), rfl⟩
  · have hd : decide (x < 0) = false := by simpa using hlow
    go_enter Try.func70, Try.ntmps70
    go_wp2_with fail
    go_ret
    exact ⟨ret_bool (by first | rfl | (rw [Bool.eq_iff_iff]; simp only [decide_eq_true_iff]; omega)), rfl⟩
set_option maxHeartbeats 800000 in
theorem robinCheck_any (n : Int) (p : Option Addr) (c : Nat) (ts : List Int) (w : World) (hx : Ints w p c ts) :
    Calls Try.prog 46 #[.int .i64 n, .slice p ts.length c] w fun e w' => e = .returned (.int .i64 (chkT n ts)) ∧ Below w.heap.size w w' := by
  obtain ⟨W0, hW0⟩ : ∃ W0, w.alloc (.cells #[.int .i64 n] 3) = W0 := ⟨_, rfl⟩
  have hB : Below w.heap.size w W0 := below_alloc hW0
  have bX : BoxV W0 w.heap.size [.int .i64 n] := BoxV.new rfl hW0
  have hx := hx.below hB (Nat.le_refl _)
  have x0 := bX.cell 0 _ rfl
  have HW0 := Lib.hid hW0
  clear hW0
  have hl1 := hx.length_le
  by_cases h1 : n < 1
  · have hd : decide (n < 1) = true := by simpa using h1
    have H := Lib.hid (chkT_arg (ts := ts) (.inl h1))
    go_enter Try.func46, Try.ntmps46
    go_wp2_with fail
    go_ret
    rw [HW0.out]
    exact ⟨ret_int H.out.symm, hB⟩
  have hd : decide (n < 1) = false := by simpa using h1
  by_cases h6 : 6 < n
  · have hd2 : decide (6 < n) = true := by simpa using h6
    have H := Lib.hid (chkT_arg (ts := ts) (.inr h6))
    go_enter Try.func46, Try.ntmps46
    go_wp2_with fail
    go_ret
    rw [HW0.out]
    exact ⟨ret_int H.out.symm, hB⟩
  have hd2 : decide (6 < n) = false := by simpa using h6
  by_cases hm : 60 < ts.length
  · have hd3 : decide (60 < (ts.length : Int)) = true := by simp; omega
    have H := Lib.hid (chkT_many (n := n) (ts := ts) (by omega) hm)
    go_enter Try.func46, Try.ntmps46
    go_wp2_with fail
    go_ret
    rw [HW0.out]
    exact ⟨ret_int H.out.symm, hB⟩
  have hd3 : decide (60 < (ts.length : Int)) = false := by simp; omega
  go_enter Try.func46, Try.ntmps46
  go_wp2_with fail
  rw [HW0.out]
  refine (containsFunc1_any 70 (.pointer (some ⟨w.heap.size, 0, none⟩)) (offTurn n ts) (fun W => W = W0) enter_robinCheck1 p c ts W0 rfl (fun W hW => by rw [hW]; exact hx)
    (fun j W hj hW => by subst hW; exact robinCheck1_any _ n _ _ (hx.rng j hj) x0)).mono ?_
  rintro e w' ⟨rfl, rfl⟩
  cases hany : anyN (offTurn n ts) ts.length with
  | true =>
    have H := Lib.hid (chkT_bad (n := n) (ts := ts) (by omega) hm (fun h => by
      obtain ⟨j, hj, hp⟩ := anyN_true.1 hany
      have := h j hj
      simp [offTurn] at hp; omega))
    clear hany
    go_wp2_with fail
    go_ret
    exact ⟨ret_int H.out.symm, hB⟩
  | false =>
    have H := Lib.hid (chkT_ok (n := n) (ts := ts) (by omega) hm (fun j hj => by
      have := anyN_false.1 hany j hj
      simp [offTurn] at this; omega))
    clear hany
    go_wp2_with fail
    go_ret
    exact ⟨ret_int H.out.symm, hB⟩

set_option maxHeartbeats 800000 in
theorem ref18Check_any (n : Int) (p : Option Addr) (c : Nat) (ts : List Int) (w : World) (hx : Ints w p c ts) :
    Calls Try.prog 51 #[.int .i64 n, .slice p ts.length c] w fun e w' => e = .returned (.int .i64 (chkT n ts)) ∧ w' = w := by
  have hl1 := hx.length_le
  by_cases h1 : n < 1
  · have hd : decide (n < 1) = true := by simpa using h1
    have H := Lib.hid (chkT_arg (ts := ts) (.inl h1))
    go_enter Try.func51, Try.ntmps51
    go_wp2_with fail
    go_ret
    exact ⟨ret_int H.out.symm, rfl⟩
  have hd : decide (n < 1) = false := by simpa using h1
  by_cases h6 : 6 < n
  · have hd2 : decide (6 < n) = true := by simpa using h6
    have H := Lib.hid (chkT_arg (ts := ts) (.inr h6))
    go_enter Try.func51, Try.ntmps51
    go_wp2_with fail
    go_ret
    exact ⟨ret_int H.out.symm, rfl⟩
  have hd2 : decide (6 < n) = false := by simpa using h6
  by_cases hm : 60 < ts.length
  · have hd3 : decide (60 < (ts.length : Int)) = true := by simp; omega
    have H := Lib.hid (chkT_many (n := n) (ts := ts) (by omega) hm)
    go_enter Try.func51, Try.ntmps51
    go_wp2_with fail
    go_ret
    exact ⟨ret_int H.out.symm, rfl⟩
  have hd3 : decide (60 < (ts.length : Int)) = false := by simp; omega
  go_enter Try.func51, Try.ntmps51
  go_wp2_with fail
  go_loop [5] (fun t => ∃ k : Nat, k ≤ ts.length ∧ t = .int .i64 k ∧ Hid (∀ i, i < k → 0 ≤ iget ts i ∧ iget ts i < n)) (fun t => ts.length - (intOf t).toNat)
  case atStart => exact ⟨0, Nat.zero_le _, rfl, fun j hj => absurd hj (Nat.not_lt_zero j)⟩
  case round =>
    obtain ⟨k, hk, rfl, ht⟩ := hrel
    by_cases hlt : k < ts.length
    · obtain ⟨b, o, rfl, _, hc⟩ := hx.get hlt
      have hk1 : (k : Int) < ts.length := by omega
      by_cases hlow : iget ts k < 0
      · have hdl : decide (iget ts k < 0) = true := by simpa using hlow
        have H := Lib.hid (chkT_bad (n := n) (ts := ts) (by omega) hm (fun h => by have := (h k hlt).1; omega))
        clear hlow
        go_wp2_with fail
        go_ret
        exact ⟨ret_int H.out.symm, rfl⟩
      · have hdl : decide (iget ts k < 0) = false := by simpa using hlow
        by_cases hhi : n ≤ iget ts k
        · have hdh : decide (n ≤ iget ts k) = true := by simpa using hhi
          have H := Lib.hid (chkT_bad (n := n) (ts := ts) (by omega) hm (fun h => by have := (h k hlt).2; omega))
          clear hlow hhi
          go_wp2_with fail
          go_ret
          exact ⟨ret_int H.out.symm, rfl⟩
        · have hdh : decide (n ≤ iget ts k) = false := by simpa using hhi
          have HP : Hid (0 ≤ iget ts k ∧ iget ts k < n) := show _ ∧ _ by omega
          clear hlow hhi
          go_wp2_with fail
          go_round
          case rel => exact ⟨k + 1, by omega, by go_num, snoc_all' ht.out HP.out⟩
          case measure => simp [intOf]; omega
    · have hk1 : ¬ (k : Int) < ts.length := by omega
      have H := Lib.hid (chkT_ok (n := n) (ts := ts) (by omega) hm (fun i hi => ht.out i (by omega)))
      go_wp2_with fail
      go_ret
      exact ⟨ret_int H.out.symm, rfl⟩
theorem long_any (p : Option Addr) (c n : Nat) (w : World) :
    Calls Try.prog 23 #[.slice p n c] w fun e w' => e = .returned (.bool (decide (100 < n))) ∧ w' = w := by
  go_enter Try.func23, Try.ntmps23
  go_wp2
  go_ret
  exact ⟨ret_bool (by rw [Bool.eq_iff_iff, decide_eq_true_iff, decide_eq_true_iff]; omega), rfl⟩

theorem greatG_true {v : List (List Int)} {xs : List Int} (h : GreatG v xs) : greatG v xs = true := by simp [greatG, h]
theorem greatG_false {v : List (List Int)} {xs : List Int} (h : ¬ GreatG v xs) : greatG v xs = false := by simp [greatG, h]
set_option maxHeartbeats 1600000 in
theorem great16_any (p q : Option Addr) (c d : Nat) (v : List (List Int)) (xs : List Int) (w : World) (hx : Mat w p c v) :
    Calls Try.prog 9 #[.agg #[.slice p v.length c], .slice q xs.length d] w fun e w' => e = .returned (.bool (greatG v xs)) ∧ Below w.heap.size w w' := by
  obtain ⟨W0, hW0⟩ : ∃ W0, w.alloc (.cells #[.slice p v.length c] 24) = W0 := ⟨_, rfl⟩
  have hB : Below w.heap.size w W0 := below_alloc hW0
  have bX : BoxV W0 w.heap.size [.slice p v.length c] := BoxV.new rfl hW0
  have hx := hx.below hB (Nat.le_refl _)
  have x0 := bX.cell 0 _ rfl
  have HW0 := Lib.hid hW0
  clear hW0
  have hl1 := hx.length_le
  go_enter Try.func9, Try.ntmps9
  go_wp2_with fail
  rw [HW0.out]
  go_loop [5] (fun t => ∃ k : Nat, k ≤ v.length ∧ k ≤ 20 ∧ t = .int .i64 k ∧ Hid (∀ i, i < k → (rget v i).length ≤ 50)) (fun t => v.length - (intOf t).toNat)
  case atStart => exact ⟨0, Nat.zero_le _, by omega, rfl, fun j hj => absurd hj (Nat.not_lt_zero j)⟩
  case round =>
    obtain ⟨k, hk, hk20, rfl, ht⟩ := hrel
    by_cases hlt : k < v.length
    · obtain ⟨b, o, rfl, _, q', d', hc, hi⟩ := hx.get hlt
      have hk1 : (k : Int) < v.length := by omega
      have hd1 : decide ((k : Int) < v.length) = true := by simpa using hk1
      by_cases h20 : k < 20
      · have hk2 : (k : Int) < 20 := by omega
        have hd2 : decide ((k : Int) < 20) = true := by simpa using hk2
        by_cases hl : 50 < (rget v k).length
        · have hd3 : decide (50 < ((rget v k).length : Int)) = true := by simp; omega
          have H := Lib.hid (greatG_true (v := v) (xs := xs) (.inl fun h => by have := h k hlt h20; omega))
          clear hl
          go_wp2_with fail
          go_ret
          exact ⟨ret_bool H.out.symm, hB⟩
        · have hd3 : decide (50 < ((rget v k).length : Int)) = false := by simp; omega
          have HP : Hid ((rget v k).length ≤ 50) := show _ ≤ _ by omega
          clear hl
          go_wp2_with fail
          go_round
          case rel => exact ⟨k + 1, by omega, by omega, by go_num, snoc_all' ht.out HP.out⟩
          case measure => simp [intOf]; omega
      · have hk2 : ¬ (k : Int) < 20 := by omega
        have hd2 : decide ((k : Int) < 20) = false := by simpa using hk2
        have hd3 : decide (20 < (v.length : Int)) = true := by simp; omega
        have H := Lib.hid (greatG_true (v := v) (xs := xs) (.inr (.inl (by omega))))
        go_wp2_with fail
        go_ret
        exact ⟨ret_bool H.out.symm, hB⟩
    · have hk1 : ¬ (k : Int) < v.length := by omega
      have hd1 : decide ((k : Int) < v.length) = false := by simpa using hk1
      have hd3 : decide (20 < (v.length : Int)) = false := by simp; omega
      have H : Hid (greatG v xs = decide (50 < (xs.length : Int))) := by
        unfold Hid greatG GreatG
        refine dec_congr ⟨fun h => ?_, fun h => .inr (.inr (by omega))⟩
        rcases h with h | h | h
        · exact absurd (fun i hi _ => ht.out i (by omega)) h
        · omega
        · omega
      go_wp2_with fail
      go_ret
      exact ⟨ret_bool H.out.symm, hB⟩
end Go.Proofs.Ytiohehofnlmenaa
