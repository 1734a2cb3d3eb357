/- The walks of robin.Check and of the reference's Check, Long and Great, for all turns; no condition. -/
import Derived.Test.YtiohehofnlmenaaTopChoresRunsm3
import Derived.Test.YtiohehofnlmenaaTopChoresRunsm9
import Derived.Shelf.Bits.Mul64
import Derived.Test.YtiohehofnlmenaaProg
import Derived.Test.YtiohehofnlmenaaTopChoresRunsm2
import Derived.Laws.CopyOwn
import Derived.Deep.RegionLaw
import Derived.Deep.DeepMust
import Derived.Maps.RangeWalk
/- The walks of robin.Check and of the reference's Check, Long and Great, for all turns; no condition. -/
namespace Go.Proofs.Ytiohehofnlmenaa
set_option linter.unusedVariables false
set_option linter.unusedSimpArgs false
open Go.ChangeShapes Go.WideShapes Go.ChangeAt Go.RowKit Go.Deep

def offTurn (n : Int) (ts : List Int) (j : Nat) : Bool := decide (iget ts j < 0 ∨ n ≤ iget ts j)
theorem enter_robinCheck1 (args : Array Value) (W : World) : (callFunc 70 args).run Try.prog W = .ok (.enter 70 args) W := by kernel_rfl
set_option maxHeartbeats 400000 in
theorem robinCheck1_any (x n : Int) (B : Nat) (w : World) (hx : in64 x) (hc : w.cell? ⟨B, 0, none⟩ = some (.int .i64 n)) :
    Calls Try.prog 70 #[.int .i64 x, .pointer (some ⟨B, 0, none⟩)] w fun e w' => e = .returned (.bool (decide (x < 0 ∨ n ≤ x))) ∧ w' = w := by
  obtain ⟨h1, h2⟩ := hx
  by_cases hlow : x < 0
  · have hd : decide (x < 0) = true := by simpa using hlow
    go_enter Try.func70, Try.ntmps70
    go_wp2_with fail
    go_ret
    exact ⟨ret_bool (by simp [hlow]), rfl⟩
  · have hd : decide (x < 0) = false := by simpa using hlow
    go_enter Try.func70, Try.ntmps70
    go_wp2_with fail
    go_ret
    exact ⟨ret_bool (by first | rfl | (rw [Bool.eq_iff_iff]; simp only [decide_eq_true_iff]; omega)), rfl⟩
set_option maxHeartbeats 800000 in
theorem robinCheck_any (n : Int) (p : Option Addr) (c : Nat) (ts : List Int) (w : World) (hx : Ints w p c ts) :
    Calls Try.prog 46 #[.int .i64 n, .slice p ts.length c] w fun e w' => e = .returned (.int .i64 (chkT n ts)) ∧ Below w.heap.size w w' := by
  obtain ⟨W0, hW0⟩ : ∃ W0, w.alloc (.cells #[.int .i64 n] 3) = W0 := ⟨_, rfl⟩
  have hB : Below w.heap.size w W0 := below_alloc hW0
  have bX : BoxV W0 w.heap.size [.int .i64 n] := BoxV.new rfl hW0
  have hx := hx.below hB (Nat.le_refl _)
  have x0 := bX.cell 0 _ rfl
  have HW0 := Lib.hid hW0
  clear hW0
  have hl1 := hx.length_le
  by_cases h1 : n < 1
  · have hd : decide (n < 1) = true := by simpa using h1
    have H := Lib.hid (chkT_arg (ts := ts) (.inl h1))
    go_enter Try.func46, Try.ntmps46
    go_wp2_with fail
    go_ret
    rw [HW0.out]
    exact ⟨ret_int H.out.symm, hB⟩
  have hd : decide (n < 1) = false := by simpa using h1
  by_cases h6 : 6 < n
  · have hd2 : decide (6 < n) = true := by simpa using h6
    have H := Lib.hid (chkT_arg (ts := ts) (.inr h6))
    go_enter Try.func46, Try.ntmps46
    go_wp2_with fail
    go_ret
    rw [HW0.out]
    exact ⟨ret_int H.out.symm, hB⟩
  have hd2 : decide (6 < n) = false := by simpa using h6
  by_cases hm : 60 < ts.length
  · have hd3 : decide (60 < (ts.length : Int)) = true := by simp; omega
    have H := Lib.hid (chkT_many (n := n) (ts := ts) (by omega) hm)
    go_enter Try.func46, Try.ntmps46
    go_wp2_with fail
    go_ret
    rw [HW0.out]
    exact ⟨ret_int H.out.symm, hB⟩
  have hd3 : decide (60 < (ts.length : Int)) = false := by simp; omega
  go_enter Try.func46, Try.ntmps46
  go_wp2_with fail
  rw [HW0.out]
  refine (containsFunc1_any 70 (.pointer (some ⟨w.heap.size, 0, none⟩)) (offTurn n ts) (fun W => W = W0) enter_robinCheck1 p c ts W0 rfl (fun W hW => by rw [hW]; exact hx)
    (fun j W hj hW => by subst hW; exact robinCheck1_any _ n _ _ (hx.rng j hj) x0)).mono ?_
  rintro e w' ⟨rfl, rfl⟩
  cases hany : anyN (offTurn n ts) ts.length with
  | true =>
    have H := Lib.hid (chkT_bad (n := n) (ts := ts) (by omega) hm (fun h => by
      obtain ⟨j, hj, hp⟩ := anyN_true.1 hany
      have := h j hj
      simp [offTurn] at hp; omega))
    clear hany
    go_wp2_with fail
    go_ret
    exact ⟨ret_int H.out.symm, hB⟩
  | false =>
    have H := Lib.hid (chkT_ok (n := n) (ts := ts) (by omega) hm (fun j hj => by
      have := anyN_false.1 hany j hj
      simp [offTurn] at this; omega))
    clear hany
    go_wp2_with fail
    go_ret
    exact ⟨ret_int H.out.symm, hB⟩

set_option maxHeartbeats 800000 in
theorem ref18Check_any (n : Int) (p : Option Addr) (c : Nat) (ts : List Int) (w : World) (hx : Ints w p c ts) :
    Calls Try.prog 51 #[.int .i64 n, .slice p ts.length c] w fun e w' => e = .returned (.int .i64 (chkT n ts)) ∧ w' = w := by
  have hl1 := hx.length_le
  by_cases h1 : n < 1
  · have hd : decide (n < 1) = true := by simpa using h1
    have H := Lib.hid (chkT_arg (ts := ts) (.inl h1))
    go_enter Try.func51, Try.ntmps51
    go_wp2_with fail
    go_ret
    exact ⟨ret_int H.out.symm, rfl⟩
  have hd : decide (n < 1) = false := by simpa using h1
  by_cases h6 : 6 < n
  · have hd2 : decide (6 < n) = true := by simpa using h6
    have H := Lib.hid (chkT_arg (ts := ts) (.inr h6))
    go_enter Try.func51, Try.ntmps51
    go_wp2_with fail
    go_ret
    exact ⟨ret_int H.out.symm, rfl⟩
  have hd2 : decide (6 < n) = false := by simpa using h6
  by_cases hm : 60 < ts.length
  · have hd3 : decide (60 < (ts.length : Int)) = true := by simp; omega
    have H := Lib.hid (chkT_many (n := n) (ts := ts) (by omega) hm)
    go_enter Try.func51, Try.ntmps51
    go_wp2_with fail
    go_ret
    exact ⟨ret_int H.out.symm, rfl⟩
  have hd3 : decide (60 < (ts.length : Int)) = false := by simp; omega
  go_enter Try.func51, Try.ntmps51
  go_wp2_with fail
  go_loop [5] (fun t => ∃ k : Nat, k ≤ ts.length ∧ t = .int .i64 k ∧ Hid (∀ i, i < k → 0 ≤ iget ts i ∧ iget ts i < n)) (fun t => ts.length - (intOf t).toNat)
  case atStart => exact ⟨0, Nat.zero_le _, rfl, fun j hj => absurd hj (Nat.not_lt_zero j)⟩
  case round =>
    obtain ⟨k, hk, rfl, ht⟩ := hrel
    by_cases hlt : k < ts.length
    · obtain ⟨b, o, rfl, _, hc⟩ := hx.get hlt
      have hk1 : (k : Int) < ts.length := by omega
      by_cases hlow : iget ts k < 0
      · have hdl : decide (iget ts k < 0) = true := by simpa using hlow
        have H := Lib.hid (chkT_bad (n := n) (ts := ts) (by omega) hm (fun h => by have := (h k hlt).1; omega))
        clear hlow
        go_wp2_with fail
        go_ret
        exact ⟨ret_int H.out.symm, rfl⟩
      · have hdl : decide (iget ts k < 0) = false := by simpa using hlow
        by_cases hhi : n ≤ iget ts k
        · have hdh : decide (n ≤ iget ts k) = true := by simpa using hhi
          have H := Lib.hid (chkT_bad (n := n) (ts := ts) (by omega) hm (fun h => by have := (h k hlt).2; omega))
          clear hlow hhi
          go_wp2_with fail
          go_ret
          exact ⟨ret_int H.out.symm, rfl⟩
        · have hdh : decide (n ≤ iget ts k) = false := by simpa using hhi
          have HP : Hid (0 ≤ iget ts k ∧ iget ts k < n) := show _ ∧ _ by omega
          clear hlow hhi
          go_wp2_with fail
          go_round
          case rel => exact ⟨k + 1, by omega, by go_num, snoc_all' ht.out HP.out⟩
          case measure => simp [intOf]; omega
    · have hk1 : ¬ (k : Int) < ts.length := by omega
      have H := Lib.hid (chkT_ok (n := n) (ts := ts) (by omega) hm (fun i hi => ht.out i (by omega)))
      go_wp2_with fail
      go_ret
      exact ⟨ret_int H.out.symm, rfl⟩
theorem long_any (p : Option Addr) (c n : Nat) (w : World) :
    Calls Try.prog 23 #[.slice p n c] w fun e w' => e = .returned (.bool (decide (100 < n))) ∧ w' = w := by
  go_enter Try.func23, Try.ntmps23
  go_wp2
  go_ret
  exact ⟨ret_bool (by rw [Bool.eq_iff_iff, decide_eq_true_iff, decide_eq_true_iff]; omega), rfl⟩

theorem greatG_true {v : List (List Int)} {xs : List Int} (h : GreatG v xs) : greatG v xs = true := by simp [greatG, h]
theorem greatG_false {v : List (List Int)} {xs : List Int} (h : ¬ GreatG v xs) : greatG v xs = false := by simp [greatG, h]
set_option maxHeartbeats 1600000 in
theorem great16_any (p q : Option Addr) (c d : Nat) (v : List (List Int)) (xs : List Int) (w : World) (hx : Mat w p c v) :
    Calls Try.prog 9 #[.agg #[.slice p v.length c], .slice q xs.length d] w fun e w' => e = .returned (.bool (greatG v xs)) ∧ Below w.heap.size w w' := by
  obtain ⟨W0, hW0⟩ : ∃ W0, w.alloc (.cells #[.slice p v.length c] 24) = W0 := ⟨_, rfl⟩
  have hB : Below w.heap.size w W0 := below_alloc hW0
  have bX : BoxV W0 w.heap.size [.slice p v.length c] := BoxV.new rfl hW0
  have hx := hx.below hB (Nat.le_refl _)
  have x0 := bX.cell 0 _ rfl
  have HW0 := Lib.hid hW0
  clear hW0
  have hl1 := hx.length_le
  go_enter Try.func9, Try.ntmps9
  go_wp2_with fail
  rw [HW0.out]
  go_loop [5] (fun t => ∃ k : Nat, k ≤ v.length ∧ k ≤ 20 ∧ t = .int .i64 k ∧ Hid (∀ i, i < k → (rget v i).length ≤ 50)) (fun t => v.length - (intOf t).toNat)
  case atStart => exact ⟨0, Nat.zero_le _, by omega, rfl, fun j hj => absurd hj (Nat.not_lt_zero j)⟩
  case round =>
    obtain ⟨k, hk, hk20, rfl, ht⟩ := hrel
    by_cases hlt : k < v.length
    · obtain ⟨b, o, rfl, _, q', d', hc, hi⟩ := hx.get hlt
      have hk1 : (k : Int) < v.length := by omega
      have hd1 : decide ((k : Int) < v.length) = true := by simpa using hk1
      by_cases h20 : k < 20
      · have hk2 : (k : Int) < 20 := by omega
        have hd2 : decide ((k : Int) < 20) = true := by simpa using hk2
        by_cases hl : 50 < (rget v k).length
        · have hd3 : decide (50 < ((rget v k).length : Int)) = true := by simp; omega
          have H := Lib.hid (greatG_true (v := v) (xs := xs) (.inl fun h => by have := h k hlt h20; omega))
          clear hl
          go_wp2_with fail
          go_ret
          exact ⟨ret_bool H.out.symm, hB⟩
        · have hd3 : decide (50 < ((rget v k).length : Int)) = false := by simp; omega
          have HP : Hid ((rget v k).length ≤ 50) := show _ ≤ _ by omega
          clear hl
          go_wp2_with fail
          go_round
          case rel => exact ⟨k + 1, by omega, by omega, by go_num, snoc_all' ht.out HP.out⟩
          case measure => simp [intOf]; omega
      · have hk2 : ¬ (k : Int) < 20 := by omega
        have hd2 : decide ((k : Int) < 20) = false := by simpa using hk2
        have hd3 : decide (20 < (v.length : Int)) = true := by simp; omega
        have H := Lib.hid (greatG_true (v := v) (xs := xs) (.inr (.inl (by omega))))
        go_wp2_with fail
        go_ret
        exact ⟨ret_bool H.out.symm, hB⟩
    · have hk1 : ¬ (k : Int) < v.length := by omega
      have hd1 : decide ((k : Int) < v.length) = false := by simpa using hk1
      have hd3 : decide (20 < (v.length : Int)) = false := by simp; omega
      have H : Hid (greatG v xs = decide (50 < (xs.length : Int))) := by
        unfold Hid greatG GreatG
        refine dec_congr ⟨fun h => ?_, fun h => .inr (.inr (by omega))⟩
        rcases h with h | h | h
        · exact absurd (fun i hi _ => ht.out i (by omega)) h
        · omega
        · omega
      go_wp2_with fail
      go_ret
      exact ⟨ret_bool H.out.symm, hB⟩
end Go.Proofs.Ytiohehofnlmenaa

/-
  DERIVED: THE SHELF's CONTRACTS AT THIS DUMP, IN PLAIN WORDS (tools/lay-plain.mjs out of 'TryShelf.lean', which tools/lay-shelf.mjs wrote): THE SAME DECLARATIONS UNDER THE SAME NAMES: 'import', 'namespace', 'open', 'def', 'theorem' AND NOTHING ELSE: no command of the shelf's: FOR A HAND-IN. Each laying: the table of numbers ('.._ren') and one theorem, a field a fact of the dump's own or the kernel's comparison; each contract: ONE APPLICATION.
-/
namespace Go.Proofs
open Go.Shelf
def Try.lays264_ren : Go.Shelf.Ren := ⟨fun | 264 => 80 | n => n, fun | 53 => 113 | 46 => 100 | n => n, fun | n => n⟩
theorem Try.lays264 : Go.Proofs.Lays.n264 Try.prog Try.lays264_ren := {
  mixed := by kernel_rfl
  f264 := Try.func80.trans (congrArg some (by kernel_rfl))
  t46 := Try.underlying100
  a46 := Try.isAgg100
  z46 := Try.sizeOf100
  v46 := Try.zeroValue100
  t53 := Try.underlying113
  a53 := Try.isAgg113
  z53 := Try.sizeOf113
  v53 := Try.zeroValue113 }
open Go.RowKit Go.Lib in
theorem Try.bits_Mul64 (x y : Nat) (hx : x < 18446744073709551616) (hy : y < 18446744073709551616) (w : World) :
    Calls Try.prog 80 #[.int .u64 x, .int .u64 y] w fun e w' => e = .returned (.tuple #[.int .u64 ((x * y / 18446744073709551616 : Nat) : Int), .int .u64 ((x * y % 18446744073709551616 : Nat) : Int)]) ∧ w' = w := Any.bits_Mul64 Try.lays264 x y hx hy w
def Try.lays212_ren : Go.Shelf.Ren := ⟨fun | 212 => 71 | 263 => 79 | 264 => 80 | n => n, fun | 46 => 100 | 51 => 110 | 146 => 111 | 53 => 113 | 148 => 114 | n => n, fun | n => n⟩
theorem Try.lays212 : Go.Proofs.Lays.n212 Try.prog Try.lays212_ren := {
  mixed := by kernel_rfl
  f212 := Try.func71.trans (congrArg some (by kernel_rfl))
  f263 := Try.func79.trans (congrArg some (by kernel_rfl))
  f264 := Try.func80.trans (congrArg some (by kernel_rfl))
  t46 := Try.underlying100
  a46 := Try.isAgg100
  z46 := Try.sizeOf100
  v46 := Try.zeroValue100
  t51 := Try.underlying110
  a51 := Try.isAgg110
  z51 := Try.sizeOf110
  v51 := Try.zeroValue110
  t53 := Try.underlying113
  a53 := Try.isAgg113
  z53 := Try.sizeOf113
  v53 := Try.zeroValue113
  t146 := Try.underlying111
  a146 := Try.isAgg111
  z146 := Try.sizeOf111
  v146 := Try.zeroValue111
  t148 := Try.underlying114
  a148 := Try.isAgg114
  z148 := Try.sizeOf114
  v148 := Try.zeroValue114 }
open Go.RowKit Go.Lib in
/-- math/bits.Mul: "Mul returns the full-width product of x and y": on a machine of 64 bits: Mul64's. (LAID: no walk: one application.) -/
theorem Try.bits_Mul (x y : Nat) (hx : x < 18446744073709551616) (hy : y < 18446744073709551616) (w : World) :
    Calls Try.prog 71 #[.int .u64 x, .int .u64 y] w fun e w' => e = .returned (.tuple #[.int .u64 ((x * y / 18446744073709551616 : Nat) : Int), .int .u64 ((x * y % 18446744073709551616 : Nat) : Int)]) ∧ w' = w := Any.bits_Mul Try.lays212 x y hx hy w
end Go.Proofs

/- slices.Repeat of one number: what it hands back; no condition but the size. -/
namespace Go.Proofs.Ytiohehofnlmenaa
set_option linter.unusedVariables false
set_option linter.unusedSimpArgs false
open Go.ChangeShapes Go.WideShapes Go.ChangeAt Go.RowKit Go.Deep

/-- Block g holds just these numbers. -/
def RowAt (w : World) (g : Nat) (xs : List Int) : Prop := w.heap[g]? = some (.cells (xs.map (Value.int .i64)).toArray 3 (0, 0))
theorem own_rowAt {w : World} {base g : Nat} {xs : List Int} (h : Own w base (some ⟨g, 0, none⟩) xs.length xs) : RowAt w g xs := by
  rcases h.row.2 with ⟨h1, _⟩ | ⟨g', cap, cur, h1, h2, h3, h4, h5, h6, h7⟩
  · simp at h1
  · simp only [Value.slice.injEq, Option.some.injEq, Addr.mk.injEq, and_true, true_and] at h1
    obtain ⟨rfl, rfl⟩ := h1
    unfold RowAt
    rw [h3]
    have : cur.toList = xs.map (Value.int .i64) := by
      rw [← h7, List.take_of_length_le]
      simp [h6]
    rw [← this]
theorem rowAt_own {w : World} {base g : Nat} {xs : List Int} (h : RowAt w g xs) (hb : base ≤ g) (hl : xs.length ≤ 1000000) (hr : ∀ j, j < xs.length → in64 (iget xs j)) : Own w base (some ⟨g, 0, none⟩) xs.length xs :=
  ⟨⟨by simp, .inr ⟨g, xs.length, _, rfl, hb, h, Nat.le_refl _, by simp [maxLen]; omega, by simp, by rw [List.take_of_length_le (by simp)]⟩⟩, hr⟩
theorem RowAt.cell {w : World} {g : Nat} {xs : List Int} (h : RowAt w g xs) {j : Nat} (hj : j < xs.length) : w.cell? ⟨g, j, none⟩ = some (.int .i64 (iget xs j)) := by
  unfold RowAt at h
  simp only [World.cell?, h]
  simp [hj, iget]
theorem RowAt.lt {w : World} {g : Nat} {xs : List Int} (h : RowAt w g xs) : g < w.heap.size := (Array.getElem?_eq_some_iff.1 h).1
theorem rowAt_splice {w : World} {g off : Nat} {cur cs : List Int} (h : Hid (w.heap[g]? = some (.cells (splice (cur.map (Value.int .i64)) off (cs.map (Value.int .i64))).toArray 3 (0, 0)))) : RowAt w g (splice cur off cs) := by
  have e : splice (cur.map (Value.int .i64)) off (cs.map (Value.int .i64)) = (splice cur off cs).map (Value.int .i64) := by simp [splice]
  have := h.out
  rw [e] at this
  exact this

/-- The row while it is filled. -/
def fillR (x : Int) (n k : Nat) : List Int := List.replicate k x ++ List.replicate (n - k) 0
theorem fillR_len {x : Int} {n k : Nat} (h : k ≤ n) : (fillR x n k).length = n := by simp [fillR]; omega
theorem fillR_get {x : Int} {n k j : Nat} (h : j < k) (hk : k ≤ n) : iget (fillR x n k) j = x := by
  unfold fillR
  rw [iget_append]
  simp [h, iget]
theorem fillR_step {x : Int} {n k : Nat} (hk : k ≤ n) (m : Nat) (hm : k + m ≤ n) : splice (fillR x n k) k (List.replicate m x) = fillR x n (k + m) := by
  unfold splice fillR
  rw [List.take_append_of_le_length (by simp), List.take_of_length_le (by simp)]
  rw [List.drop_append, List.drop_eq_nil_of_le (by simp), List.nil_append, List.length_replicate, List.length_replicate, List.drop_replicate, ← List.append_assoc, List.replicate_append_replicate]
  congr 2
  omega
theorem fillR_full {x : Int} {n : Nat} : fillR x n n = List.replicate n x := by simp [fillR]
theorem fillR_zero {x : Int} {n : Nat} : fillR x n 0 = List.replicate n 0 := by simp [fillR]

theorem mul1_any (n : Nat) (hn : n ≤ 1000) (w : World) : Calls Try.prog 71 #[.int .u64 1, .int .u64 n] w fun e w' => e = .returned (.tuple #[.int .u64 0, .int .u64 n]) ∧ w' = w := by
  refine (Try.bits_Mul 1 n (by omega) (by omega) w).mono ?_
  rintro e w' ⟨rfl, rfl⟩
  rw [Nat.one_mul, Nat.div_eq_of_lt (by omega), Nat.mod_eq_of_lt (by omega)]
  exact ⟨rfl, rfl⟩
theorem made_row {w w1 : World} {n : Nat} {x : Int} (hO : Own w1 w.heap.size (some ⟨w.heap.size, 0, none⟩) n (List.replicate n 0)) : RowAt w1 w.heap.size (fillR x n 0) := by
  rw [fillR_zero]
  have : Own w1 w.heap.size (some ⟨w.heap.size, 0, none⟩) (List.replicate n (0 : Int)).length (List.replicate n 0) := by simpa using hO
  exact own_rowAt this
theorem made_below {w w1 : World} (hg : w.grownBy w1 none) : Below w.heap.size w w1 := below_grown (p := none) (base := w.heap.size) (Below.refl _ _) hg (Nat.le_refl _) (fun _ h => by cases h) (Nat.le_refl _)
theorem src_one {w w1 : World} {b o : Nat} {x : Int} (hb : b < w.heap.size) (hc : w.cell? ⟨b, o, none⟩ = some (.int .i64 x)) (h : Below w.heap.size w w1) : ∀ (j : Nat) (u : Value), ([x].map (Value.int .i64))[j]? = some u → w1.cell? ((⟨b, o, none⟩ : Addr).add j) = some u := by
  intro j u hu
  have hj : j = 0 := by
    have := (List.getElem?_eq_some_iff.1 hu).1
    simpa using this
  subst hj
  simp at hu; subst hu
  rw [add_plain]
  exact (h.cell (p := ⟨b, o, none⟩) hb).trans hc
theorem fill_cs {x : Int} {n k m : Nat} {w : World} {g : Nat} (h : RowAt w g (fillR x n k)) (hk : k ≤ n) (hm : m ≤ k) : ∀ (j : Nat) (u : Value), ((List.replicate m x).map (Value.int .i64))[j]? = some u → w.cell? ((⟨g, 0, none⟩ : Addr).add j) = some u := by
  intro j u hu
  rw [List.getElem?_map, List.getElem?_replicate] at hu
  split at hu
  · rename_i hj
    simp at hu; subst hu
    rw [add_plain, Nat.zero_add, h.cell (by rw [fillR_len hk]; omega), fillR_get (by omega) hk]
  · simp at hu
set_option maxHeartbeats 4000000 in
set_option maxRecDepth 100000 in
theorem repeat1_any (p : Option Addr) (c : Nat) (x : Int) (n : Nat) (w : World) (hx : Ints w p c [x]) (hn : n ≤ 1000) (hx64 : in64 x) :
    Calls Try.prog 47 #[.slice p 1 c, .int .i64 n] w fun e w' => ∃ g c', e = .returned (.slice (some ⟨g, 0, none⟩) n c') ∧ Own w' w.heap.size (some ⟨g, 0, none⟩) c' (List.replicate n x) ∧ Below w.heap.size w w' := by
  obtain ⟨b, o, rfl, hb, hc⟩ := hx.get (j := 0) (by simp)
  have hsz : (Try.prog.info? 3).map (·.size) = some 1 := by kernel_rfl
  have hnn : ¬ (n : Int) < 0 := by omega
  have hd : decide (9223372036854775807 < (n : Int)) = false := by simp; omega
  have hrep : ∀ j, j < (List.replicate n x).length → in64 (iget (List.replicate n x) j) := fun j hj => by
    have : iget (List.replicate n x) j = x := by simp at hj; simp [iget, hj]
    rw [this]; exact hx64
  have Hrep := Lib.hid hrep
  have Hsz := Lib.hid hsz
  clear hrep hsz
  go_enter Try.func47, Try.ntmps47
  go_wp2_with fail
  refine (mul1_any n hn w).mono ?_
  rintro e w' ⟨rfl, rfl⟩
  by_cases h0 : n < 1
  · have h00 : n = 0 := by omega
    have h0' : Hid (0 = Nat.min 1 n) := by unfold Hid; rw [h00]; rfl
    have HE : Hid (List.replicate n x = []) := by unfold Hid; rw [h00]; rfl
    have hle : ¬ (0 : Int) < n := by omega
    clear h00
    go_wp2_with (first
      | (at_make; refine wpList_mk rfl (.tmp 29) (.tmp 29) rfl w'.heap.size n rfl rfl (by omega) (Nat.le_refl _) ?_; intro w1 hO hg1 hs1; have hrow := Lib.hid (made_row (x := x) hO); have hbel := made_below hg1)
      | ((with_reducible show wpList _ _ _ (⟨some 33, _, _, _, _, _⟩ :: _) _ _); go_must (refine wpList_copy_splice rfl (.tmp 31) (.tmp 32) 25 25 rfl 3 Try.underlying25 Hsz.out (some ⟨w'.heap.size, 0, none⟩) (some ⟨b, o, none⟩) n n 1 c rfl rfl w'.heap.size 0 ((fillR x n 0).map (Value.int .i64)) 3 hrow.out [] h0'.out (fun h => absurd h (by simp)) (by simp) (by simp) w'.heap.size w' hbel (Nat.le_refl _) ?_); intro w2 hw2 hb2))
    go_loopw [8] (fun t wr => t = .int .i64 0 ∧ wr = w2) (fun t _ => 0)
    case atStart => exact ⟨rfl, rfl⟩
    case round =>
      obtain ⟨rfl, rfl⟩ := hrel
      go_wp2_with fail
      go_ret
      have hr := rowAt_splice (cs := []) hw2
      have e : splice (fillR x n 0) 0 [] = List.replicate n x := by
        have : n = 0 := by omega
        subst this; rfl
      rw [e] at hr
      exact ⟨w'.heap.size, n, by rfl, by have := rowAt_own hr (Nat.le_refl _) (by simp; omega) Hrep.out; simpa using this, hb2⟩
  · have h1 : Hid (([x].map (Value.int .i64)).length = Nat.min 1 n) := by
      show 1 = min 1 n
      omega
    have hc' : w'.cell? ⟨b, o, none⟩ = some (.int .i64 x) := hc
    go_wp2_with (first
      | (at_make; refine wpList_mk rfl (.tmp 29) (.tmp 29) rfl w'.heap.size n rfl rfl (by omega) (Nat.le_refl _) ?_; intro w1 hO hg1 hs1; have hrow := Lib.hid (made_row (x := x) hO); have hbel := made_below hg1; have hsrc := Lib.hid (src_one hb hc' hbel))
      | ((with_reducible show wpList _ _ _ (⟨some 33, _, _, _, _, _⟩ :: _) _ _); go_must (refine wpList_copy_splice rfl (.tmp 31) (.tmp 32) 25 25 rfl 3 Try.underlying25 Hsz.out (some ⟨w'.heap.size, 0, none⟩) (some ⟨b, o, none⟩) n n 1 c rfl rfl w'.heap.size 0 ((fillR x n 0).map (Value.int .i64)) 3 hrow.out ([x].map (Value.int .i64)) h1.out (fun _ => ⟨rfl, _, rfl, hsrc.out⟩) (by simp [fillR_len]; omega) (by simp [Value.oneCell']) w'.heap.size w' hbel (Nat.le_refl _) ?_); intro w2 hw2 hb2))
    have hr2 : Hid (RowAt w2 w'.heap.size (fillR x n 1)) := by
      have hr := rowAt_splice (cs := [x]) hw2
      have e : splice (fillR x n 0) 0 [x] = fillR x n 1 := fillR_step (Nat.zero_le _) 1 (by omega)
      rw [e] at hr
      exact hr
    clear hw2 hrow hsrc
    go_loopw [8] (fun t wr => ∃ k : Nat, 1 ≤ k ∧ k ≤ n ∧ t = .int .i64 k ∧ Hid (RowAt wr w'.heap.size (fillR x n k)) ∧ Below w'.heap.size w' wr) (fun t _ => n - (intOf t).toNat)
    case atStart => exact ⟨1, by omega, by omega, by rfl, hr2, hb2⟩
    case round =>
      obtain ⟨k, hk1, hk, rfl, hr, hbr⟩ := hrel
      by_cases hlt : k < n
      · have hlt1 : (k : Int) < n := by omega
        obtain ⟨m, hm1, hm2, hm⟩ : ∃ m : Nat, m ≤ k ∧ k + m ≤ n ∧ (m = min k (n - k)) := ⟨min k (n - k), by omega, by omega, rfl⟩
        have Hm := Lib.hid hm
        have hmp : 0 < m := by omega
        have Hm2 : Hid (((List.replicate m x).map (Value.int .i64)).length = Nat.min k (n - k)) := by unfold Hid; rw [List.length_map, List.length_replicate, hm]
        have hrd : Hid (RowAt wr.drew w'.heap.size (fillR x n k)) := hr
        have hcs := Lib.hid (fill_cs hrd.out hk hm1)
        have hbd : Below w'.heap.size w' wr.drew := hbr.drew
        have hk0 : (0 : Int) ≤ k := by omega
        clear hm
        have hk3 : (k : Int) ≤ n := by omega
        have Hfit : Hid (k + ((List.replicate m x).map (Value.int .i64)).length ≤ ((fillR x n k).map (Value.int .i64)).length) := by
          unfold Hid; rw [List.length_map, List.length_map, List.length_replicate, fillR_len hk]; exact hm2
        have Hone : Hid (∀ v ∈ (List.replicate m x).map (Value.int .i64), v.oneCell' = true) := by unfold Hid; simp [Value.oneCell']
        go_wp2_with fail
        have hne : ¬ n = k := by omega
        have hwr : IntKind.i64.wrap ((k : Int) + (m : Int)) = (k : Int) + (m : Int) := IntWalk.i64_in _ (by omega)
        have hne2 : ¬ (n : Int) = k := by omega
        go_region_law ((refine step_copy_splice rfl (.tmp 41) (.tmp 44) 25 25 rfl 3 Try.underlying25 Hsz.out (some ⟨w'.heap.size, k, none⟩) (some ⟨w'.heap.size, 0, none⟩) (n - k) (n - k) k n (by go_simp) (by go_simp) w'.heap.size k ((fillR x n k).map (Value.int .i64)) 3 hrd.out ((List.replicate m x).map (Value.int .i64)) Hm2.out (fun _ => ⟨rfl, _, rfl, hcs.out⟩) Hfit.out Hone.out w'.heap.size w' hbd (Nat.le_refl _) ?_; intro w4 hw4 hb4))
        go_simp
        go_wp2_with fail
        have hr4 : RowAt w4 w'.heap.size (fillR x n (k + m)) := by
          have hr := rowAt_splice hw4
          rwa [fillR_step hk m hm2] at hr
        go_roundw
        case rel => exact ⟨k + m, by omega, hm2, by go_num, hr4, hb4⟩
        case measure => simp [intOf]; omega
      · have hlt1 : ¬ (k : Int) < n := by omega
        obtain rfl : k = n := by omega
        go_wp2_with fail
        go_ret
        have hr := hr.out
        rw [fillR_full] at hr
        exact ⟨w'.heap.size, k, by rfl, by have := rowAt_own hr (Nat.le_refl _) (by simp; omega) Hrep.out; simpa using this, hbr⟩
end Go.Proofs.Ytiohehofnlmenaa

/- The walk of robin.Pick, for every goods and turns; no condition. -/
namespace Go.Proofs.Ytiohehofnlmenaa
set_option linter.unusedVariables false
set_option linter.unusedSimpArgs false
open Go.ChangeShapes Go.WideShapes Go.ChangeAt Go.RowKit Go.Deep

/-- Two rows of the call's own, and an error. -/
def GivesLL (w : World) (xs ys : List Int) (k : Int) (e : Ending) (w' : World) : Prop :=
  ∃ p c q d, e = .returned (.tuple #[.slice p xs.length c, .slice q ys.length d, .int .i64 k]) ∧ Own w' w.heap.size p c xs ∧ Own w' w.heap.size q d ys ∧ Below w.heap.size w w'
/-- What valid goods and turns bring. -/
structure Picks (v : List (List Int)) (ts : List Int) : Prop where
  n1 : 1 ≤ v.length
  n6 : v.length ≤ 6
  m10 : wid v ≤ 10
  row : ∀ i, i < v.length → (rget v i).length = wid v
  few : ts.length ≤ 60
  turn : ∀ k, k < ts.length → ∃ i : Nat, iget ts k = i ∧ i < v.length
theorem picks_of {v : List (List Int)} {ts : List Int} (hg : chkG v = 0) (ht : chkT v.length ts = 0) : Picks v ts := by
  obtain ⟨h1, h2, h3, h4⟩ := chkG_zero.1 hg
  obtain ⟨_, _, h5, h6⟩ := chkT_zero.1 ht
  exact ⟨h1, h2, h3, fun i hi => (h4 i hi).1, h5, fun k hk => ⟨(iget ts k).toNat, by have := h6 k hk; omega, by have := h6 k hk; omega⟩⟩

/-- A store into one row leaves another one. -/
theorem Own.beside {w : World} {base : Nat} {p : Option Addr} {c : Nat} {xs : List Int} {g x : Nat} {u : Value} (h : Own w base p c xs) (hne : blk p ≠ some g) : Own (w.setCell ⟨g, x, none⟩ u) base p c xs :=
  h.keptBy (row := some g) ⟨rfl, rfl, rfl, by simp [World.setCell], fun k _ hk => Below.heap_setCell w ⟨g, x, none⟩ _ k (fun e => hk (by simp only at e; rw [e]))⟩ (fun k hk e => hne (by rw [hk]; exact e.symm))

end Go.Proofs.Ytiohehofnlmenaa
