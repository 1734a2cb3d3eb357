/- ratio.Check and check at reduced ratios with small parts; math/bits.Add64, Sub64, Div64, Rem64 where the upper words are 0. -/
import Derived.Test.YtmcncflieoolmaaTopTopRentm9
import Derived.Test.YtmcncflieoolmaaTopTopRentm13
import Derived.Test.YtmcncflieoolmaaTopTopRentm20
import Derived.Laws.Externs
import Derived.Deep.RegionHeld3
import Derived.Deep.DeepCutAuto
import Derived.Test.YtmcncflieoolmaaTopTopRentm18
import Derived.Test.YtmcncflieoolmaaTopTopRentm10
import Derived.Test.YtmcncflieoolmaaTopTopRentm19
/- ratio.Check and check at reduced ratios with small parts; math/bits.Add64, Sub64, Div64, Rem64 where the upper words are 0. -/
namespace Go.Proofs.Ytmcncflieoolmaa
set_option linter.unusedVariables false
set_option linter.unusedSimpArgs false
open Go.ChangeShapes Go.WideShapes Go.ChangeAt Go.RowKit Go.Deep

def subEntry : Array Value → Sem Value := fun args => do
  let (x, y, b) ← Extern.MathBitsCarry.three "Sub64" args
  pure (Extern.MathBitsCarry.pair ((x + Extern.MathBitsCarry.m64 - y - b) % Extern.MathBitsCarry.m64) (if x < y + b then 1 else 0))
theorem add64_nil (a b : Nat) (h : a + b < 18446744073709551616) (w : World) : (callFunc 68 #[.int .u64 (a : Int), .int .u64 (b : Int), .int .u64 0]).run Try.prog w = .ok (.value (.tuple #[.int .u64 ((a + b : Nat) : Int), .int .u64 0])) w := by
  rw [run_callFunc_extern Try.func68 (by kernel_rfl) (by kernel_rfl) (by kernel_rfl) (e := add64Entry) (by kernel_rfl), run_add64 a b 0 (by omega) (by omega) (by omega) (by omega)]
  simp only [Result.andThen]
  have h1 : ((a : Int) + b + 0) % 18446744073709551616 = ((a + b : Nat) : Int) := by omega
  have h2 : ((a : Int) + b + 0) / 18446744073709551616 = 0 := by omega
  rw [h1, h2]
theorem run_sub64N (x y : Nat) (hy : y ≤ x) (hx : x < 18446744073709551616) (w : World) :
    (subEntry #[.int .u64 x, .int .u64 y, .int .u64 0]).run Try.prog w = .ok (.tuple #[.int .u64 ((x - y : Nat) : Int), .int .u64 0]) w := by
  have h0 : (subEntry #[.int .u64 x, .int .u64 y, .int .u64 0]).run Try.prog w = .ok (.tuple #[.int .u64 (((x + 18446744073709551616 - y - 0) % 18446744073709551616 : Nat) : Int), .int .u64 ((if x < y + 0 then 1 else 0 : Nat) : Int)]) w := rfl
  rw [h0]
  have h1 : (x + 18446744073709551616 - y - 0) % 18446744073709551616 = x - y := by omega
  rw [h1, if_neg (by omega)]
  rfl
theorem sub64_nil (a b : Nat) (h : b ≤ a) (ha : a < 18446744073709551616) (w : World) : (callFunc 69 #[.int .u64 (a : Int), .int .u64 (b : Int), .int .u64 0]).run Try.prog w = .ok (.value (.tuple #[.int .u64 ((a - b : Nat) : Int), .int .u64 0])) w := by
  rw [run_callFunc_extern Try.func69 (by kernel_rfl) (by kernel_rfl) (by kernel_rfl) (e := subEntry) (by kernel_rfl), run_sub64N a b h ha]
  simp only [Result.andThen]
set_option maxHeartbeats 1600000 in
theorem div64_one (t : Nat) (ht : t < 18446744073709551616) (w : World) :
    Calls Try.prog 71 #[.int .u64 0, .int .u64 t, .int .u64 1] w fun e w' => e = .returned (.tuple #[.int .u64 t, .int .u64 0]) ∧ ∃ n, w' = w.drewN n := by
  have h1 : (t : Int).tdiv 1 = t := by simp
  have h2 : (t : Int).tmod 1 = 0 := by simp
  have h3 : IntKind.u64.wrap (t : Int) = t := by simp only [IntKind.wrap, IntKind.bits, IntKind.signed]; simp; omega
  go_enter Try.func71, Try.ntmps71
  go_wp2_with fail
  go_quiet (fail)
  go_wp2_with fail
  exact bodyPost_ret (v := .tuple #[.int .u64 t, .int .u64 0]) (by simp [results, Try.results71, go_sem]) rfl ⟨rfl, _, rfl⟩
set_option maxHeartbeats 1600000 in
theorem rem64_one (t : Nat) (ht : t < 18446744073709551616) (w : World) :
    Calls Try.prog 70 #[.int .u64 0, .int .u64 t, .int .u64 1] w fun e w' => e = .returned (.int .u64 0) ∧ ∃ n, w' = w.drewN n := by
  go_enter Try.func70, Try.ntmps70
  go_wp2_with fail
  refine (div64_one t ht _).mono ?_
  rintro e w' ⟨rfl, n, rfl⟩
  go_wp2_with fail
  go_ret
  exact ⟨rfl, _, rfl⟩
set_option maxHeartbeats 1600000 in
theorem ratCheck_any (a : Int) (b : Nat) (w : World) (ha : -1000000000 ≤ a ∧ a ≤ 1000000000) (hb : 0 < b ∧ b ≤ 1000000000) (hg : Nat.gcd a.natAbs b = 1) :
    Calls Try.prog 66 #[.agg #[.int .i64 a, .int .i64 b]] w fun e w' => e = .returned (.int .i64 0) ∧ Below w.heap.size w w' := by
  obtain ⟨W0, hW0⟩ : ∃ W, w.alloc (.cells #[.int .i64 a, .int .i64 b] 35) = W := ⟨_, rfl⟩
  have hB := below_alloc hW0
  have bX : BoxV W0 w.heap.size [.int .i64 a, .int .i64 b] := BoxV.new rfl hW0
  have HW0 := Lib.hid hW0
  clear hW0
  have k0 := bX.cell 0 _ rfl
  have k1 := bX.cell 1 _ rfl
  obtain ⟨ha1, ha2⟩ := ha
  obtain ⟨hb1, hb2⟩ := hb
  have d1 : decide ((b : Int) < 1) = false := by simp; omega
  have d2 : decide ((1000000000000000000 : Int) < if a.natAbs < b then (b : Int) else (a.natAbs : Int)) = false := by rw [decide_eq_false_iff_not]; split <;> omega
  have d3 : decide ((1000000000000000000 : Int) < max (a.natAbs : Int) (b : Int)) = false := by rw [decide_eq_false_iff_not]; omega
  have ub : IntKind.u64.wrap (b : Int) = b := wrap_u (by omega)
  have A1 := Lib.hid (fun W => size_any a W (by omega) (by omega))
  have G1 := Lib.hid (fun W => (hg ▸ rgcd_any a.natAbs b W (by omega) (by omega) : Calls Try.prog 54 #[.int .u64 (a.natAbs : Int), .int .u64 (b : Int)] W fun e w' => e = .returned (.int .u64 ((1 : Nat) : Int)) ∧ ∃ n, w' = W.drewN n))
  have Hg := Lib.hid hg
  clear hg
  go_enter Try.func66, Try.ntmps66
  go_wp2_with fail
  rw [HW0.out]
  go_quiet (first | (go_at_call 53; exact Calls.quiet_of_same (A1.out _)) | (go_at_call 54; exact Calls.quiet_of ((G1.out _))))
  go_wp2_with fail
  all_goals
    go_ret
    exact ⟨rfl, hB.drewN' _⟩
set_option maxHeartbeats 1600000 in
theorem orErr_any (p : Option Addr) (c : Nat) (xs : List Int) (w : World) (hx : Ints w p c xs) (h0 : ∀ j, j < xs.length → iget xs j = 0) :
    Calls Try.prog 65 #[.slice p xs.length c] w fun e w' => e = .returned (.int .i64 0) ∧ w' = w := by
  have hl1 := hx.length_le
  go_enter Try.func65, Try.ntmps65
  go_wp2_with fail
  go_loop [8] (fun t => ∃ k : Nat, k ≤ xs.length ∧ t = .int .i64 k) (fun t => xs.length - (intOf t).toNat)
  case atStart => exact ⟨0, Nat.zero_le _, rfl⟩
  case round =>
    obtain ⟨k, hk, rfl⟩ := hrel
    by_cases hlt : k < xs.length
    · have hk1 : (k : Int) < xs.length := by omega
      obtain ⟨b, o, rfl, _, hc⟩ := hx.get hlt
      rw [h0 k hlt] at hc
      go_wp2_with fail
      go_round
      case rel => exact ⟨k + 1, by omega, by go_num⟩
      case measure => (simp [intOf] <;> omega)
    · have hk1 : ¬ (k : Int) < xs.length := by omega
      obtain rfl : k = xs.length := by omega
      go_wp2_with fail
      go_ret
      exact ⟨rfl, rfl⟩
theorem ints_two (w : World) (x y : Int) (T : TypeId) (hx : in64 x) (hy : in64 y) : Ints (w.alloc (.cells #[.int .i64 x, .int .i64 y] T)) (some ⟨w.heap.size, 0, none⟩) 2 [x, y] := by
  have hc : ∀ k, (w.alloc (.cells #[.int .i64 x, .int .i64 y] T)).cell? ⟨w.heap.size, k, none⟩ = #[.int .i64 x, .int .i64 y][k]? := fun k => World.cell?_alloc_at _ _ _ _ rfl
  refine ⟨by simp, by omega, fun h => (by cases h), ?_, ?_, ?_⟩
  · rintro a ⟨⟩ _
    exact ⟨rfl, by simp⟩
  · rintro b o ⟨⟩ j hj
    rw [Nat.zero_add, hc j]
    match j, hj with
    | 0, _ => rfl
    | 1, _ => rfl
  · intro j hj
    match j, hj with
    | 0, _ => exact hx
    | 1, _ => exact hy
theorem orErr2 (W : World) (T : TypeId) : Calls Try.prog 65 #[.slice (some ⟨W.heap.size, 0, none⟩) 2 2] (W.alloc (.cells #[.int .i64 0, .int .i64 0] T)) fun e w' => e = .returned (.int .i64 0) ∧ w' = W.alloc (.cells #[.int .i64 0, .int .i64 0] T) :=
  orErr_any _ 2 [0, 0] _ (ints_two W 0 0 T ⟨by decide, by decide⟩ ⟨by decide, by decide⟩) (fun j hj => match j, hj with
    | 0, _ => rfl
    | 1, _ => rfl)
def SmallR (a : Int) (b : Nat) : Prop := (-1000000000 ≤ a ∧ a ≤ 1000000000) ∧ (0 < b ∧ b ≤ 1000000000) ∧ Nat.gcd a.natAbs b = 1
set_option maxHeartbeats 4000000 in
set_option maxRecDepth 100000 in
theorem ratBoth_any (a c : Int) (b d : Nat) (w : World) (h1 : SmallR a b) (h2 : SmallR c d) :
    Calls Try.prog 60 #[.agg #[.int .i64 a, .int .i64 b], .agg #[.int .i64 c, .int .i64 d]] w fun e w' => e = .returned (.int .i64 0) ∧ Below w.heap.size w w' := by
  obtain ⟨Wx, hWx⟩ : ∃ W, w.alloc (.cells #[.int .i64 a, .int .i64 b] 35) = W := ⟨_, rfl⟩
  obtain ⟨W0, hW0⟩ : ∃ W, Wx.alloc (.cells #[.int .i64 c, .int .i64 d] 35) = W := ⟨_, rfl⟩
  have hB1 := below_alloc hWx
  have hB2 := below_alloc hW0
  have bX : BoxV W0 w.heap.size [.int .i64 a, .int .i64 b] := (BoxV.new rfl hWx).below hB2
  have hs : Wx.heap.size = w.heap.size + 1 := by rw [← hWx]; simp
  have bY : BoxV W0 (w.heap.size + 1) [.int .i64 c, .int .i64 d] := BoxV.new hs hW0
  have hB : Below w.heap.size w W0 := hB1.trans (hB2.mono hB1.size)
  have HWx := Lib.hid hWx
  have HW0 := Lib.hid hW0
  clear hWx hW0 hB1 hB2 hs
  have CA := Lib.hid (fun W => ratCheck_any a b W h1.1 h1.2.1 h1.2.2)
  have CB := Lib.hid (fun W => ratCheck_any c d W h2.1 h2.2.1 h2.2.2)
  have k0 := bX.cell 0 _ rfl
  have k1 := bX.cell 1 _ rfl
  have m0 := bY.cell 0 _ rfl
  have m1 := bY.cell 1 _ rfl
  have hX := bX.lt
  have hY := bY.lt
  clear h1 h2 bX bY
  have hkeep : Hid (∀ W, Below W0.heap.size W0 W → (W.cell? ⟨w.heap.size, 0, none⟩ = some (.int .i64 a) ∧ W.cell? ⟨w.heap.size, 1, none⟩ = some (.int .i64 b) ∧ W.cell? ⟨w.heap.size + 1, 0, none⟩ = some (.int .i64 c) ∧ W.cell? ⟨w.heap.size + 1, 1, none⟩ = some (.int .i64 d) ∧ W0.heap.size ≤ W.heap.size ∧ Below W0.heap.size W0 W)) := fun W h =>
    ⟨(h.cell (p := ⟨w.heap.size, 0, none⟩) hX).trans k0, (h.cell (p := ⟨w.heap.size, 1, none⟩) hX).trans k1, (h.cell (p := ⟨w.heap.size + 1, 0, none⟩) hY).trans m0, (h.cell (p := ⟨w.heap.size + 1, 1, none⟩) hY).trans m1, h.size, h⟩
  go_enter Try.func60, Try.ntmps60
  go_wp2_with fail
  rw [HWx.out, HW0.out]
  go_region_held3 (fun W => W.cell? ⟨w.heap.size, 0, none⟩ = some (Value.int .i64 a) ∧ W.cell? ⟨w.heap.size, 1, none⟩ = some (Value.int .i64 b) ∧ W.cell? ⟨w.heap.size + 1, 0, none⟩ = some (Value.int .i64 c) ∧ W.cell? ⟨w.heap.size + 1, 1, none⟩ = some (Value.int .i64 d) ∧ W0.heap.size ≤ W.heap.size ∧ Below W0.heap.size W0 W)
    (first | assumption | exact hkeep.out _ (by repeat (first | exact Below.refl _ _ | assumption | (go_split_ands; assumption) | apply Below.drewN' | apply Below.drew | refine Below.alloc ?_ (by go_split_ands; first | omega | (simp; omega)) _)))
    (first
      | (go_at_call 66; (with_reducible refine (CA.out _).mono ?_); rintro e w4 ⟨rfl, hb4⟩; have hB4 : Below W0.heap.size W0 w4 := Below.trans (by repeat (first | exact Below.refl _ _ | assumption | (go_split_ands; assumption) | apply Below.drewN' | apply Below.drew)) (hb4.mono (Below.size (B := W0.heap.size) (w := W0) (by repeat (first | exact Below.refl _ _ | assumption | (go_split_ands; assumption) | apply Below.drewN' | apply Below.drew)))))
      | (go_at_call 66; (with_reducible refine (CB.out _).mono ?_); rintro e w4 ⟨rfl, hb4⟩; have hB4 : Below W0.heap.size W0 w4 := Below.trans (by repeat (first | exact Below.refl _ _ | assumption | (go_split_ands; assumption) | apply Below.drewN' | apply Below.drew)) (hb4.mono (Below.size (B := W0.heap.size) (w := W0) (by repeat (first | exact Below.refl _ _ | assumption | (go_split_ands; assumption) | apply Below.drewN' | apply Below.drew)))))
      | (go_at_call 65; refine (orErr2 _ _).mono ?_; rintro e w5 ⟨rfl, rfl⟩))
  all_goals
    go_wp2_with fail
    go_ret
    refine ⟨rfl, Below.trans hB (Below.mono ?_ hB.size)⟩
    go_split_ands
    assumption
end Go.Proofs.Ytmcncflieoolmaa

/- ratio.Add and Sub: a whole number and a ratio in lowest terms, small parts. -/
namespace Go.Proofs.Ytmcncflieoolmaa
set_option linter.unusedVariables false
set_option linter.unusedSimpArgs false
open Go.ChangeShapes Go.WideShapes Go.ChangeAt Go.RowKit Go.Deep

theorem sum_sgn {a c : Int} {e : Nat} : (decide (a < 0) == decide (c < 0)) = true → a * (e : Int) + c = sgn (decide (a < 0)) (a.natAbs * e + c.natAbs) := by
  intro h
  unfold sgn
  by_cases h1 : a < 0
  · have h2 : c < 0 := by
      rw [decide_eq_true h1] at h
      simpa using h
    rw [decide_eq_true h1, if_pos rfl]
    obtain ⟨A, rfl⟩ : ∃ A : Nat, a = -(A : Int) := ⟨a.natAbs, by omega⟩
    obtain ⟨C, rfl⟩ : ∃ C : Nat, c = -(C : Int) := ⟨c.natAbs, by omega⟩
    simp only [Int.natAbs_neg, Int.natAbs_natCast]
    push_cast
    rw [Int.neg_mul]; omega
  · have h2 : ¬ c < 0 := by
      rw [decide_eq_false h1] at h
      simpa using h
    rw [decide_eq_false h1, if_neg (by decide)]
    obtain ⟨A, rfl⟩ : ∃ A : Nat, a = (A : Int) := ⟨a.natAbs, by omega⟩
    obtain ⟨C, rfl⟩ : ∃ C : Nat, c = (C : Int) := ⟨c.natAbs, by omega⟩
    simp only [Int.natAbs_natCast]
    push_cast
    rfl
theorem dif_sgn {a c : Int} {e : Nat} : (decide (a < 0) == decide (c < 0)) = false → a.natAbs * e < c.natAbs → a * (e : Int) + c = sgn (!decide (a < 0)) (c.natAbs - a.natAbs * e) := by
  intro h hl
  unfold sgn
  by_cases h1 : a < 0
  · have h2 : ¬ c < 0 := by
      rw [decide_eq_true h1] at h
      simpa using h
    rw [decide_eq_true h1, if_neg (by decide)]
    obtain ⟨A, rfl⟩ : ∃ A : Nat, a = -(A : Int) := ⟨a.natAbs, by omega⟩
    obtain ⟨C, rfl⟩ : ∃ C : Nat, c = (C : Int) := ⟨c.natAbs, by omega⟩
    simp only [Int.natAbs_neg, Int.natAbs_natCast] at *
    rw [Int.neg_mul, Int.natCast_sub (Nat.le_of_lt hl)]; push_cast; omega
  · have h2 : c < 0 := by
      rw [decide_eq_false h1] at h
      simpa using h
    rw [decide_eq_false h1, if_pos (by decide)]
    obtain ⟨A, rfl⟩ : ∃ A : Nat, a = (A : Int) := ⟨a.natAbs, by omega⟩
    obtain ⟨C, rfl⟩ : ∃ C : Nat, c = -(C : Int) := ⟨c.natAbs, by omega⟩
    simp only [Int.natAbs_neg, Int.natAbs_natCast] at *
    rw [Int.natCast_sub (Nat.le_of_lt hl)]; push_cast; omega
theorem dif_sgn' {a c : Int} {e : Nat} : (decide (a < 0) == decide (c < 0)) = false → c.natAbs ≤ a.natAbs * e → a * (e : Int) + c = sgn (decide (a < 0)) (a.natAbs * e - c.natAbs) := by
  intro h hl
  unfold sgn
  by_cases h1 : a < 0
  · have h2 : ¬ c < 0 := by
      rw [decide_eq_true h1] at h
      simpa using h
    rw [decide_eq_true h1, if_pos (by decide)]
    obtain ⟨A, rfl⟩ : ∃ A : Nat, a = -(A : Int) := ⟨a.natAbs, by omega⟩
    obtain ⟨C, rfl⟩ : ∃ C : Nat, c = (C : Int) := ⟨c.natAbs, by omega⟩
    simp only [Int.natAbs_neg, Int.natAbs_natCast] at *
    rw [Int.neg_mul, Int.natCast_sub hl]; push_cast; omega
  · have h2 : c < 0 := by
      rw [decide_eq_false h1] at h
      simpa using h
    rw [decide_eq_false h1, if_neg (by decide)]
    obtain ⟨A, rfl⟩ : ∃ A : Nat, a = (A : Int) := ⟨a.natAbs, by omega⟩
    obtain ⟨C, rfl⟩ : ∃ C : Nat, c = -(C : Int) := ⟨c.natAbs, by omega⟩
    simp only [Int.natAbs_neg, Int.natAbs_natCast] at *
    rw [Int.natCast_sub hl]; push_cast; omega
/-- What a whole number and a ratio in lowest terms sum up to: 0 only where the ratio is whole. -/
theorem sumZ_one {a c : Int} {e : Nat} (he : 0 < e) (hg : Nat.gcd c.natAbs e = 1) (h : a * (e : Int) + c = 0) : e = 1 := by
  have : (e : Int) ∣ c := ⟨-a, by rw [Int.mul_neg, Int.mul_comm]; omega⟩
  have h2 : e ∣ c.natAbs := Int.ofNat_dvd_left.1 this
  rw [Nat.gcd_eq_right h2] at hg
  exact hg

theorem mul64_of (x y p : Nat) (h : x * y = p) (hx : x < 1000000000000) (hy : y < 1000000000000) (hp : p < 18446744073709551616) (w : World) :
    Calls Try.prog 67 #[.int .u64 (x : Int), .int .u64 (y : Int)] w fun e w' => e = .returned (.tuple #[.int .u64 0, .int .u64 (p : Int)]) ∧ w' = w := by
  refine (Try.bits_Mul64 x y (by omega) (by omega) w).mono ?_
  rintro r w' ⟨rfl, rfl⟩
  rw [h, Nat.div_eq_of_lt hp, Nat.mod_eq_of_lt hp]
  exact ⟨rfl, rfl⟩
theorem add64_zero (w : World) : (callFunc 68 #[.int .u64 0, .int .u64 0, .int .u64 0]).run Try.prog w = .ok (.value (.tuple #[.int .u64 0, .int .u64 0])) w := add64_nil 0 0 (by decide) w
theorem sub64_zero (w : World) : (callFunc 69 #[.int .u64 0, .int .u64 0, .int .u64 0]).run Try.prog w = .ok (.value (.tuple #[.int .u64 0, .int .u64 0])) w := sub64_nil 0 0 (by decide) (by decide) w

structure AddS (w W : World) (a b c e : Int) : Prop where
  k0 : W.cell? ⟨w.heap.size, 0, none⟩ = some (.int .i64 a)
  k1 : W.cell? ⟨w.heap.size, 1, none⟩ = some (.int .i64 b)
  n0 : W.cell? ⟨w.heap.size + 1, 0, none⟩ = some (.int .i64 c)
  n1 : W.cell? ⟨w.heap.size + 1, 1, none⟩ = some (.int .i64 e)
  tz : Two W (w.heap.size + 1 + 1) (.int .i64 0) (.int .i64 0)
  sz : w.heap.size + 1 + 1 + 1 ≤ W.heap.size
  bel : Below w.heap.size w W
theorem AddS.step {w W W' : World} {a b c e : Int} (h : AddS w W a b c e) (hb : Below W.heap.size W W') : AddS w W' a b c e := by
  have hs := h.sz
  have hs' := hb.size
  exact ⟨(hb.cell (p := ⟨w.heap.size, 0, none⟩) (by simp only; omega)).trans h.k0, (hb.cell (p := ⟨w.heap.size, 1, none⟩) (by simp only; omega)).trans h.k1, (hb.cell (p := ⟨w.heap.size + 1, 0, none⟩) (by simp only; omega)).trans h.n0, (hb.cell (p := ⟨w.heap.size + 1, 1, none⟩) (by simp only; omega)).trans h.n1, h.tz.below hb (by omega), by omega, h.bel.trans (hb.mono h.bel.size)⟩
theorem AddS.drewN {w W : World} {a b c e : Int} (h : AddS w W a b c e) (n : Nat) : AddS w (W.drewN n) a b c e := h.step (below_drewN _ _ n)
theorem AddS.new {w Wx Wy W0 : World} {a b c e : Int} {T : TypeId} (hWx : w.alloc (.cells #[.int .i64 a, .int .i64 b] T) = Wx) (hWy : Wx.alloc (.cells #[.int .i64 c, .int .i64 e] T) = Wy) (hW0 : Wy.alloc (.cells #[.int .i64 0, .int .i64 0] T) = W0) : AddS w W0 a b c e := by
  have hB1 := below_alloc hWx
  have hB2 := below_alloc hWy
  have hB3 := below_alloc hW0
  have hs : Wx.heap.size = w.heap.size + 1 := by rw [← hWx]; simp
  have hs2 : Wy.heap.size = w.heap.size + 1 + 1 := by rw [← hWy]; simp; omega
  have bX : BoxV W0 w.heap.size [.int .i64 a, .int .i64 b] := ((BoxV.new rfl hWx).below hB2).below hB3
  have bY : BoxV W0 (w.heap.size + 1) [.int .i64 c, .int .i64 e] := (BoxV.new hs hWy).below hB3
  exact ⟨bX.cell 0 _ rfl, bX.cell 1 _ rfl, bY.cell 0 _ rfl, bY.cell 1 _ rfl, Two.new hs2 hW0.symm, by rw [← hW0]; simp; omega, (hB1.trans (hB2.mono hB1.size)).trans (hB3.mono (by omega))⟩

set_option maxHeartbeats 8000000 in
set_option maxRecDepth 100000 in
theorem addOne_any (a c : Int) (e : Nat) (w : World) (h1 : -1000000000 ≤ a ∧ a ≤ 1000000000) (h2 : SmallR c e) (he : e ≤ 1000) :
    Calls Try.prog 61 #[.agg #[.int .i64 a, .int .i64 1], .agg #[.int .i64 c, .int .i64 e]] w fun r w' => r = .returned (.tuple #[.agg #[.int .i64 (a * e + c), .int .i64 e], .int .i64 0]) ∧ Below w.heap.size w w' := by
  obtain ⟨Wx, hWx⟩ : ∃ W, w.alloc (.cells #[.int .i64 a, .int .i64 1] 35) = W := ⟨_, rfl⟩
  obtain ⟨Wy, hWy⟩ : ∃ W, Wx.alloc (.cells #[.int .i64 c, .int .i64 e] 35) = W := ⟨_, rfl⟩
  obtain ⟨W0, hW0⟩ : ∃ W, Wy.alloc (.cells #[.int .i64 0, .int .i64 0] 35) = W := ⟨_, rfl⟩
  have HS := AddS.new hWx hWy hW0
  have HWx := Lib.hid hWx
  have HWy := Lib.hid hWy
  have HW0 := Lib.hid hW0
  clear hWx hWy hW0
  obtain ⟨g1, ⟨ge, _⟩, gg⟩ := h2
  have HR := Lib.hid (fun W => ratBoth_any a c 1 e W ⟨h1, ⟨by omega, by omega⟩, Nat.gcd_one_right _⟩ ⟨g1, ⟨ge, by omega⟩, gg⟩)
  have HG := Lib.hid (fun W => ((by have h := rgcd_any 1 e W (by omega) (by omega); rw [Nat.gcd_one_left] at h; exact h) : Calls Try.prog 54 #[.int .u64 1, .int .u64 (e : Int)] W fun r w' => r = .returned (.int .u64 1) ∧ ∃ n, w' = W.drewN n))
  have HG2' : ∀ W, Calls Try.prog 54 #[.int .u64 0, .int .u64 1] W fun r w' => r = .returned (.int .u64 1) ∧ ∃ n, w' = W.drewN n := fun W => rgcd_any 0 1 W (by omega) (by omega)
  have HG2 := Lib.hid HG2'
  clear HG2'
  have SA := Lib.hid (fun W => size_any a W (by omega) (by omega))
  have SC := Lib.hid (fun W => size_any c W (by omega) (by omega))
  have hAe : a.natAbs * e ≤ 1000000000 * 1000 := Nat.mul_le_mul (by omega) he
  have hA1 : a.natAbs ≤ 1000000000 := by omega
  have hC1 : c.natAbs ≤ 1000000000 := by omega
  have ue : IntKind.u64.wrap (e : Int) = e := wrap_u (by omega)
  have u1 : IntKind.u64.wrap (1 : Int) = 1 := by decide
  have te : (e : Int).tdiv 1 = e := by simp
  have t1 : (1 : Int).tdiv 1 = 1 := by decide
  have E1 := @sum_sgn a c e
  have E2 := @dif_sgn a c e
  have E3 := @dif_sgn' a c e
  have EZ := @sumZ_one a c e ge gg
  obtain ⟨P, hP⟩ : ∃ P, a.natAbs * e = P := ⟨_, rfl⟩
  obtain ⟨A, hA⟩ : ∃ A, a.natAbs = A := ⟨_, rfl⟩
  obtain ⟨C, hC⟩ : ∃ A, c.natAbs = A := ⟨_, rfl⟩
  obtain ⟨m1, hm1⟩ : ∃ m, decide (a < 0) = m := ⟨_, rfl⟩
  obtain ⟨m2, hm2⟩ : ∃ m, decide (c < 0) = m := ⟨_, rfl⟩
  obtain ⟨R, hR⟩ : ∃ R, a * (e : Int) + c = R := ⟨_, rfl⟩
  rw [hP, hC] at E2 E3
  rw [hP, hC] at E1
  rw [hP] at hAe
  rw [hA] at hA1 hP SA
  rw [hC] at hC1 SC
  rw [hm1, hm2] at E1 E2 E3
  rw [hR] at E1 E2 E3 EZ ⊢
  have M1 := Lib.hid (mul64_of A e P hP (by omega) (by omega) (by omega))
  have M2 := Lib.hid (mul64_of C 1 C (Nat.mul_one _) (by omega) (by omega) (by omega))
  have M3 := Lib.hid (mul64_of 1 e e (Nat.one_mul _) (by omega) (by omega) (by omega))
  clear hR hA hC hP h1 g1 gg
  -- what is written, and with which sign
  have key : ∃ L m, R = sgn m L ∧ L ≤ 1000000000000000000 ∧ (((m1 == m2) = true ∧ m = m1 ∧ L = P + C) ∨ ((m1 == m2) = false ∧ m = !m1 ∧ decide ((P : Int) < C) = true ∧ P < C ∧ L = C - P) ∨ ((m1 == m2) = false ∧ m = m1 ∧ decide ((P : Int) < C) = false ∧ ¬ P < C ∧ L = P - C)) := by
    by_cases h : (m1 == m2) = true
    · exact ⟨P + C, m1, E1 h, by omega, .inl ⟨h, rfl, rfl⟩⟩
    · rw [Bool.not_eq_true] at h
      by_cases hl : P < C
      · exact ⟨C - P, !m1, E2 h hl, by omega, .inr (.inl ⟨h, rfl, by rw [decide_eq_true_iff]; omega, by omega, rfl⟩)⟩
      · exact ⟨P - C, m1, E3 h (by omega), by omega, .inr (.inr ⟨h, rfl, by rw [decide_eq_false_iff_not]; omega, by omega, rfl⟩)⟩
  clear E1 E2 E3
  obtain ⟨L, m, hRL, hL, key⟩ := key
  have Hkey := Lib.hid key
  have HEZ := Lib.hid EZ
  have HRL := Lib.hid hRL
  have HD := Lib.hid (fun W => div64_one L (by omega) W)
  have HM := Lib.hid (fun W => rem64_one L (by omega) W)
  have HSg := Lib.hid (fun W => signed_any m L e W hL (by omega))
  have hL0 : (0 : Int) ≤ L := by omega
  clear key EZ hRL
  go_enter Try.func61, Try.ntmps61
  go_wp2_with fail
  rw [HWx.out, HWy.out, HW0.out]
  refine (HR.out _).mono ?_
  rintro r w1 ⟨rfl, hb⟩
  replace HS := HS.step hb
  have k0 := HS.k0
  have k1 := HS.k1
  have n0 := HS.n0
  have n1 := HS.n1
  clear hb HWx HWy HW0 HR
  go_wp2_with fail
  refine (HG.out _).mono ?_
  rintro r w2 ⟨rfl, n, hw⟩
  replace HS := HS.drewN n
  rw [← hw] at HS
  clear HG k0 k1 n0 n1 hw
  have k0 := HS.k0
  have k1 := HS.k1
  have n0 := HS.n0
  have n1 := HS.n1
  go_wp2_with fail
  go_quiet (first | (go_at_call 53; exact Calls.quiet_of_same (SA.out _)) | (go_at_call 67; exact Calls.quiet_of_same (M1.out _)))
  replace HS := HS.drewN nq
  obtain ⟨w3, hw3⟩ : ∃ W, w2.drewN nq = W := ⟨_, rfl⟩
  rw [hw3] at HS ⊢
  clear k0 k1 n0 n1 hw3
  have k0 := HS.k0
  have k1 := HS.k1
  have n0 := HS.n0
  have n1 := HS.n1
  go_wp2_with fail
  go_quiet (first | (go_at_call 53; exact Calls.quiet_of_same (SC.out _)) | (go_at_call 67; exact Calls.quiet_of_same (M2.out _)))
  replace HS := HS.drewN nq
  obtain ⟨w4, hw4⟩ : ∃ W, w3.drewN nq = W := ⟨_, rfl⟩
  rw [hw4] at HS ⊢
  clear k0 k1 n0 n1 hw4
  have k0 := HS.k0
  have k1 := HS.k1
  have n0 := HS.n0
  have n1 := HS.n1
  rcases Hkey.out with ⟨q1, rfl, q4⟩ | ⟨q1, rfl, q2, q3, q4⟩ | ⟨q1, rfl, q2, q3, q4⟩
  case' inl => have HX := Lib.hid (fun W => (by rw [q4]; exact add64_nil P C (by omega) W : (callFunc 68 #[.int .u64 (P : Int), .int .u64 (C : Int), .int .u64 0]).run Try.prog W = .ok (.value (.tuple #[.int .u64 (L : Int), .int .u64 0])) W)); have HY := Lib.hid add64_zero
  case' inr.inl => have HX := Lib.hid (fun W => (by rw [q4]; exact sub64_nil C P (by omega) (by omega) W : (callFunc 69 #[.int .u64 (C : Int), .int .u64 (P : Int), .int .u64 0]).run Try.prog W = .ok (.value (.tuple #[.int .u64 (L : Int), .int .u64 0])) W)); have HY := Lib.hid sub64_zero
  case' inr.inr => have HX := Lib.hid (fun W => (by rw [q4]; exact sub64_nil P C (by omega) (by omega) W : (callFunc 69 #[.int .u64 (P : Int), .int .u64 (C : Int), .int .u64 0]).run Try.prog W = .ok (.value (.tuple #[.int .u64 (L : Int), .int .u64 0])) W)); have HY := Lib.hid sub64_zero
  all_goals
    clear Hkey q4
    have HtZ := Lib.hid HS.tz
    have Hbl := Lib.hid HS.bel
    have hsz := HS.sz
    obtain ⟨z0, z1, z2, z3⟩ := HS.tz
    by_cases hz : ((L : Int) == 0) = true
    · go_wp2_with (first | simp only [HX.out] | simp only [HY.out])
      have hL1 : L = 0 := by rw [beq_iff_eq] at hz; omega
      have hR0 := HRL.out
      rw [hL1] at hR0
      have hR1 : R = 0 := by rw [hR0]; simp [sgn]
      have he1 := HEZ.out hR1
      subst he1
      clear z0 z1 z2 z3
      obtain ⟨j0, j1, _, _⟩ := HtZ.out.put (u := .int .i64 0) (v := .int .i64 1)
      refine bodyPost_ret (v := .tuple #[.agg #[.int .i64 0, .int .i64 1], .int .i64 0]) (by simp [results, Try.results61, go_sem, j0, j1]) rfl ⟨?_, ?_⟩
      · rw [hR1]; rfl
      · exact (Hbl.out.setCell (p := ⟨w.heap.size + 1 + 1, 0, none⟩) (by simp only; omega) _).setCell (p := ⟨w.heap.size + 1 + 1, 1, none⟩) (by simp only; omega) _
    · rw [Bool.not_eq_true] at hz
      go_wp2_with (first | simp only [HX.out] | simp only [HY.out])
      refine (HM.out _).mono ?_
      rintro r w5 ⟨rfl, n, hw⟩
      replace HS := HS.drewN n
      rw [← hw] at HS
      clear HM hw k0 k1 n0 n1 z0 z1 z2 z3 HtZ Hbl hsz
      go_wp2_with fail
      refine (HG2.out _).mono ?_
      rintro r w6 ⟨rfl, n, hw⟩
      replace HS := HS.drewN n
      rw [← hw] at HS
      clear HG2 hw
      go_wp2_with fail
      refine (HD.out _).mono ?_
      rintro r w7 ⟨rfl, n, hw⟩
      replace HS := HS.drewN n
      rw [← hw] at HS
      clear HD hw
      have k0 := HS.k0
      have k1 := HS.k1
      have n0 := HS.n0
      have n1 := HS.n1
      go_wp2_with fail
      go_quiet (first | (go_at_call 67; exact Calls.quiet_of_same (M3.out _)))
      replace HS := HS.drewN nq
      obtain ⟨w8, hw8⟩ : ∃ W, w7.drewN nq = W := ⟨_, rfl⟩
      rw [hw8] at HS ⊢
      clear k0 k1 n0 n1 hw8
      go_wp2_with fail
      refine (HSg.out _).mono ?_
      rintro r w9 ⟨rfl, hb⟩
      replace HS := HS.step hb
      have HtZ := Lib.hid HS.tz
      have Hbl := Lib.hid HS.bel
      have hsz := HS.sz
      obtain ⟨z0, z1, z2, z3⟩ := HS.tz
      clear hb HSg
      rw [← HRL.out]
      go_wp2_with fail
      clear z0 z1 z2 z3
      obtain ⟨j0, j1, _, _⟩ := HtZ.out.put (u := .int .i64 R) (v := .int .i64 e)
      refine bodyPost_ret (v := .tuple #[.agg #[.int .i64 R, .int .i64 e], .int .i64 0]) (by simp [results, Try.results61, go_sem, j0, j1]) rfl ⟨rfl, ?_⟩
      exact (Hbl.out.setCell (p := ⟨w.heap.size + 1 + 1, 0, none⟩) (by simp only; omega) _).setCell (p := ⟨w.heap.size + 1 + 1, 1, none⟩) (by simp only; omega) _

set_option maxHeartbeats 8000000 in
set_option maxRecDepth 100000 in
theorem subOne_any (a c : Int) (e : Nat) (w : World) (h1 : -1000000000 ≤ a ∧ a ≤ 1000000000) (h2 : SmallR c e) (he : e ≤ 1000) :
    Calls Try.prog 48 #[.agg #[.int .i64 a, .int .i64 1], .agg #[.int .i64 c, .int .i64 e]] w fun r w' => r = .returned (.tuple #[.agg #[.int .i64 (a * e - c), .int .i64 e], .int .i64 0]) ∧ Below w.heap.size w w' := by
  obtain ⟨Wx, hWx⟩ : ∃ W, w.alloc (.cells #[.int .i64 a, .int .i64 1] 35) = W := ⟨_, rfl⟩
  obtain ⟨Wy, hWy⟩ : ∃ W, Wx.alloc (.cells #[.int .i64 c, .int .i64 e] 35) = W := ⟨_, rfl⟩
  obtain ⟨W0, hW0⟩ : ∃ W, Wy.alloc (.cells #[.int .i64 0, .int .i64 0] 35) = W := ⟨_, rfl⟩
  have HS := AddS.new hWx hWy hW0
  have fr : ∀ (W : World) (j : Nat), (w.heap.size + 1 < W.heap.size) → True := fun _ _ _ => trivial
  have hfz : W0.frozen? ⟨w.heap.size + 1, 0, none⟩ = false := by
    have hs : Wx.heap.size = w.heap.size + 1 := by rw [← hWx]; simp
    have h := (Two.new (w := Wx) (t := 35) hs hWy.symm).below (below_alloc hW0) (by rw [← hWy]; simp; omega)
    exact h.f0
  have HWx := Lib.hid hWx
  have HWy := Lib.hid hWy
  have HW0 := Lib.hid hW0
  clear hWx hWy hW0 fr
  obtain ⟨g1, ⟨ge, ge2⟩, gg⟩ := h2
  have hcn : IntKind.i64.wrap (-c) = -c := IntWalk.i64_in _ (by omega)
  have HR := Lib.hid (fun W => ratBoth_any a c 1 e W ⟨h1, ⟨by omega, by omega⟩, Nat.gcd_one_right _⟩ ⟨g1, ⟨ge, by omega⟩, gg⟩)
  have HA := Lib.hid (fun W => addOne_any a (-c) e W h1 ⟨by omega, ⟨ge, by omega⟩, by rw [Int.natAbs_neg]; exact gg⟩ he)
  have HE := Lib.hid (show a * (e : Int) + -c = a * e - c by omega)
  clear gg
  go_enter Try.func48, Try.ntmps48
  go_wp2_with fail
  rw [HWx.out, HWy.out, HW0.out]
  refine (HR.out _).mono ?_
  rintro r w1 ⟨rfl, hb⟩
  have hfz1 := (hb.frozen (p := ⟨w.heap.size + 1, 0, none⟩) (by have := HS.sz; simp only; omega)).trans hfz
  replace HS := HS.step hb
  have k0 := HS.k0
  have k1 := HS.k1
  have n0 := HS.n0
  have n1 := HS.n1
  have hsz := HS.sz
  have tz := HS.tz
  have Hbl := HS.bel
  have HHS := Lib.hid HS
  clear hb HWx HWy HW0 HR hfz HS tz Hbl
  go_wp2_with fail
  refine (HA.out _).mono ?_
  rintro r w2 ⟨rfl, hb⟩
  have t2 := (HHS.out.tz.far (T := w.heap.size + 1) (k := 0) (u := .int .i64 (-c)) (by omega)).below hb (by simp [World.setCell]; omega)
  have HB2 := (HHS.out.bel.setCell (p := ⟨w.heap.size + 1, 0, none⟩) (by simp only; omega) (.int .i64 (-c))).trans (hb.mono (by simp [World.setCell]; omega))
  have Ht2 := Lib.hid t2
  have HHB := Lib.hid HB2
  obtain ⟨z0, z1, z2, z3⟩ := t2
  clear hb HHS HA k0 k1 n0 n1 hfz1 HB2
  rw [HE.out]
  go_wp2_with fail
  clear z0 z1 z2 z3
  obtain ⟨j0, j1, _, _⟩ := Ht2.out.put (u := .int .i64 (a * e - c)) (v := .int .i64 e)
  refine bodyPost_ret (v := .tuple #[.agg #[.int .i64 (a * e - c), .int .i64 e], .int .i64 0]) (by simp [results, Try.results48, go_sem, j0, j1]) rfl ⟨rfl, ?_⟩
  exact (HHB.out.setCell (p := ⟨w.heap.size + 1 + 1, 0, none⟩) (by simp only; omega) _).setCell (p := ⟨w.heap.size + 1 + 1, 1, none⟩) (by simp only; omega) _
end Go.Proofs.Ytmcncflieoolmaa

/- The invariant of a region that reckons pairs by calls and puts each into a block of its own; no condition. -/
namespace Go.Proofs.Ytmcncflieoolmaa
set_option linter.unusedVariables false
set_option linter.unusedSimpArgs false
open Go.ChangeShapes Go.WideShapes Go.ChangeAt Go.RowKit Go.Deep

/-- The numbers of the operations that make blocks, and of those that store into them, are apart. -/
def apartB (L : List (Nat × Nat)) : Bool := L.all fun t => L.all fun s => decide (t.1 ≠ s.2) && (t == s || (decide (t.1 ≠ s.1) && decide (t.2 ≠ s.2)))
theorem apart1 {L : List (Nat × Nat)} (h : apartB L = true) {t s : Nat × Nat} (ht : t ∈ L) (hs : s ∈ L) : t.1 ≠ s.2 ∧ (t = s ∨ t.1 ≠ s.1 ∧ t.2 ≠ s.2) := by
  have h2 := List.all_eq_true.1 (List.all_eq_true.1 h t ht) s hs
  simp only [Bool.and_eq_true, decide_eq_true_eq, Bool.or_eq_true, beq_iff_eq] at h2
  exact h2
structure ManyJ (B : World) (L : List (Nat × Nat)) (val X Y : Nat → Value) (us : Nat → Value) (D : Nat → Prop) (W : World) : Prop where
  val : ∀ k, (∀ t ∈ L, k ≠ t.1 ∧ k ≠ t.2) → D k → us k = val k
  bel : Below B.heap.size B W
  blk : ∀ t ∈ L, D t.1 → ∃ (g : Nat) (x y : Value), us t.1 = .pointer (some ⟨g, 0, none⟩) ∧ B.heap.size ≤ g ∧ g < W.heap.size ∧ Two W g x y ∧ (D t.2 → x = X t.1 ∧ y = Y t.1)
  ne : ∀ t ∈ L, ∀ s ∈ L, t ≠ s → D t.1 → D s.1 → us t.1 ≠ us s.1
  o : ∀ t ∈ L, D t.2 → D t.1
section
variable {B : World} {L : List (Nat × Nat)} {val X Y : Nat → Value} {us : Nat → Value} {D : Nat → Prop} {W W' : World}
theorem ManyJ.start (us : Nat → Value) : ManyJ B L val X Y us (fun _ => False) B.drew :=
  ⟨fun k _ h => h.elim, below_drewN _ _ 1, fun _ _ h => h.elim, fun _ _ _ _ _ h => h.elim, fun _ _ h => h⟩
theorem ManyJ.pure (h : ManyJ B L val X Y us D W) {i : Nat} (h1 : ∀ t ∈ L, i ≠ t.1 ∧ i ≠ t.2) (hb : Below W.heap.size W W') : ManyJ B L val X Y (upd us i (val i)) (fun k => k = i ∨ D k) W' := by
  refine ⟨fun k k1 hd => ?_, h.bel.trans (hb.mono h.bel.size), fun t ht hd => ?_, fun t ht s hs hne hd hd2 => ?_, fun t ht hd => .inr (h.o t ht (or_ne hd (Ne.symm (h1 t ht).2)))⟩
  · by_cases e : k = i
    · subst e; rw [upd_same]
    · rw [upd_ne e]; exact h.val k k1 (or_ne hd e)
  · rw [upd_ne (Ne.symm (h1 t ht).1)]
    obtain ⟨g, x, y, q1, q2, q3, q4, q5⟩ := h.blk t ht (or_ne hd (Ne.symm (h1 t ht).1))
    exact ⟨g, x, y, q1, q2, Nat.lt_of_lt_of_le q3 hb.size, q4.below hb q3, fun hd => q5 (or_ne hd (Ne.symm (h1 t ht).2))⟩
  · rw [upd_ne (Ne.symm (h1 t ht).1), upd_ne (Ne.symm (h1 s hs).1)]
    exact h.ne t ht s hs hne (or_ne hd (Ne.symm (h1 t ht).1)) (or_ne hd2 (Ne.symm (h1 s hs).1))
theorem ManyJ.alloc (h : ManyJ B L val X Y us D W) (hL : apartB L = true) {ai si : Nat} (ht0 : (ai, si) ∈ L) (hD : ¬ D ai) (x y : Value) (T : TypeId) : ManyJ B L val X Y (upd us ai (.pointer (some ⟨W.heap.size, 0, none⟩))) (fun k => k = ai ∨ D k) (W.alloc (.cells #[x, y] T)) := by
  have hb : Below W.heap.size W (W.alloc (.cells #[x, y] T)) := (Below.refl _ _).alloc (Nat.le_refl _) _
  have hsec : ∀ t ∈ L, t.2 ≠ ai := fun t ht e => (apart1 hL ht0 ht).1 e.symm
  have hfst : ∀ t ∈ L, t ≠ (ai, si) → t.1 ≠ ai := fun t ht hne => ((apart1 hL ht ht0).2.resolve_left hne).1
  refine ⟨fun k k1 hd => ?_, h.bel.trans (hb.mono h.bel.size), fun t ht hd => ?_, fun t ht s hs hne hd hd2 => ?_, fun t ht hd => .inr (h.o t ht (or_ne hd (hsec t ht)))⟩
  · have := (k1 _ ht0).1
    rw [upd_ne this]; exact h.val k k1 (or_ne hd this)
  · by_cases e : t = (ai, si)
    · subst e
      rw [upd_same]
      exact ⟨_, x, y, rfl, h.bel.size, by simp, Two.new rfl rfl, fun hd => (hD (h.o _ ht (or_ne hd (hsec _ ht)))).elim⟩
    · rw [upd_ne (hfst t ht e)]
      obtain ⟨g, x', y', q1, q2, q3, q4, q5⟩ := h.blk t ht (or_ne hd (hfst t ht e))
      exact ⟨g, x', y', q1, q2, Nat.lt_of_lt_of_le q3 hb.size, q4.below hb q3, fun hd => q5 (or_ne hd (hsec t ht))⟩
  · by_cases e : t = (ai, si)
    · subst e
      have hs1 := hfst s hs (Ne.symm hne)
      rw [upd_same, upd_ne hs1]
      obtain ⟨g, x', y', q1, q2, q3, q4, q5⟩ := h.blk s hs (or_ne hd2 hs1)
      rw [q1]
      intro e; have := ptr_inj e; omega
    · rw [upd_ne (hfst t ht e)]
      by_cases e2 : s = (ai, si)
      · subst e2
        rw [upd_same]
        obtain ⟨g, x', y', q1, q2, q3, q4, q5⟩ := h.blk t ht (or_ne hd (hfst t ht e))
        rw [q1]
        intro e; have := ptr_inj e; omega
      · rw [upd_ne (hfst s hs e2)]
        exact h.ne t ht s hs hne (or_ne hd (hfst t ht e)) (or_ne hd2 (hfst s hs e2))
theorem ManyJ.store (h : ManyJ B L val X Y us D W) (hL : apartB L = true) {ai si : Nat} (ht0 : (ai, si) ∈ L) (hD : D ai) {g : Nat} (hg : us ai = .pointer (some ⟨g, 0, none⟩)) (u : Value) : ManyJ B L val X Y (upd us si u) (fun k => k = si ∨ D k) ((W.setCell ⟨g, 0, none⟩ (X ai)).setCell ⟨g, 1, none⟩ (Y ai)) := by
  obtain ⟨g', x, y, h1, h2, h3, h4, h5⟩ := h.blk _ ht0 hD
  simp only at h1
  rw [hg] at h1
  obtain rfl := ptr_inj h1
  have hfst : ∀ t ∈ L, t.1 ≠ si := fun t ht => (apart1 hL ht ht0).1
  have hsec : ∀ t ∈ L, t ≠ (ai, si) → t.2 ≠ si := fun t ht hne => ((apart1 hL ht ht0).2.resolve_left hne).2
  refine ⟨fun k k1 hd => ?_, (h.bel.setCell (p := ⟨g, 0, none⟩) h2 _).setCell (p := ⟨g, 1, none⟩) h2 _, fun t ht hd => ?_, fun t ht s hs hne hd hd2 => ?_, fun t ht hd => ?_⟩
  · have := (k1 _ ht0).2
    rw [upd_ne this]; exact h.val k k1 (or_ne hd this)
  · rw [upd_ne (hfst t ht)]
    by_cases e : t = (ai, si)
    · subst e
      exact ⟨g, X ai, Y ai, hg, h2, by simpa [World.setCell] using h3, h4.put, fun _ => ⟨rfl, rfl⟩⟩
    · have hd1 := or_ne hd (hfst t ht)
      have hne := h.ne _ ht0 t ht (Ne.symm e) hD hd1
      obtain ⟨g', x', y', q1, q2, q3, q4, q5⟩ := h.blk t ht hd1
      have hgg : g ≠ g' := fun e => hne (by simp only; rw [hg, q1, e])
      exact ⟨g', x', y', q1, q2, by simpa [World.setCell] using q3, (q4.far hgg).far hgg, fun hd => q5 (or_ne hd (hsec t ht e))⟩
  · rw [upd_ne (hfst t ht), upd_ne (hfst s hs)]
    exact h.ne t ht s hs hne (or_ne hd (hfst t ht)) (or_ne hd2 (hfst s hs))
  · by_cases e : t = (ai, si)
    · subst e; exact .inr hD
    · exact .inr (h.o t ht (or_ne hd (hsec t ht e)))
/-- What stands in the blocks when all is done. -/
theorem ManyJ.get (h : ManyJ B L val X Y us D W) {ai si : Nat} (ht : (ai, si) ∈ L) (h1 : D ai) (h2 : D si) : ∃ g : Nat, us ai = .pointer (some ⟨g, 0, none⟩) ∧ B.heap.size ≤ g ∧ g < W.heap.size ∧ Two W g (X ai) (Y ai) := by
  obtain ⟨g, x, y, q1, q2, q3, q4, q5⟩ := h.blk _ ht h1
  obtain ⟨rfl, rfl⟩ := q5 h2
  exact ⟨g, q1, q2, q3, q4⟩
end
end Go.Proofs.Ytmcncflieoolmaa
