/- The reference's arithmetic of ratios whose parts are small: products, Less. -/
import Derived.Test.YtllcbcanohdepaaGreatTopRentFindsm10
import Derived.Test.YtllcbcanohdepaaGreatTopRentFindsm13
import Derived.Test.YtllcbcanohdepaaGreatTopRentFindsm20
import Derived.Shelf.Bits.Mul64
import Derived.Deep.DeepCutAuto
import Derived.Deep.RegionHeld3
/- The reference's arithmetic of ratios whose parts are small: products, Less. -/
namespace Go.Proofs.YtllcbcanohdepaaGreat
set_option linter.unusedVariables false
set_option linter.unusedSimpArgs false
open Go.ChangeShapes Go.WideShapes Go.ChangeAt Go.RowKit Go.Deep

theorem bcell {W w1 : World} (hb : Below W.heap.size W w1) : (∀ b o, b < W.heap.size → w1.cell? ⟨b, o, none⟩ = W.cell? ⟨b, o, none⟩) ∧ (∀ b o, b < W.heap.size → w1.frozen? ⟨b, o, none⟩ = W.frozen? ⟨b, o, none⟩) :=
  ⟨fun b o h => hb.cell (p := ⟨b, o, none⟩) h, fun b o h => hb.frozen (p := ⟨b, o, none⟩) h⟩
theorem and_mask {a : Nat} (h : a ≤ 4294967295) : bits .and .u64 (a : Int) 4294967295 = a := by
  rw [Mul64.maskN a (by omega), Nat.mod_eq_of_lt (by omega)]
theorem or_parts {p : Nat} (h : p < 18446744073709551616) : bits .or .u64 ((p : Int) / 4294967296 * 4294967296) (bits .and .u64 (p : Int) 4294967295) = p := by
  rw [Mul64.maskN p h, Mul64.divN]
  have e : ((p / 4294967296 : Nat) : Int) * 4294967296 = ((p / 4294967296 * 4294967296 : Nat) : Int) := by omega
  rw [e, bits_or_u64_nat _ _ (by omega) (by omega)]
  have h2 := Nat.shiftLeft_add_eq_or_of_lt (b := p % 4294967296) (i := 32) (by omega) (p / 4294967296)
  rw [Nat.shiftLeft_eq] at h2
  have h3 : p / 4294967296 * 4294967296 ||| p % 4294967296 = p / 4294967296 * 4294967296 + p % 4294967296 := h2.symm
  rw [h3]
  congr 1
  omega
set_option maxHeartbeats 1600000 in
theorem refTimes_any (a b : Nat) (w : World) (ha : a ≤ 4294967295) (hb : b ≤ 4294967295) :
    Calls Tryz.prog 75 #[.int .u64 a, .int .u64 b] w fun e w' => e = .returned (.agg #[.int .u64 0, .int .u64 ((a * b : Nat) : Int)]) ∧ Below w.heap.size w w' := by
  have hab : a * b ≤ 4294967295 * 4294967295 := Nat.mul_le_mul ha hb
  obtain ⟨p, hp⟩ : ∃ p, a * b = p := ⟨_, rfl⟩
  rw [hp] at hab ⊢
  have h1 : (a : Int) / 4294967296 = 0 := by omega
  have h2 := and_mask ha
  have h3 : (b : Int) / 4294967296 = 0 := by omega
  have h4 := and_mask hb
  have h5 : IntKind.u64.wrap ((a : Int) * b) = p := by rw [Mul64.mulN, hp]; exact Mul64.wrapN _ (by omega)
  have h6 : bits .and .u64 0 4294967295 = 0 := by decide +kernel
  have h7 := or_parts (p := p) (by omega)
  have h8 : IntKind.u64.wrap ((p : Int) / 4294967296) = (p : Int) / 4294967296 := by rw [Mul64.divN]; exact Mul64.wrapN _ (by omega)
  have h9 : (p : Int) / 4294967296 / 4294967296 = 0 := by omega
  have h0 : IntKind.u64.wrap 0 = 0 := by decide +kernel
  clear hp hab ha hb
  go_enter Tryz.func75, Tryz.ntmps75
  go_wp2_with fail
  refine bodyPost_ret (v := .agg #[.int .u64 0, .int .u64 p]) (by simp [results, Tryz.results75, go_sem, h1, h2, h3, h4, h5, h6, h7, h8, h9, h0]) rfl ⟨rfl, ?_⟩
  exact ((Below.refl _ _).alloc (Nat.le_refl _) _)
theorem refLess2_any (a b : Nat) (w : World) :
    Calls Tryz.prog 78 #[.agg #[.int .u64 0, .int .u64 a], .agg #[.int .u64 0, .int .u64 b]] w fun e w' => e = .returned (.bool (decide (a < b))) ∧ Below w.heap.size w w' := by
  by_cases h : a < b
  · have hd : decide (a < b) = true := by simpa using h
    have hd2 : decide ((a : Int) < b) = true := by simp; omega
    rw [hd]
    clear h
    go_enter Tryz.func78, Tryz.ntmps78
    go_wp2_with fail
    go_ret
    exact ⟨rfl, (((Below.refl _ _).alloc (Nat.le_refl _) _).alloc (by simp) _)⟩
  · have hd : decide (a < b) = false := by simpa using h
    have hd2 : decide ((a : Int) < b) = false := by simp; omega
    rw [hd]
    clear h
    go_enter Tryz.func78, Tryz.ntmps78
    go_wp2_with fail
    go_ret
    exact ⟨rfl, (((Below.refl _ _).alloc (Nat.le_refl _) _).alloc (by simp) _)⟩
def lessVal (S : Nat) (a c : Int) (b e : Nat) : Nat → Value
  | 0 => .pointer (some ⟨S, 0, none⟩)
  | 1 => .int .i64 a
  | 2 => .int .u64 (a.natAbs : Int)
  | 3 => .pointer (some ⟨S + 1, 1, none⟩)
  | 4 => .int .i64 e
  | 5 => .int .u64 e
  | 6 => .agg #[.int .u64 0, .int .u64 ((a.natAbs * e : Nat) : Int)]
  | 7 => .pointer (some ⟨S + 1, 0, none⟩)
  | 8 => .int .i64 c
  | 9 => .int .u64 (c.natAbs : Int)
  | 10 => .pointer (some ⟨S, 1, none⟩)
  | 11 => .int .i64 b
  | 12 => .int .u64 b
  | 13 => .agg #[.int .u64 0, .int .u64 ((c.natAbs * b : Nat) : Int)]
  | _ => undef
-- the region of Less is printed by wip/genrata.py --@region
theorem lt18 {i : Nat} (h : i < 18) : i = 0 ∨ i = 1 ∨ i = 2 ∨ i = 3 ∨ i = 4 ∨ i = 5 ∨ i = 6 ∨ i = 7 ∨ i = 8 ∨ i = 9 ∨ i = 10 ∨ i = 11 ∨ i = 12 ∨ i = 13 ∨ i = 14 ∨ i = 15 ∨ i = 16 ∨ i = 17 := by omega
/-- The parts of two ratios of the same sign, multiplied crosswise. -/
theorem less_pos {a c : Int} {b e : Nat} (h1 : 0 ≤ a) (h2 : 0 ≤ c) : decide (a.natAbs * e < c.natAbs * b) = decide (a * e < c * b) := by
  obtain ⟨x, rfl⟩ : ∃ x : Nat, a = x := ⟨a.toNat, by omega⟩
  obtain ⟨y, rfl⟩ : ∃ y : Nat, c = y := ⟨c.toNat, by omega⟩
  rw [Int.natAbs_natCast, Int.natAbs_natCast, ← Int.natCast_mul, ← Int.natCast_mul, Bool.eq_iff_iff, decide_eq_true_iff, decide_eq_true_iff, Int.ofNat_lt]
theorem less_mix {a c : Int} {b e : Nat} (he : 0 < e) (hb : 0 < b) (hs : (decide (a < 0) != decide (c < 0)) = true) : decide (a * e < c * b) = decide (a < 0) := by
  by_cases h : a < 0
  · have h2 : ¬ c < 0 := by simpa [h] using hs
    have x1 : a * e < 0 := Int.mul_neg_of_neg_of_pos h (by omega)
    have x2 : 0 ≤ c * b := Int.mul_nonneg (by omega) (by omega)
    simp [h]; omega
  · have h2 : c < 0 := by simpa [h] using hs
    have x1 : c * b < 0 := Int.mul_neg_of_neg_of_pos h2 (by omega)
    have x2 : 0 ≤ a * e := Int.mul_nonneg (by omega) (by omega)
    simp [h]; omega
theorem less_neg {a c : Int} {b e : Nat} (h1 : a < 0) (h2 : c < 0) : decide (c.natAbs * b < a.natAbs * e) = decide (a * e < c * b) := by
  obtain ⟨x, rfl⟩ : ∃ x : Nat, a = -x := ⟨a.natAbs, by omega⟩
  obtain ⟨y, rfl⟩ : ∃ y : Nat, c = -y := ⟨c.natAbs, by omega⟩
  rw [Int.natAbs_neg, Int.natAbs_neg, Int.natAbs_natCast, Int.natAbs_natCast, Int.neg_mul, Int.neg_mul, ← Int.natCast_mul, ← Int.natCast_mul, Bool.eq_iff_iff, decide_eq_true_iff, decide_eq_true_iff]
  omega
end Go.Proofs.YtllcbcanohdepaaGreat

/- The reference's sums, differences and long division of numbers of two words whose upper word is 0; its Check of reduced ratios with small parts. -/
namespace Go.Proofs.YtllcbcanohdepaaGreat
set_option linter.unusedVariables false
set_option linter.unusedSimpArgs false
open Go.ChangeShapes Go.WideShapes Go.ChangeAt Go.RowKit Go.Deep

set_option maxHeartbeats 1600000 in
theorem refPlus_any (a b : Nat) (w : World) (ha : a + b < 18446744073709551616) :
    Calls Tryz.prog 76 #[.agg #[.int .u64 0, .int .u64 a], .agg #[.int .u64 0, .int .u64 b]] w fun e w' => e = .returned (.agg #[.int .u64 0, .int .u64 ((a + b : Nat) : Int)]) ∧ Below w.heap.size w w' := by
  have h1 : ¬ ((a : Int) + b < a) := by omega
  go_enter Tryz.func76, Tryz.ntmps76
  go_wp2_with fail
  refine bodyPost_ret (v := .agg #[.int .u64 0, .int .u64 ((a + b : Nat) : Int)]) (by simp [results, Tryz.results76, go_sem]) rfl ⟨rfl, ?_⟩
  exact (((Below.refl _ _).alloc (Nat.le_refl _) _).alloc (by simp) _).alloc (by simp; omega) _
set_option maxHeartbeats 1600000 in
theorem refMinus_any (a b : Nat) (w : World) (hab : b ≤ a) (ha : a < 18446744073709551616) :
    Calls Tryz.prog 77 #[.agg #[.int .u64 0, .int .u64 a], .agg #[.int .u64 0, .int .u64 b]] w fun e w' => e = .returned (.agg #[.int .u64 0, .int .u64 ((a - b : Nat) : Int)]) ∧ Below w.heap.size w w' := by
  have hd : decide ((a : Int) < b) = false := by simp; omega
  have hw : (a : Int) - b = ((a - b : Nat) : Int) := by omega
  go_enter Tryz.func77, Tryz.ntmps77
  go_wp2_with fail
  refine bodyPost_ret (v := .agg #[.int .u64 0, .int .u64 ((a - b : Nat) : Int)]) (by simp [results, Tryz.results77, go_sem]) rfl ⟨rfl, ?_⟩
  exact (((Below.refl _ _).alloc (Nat.le_refl _) _).alloc (by simp) _).alloc (by simp; omega) _
set_option maxHeartbeats 1600000 in
theorem refCheckQ_any (a : Int) (b : Nat) (w : World) (ha : -1000000000 ≤ a ∧ a ≤ 1000000000) (hb : 0 < b ∧ b ≤ 1000000000) (hg : Nat.gcd a.natAbs b = 1) :
    Calls Tryz.prog 74 #[.agg #[.int .i64 a, .int .i64 b]] w fun e w' => e = .returned (.int .i64 0) ∧ Below w.heap.size w w' := by
  obtain ⟨W0, hW0⟩ : ∃ W, w.alloc (.cells #[.int .i64 a, .int .i64 b] 37) = W := ⟨_, rfl⟩
  have hB := below_alloc hW0
  have bX : BoxV W0 w.heap.size [.int .i64 a, .int .i64 b] := BoxV.new rfl hW0
  have HW0 := Lib.hid hW0
  clear hW0
  have k0 := bX.cell 0 _ rfl
  have k1 := bX.cell 1 _ rfl
  obtain ⟨ha1, ha2⟩ := ha
  obtain ⟨hb1, hb2⟩ := hb
  have d1 : decide ((b : Int) < 1) = false := by simp; omega
  have d2 : decide (1000000000000000000 < (b : Int)) = false := by simp; omega
  have d3 : decide (a < -1000000000000000000) = false := by simp; omega
  have d4 : decide (1000000000000000000 < a) = false := by simp; omega
  have ub : IntKind.u64.wrap (b : Int) = b := wrap_u (by omega)
  have A1 := Lib.hid (fun W => abs_any a W (by omega) (by omega))
  have G1 := Lib.hid (fun W => (hg ▸ refGcd_any a.natAbs b W (by omega) (by omega) : Calls Tryz.prog 52 #[.int .u64 (a.natAbs : Int), .int .u64 (b : Int)] W fun e w' => e = .returned (.int .u64 ((1 : Nat) : Int)) ∧ ∃ n, w' = W.drewN n))
  have Hg := Lib.hid hg
  clear hg
  go_enter Tryz.func74, Tryz.ntmps74
  go_wp2_with fail
  rw [HW0.out]
  go_quiet (first | (go_at_call 51; exact Calls.quiet_of_same (A1.out _)) | (go_at_call 52; exact Calls.quiet_of ((G1.out _))))
  go_wp2_with fail
  go_ret
  exact ⟨rfl, hB.drewN' _⟩
def hi2 (t k : Nat) : Nat := t / 2 ^ k
theorem hi2_big {t k : Nat} (ht : t < 9223372036854775808) (hk : 64 ≤ k) : hi2 t k = 0 := by
  unfold hi2
  refine Nat.div_eq_of_lt (Nat.lt_of_lt_of_le ht ?_)
  exact Nat.le_trans (by decide) (Nat.pow_le_pow_right (by decide) hk)
theorem hi2_step (t m : Nat) : hi2 t m = 2 * hi2 t (m + 1) + hi2 t m % 2 := by
  unfold hi2
  rw [Nat.pow_succ, ← Nat.div_div_eq_div_mul]
  omega
theorem or_bit {R β : Nat} (h : R ≤ 9223372036854775807) (hb : β < 2) : bits .or .u64 ((R : Int) * 2) (β : Int) = ((2 * R + β : Nat) : Int) := by
  have e : (R : Int) * 2 = ((R * 2 : Nat) : Int) := by omega
  rw [e, bits_or_u64_nat _ _ (by omega) (by omega)]
  have h2 := Nat.shiftLeft_add_eq_or_of_lt (b := β) (i := 1) (by omega) R
  rw [Nat.shiftLeft_eq] at h2
  have h3 : R * 2 ||| β = R * 2 + β := h2.symm
  rw [h3]
  omega
theorem and_one {t m : Nat} (h : t < 18446744073709551616) : bits .and .u64 ((t : Int) / 2 ^ m) 1 = ((t / 2 ^ m % 2 : Nat) : Int) := by
  have e : (t : Int) / 2 ^ m = ((t / 2 ^ m : Nat) : Int) := by simp
  have hl : t / 2 ^ m ≤ t := Nat.div_le_self _ _
  have := bits_and_u64_nat (t / 2 ^ m) 1 (by omega) (by omega)
  rw [e, Nat.and_one_is_mod] at *
  exact this
theorem split_next {d H H' R Q T β : Nat} (hd : 0 < d) (hs : H' = 2 * H + β) (hR : R = H % d) (hQ : Q = H / d) (hT : 2 * R + β = T) :
    if d ≤ T then (T < 2 * d → (T - d = H' % d ∧ 2 * Q + 1 = H' / d)) else (T = H' % d ∧ 2 * Q = H' / d) := by
  have hH := Nat.div_add_mod H d
  rw [← hR, ← hQ] at hH
  have e : H' = T + d * (2 * Q) := by
    rw [Nat.mul_left_comm]; omega
  split
  · rename_i h
    intro h2
    have e2 : H' = (T - d) + d * (2 * Q + 1) := by rw [Nat.mul_add]; omega
    rw [e2, Nat.add_mul_mod_self_left, Nat.add_mul_div_left _ _ hd, Nat.mod_eq_of_lt (by omega), Nat.div_eq_of_lt (by omega)]
    omega
  · rename_i h
    rw [e, Nat.add_mul_mod_self_left, Nat.add_mul_div_left _ _ hd, Nat.mod_eq_of_lt (by omega), Nat.div_eq_of_lt (by omega)]
    omega
theorem u64_eq {a b : Int} (h : a = b) : Value.int .u64 a = Value.int .u64 b := by rw [h]
theorem Two.put1 {w : World} {S : Nat} {x y v : Value} (h : Two w S x y) : Two (w.setCell ⟨S, 1, none⟩ v) S x v := by
  have hne : (⟨S, 1, none⟩ : Addr) ≠ ⟨S, 0, none⟩ := fun e => by cases e
  exact ⟨(World.cell?_setCell_other _ _ _ _ hne).trans h.c0, World.cell?_setCell_same _ _ _ h.c1, by rw [World.frozen?_setCell]; exact h.f0, by rw [World.frozen?_setCell]; exact h.f1⟩
theorem and63 {m : Nat} (h : m < 128) : bits .and .i64 (m : Int) 63 = ((m % 64 : Nat) : Int) := by
  have : ∀ m : Fin 128, bits .and .i64 ((m.1 : Nat) : Int) 63 = ((m.1 % 64 : Nat) : Int) := by decide +kernel
  exact this ⟨m, h⟩
set_option maxHeartbeats 1600000 in
set_option maxRecDepth 100000 in
theorem refSplit_any (t d : Nat) (w : World) (ht : t < 9223372036854775808) (hd1 : 0 < d) (hd2 : d ≤ 4294967296) :
    Calls Tryz.prog 79 #[.agg #[.int .u64 0, .int .u64 t], .int .u64 d] w fun e w' => e = .returned (.tuple #[.agg #[.int .u64 0, .int .u64 ((t / d : Nat) : Int)], .int .u64 ((t % d : Nat) : Int)]) ∧ Below w.heap.size w w' := by
  obtain ⟨W1, hW1⟩ : ∃ W, w.alloc (.cells #[.int .u64 0, .int .u64 t] 86) = W := ⟨_, rfl⟩
  obtain ⟨W2, hW2⟩ : ∃ W, W1.alloc (.cells #[.int .u64 0, .int .u64 0] 86) = W := ⟨_, rfl⟩
  obtain ⟨W0, hW0⟩ : ∃ W, W2.alloc (.cells #[.int .u64 0, .int .u64 0] 86) = W := ⟨_, rfl⟩
  have hB1 := below_alloc hW1
  have hB2 := below_alloc hW2
  have hB3 := below_alloc hW0
  have s1 : W1.heap.size = w.heap.size + 1 := by rw [← hW1]; simp
  have s2 : W2.heap.size = w.heap.size + 2 := by rw [← hW2]; simp [s1]
  have bX : BoxV W0 w.heap.size [.int .u64 0, .int .u64 t] := ((BoxV.new rfl hW1).below hB2).below hB3
  have hB : Below w.heap.size w W0 := (hB1.trans (hB2.mono hB1.size)).trans (hB3.mono (hB1.trans (hB2.mono hB1.size)).size)
  have tR : Two W0 (w.heap.size + 1) (.int .u64 0) (.int .u64 0) := (Two.new s1 hW2.symm).below hB3 (by omega)
  have tQ : Two W0 (w.heap.size + 2) (.int .u64 0) (.int .u64 0) := Two.new s2 hW0.symm
  have z0 : W0.heap.size = w.heap.size + 3 := by rw [← hW0]; simp [s2]
  have HW1 := Lib.hid hW1
  have HW2 := Lib.hid hW2
  have HW0 := Lib.hid hW0
  have Hz0 := Lib.hid z0
  clear hW1 hW2 hW0 hB1 hB2 hB3 s1 s2 z0
  have HX := Lib.hid bX
  clear bX
  go_enter Tryz.func79, Tryz.ntmps79
  go_wp2_with fail
  rw [HW1.out, HW2.out, HW0.out]
  go_loopw [7, 8] (fun r i wr => ∃ (k : Nat) (j : Int) (R Q : Nat), k ≤ 128 ∧ Hid (j = k - 1) ∧ Hid (R = hi2 t k % d) ∧ Hid (Q = hi2 t k / d) ∧ i = .int .i64 j ∧ r = .int .u64 R ∧ Two wr (w.heap.size + 2) (.int .u64 0) (.int .u64 Q) ∧ Below (w.heap.size + 2) W0 wr ∧ w.heap.size + 2 < wr.heap.size) (fun _ i _ => (intOf i + 1).toNat)
  case atStart => exact ⟨128, 127, 0, 0, Nat.le_refl _, rfl, by unfold Hid; rw [hi2_big (by omega) (by omega)]; simp, by unfold Hid; rw [hi2_big (by omega) (by omega)]; simp, rfl, rfl, tQ, Below.refl _ _, by have := Hz0.out; omega⟩
  case round =>
    obtain ⟨k, j, R, Q, hk, hj, hR, hQn, rfl, rfl, hQ, hBm, hsz⟩ := hrel
    have hRd : R < d := by rw [hR.out]; exact Nat.mod_lt _ hd1
    have hQt : Q ≤ t := by rw [hQn.out]; exact Nat.le_trans (Nat.div_le_self _ _) (Nat.div_le_self _ _)
    by_cases h0 : k = 0
    · obtain rfl : j = -1 := by have := hj.out; omega
      have e1 : Q = t / d := by rw [hQn.out, h0]; unfold hi2; simp
      have e2 : R = t % d := by rw [hR.out, h0]; unfold hi2; simp
      have He1 := Lib.hid e1
      have He2 := Lib.hid e2
      clear h0 hk e1 e2
      have tR' := tR.below hBm (by omega)
      have HR' := Lib.hid tR'
      obtain ⟨q0, q1, _, _⟩ := hQ
      obtain ⟨r0, r1, g0, g1⟩ := tR'
      go_wp2_with fail
      obtain ⟨k0, k1⟩ := Two.set (x := .int .u64 0) (y := .int .u64 Q) r0 r1
      refine bodyPost_ret (v := .tuple #[.agg #[.int .u64 0, .int .u64 Q], .int .u64 R]) (by simp [results, Tryz.results79, go_sem, k0, k1]) rfl ⟨by rw [He1.out, He2.out], ?_⟩
      exact ((hB.trans (hBm.mono (by omega))).setCell (p := ⟨w.heap.size + 1, 0, none⟩) (by simp) _).setCell (p := ⟨w.heap.size + 1, 1, none⟩) (by simp) _
    · obtain ⟨m, rfl⟩ : ∃ m, k = m + 1 := ⟨k - 1, by omega⟩
      obtain rfl : j = (m : Int) := by have := hj.out; omega
      have x0 : wr.cell? ⟨w.heap.size, 0, none⟩ = some (.int .u64 0) := (hBm.cell (p := ⟨w.heap.size, 0, none⟩) (by simp only; omega)).trans (HX.out.cell 0 _ rfl)
      have x1 : wr.cell? ⟨w.heap.size, 1, none⟩ = some (.int .u64 t) := (hBm.cell (p := ⟨w.heap.size, 1, none⟩) (by simp only; omega)).trans (HX.out.cell 1 _ rfl)
      have HQ := Lib.hid hQ
      obtain ⟨q0, q1, f0, f1⟩ := hQ
      obtain ⟨s, hs⟩ : ∃ s, m % 64 = s := ⟨_, rfl⟩
      have hs64 : s < 64 := by omega
      have ha : bits .and .i64 (m : Int) 63 = (s : Int) := by rw [and63 (by omega), hs]
      obtain ⟨β, hβ⟩ : ∃ β : Nat, hi2 t m % 2 = β := ⟨_, rfl⟩
      have hβ2 : β < 2 := by omega
      have hst := hi2_step t m
      rw [hβ] at hst
      obtain ⟨T, hT⟩ : ∃ T : Nat, 2 * R + β = T := ⟨_, rfl⟩
      have hor : bits .or .u64 ((R : Int) * 2) (β : Int) = (T : Int) := by rw [or_bit (by omega) hβ2, hT]
      have hor2 : bits .or .u64 ((Q : Int) + Q) 1 = ((2 * Q + 1 : Nat) : Int) := by
        have := or_bit (R := Q) (β := 1) (by omega) (by omega)
        rw [show (Q : Int) + Q = Q * 2 by omega]; exact this
      have hnext := split_next (d := d) (H := hi2 t (m + 1)) (H' := hi2 t m) (R := R) (Q := Q) (T := T) hd1 hst hR.out hQn.out hT
      have Hnext := Lib.hid hnext
      have HP := Lib.hid (fun W => refPlus_any Q Q W (by omega))
      have hTd : T < 2 * d := by omega
      have hfin : (bits .and .u64 ((t : Int) / 2 ^ s) 1 = (β : Int) ∧ decide (64 ≤ (m : Int)) = false) ∨ (bits .and .u64 0 1 = (β : Int) ∧ decide (64 ≤ (m : Int)) = true) := by
        by_cases h64 : m < 64
        · left
          refine ⟨?_, by simp; omega⟩
          have e : s = m := by omega
          subst e
          rw [and_one (by omega), ← hβ]; rfl
        · right
          refine ⟨?_, by simp; omega⟩
          rw [← hβ, hi2_big ht (by omega)]
          decide +kernel
      have hm127 : m ≤ 127 := by omega
      clear hs hβ hst hT hnext h0 hk hj hR hQn
      rcases hfin with ⟨hb, d64⟩ | ⟨hb, d64⟩
      all_goals
        by_cases hge : d ≤ T
        · have dge : decide ((d : Int) ≤ T) = true := by simp; omega
          have hnx := Hnext.out
          rw [if_pos hge] at hnx
          have Hnx := Lib.hid hnx
          clear hnx
          go_wp2_with fail
          refine (HP.out _).mono ?_
          rintro e w2 ⟨rfl, hb2⟩
          have hQ2 := HQ.out.below hb2 hsz
          have HQ2 := Lib.hid hQ2
          obtain ⟨p0, p1, f2, f3⟩ := hQ2
          have hQ3 := HQ2.out.put (u := .int .u64 0) (v := .int .u64 ((Q + Q : Nat) : Int))
          go_wp2_with fail
          go_roundw
          case rel =>
            refine ⟨m, (m : Int) - 1, T - d, 2 * Q + 1, by omega, rfl, (Hnx.out hTd).1, (Hnx.out hTd).2, by first | rfl | go_num, ?_, ?_, ?_, ?_⟩
            · exact u64_eq (by omega)
            · have := hQ3.put1 (v := .int .u64 ((2 * Q + 1 : Nat) : Int))
              rw [show ((Q + Q : Nat) : Int) = (Q : Int) + Q by omega, show ((2 * Q + 1 : Nat) : Int) = 2 * (Q : Int) + 1 by omega] at this
              rw [show ((2 * Q + 1 : Nat) : Int) = 2 * (Q : Int) + 1 by omega]
              exact this
            · exact (((hBm.trans (hb2.mono (by omega))).setCell (p := ⟨w.heap.size + 2, 0, none⟩) (Nat.le_refl _) _).setCell (p := ⟨w.heap.size + 2, 1, none⟩) (Nat.le_refl _) _).setCell (p := ⟨w.heap.size + 2, 1, none⟩) (Nat.le_refl _) _
            · have := hb2.size; simp only [World.setCell, Array.size_modify]; omega
          case measure => simp [intOf] <;> omega
        · have dge : decide ((d : Int) ≤ T) = false := by simp; omega
          have hnx := Hnext.out
          rw [if_neg hge] at hnx
          have Hnx := Lib.hid hnx
          clear hnx
          go_wp2_with fail
          refine (HP.out _).mono ?_
          rintro e w2 ⟨rfl, hb2⟩
          have hQ2 := HQ.out.below hb2 hsz
          have HQ2 := Lib.hid hQ2
          obtain ⟨p0, p1, f2, f3⟩ := hQ2
          have hQ3 := HQ2.out.put (u := .int .u64 0) (v := .int .u64 ((Q + Q : Nat) : Int))
          go_wp2_with fail
          go_roundw
          case rel =>
            refine ⟨m, (m : Int) - 1, T, 2 * Q, by omega, rfl, Hnx.out.1, Hnx.out.2, by first | rfl | go_num, ?_, ?_, ?_, ?_⟩
            · exact u64_eq rfl
            · rw [show ((Q + Q : Nat) : Int) = (Q : Int) + Q by omega] at hQ3
              rw [show ((2 * Q : Nat) : Int) = (Q : Int) + Q by omega]
              exact hQ3
            · exact ((hBm.trans (hb2.mono (by omega))).setCell (p := ⟨w.heap.size + 2, 0, none⟩) (Nat.le_refl _) _).setCell (p := ⟨w.heap.size + 2, 1, none⟩) (Nat.le_refl _) _
            · have := hb2.size; simp only [World.setCell, Array.size_modify]; omega
          case measure => simp [intOf] <;> omega
end Go.Proofs.YtllcbcanohdepaaGreat
