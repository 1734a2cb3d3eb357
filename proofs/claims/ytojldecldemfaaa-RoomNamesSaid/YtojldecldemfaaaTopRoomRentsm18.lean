/- The reference's sums, differences and long division of numbers of two words whose upper word is 0; its Check of reduced ratios with small parts. -/
import Derived.Test.YtojldecldemfaaaTopRoomRentsm10
import Derived.Test.YtojldecldemfaaaTopRoomRentsm6
import Derived.Shelf.Bits.Mul64
import Derived.Deep.RegionHeld3
import Derived.Deep.DeepCutAuto
import Derived.Test.YtojldecldemfaaaTopRoomRentsm16
import Derived.Test.YtojldecldemfaaaTopRoomRentsm17
/- The reference's sums, differences and long division of numbers of two words whose upper word is 0; its Check of reduced ratios with small parts. -/
namespace Go.Proofs.Ytojldecldemfaaa
set_option linter.unusedVariables false
set_option linter.unusedSimpArgs false
open Go.ChangeShapes Go.WideShapes Go.ChangeAt Go.RowKit Go.Deep

set_option maxHeartbeats 1600000 in
theorem refPlus_any (a b : Nat) (w : World) (ha : a + b < 18446744073709551616) :
    Calls Try.prog 62 #[.agg #[.int .u64 0, .int .u64 a], .agg #[.int .u64 0, .int .u64 b]] w fun e w' => e = .returned (.agg #[.int .u64 0, .int .u64 ((a + b : Nat) : Int)]) ∧ Below w.heap.size w w' := by
  have h1 : ¬ ((a : Int) + b < a) := by omega
  go_enter Try.func62, Try.ntmps62
  go_wp2_with fail
  refine bodyPost_ret (v := .agg #[.int .u64 0, .int .u64 ((a + b : Nat) : Int)]) (by simp [results, Try.results62, go_sem]) rfl ⟨rfl, ?_⟩
  exact (((Below.refl _ _).alloc (Nat.le_refl _) _).alloc (by simp) _).alloc (by simp; omega) _
set_option maxHeartbeats 1600000 in
theorem refMinus_any (a b : Nat) (w : World) (hab : b ≤ a) (ha : a < 18446744073709551616) :
    Calls Try.prog 63 #[.agg #[.int .u64 0, .int .u64 a], .agg #[.int .u64 0, .int .u64 b]] w fun e w' => e = .returned (.agg #[.int .u64 0, .int .u64 ((a - b : Nat) : Int)]) ∧ Below w.heap.size w w' := by
  have hd : decide ((a : Int) < b) = false := by simp; omega
  have hw : (a : Int) - b = ((a - b : Nat) : Int) := by omega
  go_enter Try.func63, Try.ntmps63
  go_wp2_with fail
  refine bodyPost_ret (v := .agg #[.int .u64 0, .int .u64 ((a - b : Nat) : Int)]) (by simp [results, Try.results63, go_sem]) rfl ⟨rfl, ?_⟩
  exact (((Below.refl _ _).alloc (Nat.le_refl _) _).alloc (by simp) _).alloc (by simp; omega) _
set_option maxHeartbeats 1600000 in
theorem refCheckQ_any (a : Int) (b : Nat) (w : World) (ha : -1000000000 ≤ a ∧ a ≤ 1000000000) (hb : 0 < b ∧ b ≤ 1000000000) (hg : Nat.gcd a.natAbs b = 1) :
    Calls Try.prog 74 #[.agg #[.int .i64 a, .int .i64 b]] w fun e w' => e = .returned (.int .i64 0) ∧ Below w.heap.size w w' := by
  obtain ⟨W0, hW0⟩ : ∃ W, w.alloc (.cells #[.int .i64 a, .int .i64 b] 40) = W := ⟨_, rfl⟩
  have hB := below_alloc hW0
  have bX : BoxV W0 w.heap.size [.int .i64 a, .int .i64 b] := BoxV.new rfl hW0
  have HW0 := Lib.hid hW0
  clear hW0
  have k0 := bX.cell 0 _ rfl
  have k1 := bX.cell 1 _ rfl
  obtain ⟨ha1, ha2⟩ := ha
  obtain ⟨hb1, hb2⟩ := hb
  have d1 : decide ((b : Int) < 1) = false := by simp; omega
  have d2 : decide (1000000000000000000 < (b : Int)) = false := by simp; omega
  have d3 : decide (a < -1000000000000000000) = false := by simp; omega
  have d4 : decide (1000000000000000000 < a) = false := by simp; omega
  have ub : IntKind.u64.wrap (b : Int) = b := wrap_u (by omega)
  have A1 := Lib.hid (fun W => abs_any a W (by omega) (by omega))
  have G1 := Lib.hid (fun W => (hg ▸ refGcd_any a.natAbs b W (by omega) (by omega) : Calls Try.prog 57 #[.int .u64 (a.natAbs : Int), .int .u64 (b : Int)] W fun e w' => e = .returned (.int .u64 ((1 : Nat) : Int)) ∧ ∃ n, w' = W.drewN n))
  have Hg := Lib.hid hg
  clear hg
  go_enter Try.func74, Try.ntmps74
  go_wp2_with fail
  rw [HW0.out]
  go_quiet (first | (go_at_call 56; exact Calls.quiet_of_same (A1.out _)) | (go_at_call 57; exact Calls.quiet_of ((G1.out _))))
  go_wp2_with fail
  go_ret
  exact ⟨rfl, hB.drewN' _⟩
def hi2 (t k : Nat) : Nat := t / 2 ^ k
theorem hi2_big {t k : Nat} (ht : t < 9223372036854775808) (hk : 64 ≤ k) : hi2 t k = 0 := by
  unfold hi2
  refine Nat.div_eq_of_lt (Nat.lt_of_lt_of_le ht ?_)
  exact Nat.le_trans (by decide) (Nat.pow_le_pow_right (by decide) hk)
theorem hi2_step (t m : Nat) : hi2 t m = 2 * hi2 t (m + 1) + hi2 t m % 2 := by
  unfold hi2
  rw [Nat.pow_succ, ← Nat.div_div_eq_div_mul]
  omega
theorem or_bit {R β : Nat} (h : R ≤ 9223372036854775807) (hb : β < 2) : bits .or .u64 ((R : Int) * 2) (β : Int) = ((2 * R + β : Nat) : Int) := by
  have e : (R : Int) * 2 = ((R * 2 : Nat) : Int) := by omega
  rw [e, bits_or_u64_nat _ _ (by omega) (by omega)]
  have h2 := Nat.shiftLeft_add_eq_or_of_lt (b := β) (i := 1) (by omega) R
  rw [Nat.shiftLeft_eq] at h2
  have h3 : R * 2 ||| β = R * 2 + β := h2.symm
  rw [h3]
  omega
theorem and_one {t m : Nat} (h : t < 18446744073709551616) : bits .and .u64 ((t : Int) / 2 ^ m) 1 = ((t / 2 ^ m % 2 : Nat) : Int) := by
  have e : (t : Int) / 2 ^ m = ((t / 2 ^ m : Nat) : Int) := by simp
  have hl : t / 2 ^ m ≤ t := Nat.div_le_self _ _
  have := bits_and_u64_nat (t / 2 ^ m) 1 (by omega) (by omega)
  rw [e, Nat.and_one_is_mod] at *
  exact this
theorem split_next {d H H' R Q T β : Nat} (hd : 0 < d) (hs : H' = 2 * H + β) (hR : R = H % d) (hQ : Q = H / d) (hT : 2 * R + β = T) :
    if d ≤ T then (T < 2 * d → (T - d = H' % d ∧ 2 * Q + 1 = H' / d)) else (T = H' % d ∧ 2 * Q = H' / d) := by
  have hH := Nat.div_add_mod H d
  rw [← hR, ← hQ] at hH
  have e : H' = T + d * (2 * Q) := by
    rw [Nat.mul_left_comm]; omega
  split
  · rename_i h
    intro h2
    have e2 : H' = (T - d) + d * (2 * Q + 1) := by rw [Nat.mul_add]; omega
    rw [e2, Nat.add_mul_mod_self_left, Nat.add_mul_div_left _ _ hd, Nat.mod_eq_of_lt (by omega), Nat.div_eq_of_lt (by omega)]
    omega
  · rename_i h
    rw [e, Nat.add_mul_mod_self_left, Nat.add_mul_div_left _ _ hd, Nat.mod_eq_of_lt (by omega), Nat.div_eq_of_lt (by omega)]
    omega
theorem u64_eq {a b : Int} (h : a = b) : Value.int .u64 a = Value.int .u64 b := by rw [h]
theorem Two.put1 {w : World} {S : Nat} {x y v : Value} (h : Two w S x y) : Two (w.setCell ⟨S, 1, none⟩ v) S x v := by
  have hne : (⟨S, 1, none⟩ : Addr) ≠ ⟨S, 0, none⟩ := fun e => by cases e
  exact ⟨(World.cell?_setCell_other _ _ _ _ hne).trans h.c0, World.cell?_setCell_same _ _ _ h.c1, by rw [World.frozen?_setCell]; exact h.f0, by rw [World.frozen?_setCell]; exact h.f1⟩
theorem and63 {m : Nat} (h : m < 128) : bits .and .i64 (m : Int) 63 = ((m % 64 : Nat) : Int) := by
  have : ∀ m : Fin 128, bits .and .i64 ((m.1 : Nat) : Int) 63 = ((m.1 % 64 : Nat) : Int) := by decide +kernel
  exact this ⟨m, h⟩
set_option maxHeartbeats 1600000 in
set_option maxRecDepth 100000 in
theorem refSplit_any (t d : Nat) (w : World) (ht : t < 9223372036854775808) (hd1 : 0 < d) (hd2 : d ≤ 4294967296) :
    Calls Try.prog 64 #[.agg #[.int .u64 0, .int .u64 t], .int .u64 d] w fun e w' => e = .returned (.tuple #[.agg #[.int .u64 0, .int .u64 ((t / d : Nat) : Int)], .int .u64 ((t % d : Nat) : Int)]) ∧ Below w.heap.size w w' := by
  obtain ⟨W1, hW1⟩ : ∃ W, w.alloc (.cells #[.int .u64 0, .int .u64 t] 101) = W := ⟨_, rfl⟩
  obtain ⟨W2, hW2⟩ : ∃ W, W1.alloc (.cells #[.int .u64 0, .int .u64 0] 101) = W := ⟨_, rfl⟩
  obtain ⟨W0, hW0⟩ : ∃ W, W2.alloc (.cells #[.int .u64 0, .int .u64 0] 101) = W := ⟨_, rfl⟩
  have hB1 := below_alloc hW1
  have hB2 := below_alloc hW2
  have hB3 := below_alloc hW0
  have s1 : W1.heap.size = w.heap.size + 1 := by rw [← hW1]; simp
  have s2 : W2.heap.size = w.heap.size + 2 := by rw [← hW2]; simp [s1]
  have bX : BoxV W0 w.heap.size [.int .u64 0, .int .u64 t] := ((BoxV.new rfl hW1).below hB2).below hB3
  have hB : Below w.heap.size w W0 := (hB1.trans (hB2.mono hB1.size)).trans (hB3.mono (hB1.trans (hB2.mono hB1.size)).size)
  have tR : Two W0 (w.heap.size + 1) (.int .u64 0) (.int .u64 0) := (Two.new s1 hW2.symm).below hB3 (by omega)
  have tQ : Two W0 (w.heap.size + 2) (.int .u64 0) (.int .u64 0) := Two.new s2 hW0.symm
  have z0 : W0.heap.size = w.heap.size + 3 := by rw [← hW0]; simp [s2]
  have HW1 := Lib.hid hW1
  have HW2 := Lib.hid hW2
  have HW0 := Lib.hid hW0
  have Hz0 := Lib.hid z0
  clear hW1 hW2 hW0 hB1 hB2 hB3 s1 s2 z0
  have HX := Lib.hid bX
  clear bX
  go_enter Try.func64, Try.ntmps64
  go_wp2_with fail
  rw [HW1.out, HW2.out, HW0.out]
  go_loopw [7, 8] (fun r i wr => ∃ (k : Nat) (j : Int) (R Q : Nat), k ≤ 128 ∧ Hid (j = k - 1) ∧ Hid (R = hi2 t k % d) ∧ Hid (Q = hi2 t k / d) ∧ i = .int .i64 j ∧ r = .int .u64 R ∧ Two wr (w.heap.size + 2) (.int .u64 0) (.int .u64 Q) ∧ Below (w.heap.size + 2) W0 wr ∧ w.heap.size + 2 < wr.heap.size) (fun _ i _ => (intOf i + 1).toNat)
  case atStart => exact ⟨128, 127, 0, 0, Nat.le_refl _, rfl, by unfold Hid; rw [hi2_big (by omega) (by omega)]; simp, by unfold Hid; rw [hi2_big (by omega) (by omega)]; simp, rfl, rfl, tQ, Below.refl _ _, by have := Hz0.out; omega⟩
  case round =>
    obtain ⟨k, j, R, Q, hk, hj, hR, hQn, rfl, rfl, hQ, hBm, hsz⟩ := hrel
    have hRd : R < d := by rw [hR.out]; exact Nat.mod_lt _ hd1
    have hQt : Q ≤ t := by rw [hQn.out]; exact Nat.le_trans (Nat.div_le_self _ _) (Nat.div_le_self _ _)
    by_cases h0 : k = 0
    · obtain rfl : j = -1 := by have := hj.out; omega
      have e1 : Q = t / d := by rw [hQn.out, h0]; unfold hi2; simp
      have e2 : R = t % d := by rw [hR.out, h0]; unfold hi2; simp
      have He1 := Lib.hid e1
      have He2 := Lib.hid e2
      clear h0 hk e1 e2
      have tR' := tR.below hBm (by omega)
      have HR' := Lib.hid tR'
      obtain ⟨q0, q1, _, _⟩ := hQ
      obtain ⟨r0, r1, g0, g1⟩ := tR'
      go_wp2_with fail
      obtain ⟨k0, k1⟩ := Two.set (x := .int .u64 0) (y := .int .u64 Q) r0 r1
      refine bodyPost_ret (v := .tuple #[.agg #[.int .u64 0, .int .u64 Q], .int .u64 R]) (by simp [results, Try.results64, go_sem, k0, k1]) rfl ⟨by rw [He1.out, He2.out], ?_⟩
      exact ((hB.trans (hBm.mono (by omega))).setCell (p := ⟨w.heap.size + 1, 0, none⟩) (by simp) _).setCell (p := ⟨w.heap.size + 1, 1, none⟩) (by simp) _
    · obtain ⟨m, rfl⟩ : ∃ m, k = m + 1 := ⟨k - 1, by omega⟩
      obtain rfl : j = (m : Int) := by have := hj.out; omega
      have x0 : wr.cell? ⟨w.heap.size, 0, none⟩ = some (.int .u64 0) := (hBm.cell (p := ⟨w.heap.size, 0, none⟩) (by simp only; omega)).trans (HX.out.cell 0 _ rfl)
      have x1 : wr.cell? ⟨w.heap.size, 1, none⟩ = some (.int .u64 t) := (hBm.cell (p := ⟨w.heap.size, 1, none⟩) (by simp only; omega)).trans (HX.out.cell 1 _ rfl)
      have HQ := Lib.hid hQ
      obtain ⟨q0, q1, f0, f1⟩ := hQ
      obtain ⟨s, hs⟩ : ∃ s, m % 64 = s := ⟨_, rfl⟩
      have hs64 : s < 64 := by omega
      have ha : bits .and .i64 (m : Int) 63 = (s : Int) := by rw [and63 (by omega), hs]
      obtain ⟨β, hβ⟩ : ∃ β : Nat, hi2 t m % 2 = β := ⟨_, rfl⟩
      have hβ2 : β < 2 := by omega
      have hst := hi2_step t m
      rw [hβ] at hst
      obtain ⟨T, hT⟩ : ∃ T : Nat, 2 * R + β = T := ⟨_, rfl⟩
      have hor : bits .or .u64 ((R : Int) * 2) (β : Int) = (T : Int) := by rw [or_bit (by omega) hβ2, hT]
      have hor2 : bits .or .u64 ((Q : Int) + Q) 1 = ((2 * Q + 1 : Nat) : Int) := by
        have := or_bit (R := Q) (β := 1) (by omega) (by omega)
        rw [show (Q : Int) + Q = Q * 2 by omega]; exact this
      have hnext := split_next (d := d) (H := hi2 t (m + 1)) (H' := hi2 t m) (R := R) (Q := Q) (T := T) hd1 hst hR.out hQn.out hT
      have Hnext := Lib.hid hnext
      have HP := Lib.hid (fun W => refPlus_any Q Q W (by omega))
      have hTd : T < 2 * d := by omega
      have hfin : (bits .and .u64 ((t : Int) / 2 ^ s) 1 = (β : Int) ∧ decide (64 ≤ (m : Int)) = false) ∨ (bits .and .u64 0 1 = (β : Int) ∧ decide (64 ≤ (m : Int)) = true) := by
        by_cases h64 : m < 64
        · left
          refine ⟨?_, by simp; omega⟩
          have e : s = m := by omega
          subst e
          rw [and_one (by omega), ← hβ]; rfl
        · right
          refine ⟨?_, by simp; omega⟩
          rw [← hβ, hi2_big ht (by omega)]
          decide +kernel
      have hm127 : m ≤ 127 := by omega
      clear hs hβ hst hT hnext h0 hk hj hR hQn
      rcases hfin with ⟨hb, d64⟩ | ⟨hb, d64⟩
      all_goals
        by_cases hge : d ≤ T
        · have dge : decide ((d : Int) ≤ T) = true := by simp; omega
          have hnx := Hnext.out
          rw [if_pos hge] at hnx
          have Hnx := Lib.hid hnx
          clear hnx
          go_wp2_with fail
          refine (HP.out _).mono ?_
          rintro e w2 ⟨rfl, hb2⟩
          have hQ2 := HQ.out.below hb2 hsz
          have HQ2 := Lib.hid hQ2
          obtain ⟨p0, p1, f2, f3⟩ := hQ2
          have hQ3 := HQ2.out.put (u := .int .u64 0) (v := .int .u64 ((Q + Q : Nat) : Int))
          go_wp2_with fail
          go_roundw
          case rel =>
            refine ⟨m, (m : Int) - 1, T - d, 2 * Q + 1, by omega, rfl, (Hnx.out hTd).1, (Hnx.out hTd).2, by first | rfl | go_num, ?_, ?_, ?_, ?_⟩
            · exact u64_eq (by omega)
            · have := hQ3.put1 (v := .int .u64 ((2 * Q + 1 : Nat) : Int))
              rw [show ((Q + Q : Nat) : Int) = (Q : Int) + Q by omega, show ((2 * Q + 1 : Nat) : Int) = 2 * (Q : Int) + 1 by omega] at this
              rw [show ((2 * Q + 1 : Nat) : Int) = 2 * (Q : Int) + 1 by omega]
              exact this
            · exact (((hBm.trans (hb2.mono (by omega))).setCell (p := ⟨w.heap.size + 2, 0, none⟩) (Nat.le_refl _) _).setCell (p := ⟨w.heap.size + 2, 1, none⟩) (Nat.le_refl _) _).setCell (p := ⟨w.heap.size + 2, 1, none⟩) (Nat.le_refl _) _
            · have := hb2.size; simp only [World.setCell, Array.size_modify]; omega
          case measure => simp [intOf] <;> omega
        · have dge : decide ((d : Int) ≤ T) = false := by simp; omega
          have hnx := Hnext.out
          rw [if_neg hge] at hnx
          have Hnx := Lib.hid hnx
          clear hnx
          go_wp2_with fail
          refine (HP.out _).mono ?_
          rintro e w2 ⟨rfl, hb2⟩
          have hQ2 := HQ.out.below hb2 hsz
          have HQ2 := Lib.hid hQ2
          obtain ⟨p0, p1, f2, f3⟩ := hQ2
          have hQ3 := HQ2.out.put (u := .int .u64 0) (v := .int .u64 ((Q + Q : Nat) : Int))
          go_wp2_with fail
          go_roundw
          case rel =>
            refine ⟨m, (m : Int) - 1, T, 2 * Q, by omega, rfl, Hnx.out.1, Hnx.out.2, by first | rfl | go_num, ?_, ?_, ?_, ?_⟩
            · exact u64_eq rfl
            · rw [show ((Q + Q : Nat) : Int) = (Q : Int) + Q by omega] at hQ3
              rw [show ((2 * Q : Nat) : Int) = (Q : Int) + Q by omega]
              exact hQ3
            · exact ((hBm.trans (hb2.mono (by omega))).setCell (p := ⟨w.heap.size + 2, 0, none⟩) (Nat.le_refl _) _).setCell (p := ⟨w.heap.size + 2, 1, none⟩) (Nat.le_refl _) _
            · have := hb2.size; simp only [World.setCell, Array.size_modify]; omega
          case measure => simp [intOf] <;> omega
end Go.Proofs.Ytojldecldemfaaa

/- Fractions in lowest terms: what they are worth, sums; plain, no program. -/
namespace Go.Proofs.Ytojldecldemfaaa
set_option linter.unusedVariables false
set_option linter.unusedSimpArgs false

theorem sgn_abs (x : Int) : sgn (decide (x < 0)) x.natAbs = x := by
  unfold sgn; split <;> rename_i h <;> simp at h <;> omega
theorem sgn_natAbs (m : Bool) (a : Nat) : (sgn m a).natAbs = a := by unfold sgn; split <;> simp
theorem rN_mul {x : Int} {d : Nat} (hd : 0 < d) : rN x d * (rG x d : Nat) = x := by
  have h := Nat.div_mul_cancel (Nat.gcd_dvd_left x.natAbs d)
  have h' : x.natAbs / rG x d * rG x d = x.natAbs := h
  unfold rN sgn
  split
  · rename_i hx
    rw [decide_eq_true_iff] at hx
    rw [Int.neg_mul, ← Int.natCast_mul, h']; omega
  · rename_i hx
    rw [decide_eq_true_iff] at hx
    rw [← Int.natCast_mul, h']; omega
theorem rD_mul {x : Int} {d : Nat} : rD x d * (rG x d : Nat) = d := by
  have h := Nat.div_mul_cancel (Nat.gcd_dvd_right x.natAbs d)
  unfold rD
  rw [← Int.natCast_mul]
  exact congrArg _ h
theorem rD_pos {x : Int} {d : Nat} (hd : 0 < d) : 0 < d / rG x d := Nat.div_pos (rG_le hd) (rG_pos hd)
theorem rD_le {x : Int} {d : Nat} : d / rG x d ≤ d := Nat.div_le_self _ _
theorem rN_le {x : Int} {d : Nat} : (rN x d).natAbs ≤ x.natAbs := by
  unfold rN; rw [sgn_natAbs]; exact Nat.div_le_self _ _
theorem rN_bd {x : Int} {d : Nat} {M : Int} (h1 : -M ≤ x) (h2 : x ≤ M) : -M ≤ rN x d ∧ rN x d ≤ M := by
  have := rN_le (x := x) (d := d); omega
theorem rat_cop {x : Int} {d : Nat} (hd : 0 < d) : Nat.gcd (rN x d).natAbs (d / rG x d) = 1 := by
  unfold rN
  rw [sgn_natAbs]
  exact Nat.coprime_iff_gcd_eq_one.1 (Nat.coprime_div_gcd_div_gcd (Nat.gcd_pos_of_pos_right _ hd))
/-- A fraction in lowest terms is one fraction. -/
theorem rat_scale {x : Int} {d k : Nat} (hd : 0 < d) (hk : 0 < k) : rN (k * x) (k * d) = rN x d ∧ rD (k * x) (k * d) = rD x d := by
  have hg : rG (k * x) (k * d) = k * rG x d := by
    unfold rG; rw [Int.natAbs_mul, Int.natAbs_natCast, Nat.gcd_mul_left]
  have hs : decide ((k : Int) * x < 0) = decide (x < 0) := by
    rw [Bool.eq_iff_iff, decide_eq_true_iff, decide_eq_true_iff]
    constructor
    · intro h
      rcases Int.lt_or_le x 0 with h1 | h1
      · exact h1
      · have := Int.mul_nonneg (show (0 : Int) ≤ k by omega) h1; omega
    · intro h; exact Int.mul_neg_of_pos_of_neg (by omega) h
  unfold rN rD
  rw [hg, hs, Int.natAbs_mul, Int.natAbs_natCast, Nat.mul_div_mul_left _ _ hk, Nat.mul_div_mul_left _ _ hk]
  exact ⟨rfl, rfl⟩
theorem rat_eq {x y : Int} {d e : Nat} (hd : 0 < d) (he : 0 < e) (h : x * e = y * d) : rN x d = rN y e ∧ rD x d = rD y e := by
  obtain ⟨h1, h2⟩ := rat_scale (x := x) hd he
  obtain ⟨h3, h4⟩ := rat_scale (x := y) he hd
  have e1 : (e : Int) * x = d * y := by rw [Int.mul_comm, h, Int.mul_comm]
  rw [e1, Nat.mul_comm] at h1 h2
  exact ⟨h1.symm.trans h3, h2.symm.trans h4⟩
/-- What is in lowest terms is its own lowest terms. -/
theorem rat_self {a : Int} {b : Nat} (h : Nat.gcd a.natAbs b = 1) : rN a b = a ∧ rD a b = b := by
  have hg : rG a b = 1 := h
  unfold rN rD
  rw [hg, Nat.div_one, Nat.div_one, sgn_abs]
  exact ⟨rfl, rfl⟩
theorem rat_less {x y : Int} {d e : Nat} (hd : 0 < d) (he : 0 < e) : decide (rN x d * rD y e < rN y e * rD x d) = decide (x * e < y * d) := by
  have h1 := rN_mul (x := x) hd
  have h2 := rN_mul (x := y) he
  have h3 := rD_mul (x := x) (d := d)
  have h4 := rD_mul (x := y) (d := e)
  have g1 : (0 : Int) < (rG x d : Nat) := by have := rG_pos (x := x) hd; omega
  have g2 : (0 : Int) < (rG y e : Nat) := by have := rG_pos (x := y) he; omega
  obtain ⟨G1, e1⟩ : ∃ G : Int, ((rG x d : Nat) : Int) = G := ⟨_, rfl⟩
  obtain ⟨G2, e2⟩ : ∃ G : Int, ((rG y e : Nat) : Int) = G := ⟨_, rfl⟩
  rw [e1] at h1 h3 g1
  rw [e2] at h2 h4 g2
  obtain ⟨a, ha⟩ : ∃ a, rN x d = a := ⟨_, rfl⟩
  obtain ⟨b, hb⟩ : ∃ a, rD x d = a := ⟨_, rfl⟩
  obtain ⟨a', ha'⟩ : ∃ a, rN y e = a := ⟨_, rfl⟩
  obtain ⟨b', hb'⟩ : ∃ a, rD y e = a := ⟨_, rfl⟩
  rw [ha] at h1 ⊢
  rw [hb] at h3 ⊢
  rw [ha'] at h2 ⊢
  rw [hb'] at h4 ⊢
  have l : x * e = (G1 * G2) * (a * b') := by
    rw [← h1, ← h4]; simp only [Int.mul_comm, Int.mul_left_comm, Int.mul_assoc]
  have r : y * d = (G1 * G2) * (a' * b) := by
    rw [← h2, ← h3]; simp only [Int.mul_comm, Int.mul_left_comm, Int.mul_assoc]
  rw [l, r, Bool.eq_iff_iff, decide_eq_true_iff, decide_eq_true_iff]
  have hp : 0 < G1 * G2 := Int.mul_pos g1 g2
  exact ⟨fun h => Int.mul_lt_mul_of_pos_left h hp, fun h => Int.lt_of_mul_lt_mul_left h (Int.le_of_lt hp)⟩

/-- The sum, as both texts find it. -/
def adG (b e : Nat) : Nat := Nat.gcd b e
def adT (a c : Int) (b e : Nat) : Int := a * ((e / adG b e : Nat) : Int) + c * ((b / adG b e : Nat) : Int)
def adH (a c : Int) (b e : Nat) : Nat := Nat.gcd ((adT a c b e).natAbs % adG b e) (adG b e)
theorem ad_cop {p q r s : Nat} (h1 : Nat.gcd p r = 1) (h2 : Nat.gcd s r = 1) : Nat.Coprime (p * s) r := Nat.Coprime.mul_left h1 h2
theorem cop_add {a c : Int} {d' : Nat} {m : Nat} (h1 : Nat.Coprime a.natAbs m) (h2 : Nat.Coprime d' m) (h3 : (m : Int) ∣ c) : Nat.Coprime (a * (d' : Int) + c).natAbs m := by
  have h : Nat.Coprime (a * (d' : Int)).natAbs m := by
    rw [Int.natAbs_mul, Int.natAbs_natCast]; exact Nat.Coprime.mul_left h1 h2
  rw [Nat.coprime_iff_gcd_eq_one] at h ⊢
  refine Nat.eq_one_of_dvd_one ?_
  rw [← h]
  refine Nat.dvd_gcd ?_ (Nat.gcd_dvd_right _ _)
  have k1 : ((Nat.gcd (a * (d' : Int) + c).natAbs m : Nat) : Int) ∣ a * (d' : Int) + c := Int.ofNat_dvd_left.2 (Nat.gcd_dvd_left _ _)
  have k2 : ((Nat.gcd (a * (d' : Int) + c).natAbs m : Nat) : Int) ∣ c := Int.dvd_trans (Int.ofNat_dvd.2 (Nat.gcd_dvd_right _ _)) h3
  have k3 := Int.dvd_sub k1 k2
  rw [Int.add_sub_cancel] at k3
  exact Int.ofNat_dvd_left.1 k3
theorem ad_sum {a c : Int} {b e : Nat} (hb : 0 < b) (he : 0 < e) (h1 : Nat.gcd a.natAbs b = 1) (h2 : Nat.gcd c.natAbs e = 1) :
    rN (a * e + c * b) (b * e) = sgn (decide (adT a c b e < 0)) ((adT a c b e).natAbs / adH a c b e) ∧ rD (a * e + c * b) (b * e) = ((b / adG b e * (e / adH a c b e) : Nat) : Int) := by
  have hg : 0 < adG b e := Nat.gcd_pos_of_pos_left _ hb
  have hbd : adG b e ∣ b := Nat.gcd_dvd_left _ _
  have hed : adG b e ∣ e := Nat.gcd_dvd_right _ _
  have hcop : Nat.Coprime (b / adG b e) (e / adG b e) := Nat.coprime_div_gcd_div_gcd hg
  have hT : adT a c b e = a * ((e / adG b e : Nat) : Int) + c * ((b / adG b e : Nat) : Int) := rfl
  have hH : adH a c b e = Nat.gcd ((adT a c b e).natAbs % adG b e) (adG b e) := rfl
  obtain ⟨g, eg⟩ : ∃ g, adG b e = g := ⟨_, rfl⟩
  obtain ⟨t, et⟩ : ∃ t, adT a c b e = t := ⟨_, rfl⟩
  obtain ⟨h, eh⟩ : ∃ t, adH a c b e = t := ⟨_, rfl⟩
  rw [eg] at hg hbd hed hcop hT hH ⊢
  rw [et] at hT hH ⊢
  rw [eh] at hH ⊢
  obtain ⟨b', rfl⟩ := hbd
  obtain ⟨e', rfl⟩ := hed
  clear eg et eh
  rw [Nat.mul_div_cancel_left _ hg, Nat.mul_div_cancel_left _ hg] at hcop hT
  rw [Nat.mul_div_cancel_left _ hg]
  have hb' : 0 < b' := Nat.pos_of_mul_pos_left hb |> fun _ => by
    rcases Nat.eq_zero_or_pos b' with h | h
    · subst h; simp at hb
    · exact h
  have he' : 0 < e' := by
    rcases Nat.eq_zero_or_pos e' with h | h
    · subst h; simp at he
    · exact h
  -- t over b' e' g
  have k1 : a * ((g * e' : Nat) : Int) + c * ((g * b' : Nat) : Int) = (g : Int) * t := by
    rw [hT]; push_cast; rw [Int.mul_add]; simp only [Int.mul_comm, Int.mul_left_comm, Int.mul_assoc]
  have k2 : g * b' * (g * e') = g * (b' * e' * g) := by simp only [Nat.mul_comm, Nat.mul_left_comm, Nat.mul_assoc]
  have hp : 0 < b' * e' * g := Nat.mul_pos (Nat.mul_pos hb' he') hg
  obtain ⟨s1, s2⟩ := rat_scale (x := t) hp hg
  rw [k1, k2, s1, s2]
  -- what t has in common with b' e' g it has in common with g
  have c1 : Nat.Coprime t.natAbs b' := by
    rw [hT]
    exact cop_add (Nat.Coprime.coprime_mul_left_right h1) (Nat.Coprime.symm hcop) (Int.dvd_mul_left _ _)
  have c2 : Nat.Coprime t.natAbs e' := by
    rw [hT, Int.add_comm]
    exact cop_add (Nat.Coprime.coprime_mul_left_right h2) hcop (Int.dvd_mul_left _ _)
  have hG : rG t (b' * e' * g) = h := by
    unfold rG
    rw [Nat.Coprime.gcd_mul_left_cancel_right g (Nat.Coprime.mul_right c1 c2).symm, Nat.gcd_comm, Nat.gcd_rec, ← hH]
  have hh : 0 < h := hH ▸ Nat.gcd_pos_of_pos_right _ hg
  have hhg : h ∣ g := hH ▸ Nat.gcd_dvd_right _ _
  unfold rN rD
  rw [hG]
  refine ⟨rfl, ?_⟩
  clear hG hH
  obtain ⟨q, rfl⟩ := hhg
  rw [show b' * e' * (h * q) = h * (b' * (q * e')) by simp only [Nat.mul_comm, Nat.mul_left_comm, Nat.mul_assoc], Nat.mul_div_cancel_left _ hh, Nat.mul_assoc h, Nat.mul_div_cancel_left _ hh]
end Go.Proofs.Ytojldecldemfaaa

/- The invariant of a region that reckons a pair by calls and puts it into a block that lies; no condition. -/
namespace Go.Proofs.Ytojldecldemfaaa
set_option linter.unusedVariables false
set_option linter.unusedSimpArgs false
open Go.ChangeShapes Go.WideShapes Go.ChangeAt Go.RowKit Go.Deep

structure PutJ (b0 : Nat) (B : World) (R si : Nat) (val : Nat → Value) (x y X Y : Value) (us : Nat → Value) (D : Nat → Prop) (W : World) : Prop where
  val : ∀ k, k ≠ si → D k → us k = val k
  bel : Below b0 B W
  pre : ¬ D si → Below B.heap.size B W
  two : ¬ D si → Two W R x y
  put : D si → Two W R X Y
  far : ∀ S k, S < B.heap.size → S ≠ R → W.cell? ⟨S, k, none⟩ = B.cell? ⟨S, k, none⟩
section
variable {b0 : Nat} {B : World} {R si : Nat} {val : Nat → Value} {x y X Y : Value} {us : Nat → Value} {D : Nat → Prop} {W W' : World}
theorem PutJ.start (us : Nat → Value) (hR : R < B.heap.size) (h : Two B R x y) : PutJ b0 B R si val x y X Y us (fun _ => False) B.drew :=
  ⟨fun k _ h => h.elim, below_drewN _ _ 1, fun _ => below_drewN _ _ 1, fun _ => h.below (below_drewN B.heap.size B 1) hR, fun h => h.elim, fun S k hS _ => (below_drewN B.heap.size B 1).cell (p := ⟨S, k, none⟩) hS⟩
theorem PutJ.pure (h : PutJ b0 B R si val x y X Y us D W) {i : Nat} (h1 : i ≠ si) (hb0 : b0 ≤ B.heap.size) (hR : R < B.heap.size) (hb : Below W.heap.size W W') : PutJ b0 B R si val x y X Y (upd us i (val i)) (fun k => k = i ∨ D k) W' := by
  have hs := h.bel.size
  refine ⟨fun k k1 hd => ?_, h.bel.trans (hb.mono (by omega)), fun hd => (h.pre fun hd2 => hd (.inr hd2)).trans (hb.mono hs), fun hd => (h.two fun hd2 => hd (.inr hd2)).below hb (by omega), fun hd => (h.put (or_ne hd (Ne.symm h1))).below hb (by omega), fun S k hS hne => (hb.cell (p := ⟨S, k, none⟩) (by simp only; omega)).trans (h.far S k hS hne)⟩
  by_cases e : k = i
  · subst e; rw [upd_same]
  · rw [upd_ne e]; exact h.val k k1 (or_ne hd e)
theorem PutJ.store (h : PutJ b0 B R si val x y X Y us D W) (hD : ¬ D si) (hR : b0 ≤ R) (u : Value) : PutJ b0 B R si val x y X Y (upd us si u) (fun k => k = si ∨ D k) ((W.setCell ⟨R, 0, none⟩ X).setCell ⟨R, 1, none⟩ Y) := by
  refine ⟨fun k k1 hd => ?_, (h.bel.setCell (p := ⟨R, 0, none⟩) hR _).setCell (p := ⟨R, 1, none⟩) hR _, fun hd => (hd (.inl rfl)).elim, fun hd => (hd (.inl rfl)).elim, fun _ => (h.two hD).put, fun S k hS hne => (World.cell?_setCell_other _ _ _ _ (ne_blk (Ne.symm hne))).trans ((World.cell?_setCell_other _ _ _ _ (ne_blk (Ne.symm hne))).trans (h.far S k hS hne))⟩
  rw [upd_ne k1]; exact h.val k k1 (or_ne hd k1)
end
end Go.Proofs.Ytojldecldemfaaa
