/- ratio.Add and Sub: a whole number and a ratio in lowest terms, small parts. -/
import Derived.Test.YtllcbcanohdepaaGreatTopRentFindsm25
import Derived.Test.YtllcbcanohdepaaGreatTopRentFindsm18
/- ratio.Add and Sub: a whole number and a ratio in lowest terms, small parts. -/
namespace Go.Proofs.YtllcbcanohdepaaGreat
set_option linter.unusedVariables false
set_option linter.unusedSimpArgs false
open Go.ChangeShapes Go.WideShapes Go.ChangeAt Go.RowKit Go.Deep

theorem sum_sgn {a c : Int} {e : Nat} : (decide (a < 0) == decide (c < 0)) = true → a * (e : Int) + c = sgn (decide (a < 0)) (a.natAbs * e + c.natAbs) := by
  intro h
  unfold sgn
  by_cases h1 : a < 0
  · have h2 : c < 0 := by
      rw [decide_eq_true h1] at h
      simpa using h
    rw [decide_eq_true h1, if_pos rfl]
    obtain ⟨A, rfl⟩ : ∃ A : Nat, a = -(A : Int) := ⟨a.natAbs, by omega⟩
    obtain ⟨C, rfl⟩ : ∃ C : Nat, c = -(C : Int) := ⟨c.natAbs, by omega⟩
    simp only [Int.natAbs_neg, Int.natAbs_natCast]
    push_cast
    rw [Int.neg_mul]; omega
  · have h2 : ¬ c < 0 := by
      rw [decide_eq_false h1] at h
      simpa using h
    rw [decide_eq_false h1, if_neg (by decide)]
    obtain ⟨A, rfl⟩ : ∃ A : Nat, a = (A : Int) := ⟨a.natAbs, by omega⟩
    obtain ⟨C, rfl⟩ : ∃ C : Nat, c = (C : Int) := ⟨c.natAbs, by omega⟩
    simp only [Int.natAbs_natCast]
    push_cast
    rfl
theorem dif_sgn {a c : Int} {e : Nat} : (decide (a < 0) == decide (c < 0)) = false → a.natAbs * e < c.natAbs → a * (e : Int) + c = sgn (!decide (a < 0)) (c.natAbs - a.natAbs * e) := by
  intro h hl
  unfold sgn
  by_cases h1 : a < 0
  · have h2 : ¬ c < 0 := by
      rw [decide_eq_true h1] at h
      simpa using h
    rw [decide_eq_true h1, if_neg (by decide)]
    obtain ⟨A, rfl⟩ : ∃ A : Nat, a = -(A : Int) := ⟨a.natAbs, by omega⟩
    obtain ⟨C, rfl⟩ : ∃ C : Nat, c = (C : Int) := ⟨c.natAbs, by omega⟩
    simp only [Int.natAbs_neg, Int.natAbs_natCast] at *
    rw [Int.neg_mul, Int.natCast_sub (Nat.le_of_lt hl)]; push_cast; omega
  · have h2 : c < 0 := by
      rw [decide_eq_false h1] at h
      simpa using h
    rw [decide_eq_false h1, if_pos (by decide)]
    obtain ⟨A, rfl⟩ : ∃ A : Nat, a = (A : Int) := ⟨a.natAbs, by omega⟩
    obtain ⟨C, rfl⟩ : ∃ C : Nat, c = -(C : Int) := ⟨c.natAbs, by omega⟩
    simp only [Int.natAbs_neg, Int.natAbs_natCast] at *
    rw [Int.natCast_sub (Nat.le_of_lt hl)]; push_cast; omega
theorem dif_sgn' {a c : Int} {e : Nat} : (decide (a < 0) == decide (c < 0)) = false → c.natAbs ≤ a.natAbs * e → a * (e : Int) + c = sgn (decide (a < 0)) (a.natAbs * e - c.natAbs) := by
  intro h hl
  unfold sgn
  by_cases h1 : a < 0
  · have h2 : ¬ c < 0 := by
      rw [decide_eq_true h1] at h
      simpa using h
    rw [decide_eq_true h1, if_pos (by decide)]
    obtain ⟨A, rfl⟩ : ∃ A : Nat, a = -(A : Int) := ⟨a.natAbs, by omega⟩
    obtain ⟨C, rfl⟩ : ∃ C : Nat, c = (C : Int) := ⟨c.natAbs, by omega⟩
    simp only [Int.natAbs_neg, Int.natAbs_natCast] at *
    rw [Int.neg_mul, Int.natCast_sub hl]; push_cast; omega
  · have h2 : c < 0 := by
      rw [decide_eq_false h1] at h
      simpa using h
    rw [decide_eq_false h1, if_neg (by decide)]
    obtain ⟨A, rfl⟩ : ∃ A : Nat, a = (A : Int) := ⟨a.natAbs, by omega⟩
    obtain ⟨C, rfl⟩ : ∃ C : Nat, c = -(C : Int) := ⟨c.natAbs, by omega⟩
    simp only [Int.natAbs_neg, Int.natAbs_natCast] at *
    rw [Int.natCast_sub hl]; push_cast; omega
/-- What a whole number and a ratio in lowest terms sum up to: 0 only where the ratio is whole. -/
theorem sumZ_one {a c : Int} {e : Nat} (he : 0 < e) (hg : Nat.gcd c.natAbs e = 1) (h : a * (e : Int) + c = 0) : e = 1 := by
  have : (e : Int) ∣ c := ⟨-a, by rw [Int.mul_neg, Int.mul_comm]; omega⟩
  have h2 : e ∣ c.natAbs := Int.ofNat_dvd_left.1 this
  rw [Nat.gcd_eq_right h2] at hg
  exact hg

theorem mul64_of (x y p : Nat) (h : x * y = p) (hx : x < 1000000000000) (hy : y < 1000000000000) (hp : p < 18446744073709551616) (w : World) :
    Calls Tryz.prog 68 #[.int .u64 (x : Int), .int .u64 (y : Int)] w fun e w' => e = .returned (.tuple #[.int .u64 0, .int .u64 (p : Int)]) ∧ w' = w := by
  refine (Tryz.bits_Mul64 x y (by omega) (by omega) w).mono ?_
  rintro r w' ⟨rfl, rfl⟩
  rw [h, Nat.div_eq_of_lt hp, Nat.mod_eq_of_lt hp]
  exact ⟨rfl, rfl⟩
theorem add64_zero (w : World) : (callFunc 69 #[.int .u64 0, .int .u64 0, .int .u64 0]).run Tryz.prog w = .ok (.value (.tuple #[.int .u64 0, .int .u64 0])) w := add64_nil 0 0 (by decide) w
theorem sub64_zero (w : World) : (callFunc 70 #[.int .u64 0, .int .u64 0, .int .u64 0]).run Tryz.prog w = .ok (.value (.tuple #[.int .u64 0, .int .u64 0])) w := sub64_nil 0 0 (by decide) (by decide) w

structure AddS (w W : World) (a b c e : Int) : Prop where
  k0 : W.cell? ⟨w.heap.size, 0, none⟩ = some (.int .i64 a)
  k1 : W.cell? ⟨w.heap.size, 1, none⟩ = some (.int .i64 b)
  n0 : W.cell? ⟨w.heap.size + 1, 0, none⟩ = some (.int .i64 c)
  n1 : W.cell? ⟨w.heap.size + 1, 1, none⟩ = some (.int .i64 e)
  tz : Two W (w.heap.size + 1 + 1) (.int .i64 0) (.int .i64 0)
  sz : w.heap.size + 1 + 1 + 1 ≤ W.heap.size
  bel : Below w.heap.size w W
theorem AddS.step {w W W' : World} {a b c e : Int} (h : AddS w W a b c e) (hb : Below W.heap.size W W') : AddS w W' a b c e := by
  have hs := h.sz
  have hs' := hb.size
  exact ⟨(hb.cell (p := ⟨w.heap.size, 0, none⟩) (by simp only; omega)).trans h.k0, (hb.cell (p := ⟨w.heap.size, 1, none⟩) (by simp only; omega)).trans h.k1, (hb.cell (p := ⟨w.heap.size + 1, 0, none⟩) (by simp only; omega)).trans h.n0, (hb.cell (p := ⟨w.heap.size + 1, 1, none⟩) (by simp only; omega)).trans h.n1, h.tz.below hb (by omega), by omega, h.bel.trans (hb.mono h.bel.size)⟩
theorem AddS.drewN {w W : World} {a b c e : Int} (h : AddS w W a b c e) (n : Nat) : AddS w (W.drewN n) a b c e := h.step (below_drewN _ _ n)
theorem AddS.new {w Wx Wy W0 : World} {a b c e : Int} {T : TypeId} (hWx : w.alloc (.cells #[.int .i64 a, .int .i64 b] T) = Wx) (hWy : Wx.alloc (.cells #[.int .i64 c, .int .i64 e] T) = Wy) (hW0 : Wy.alloc (.cells #[.int .i64 0, .int .i64 0] T) = W0) : AddS w W0 a b c e := by
  have hB1 := below_alloc hWx
  have hB2 := below_alloc hWy
  have hB3 := below_alloc hW0
  have hs : Wx.heap.size = w.heap.size + 1 := by rw [← hWx]; simp
  have hs2 : Wy.heap.size = w.heap.size + 1 + 1 := by rw [← hWy]; simp; omega
  have bX : BoxV W0 w.heap.size [.int .i64 a, .int .i64 b] := ((BoxV.new rfl hWx).below hB2).below hB3
  have bY : BoxV W0 (w.heap.size + 1) [.int .i64 c, .int .i64 e] := (BoxV.new hs hWy).below hB3
  exact ⟨bX.cell 0 _ rfl, bX.cell 1 _ rfl, bY.cell 0 _ rfl, bY.cell 1 _ rfl, Two.new hs2 hW0.symm, by rw [← hW0]; simp; omega, (hB1.trans (hB2.mono hB1.size)).trans (hB3.mono (by omega))⟩

set_option maxHeartbeats 8000000 in
set_option maxRecDepth 100000 in
theorem addOne_any (a c : Int) (e : Nat) (w : World) (h1 : -1000000000 ≤ a ∧ a ≤ 1000000000) (h2 : SmallR c e) (he : e ≤ 1000) :
    Calls Tryz.prog 55 #[.agg #[.int .i64 a, .int .i64 1], .agg #[.int .i64 c, .int .i64 e]] w fun r w' => r = .returned (.tuple #[.agg #[.int .i64 (a * e + c), .int .i64 e], .int .i64 0]) ∧ Below w.heap.size w w' := by
  obtain ⟨Wx, hWx⟩ : ∃ W, w.alloc (.cells #[.int .i64 a, .int .i64 1] 37) = W := ⟨_, rfl⟩
  obtain ⟨Wy, hWy⟩ : ∃ W, Wx.alloc (.cells #[.int .i64 c, .int .i64 e] 37) = W := ⟨_, rfl⟩
  obtain ⟨W0, hW0⟩ : ∃ W, Wy.alloc (.cells #[.int .i64 0, .int .i64 0] 37) = W := ⟨_, rfl⟩
  have HS := AddS.new hWx hWy hW0
  have HWx := Lib.hid hWx
  have HWy := Lib.hid hWy
  have HW0 := Lib.hid hW0
  clear hWx hWy hW0
  obtain ⟨g1, ⟨ge, _⟩, gg⟩ := h2
  have HR := Lib.hid (fun W => ratBoth_any a c 1 e W ⟨h1, ⟨by omega, by omega⟩, Nat.gcd_one_right _⟩ ⟨g1, ⟨ge, by omega⟩, gg⟩)
  have HG := Lib.hid (fun W => ((by have h := rgcd_any 1 e W (by omega) (by omega); rw [Nat.gcd_one_left] at h; exact h) : Calls Tryz.prog 47 #[.int .u64 1, .int .u64 (e : Int)] W fun r w' => r = .returned (.int .u64 1) ∧ ∃ n, w' = W.drewN n))
  have HG2' : ∀ W, Calls Tryz.prog 47 #[.int .u64 0, .int .u64 1] W fun r w' => r = .returned (.int .u64 1) ∧ ∃ n, w' = W.drewN n := fun W => rgcd_any 0 1 W (by omega) (by omega)
  have HG2 := Lib.hid HG2'
  clear HG2'
  have SA := Lib.hid (fun W => size_any a W (by omega) (by omega))
  have SC := Lib.hid (fun W => size_any c W (by omega) (by omega))
  have hAe : a.natAbs * e ≤ 1000000000 * 1000 := Nat.mul_le_mul (by omega) he
  have hA1 : a.natAbs ≤ 1000000000 := by omega
  have hC1 : c.natAbs ≤ 1000000000 := by omega
  have ue : IntKind.u64.wrap (e : Int) = e := wrap_u (by omega)
  have u1 : IntKind.u64.wrap (1 : Int) = 1 := by decide
  have te : (e : Int).tdiv 1 = e := by simp
  have t1 : (1 : Int).tdiv 1 = 1 := by decide
  have E1 := @sum_sgn a c e
  have E2 := @dif_sgn a c e
  have E3 := @dif_sgn' a c e
  have EZ := @sumZ_one a c e ge gg
  obtain ⟨P, hP⟩ : ∃ P, a.natAbs * e = P := ⟨_, rfl⟩
  obtain ⟨A, hA⟩ : ∃ A, a.natAbs = A := ⟨_, rfl⟩
  obtain ⟨C, hC⟩ : ∃ A, c.natAbs = A := ⟨_, rfl⟩
  obtain ⟨m1, hm1⟩ : ∃ m, decide (a < 0) = m := ⟨_, rfl⟩
  obtain ⟨m2, hm2⟩ : ∃ m, decide (c < 0) = m := ⟨_, rfl⟩
  obtain ⟨R, hR⟩ : ∃ R, a * (e : Int) + c = R := ⟨_, rfl⟩
  rw [hP, hC] at E2 E3
  rw [hP, hC] at E1
  rw [hP] at hAe
  rw [hA] at hA1 hP SA
  rw [hC] at hC1 SC
  rw [hm1, hm2] at E1 E2 E3
  rw [hR] at E1 E2 E3 EZ ⊢
  have M1 := Lib.hid (mul64_of A e P hP (by omega) (by omega) (by omega))
  have M2 := Lib.hid (mul64_of C 1 C (Nat.mul_one _) (by omega) (by omega) (by omega))
  have M3 := Lib.hid (mul64_of 1 e e (Nat.one_mul _) (by omega) (by omega) (by omega))
  clear hR hA hC hP h1 g1 gg
  -- what is written, and with which sign
  have key : ∃ L m, R = sgn m L ∧ L ≤ 1000000000000000000 ∧ (((m1 == m2) = true ∧ m = m1 ∧ L = P + C) ∨ ((m1 == m2) = false ∧ m = !m1 ∧ decide ((P : Int) < C) = true ∧ P < C ∧ L = C - P) ∨ ((m1 == m2) = false ∧ m = m1 ∧ decide ((P : Int) < C) = false ∧ ¬ P < C ∧ L = P - C)) := by
    by_cases h : (m1 == m2) = true
    · exact ⟨P + C, m1, E1 h, by omega, .inl ⟨h, rfl, rfl⟩⟩
    · rw [Bool.not_eq_true] at h
      by_cases hl : P < C
      · exact ⟨C - P, !m1, E2 h hl, by omega, .inr (.inl ⟨h, rfl, by rw [decide_eq_true_iff]; omega, by omega, rfl⟩)⟩
      · exact ⟨P - C, m1, E3 h (by omega), by omega, .inr (.inr ⟨h, rfl, by rw [decide_eq_false_iff_not]; omega, by omega, rfl⟩)⟩
  clear E1 E2 E3
  obtain ⟨L, m, hRL, hL, key⟩ := key
  have Hkey := Lib.hid key
  have HEZ := Lib.hid EZ
  have HRL := Lib.hid hRL
  have HD := Lib.hid (fun W => div64_one L (by omega) W)
  have HM := Lib.hid (fun W => rem64_one L (by omega) W)
  have HSg := Lib.hid (fun W => signed_any m L e W hL (by omega))
  have hL0 : (0 : Int) ≤ L := by omega
  clear key EZ hRL
  go_enter Tryz.func55, Tryz.ntmps55
  go_wp2_with fail
  rw [HWx.out, HWy.out, HW0.out]
  refine (HR.out _).mono ?_
  rintro r w1 ⟨rfl, hb⟩
  replace HS := HS.step hb
  have k0 := HS.k0
  have k1 := HS.k1
  have n0 := HS.n0
  have n1 := HS.n1
  clear hb HWx HWy HW0 HR
  go_wp2_with fail
  refine (HG.out _).mono ?_
  rintro r w2 ⟨rfl, n, hw⟩
  replace HS := HS.drewN n
  rw [← hw] at HS
  clear HG k0 k1 n0 n1 hw
  have k0 := HS.k0
  have k1 := HS.k1
  have n0 := HS.n0
  have n1 := HS.n1
  go_wp2_with fail
  go_quiet (first | (go_at_call 46; exact Calls.quiet_of_same (SA.out _)) | (go_at_call 68; exact Calls.quiet_of_same (M1.out _)))
  replace HS := HS.drewN nq
  obtain ⟨w3, hw3⟩ : ∃ W, w2.drewN nq = W := ⟨_, rfl⟩
  rw [hw3] at HS ⊢
  clear k0 k1 n0 n1 hw3
  have k0 := HS.k0
  have k1 := HS.k1
  have n0 := HS.n0
  have n1 := HS.n1
  go_wp2_with fail
  go_quiet (first | (go_at_call 46; exact Calls.quiet_of_same (SC.out _)) | (go_at_call 68; exact Calls.quiet_of_same (M2.out _)))
  replace HS := HS.drewN nq
  obtain ⟨w4, hw4⟩ : ∃ W, w3.drewN nq = W := ⟨_, rfl⟩
  rw [hw4] at HS ⊢
  clear k0 k1 n0 n1 hw4
  have k0 := HS.k0
  have k1 := HS.k1
  have n0 := HS.n0
  have n1 := HS.n1
  rcases Hkey.out with ⟨q1, rfl, q4⟩ | ⟨q1, rfl, q2, q3, q4⟩ | ⟨q1, rfl, q2, q3, q4⟩
  case' inl => have HX := Lib.hid (fun W => (by rw [q4]; exact add64_nil P C (by omega) W : (callFunc 69 #[.int .u64 (P : Int), .int .u64 (C : Int), .int .u64 0]).run Tryz.prog W = .ok (.value (.tuple #[.int .u64 (L : Int), .int .u64 0])) W)); have HY := Lib.hid add64_zero
  case' inr.inl => have HX := Lib.hid (fun W => (by rw [q4]; exact sub64_nil C P (by omega) (by omega) W : (callFunc 70 #[.int .u64 (C : Int), .int .u64 (P : Int), .int .u64 0]).run Tryz.prog W = .ok (.value (.tuple #[.int .u64 (L : Int), .int .u64 0])) W)); have HY := Lib.hid sub64_zero
  case' inr.inr => have HX := Lib.hid (fun W => (by rw [q4]; exact sub64_nil P C (by omega) (by omega) W : (callFunc 70 #[.int .u64 (P : Int), .int .u64 (C : Int), .int .u64 0]).run Tryz.prog W = .ok (.value (.tuple #[.int .u64 (L : Int), .int .u64 0])) W)); have HY := Lib.hid sub64_zero
  all_goals
    clear Hkey q4
    have HtZ := Lib.hid HS.tz
    have Hbl := Lib.hid HS.bel
    have hsz := HS.sz
    obtain ⟨z0, z1, z2, z3⟩ := HS.tz
    by_cases hz : ((L : Int) == 0) = true
    · go_wp2_with (first | simp only [HX.out] | simp only [HY.out])
      have hL1 : L = 0 := by rw [beq_iff_eq] at hz; omega
      have hR0 := HRL.out
      rw [hL1] at hR0
      have hR1 : R = 0 := by rw [hR0]; simp [sgn]
      have he1 := HEZ.out hR1
      subst he1
      clear z0 z1 z2 z3
      obtain ⟨j0, j1, _, _⟩ := HtZ.out.put (u := .int .i64 0) (v := .int .i64 1)
      refine bodyPost_ret (v := .tuple #[.agg #[.int .i64 0, .int .i64 1], .int .i64 0]) (by simp [results, Tryz.results55, go_sem, j0, j1]) rfl ⟨?_, ?_⟩
      · rw [hR1]; rfl
      · exact (Hbl.out.setCell (p := ⟨w.heap.size + 1 + 1, 0, none⟩) (by simp only; omega) _).setCell (p := ⟨w.heap.size + 1 + 1, 1, none⟩) (by simp only; omega) _
    · rw [Bool.not_eq_true] at hz
      go_wp2_with (first | simp only [HX.out] | simp only [HY.out])
      refine (HM.out _).mono ?_
      rintro r w5 ⟨rfl, n, hw⟩
      replace HS := HS.drewN n
      rw [← hw] at HS
      clear HM hw k0 k1 n0 n1 z0 z1 z2 z3 HtZ Hbl hsz
      go_wp2_with fail
      refine (HG2.out _).mono ?_
      rintro r w6 ⟨rfl, n, hw⟩
      replace HS := HS.drewN n
      rw [← hw] at HS
      clear HG2 hw
      go_wp2_with fail
      refine (HD.out _).mono ?_
      rintro r w7 ⟨rfl, n, hw⟩
      replace HS := HS.drewN n
      rw [← hw] at HS
      clear HD hw
      have k0 := HS.k0
      have k1 := HS.k1
      have n0 := HS.n0
      have n1 := HS.n1
      go_wp2_with fail
      go_quiet (first | (go_at_call 68; exact Calls.quiet_of_same (M3.out _)))
      replace HS := HS.drewN nq
      obtain ⟨w8, hw8⟩ : ∃ W, w7.drewN nq = W := ⟨_, rfl⟩
      rw [hw8] at HS ⊢
      clear k0 k1 n0 n1 hw8
      go_wp2_with fail
      refine (HSg.out _).mono ?_
      rintro r w9 ⟨rfl, hb⟩
      replace HS := HS.step hb
      have HtZ := Lib.hid HS.tz
      have Hbl := Lib.hid HS.bel
      have hsz := HS.sz
      obtain ⟨z0, z1, z2, z3⟩ := HS.tz
      clear hb HSg
      rw [← HRL.out]
      go_wp2_with fail
      clear z0 z1 z2 z3
      obtain ⟨j0, j1, _, _⟩ := HtZ.out.put (u := .int .i64 R) (v := .int .i64 e)
      refine bodyPost_ret (v := .tuple #[.agg #[.int .i64 R, .int .i64 e], .int .i64 0]) (by simp [results, Tryz.results55, go_sem, j0, j1]) rfl ⟨rfl, ?_⟩
      exact (Hbl.out.setCell (p := ⟨w.heap.size + 1 + 1, 0, none⟩) (by simp only; omega) _).setCell (p := ⟨w.heap.size + 1 + 1, 1, none⟩) (by simp only; omega) _

set_option maxHeartbeats 8000000 in
set_option maxRecDepth 100000 in
theorem subOne_any (a c : Int) (e : Nat) (w : World) (h1 : -1000000000 ≤ a ∧ a ≤ 1000000000) (h2 : SmallR c e) (he : e ≤ 1000) :
    Calls Tryz.prog 31 #[.agg #[.int .i64 a, .int .i64 1], .agg #[.int .i64 c, .int .i64 e]] w fun r w' => r = .returned (.tuple #[.agg #[.int .i64 (a * e - c), .int .i64 e], .int .i64 0]) ∧ Below w.heap.size w w' := by
  obtain ⟨Wx, hWx⟩ : ∃ W, w.alloc (.cells #[.int .i64 a, .int .i64 1] 37) = W := ⟨_, rfl⟩
  obtain ⟨Wy, hWy⟩ : ∃ W, Wx.alloc (.cells #[.int .i64 c, .int .i64 e] 37) = W := ⟨_, rfl⟩
  obtain ⟨W0, hW0⟩ : ∃ W, Wy.alloc (.cells #[.int .i64 0, .int .i64 0] 37) = W := ⟨_, rfl⟩
  have HS := AddS.new hWx hWy hW0
  have fr : ∀ (W : World) (j : Nat), (w.heap.size + 1 < W.heap.size) → True := fun _ _ _ => trivial
  have hfz : W0.frozen? ⟨w.heap.size + 1, 0, none⟩ = false := by
    have hs : Wx.heap.size = w.heap.size + 1 := by rw [← hWx]; simp
    have h := (Two.new (w := Wx) (t := 37) hs hWy.symm).below (below_alloc hW0) (by rw [← hWy]; simp; omega)
    exact h.f0
  have HWx := Lib.hid hWx
  have HWy := Lib.hid hWy
  have HW0 := Lib.hid hW0
  clear hWx hWy hW0 fr
  obtain ⟨g1, ⟨ge, ge2⟩, gg⟩ := h2
  have hcn : IntKind.i64.wrap (-c) = -c := IntWalk.i64_in _ (by omega)
  have HR := Lib.hid (fun W => ratBoth_any a c 1 e W ⟨h1, ⟨by omega, by omega⟩, Nat.gcd_one_right _⟩ ⟨g1, ⟨ge, by omega⟩, gg⟩)
  have HA := Lib.hid (fun W => addOne_any a (-c) e W h1 ⟨by omega, ⟨ge, by omega⟩, by rw [Int.natAbs_neg]; exact gg⟩ he)
  have HE := Lib.hid (show a * (e : Int) + -c = a * e - c by omega)
  clear gg
  go_enter Tryz.func31, Tryz.ntmps31
  go_wp2_with fail
  rw [HWx.out, HWy.out, HW0.out]
  refine (HR.out _).mono ?_
  rintro r w1 ⟨rfl, hb⟩
  have hfz1 := (hb.frozen (p := ⟨w.heap.size + 1, 0, none⟩) (by have := HS.sz; simp only; omega)).trans hfz
  replace HS := HS.step hb
  have k0 := HS.k0
  have k1 := HS.k1
  have n0 := HS.n0
  have n1 := HS.n1
  have hsz := HS.sz
  have tz := HS.tz
  have Hbl := HS.bel
  have HHS := Lib.hid HS
  clear hb HWx HWy HW0 HR hfz HS tz Hbl
  go_wp2_with fail
  refine (HA.out _).mono ?_
  rintro r w2 ⟨rfl, hb⟩
  have t2 := (HHS.out.tz.far (T := w.heap.size + 1) (k := 0) (u := .int .i64 (-c)) (by omega)).below hb (by simp [World.setCell]; omega)
  have HB2 := (HHS.out.bel.setCell (p := ⟨w.heap.size + 1, 0, none⟩) (by simp only; omega) (.int .i64 (-c))).trans (hb.mono (by simp [World.setCell]; omega))
  have Ht2 := Lib.hid t2
  have HHB := Lib.hid HB2
  obtain ⟨z0, z1, z2, z3⟩ := t2
  clear hb HHS HA k0 k1 n0 n1 hfz1 HB2
  rw [HE.out]
  go_wp2_with fail
  clear z0 z1 z2 z3
  obtain ⟨j0, j1, _, _⟩ := Ht2.out.put (u := .int .i64 (a * e - c)) (v := .int .i64 e)
  refine bodyPost_ret (v := .tuple #[.agg #[.int .i64 (a * e - c), .int .i64 e], .int .i64 0]) (by simp [results, Tryz.results31, go_sem, j0, j1]) rfl ⟨rfl, ?_⟩
  exact (HHB.out.setCell (p := ⟨w.heap.size + 1 + 1, 0, none⟩) (by simp only; omega) _).setCell (p := ⟨w.heap.size + 1 + 1, 1, none⟩) (by simp only; omega) _
end Go.Proofs.YtllcbcanohdepaaGreat
