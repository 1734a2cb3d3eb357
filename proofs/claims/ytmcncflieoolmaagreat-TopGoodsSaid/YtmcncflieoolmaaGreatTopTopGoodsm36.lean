/- The reference's arithmetic of ratios whose parts are small: products, Less. -/
import Derived.Test.YtmcncflieoolmaaGreatTopTopGoodsm24
import Derived.Test.YtmcncflieoolmaaGreatTopTopGoodsm3
import Derived.Shelf.Bits.Mul64
import Derived.Deep.DeepCutAuto
/- The reference's arithmetic of ratios whose parts are small: products, Less. -/
namespace Go.Proofs.YtmcncflieoolmaaGreat
set_option linter.unusedVariables false
set_option linter.unusedSimpArgs false
open Go.ChangeShapes Go.WideShapes Go.ChangeAt Go.RowKit Go.Deep

theorem and_mask {a : Nat} (h : a ≤ 4294967295) : bits .and .u64 (a : Int) 4294967295 = a := by
  rw [Mul64.maskN a (by omega), Nat.mod_eq_of_lt (by omega)]
theorem or_parts {p : Nat} (h : p < 18446744073709551616) : bits .or .u64 ((p : Int) / 4294967296 * 4294967296) (bits .and .u64 (p : Int) 4294967295) = p := by
  rw [Mul64.maskN p h, Mul64.divN]
  have e : ((p / 4294967296 : Nat) : Int) * 4294967296 = ((p / 4294967296 * 4294967296 : Nat) : Int) := by omega
  rw [e, bits_or_u64_nat _ _ (by omega) (by omega)]
  have h2 := Nat.shiftLeft_add_eq_or_of_lt (b := p % 4294967296) (i := 32) (by omega) (p / 4294967296)
  rw [Nat.shiftLeft_eq] at h2
  have h3 : p / 4294967296 * 4294967296 ||| p % 4294967296 = p / 4294967296 * 4294967296 + p % 4294967296 := h2.symm
  rw [h3]
  congr 1
  omega
set_option maxHeartbeats 1600000 in
theorem refTimes_any (a b : Nat) (w : World) (ha : a ≤ 4294967295) (hb : b ≤ 4294967295) :
    Calls Tryz.prog 83 #[.int .u64 a, .int .u64 b] w fun e w' => e = .returned (.agg #[.int .u64 0, .int .u64 ((a * b : Nat) : Int)]) ∧ Below w.heap.size w w' := by
  have hab : a * b ≤ 4294967295 * 4294967295 := Nat.mul_le_mul ha hb
  obtain ⟨p, hp⟩ : ∃ p, a * b = p := ⟨_, rfl⟩
  rw [hp] at hab ⊢
  have h1 : (a : Int) / 4294967296 = 0 := by omega
  have h2 := and_mask ha
  have h3 : (b : Int) / 4294967296 = 0 := by omega
  have h4 := and_mask hb
  have h5 : IntKind.u64.wrap ((a : Int) * b) = p := by rw [Mul64.mulN, hp]; exact Mul64.wrapN _ (by omega)
  have h6 : bits .and .u64 0 4294967295 = 0 := by decide +kernel
  have h7 := or_parts (p := p) (by omega)
  have h8 : IntKind.u64.wrap ((p : Int) / 4294967296) = (p : Int) / 4294967296 := by rw [Mul64.divN]; exact Mul64.wrapN _ (by omega)
  have h9 : (p : Int) / 4294967296 / 4294967296 = 0 := by omega
  have h0 : IntKind.u64.wrap 0 = 0 := by decide +kernel
  clear hp hab ha hb
  go_enter Tryz.func83, Tryz.ntmps83
  go_wp2_with fail
  refine bodyPost_ret (v := .agg #[.int .u64 0, .int .u64 p]) (by simp [results, Tryz.results83, go_sem, h1, h2, h3, h4, h5, h6, h7, h8, h9, h0]) rfl ⟨rfl, ?_⟩
  exact ((Below.refl _ _).alloc (Nat.le_refl _) _)
theorem refLess2_any (a b : Nat) (w : World) :
    Calls Tryz.prog 85 #[.agg #[.int .u64 0, .int .u64 a], .agg #[.int .u64 0, .int .u64 b]] w fun e w' => e = .returned (.bool (decide (a < b))) ∧ Below w.heap.size w w' := by
  by_cases h : a < b
  · have hd : decide (a < b) = true := by simpa using h
    have hd2 : decide ((a : Int) < b) = true := by simp; omega
    rw [hd]
    clear h
    go_enter Tryz.func85, Tryz.ntmps85
    go_wp2_with fail
    go_ret
    exact ⟨rfl, (((Below.refl _ _).alloc (Nat.le_refl _) _).alloc (by simp) _)⟩
  · have hd : decide (a < b) = false := by simpa using h
    have hd2 : decide ((a : Int) < b) = false := by simp; omega
    rw [hd]
    clear h
    go_enter Tryz.func85, Tryz.ntmps85
    go_wp2_with fail
    go_ret
    exact ⟨rfl, (((Below.refl _ _).alloc (Nat.le_refl _) _).alloc (by simp) _)⟩
def lessVal (S : Nat) (a c : Int) (b e : Nat) : Nat → Value
  | 0 => .pointer (some ⟨S, 0, none⟩)
  | 1 => .int .i64 a
  | 2 => .int .u64 (a.natAbs : Int)
  | 3 => .pointer (some ⟨S + 1, 1, none⟩)
  | 4 => .int .i64 e
  | 5 => .int .u64 e
  | 6 => .agg #[.int .u64 0, .int .u64 ((a.natAbs * e : Nat) : Int)]
  | 7 => .pointer (some ⟨S + 1, 0, none⟩)
  | 8 => .int .i64 c
  | 9 => .int .u64 (c.natAbs : Int)
  | 10 => .pointer (some ⟨S, 1, none⟩)
  | 11 => .int .i64 b
  | 12 => .int .u64 b
  | 13 => .agg #[.int .u64 0, .int .u64 ((c.natAbs * b : Nat) : Int)]
  | _ => undef
-- the region of Less is printed by wip/genrata.py --@region
theorem lt18 {i : Nat} (h : i < 18) : i = 0 ∨ i = 1 ∨ i = 2 ∨ i = 3 ∨ i = 4 ∨ i = 5 ∨ i = 6 ∨ i = 7 ∨ i = 8 ∨ i = 9 ∨ i = 10 ∨ i = 11 ∨ i = 12 ∨ i = 13 ∨ i = 14 ∨ i = 15 ∨ i = 16 ∨ i = 17 := by omega
/-- The parts of two ratios of the same sign, multiplied crosswise. -/
theorem less_pos {a c : Int} {b e : Nat} (h1 : 0 ≤ a) (h2 : 0 ≤ c) : decide (a.natAbs * e < c.natAbs * b) = decide (a * e < c * b) := by
  obtain ⟨x, rfl⟩ : ∃ x : Nat, a = x := ⟨a.toNat, by omega⟩
  obtain ⟨y, rfl⟩ : ∃ y : Nat, c = y := ⟨c.toNat, by omega⟩
  rw [Int.natAbs_natCast, Int.natAbs_natCast, ← Int.natCast_mul, ← Int.natCast_mul, Bool.eq_iff_iff, decide_eq_true_iff, decide_eq_true_iff, Int.ofNat_lt]
theorem less_mix {a c : Int} {b e : Nat} (he : 0 < e) (hb : 0 < b) (hs : (decide (a < 0) != decide (c < 0)) = true) : decide (a * e < c * b) = decide (a < 0) := by
  by_cases h : a < 0
  · have h2 : ¬ c < 0 := by simpa [h] using hs
    have x1 : a * e < 0 := Int.mul_neg_of_neg_of_pos h (by omega)
    have x2 : 0 ≤ c * b := Int.mul_nonneg (by omega) (by omega)
    simp [h]; omega
  · have h2 : c < 0 := by simpa [h] using hs
    have x1 : c * b < 0 := Int.mul_neg_of_neg_of_pos h2 (by omega)
    have x2 : 0 ≤ a * e := Int.mul_nonneg (by omega) (by omega)
    simp [h]; omega
theorem less_neg {a c : Int} {b e : Nat} (h1 : a < 0) (h2 : c < 0) : decide (c.natAbs * b < a.natAbs * e) = decide (a * e < c * b) := by
  obtain ⟨x, rfl⟩ : ∃ x : Nat, a = -x := ⟨a.natAbs, by omega⟩
  obtain ⟨y, rfl⟩ : ∃ y : Nat, c = -y := ⟨c.natAbs, by omega⟩
  rw [Int.natAbs_neg, Int.natAbs_neg, Int.natAbs_natCast, Int.natAbs_natCast, Int.neg_mul, Int.neg_mul, ← Int.natCast_mul, ← Int.natCast_mul, Bool.eq_iff_iff, decide_eq_true_iff, decide_eq_true_iff]
  omega
set_option maxHeartbeats 40000000 in
set_option maxRecDepth 100000 in
theorem refLess_any (a c : Int) (b e : Nat) (w : World) (ha : -4294967295 ≤ a ∧ a ≤ 4294967295) (hc : -4294967295 ≤ c ∧ c ≤ 4294967295) (hb : 0 < b ∧ b ≤ 4294967295) (he : 0 < e ∧ e ≤ 4294967295) :
    Calls Tryz.prog 46 #[.agg #[.int .i64 a, .int .i64 b], .agg #[.int .i64 c, .int .i64 e]] w fun r w' => r = .returned (.bool (decide (a * e < c * b))) ∧ Below w.heap.size w w' := by
  obtain ⟨W1, hW1⟩ : ∃ W, w.alloc (.cells #[.int .i64 a, .int .i64 b] 50) = W := ⟨_, rfl⟩
  obtain ⟨W0, hW0⟩ : ∃ W, W1.alloc (.cells #[.int .i64 c, .int .i64 e] 50) = W := ⟨_, rfl⟩
  have hB1 := below_alloc hW1
  have hB2 := below_alloc hW0
  have bX : BoxV W0 w.heap.size [.int .i64 a, .int .i64 b] := (BoxV.new rfl hW1).below hB2
  have hs : W1.heap.size = w.heap.size + 1 := by rw [← hW1]; simp
  have bY : BoxV W0 (w.heap.size + 1) [.int .i64 c, .int .i64 e] := BoxV.new hs hW0
  have hB : Below w.heap.size w W0 := hB1.trans (hB2.mono hB1.size)
  have hz : W0.heap.size = w.heap.size + 2 := by rw [← hW0]; simp [hs]
  have HW1 := Lib.hid hW1
  have HW0 := Lib.hid hW0
  clear hW1 hW0 hB1 hB2 hs hz
  have k0 := bX.cell 0 _ rfl
  have k1 := bX.cell 1 _ rfl
  have k2 := bY.cell 0 _ rfl
  have k3 := bY.cell 1 _ rfl
  have lX := bX.lt
  have lY := bY.lt
  have Hmk : Hid (∀ W, Below W0.heap.size W0 W → (W.cell? ⟨w.heap.size, 0, none⟩ = some (.int .i64 a) ∧ W.cell? ⟨w.heap.size, 1, none⟩ = some (.int .i64 b) ∧ W.cell? ⟨w.heap.size + 1, 0, none⟩ = some (.int .i64 c) ∧ W.cell? ⟨w.heap.size + 1, 1, none⟩ = some (.int .i64 e) ∧ Below W0.heap.size W0 W)) := fun W hG => ⟨(hG.cell (p := ⟨w.heap.size, 0, none⟩) lX).trans k0, (hG.cell (p := ⟨w.heap.size, 1, none⟩) lX).trans k1, (hG.cell (p := ⟨w.heap.size + 1, 0, none⟩) lY).trans k2, (hG.cell (p := ⟨w.heap.size + 1, 1, none⟩) lY).trans k3, hG⟩
  obtain ⟨ha1, ha2⟩ := ha
  obtain ⟨hc1, hc2⟩ := hc
  obtain ⟨hb1, hb2⟩ := hb
  obtain ⟨he1, he2⟩ := he
  have T1 := Lib.hid (fun W => refTimes_any a.natAbs e W (by omega) he2)
  have T2 := Lib.hid (fun W => refTimes_any c.natAbs b W (by omega) hb2)
  have A1 := Lib.hid (fun W => abs_any a W (by omega) (by omega))
  have A2 := Lib.hid (fun W => abs_any c W (by omega) (by omega))
  have ub : IntKind.u64.wrap (b : Int) = b := wrap_u (by omega)
  have ue : IntKind.u64.wrap (e : Int) = e := wrap_u (by omega)
  by_cases hs : (decide (a < 0) != decide (c < 0)) = true
  · have hr : decide (a * e < c * b) = decide (a < 0) := less_mix he1 hb1 hs
    rw [hr]
    clear hr k0 k1 k2 k3 he1 hb1
    cases hd : decide (a < 0) with
    | true =>
      have hd2 : decide (c < 0) = false := by
        rw [hd] at hs; simpa using hs
      clear hs
      have k0 := bX.cell 0 _ rfl
      have k2 := bY.cell 0 _ rfl
      go_enter Tryz.func46, Tryz.ntmps46
      go_wp2_with fail
      rw [HW1.out, HW0.out]
      go_wp2_with fail
      go_ret
      exact ⟨rfl, hB⟩
    | false =>
      have hd2 : decide (c < 0) = true := by
        rw [hd] at hs; simpa using hs
      clear hs
      have k0 := bX.cell 0 _ rfl
      have k2 := bY.cell 0 _ rfl
      go_enter Tryz.func46, Tryz.ntmps46
      go_wp2_with fail
      rw [HW1.out, HW0.out]
      go_wp2_with fail
      go_ret
      exact ⟨rfl, hB⟩
  · obtain ⟨s, hd⟩ : ∃ s, decide (a < 0) = s := ⟨_, rfl⟩
    have hd2 : decide (c < 0) = s := by
      revert hs; rw [hd]; cases s <;> cases (decide (c < 0)) <;> simp
    have HL : Hid (decide (a * e < c * b) = if s = true then decide (c.natAbs * b < a.natAbs * e) else decide (a.natAbs * e < c.natAbs * b)) := by
      unfold Hid
      cases s with
      | true => rw [if_pos rfl, less_neg (by simpa using hd) (by simpa using hd2)]
      | false => rw [if_neg (by simp), less_pos (by simpa using hd) (by simpa using hd2)]
    clear hs k0 k1 k2 k3 he1 hb1
    go_enter Tryz.func46, Tryz.ntmps46
    have k0 := bX.cell 0 _ rfl
    have k1 := bX.cell 1 _ rfl
    have k2 := bY.cell 0 _ rfl
    have k3 := bY.cell 1 _ rfl
    go_wp2_with fail
    rw [HW1.out, HW0.out]
    go_wp2_with fail
    go_cut [5, 6] (fun t5 t6 wx => ∃ s5 s6, t5 = .pointer (some ⟨s5, 0, none⟩) ∧ t6 = .pointer (some ⟨s6, 0, none⟩) ∧ wx.cell? ⟨s5, 0, none⟩ = some (.int .u64 0) ∧ wx.cell? ⟨s5, 1, none⟩ = some (.int .u64 ((a.natAbs * e : Nat) : Int)) ∧ wx.cell? ⟨s6, 0, none⟩ = some (.int .u64 0) ∧ wx.cell? ⟨s6, 1, none⟩ = some (.int .u64 ((c.natAbs * b : Nat) : Int)) ∧ Below W0.heap.size W0 wx)
    case first =>
      refine wp_region_inv (by kernel_rfl) (by decide +kernel) (by decide +kernel) _ _ (PairJ W0 14 (lessVal w.heap.size a c b e) ((a.natAbs * e : Nat) : Int) ((c.natAbs * b : Nat) : Int)) ?_ ?_ ?_
      · exact fun us => PairJ.start us
      · intro us D W i o A hA hi hJ hnD hon K hK
        have hlt : i < 18 := (Array.getElem?_eq_some_iff.1 hi).1
        rcases lt18 hlt with rfl | rfl | rfl | rfl | rfl | rfl | rfl | rfl | rfl | rfl | rfl | rfl | rfl | rfl | rfl | rfl | rfl | rfl
        · have hi' := Option.some.inj hi
          subst hi'
          refine wp_val (v := (.pointer (some ⟨w.heap.size, 0, none⟩))) (w' := W) ?_ (hK _ _ (hJ.pure (i := 0) (by omega) (Below.refl _ _)))
          · skip
            have e2 : A.tmps[2]?.getD undef = (.pointer (some ⟨w.heap.size, 0, none⟩)) := by rw [hA]; kernel_rfl
            clear hA hK hon hJ
            go_simp
        · have hi' := Option.some.inj hi
          subst hi'
          refine wp_val (v := (.int .i64 a)) (w' := W) ?_ (hK _ _ (hJ.pure (i := 1) (by omega) (Below.refl _ _)))
          · skip
            have e17 : A.tmps[17]?.getD undef = (.pointer (some ⟨w.heap.size, 0, none⟩)) := (by rw [hA]; kernel_rfl : A.tmps[17]?.getD undef = us 0).trans (hJ.val 0 (by omega) (hon 0 (by decide +kernel)))
            have cc := (hJ.bel.cell (p := ⟨w.heap.size, 0, none⟩) lX).trans k0
            clear hA hK hon hJ
            go_simp
        · have hi' := Option.some.inj hi
          subst hi'
          refine wp_enter (f := 84) (args := #[.int .i64 a]) (w' := W) ?_ ((A1.out W).mono ?_)
          · skip
            have e18 : A.tmps[18]?.getD undef = (.int .i64 a) := (by rw [hA]; kernel_rfl : A.tmps[18]?.getD undef = us 1).trans (hJ.val 1 (by omega) (hon 1 (by decide +kernel)))
            clear hA hK hon hJ
            go_simp
          · rintro r' wC ⟨rfl, rfl⟩
            exact ⟨_, rfl, hK _ _ (hJ.pure (i := 2) (by omega) (Below.refl _ _))⟩
        · have hi' := Option.some.inj hi
          subst hi'
          refine wp_val (v := (.pointer (some ⟨w.heap.size + 1, 1, none⟩))) (w' := W) ?_ (hK _ _ (hJ.pure (i := 3) (by omega) (Below.refl _ _)))
          · skip
            have e3 : A.tmps[3]?.getD undef = (.pointer (some ⟨w.heap.size + 1, 0, none⟩)) := by rw [hA]; kernel_rfl
            clear hA hK hon hJ
            go_simp
        · have hi' := Option.some.inj hi
          subst hi'
          refine wp_val (v := (.int .i64 e)) (w' := W) ?_ (hK _ _ (hJ.pure (i := 4) (by omega) (Below.refl _ _)))
          · skip
            have e20 : A.tmps[20]?.getD undef = (.pointer (some ⟨w.heap.size + 1, 1, none⟩)) := (by rw [hA]; kernel_rfl : A.tmps[20]?.getD undef = us 3).trans (hJ.val 3 (by omega) (hon 3 (by decide +kernel)))
            have cc := (hJ.bel.cell (p := ⟨w.heap.size + 1, 1, none⟩) lY).trans k3
            clear hA hK hon hJ
            go_simp
        · have hi' := Option.some.inj hi
          subst hi'
          refine wp_val (v := (.int .u64 e)) (w' := W) ?_ (hK _ _ (hJ.pure (i := 5) (by omega) (Below.refl _ _)))
          · skip
            have e21 : A.tmps[21]?.getD undef = (.int .i64 e) := (by rw [hA]; kernel_rfl : A.tmps[21]?.getD undef = us 4).trans (hJ.val 4 (by omega) (hon 4 (by decide +kernel)))
            clear hA hK hon hJ
            go_simp
        · have hi' := Option.some.inj hi
          subst hi'
          refine wp_enter (f := 83) (args := #[.int .u64 (a.natAbs : Int), .int .u64 e]) (w' := W) ?_ ((T1.out W).mono ?_)
          · skip
            have e19 : A.tmps[19]?.getD undef = (.int .u64 (a.natAbs : Int)) := (by rw [hA]; kernel_rfl : A.tmps[19]?.getD undef = us 2).trans (hJ.val 2 (by omega) (hon 2 (by decide +kernel)))
            have e22 : A.tmps[22]?.getD undef = (.int .u64 e) := (by rw [hA]; kernel_rfl : A.tmps[22]?.getD undef = us 5).trans (hJ.val 5 (by omega) (hon 5 (by decide +kernel)))
            clear hA hK hon hJ
            go_simp
          · rintro r' wC ⟨rfl, hbC⟩
            exact ⟨_, rfl, hK _ _ (hJ.pure (i := 6) (by omega) hbC)⟩
        · have hi' := Option.some.inj hi
          subst hi'
          refine wp_val (v := (.pointer (some ⟨w.heap.size + 1, 0, none⟩))) (w' := W) ?_ (hK _ _ (hJ.pure (i := 7) (by omega) (Below.refl _ _)))
          · skip
            have e3 : A.tmps[3]?.getD undef = (.pointer (some ⟨w.heap.size + 1, 0, none⟩)) := by rw [hA]; kernel_rfl
            clear hA hK hon hJ
            go_simp
        · have hi' := Option.some.inj hi
          subst hi'
          refine wp_val (v := (.int .i64 c)) (w' := W) ?_ (hK _ _ (hJ.pure (i := 8) (by omega) (Below.refl _ _)))
          · skip
            have e24 : A.tmps[24]?.getD undef = (.pointer (some ⟨w.heap.size + 1, 0, none⟩)) := (by rw [hA]; kernel_rfl : A.tmps[24]?.getD undef = us 7).trans (hJ.val 7 (by omega) (hon 7 (by decide +kernel)))
            have cc := (hJ.bel.cell (p := ⟨w.heap.size + 1, 0, none⟩) lY).trans k2
            clear hA hK hon hJ
            go_simp
        · have hi' := Option.some.inj hi
          subst hi'
          refine wp_enter (f := 84) (args := #[.int .i64 c]) (w' := W) ?_ ((A2.out W).mono ?_)
          · skip
            have e25 : A.tmps[25]?.getD undef = (.int .i64 c) := (by rw [hA]; kernel_rfl : A.tmps[25]?.getD undef = us 8).trans (hJ.val 8 (by omega) (hon 8 (by decide +kernel)))
            clear hA hK hon hJ
            go_simp
          · rintro r' wC ⟨rfl, rfl⟩
            exact ⟨_, rfl, hK _ _ (hJ.pure (i := 9) (by omega) (Below.refl _ _))⟩
        · have hi' := Option.some.inj hi
          subst hi'
          refine wp_val (v := (.pointer (some ⟨w.heap.size, 1, none⟩))) (w' := W) ?_ (hK _ _ (hJ.pure (i := 10) (by omega) (Below.refl _ _)))
          · skip
            have e2 : A.tmps[2]?.getD undef = (.pointer (some ⟨w.heap.size, 0, none⟩)) := by rw [hA]; kernel_rfl
            clear hA hK hon hJ
            go_simp
        · have hi' := Option.some.inj hi
          subst hi'
          refine wp_val (v := (.int .i64 b)) (w' := W) ?_ (hK _ _ (hJ.pure (i := 11) (by omega) (Below.refl _ _)))
          · skip
            have e27 : A.tmps[27]?.getD undef = (.pointer (some ⟨w.heap.size, 1, none⟩)) := (by rw [hA]; kernel_rfl : A.tmps[27]?.getD undef = us 10).trans (hJ.val 10 (by omega) (hon 10 (by decide +kernel)))
            have cc := (hJ.bel.cell (p := ⟨w.heap.size, 1, none⟩) lX).trans k1
            clear hA hK hon hJ
            go_simp
        · have hi' := Option.some.inj hi
          subst hi'
          refine wp_val (v := (.int .u64 b)) (w' := W) ?_ (hK _ _ (hJ.pure (i := 12) (by omega) (Below.refl _ _)))
          · skip
            have e28 : A.tmps[28]?.getD undef = (.int .i64 b) := (by rw [hA]; kernel_rfl : A.tmps[28]?.getD undef = us 11).trans (hJ.val 11 (by omega) (hon 11 (by decide +kernel)))
            clear hA hK hon hJ
            go_simp
        · have hi' := Option.some.inj hi
          subst hi'
          refine wp_enter (f := 83) (args := #[.int .u64 (c.natAbs : Int), .int .u64 b]) (w' := W) ?_ ((T2.out W).mono ?_)
          · skip
            have e26 : A.tmps[26]?.getD undef = (.int .u64 (c.natAbs : Int)) := (by rw [hA]; kernel_rfl : A.tmps[26]?.getD undef = us 9).trans (hJ.val 9 (by omega) (hon 9 (by decide +kernel)))
            have e29 : A.tmps[29]?.getD undef = (.int .u64 b) := (by rw [hA]; kernel_rfl : A.tmps[29]?.getD undef = us 12).trans (hJ.val 12 (by omega) (hon 12 (by decide +kernel)))
            clear hA hK hon hJ
            go_simp
          · rintro r' wC ⟨rfl, hbC⟩
            exact ⟨_, rfl, hK _ _ (hJ.pure (i := 13) (by omega) hbC)⟩
        · have hi' := Option.some.inj hi
          subst hi'
          refine wp_val (v := .pointer (some ⟨W.heap.size, 0, none⟩)) (w' := W.alloc (.cells #[.int .u64 0, .int .u64 0] 130)) ?_ (hK _ _ (hJ.alloc1 hnD _))
          · skip
            clear hA hK hon hJ
            go_simp
        · have hi' := Option.some.inj hi
          subst hi'
          refine wp_val (v := .pointer (some ⟨W.heap.size, 0, none⟩)) (w' := W.alloc (.cells #[.int .u64 0, .int .u64 0] 130)) ?_ (hK _ _ (hJ.alloc2 hnD _))
          · skip
            clear hA hK hon hJ
            go_simp
        · have hi' := Option.some.inj hi
          subst hi'
          obtain ⟨g, y', hg, _, hlt, ht, _⟩ := hJ.a1 (hon 14 (by decide +kernel))
          refine wp_skip (w' := (W.setCell ⟨g, 0, none⟩ (.int .u64 0)).setCell ⟨g, 1, none⟩ (.int .u64 ((a.natAbs * e : Nat) : Int))) ?_ (hK _ _ (hJ.store1 (hon 14 (by decide +kernel)) hg undef))
          · skip
            have e5 : A.tmps[5]?.getD undef = .pointer (some ⟨g, 0, none⟩) := (by rw [hA]; kernel_rfl : A.tmps[5]?.getD undef = us 14).trans hg
            have e23 : A.tmps[23]?.getD undef = (.agg #[.int .u64 0, .int .u64 ((a.natAbs * e : Nat) : Int)]) := (by rw [hA]; kernel_rfl : A.tmps[23]?.getD undef = us 6).trans (hJ.val 6 (by omega) (hon 6 (by decide +kernel)))
            have c0 := ht.c0
            have c1 := ht.c1
            have f0 := ht.f0
            have f1 := ht.f1
            clear hA hK hon hJ ht
            go_simp
        · have hi' := Option.some.inj hi
          subst hi'
          obtain ⟨g, y', hg, _, hlt, ht, _⟩ := hJ.a2 (hon 15 (by decide +kernel))
          refine wp_skip (w' := (W.setCell ⟨g, 0, none⟩ (.int .u64 0)).setCell ⟨g, 1, none⟩ (.int .u64 ((c.natAbs * b : Nat) : Int))) ?_ (hK _ _ (hJ.store2 (hon 15 (by decide +kernel)) hg undef))
          · skip
            have e6 : A.tmps[6]?.getD undef = .pointer (some ⟨g, 0, none⟩) := (by rw [hA]; kernel_rfl : A.tmps[6]?.getD undef = us 15).trans hg
            have e30 : A.tmps[30]?.getD undef = (.agg #[.int .u64 0, .int .u64 ((c.natAbs * b : Nat) : Int)]) := (by rw [hA]; kernel_rfl : A.tmps[30]?.getD undef = us 13).trans (hJ.val 13 (by omega) (hon 13 (by decide +kernel)))
            have c0 := ht.c0
            have c1 := ht.c1
            have f0 := ht.f0
            have f1 := ht.f1
            clear hA hK hon hJ ht
            go_simp
      · intro us D W hJ hall
        obtain ⟨g, y', hg, hg1, _, ht, hy⟩ := hJ.a1 (hall 14 (by decide))
        obtain ⟨g2, y2, hg2, _, _, ht2, hy2⟩ := hJ.a2 (hall 15 (by decide))
        obtain rfl := hy (hall 16 (by decide))
        obtain rfl := hy2 (hall 17 (by decide))
        have hbel := hJ.bel
        obtain ⟨c0, c1, _, _⟩ := ht
        obtain ⟨c2, c3, _, _⟩ := ht2
        clear hJ hall
        simp only [actL, slotL, putL, List.setIfInBounds_toArray, List.set_cons_zero, List.set_cons_succ, hg, hg2]
        go_wp2_with fail
        go_meet
        exact ⟨g, g2, rfl, rfl, c0, c1, c2, c3, hbel⟩
    case rest =>
      obtain ⟨s5, s6, rfl, rfl, c0, c1, c2, c3, hb⟩ := hcut
      have k0 := (hb.cell (p := ⟨w.heap.size, 0, none⟩) lX).trans k0
      have HL2 := HL
      cases s with
      | true =>
        rw [if_pos rfl] at HL2
        go_wp2_with fail
        refine (refLess2_any _ _ _).mono ?_
        rintro r w2 ⟨rfl, hb2⟩
        go_wp2_with fail
        go_ret
        exact ⟨by rw [HL2.out]; rfl, (hB.trans (hb.mono hB.size)).trans (hb2.mono (hB.trans (hb.mono hB.size)).size)⟩
      | false =>
        rw [if_neg (by simp)] at HL2
        go_wp2_with fail
        refine (refLess2_any _ _ _).mono ?_
        rintro r w2 ⟨rfl, hb2⟩
        go_wp2_with fail
        go_ret
        exact ⟨by rw [HL2.out]; rfl, (hB.trans (hb.mono hB.size)).trans (hb2.mono (hB.trans (hb.mono hB.size)).size)⟩
end Go.Proofs.YtmcncflieoolmaaGreat
