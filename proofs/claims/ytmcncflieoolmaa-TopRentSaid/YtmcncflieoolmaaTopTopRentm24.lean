/- The reference's arithmetic of ratios whose parts are small: products, Less. -/
import Derived.Test.YtmcncflieoolmaaTopTopRentm9
import Derived.Test.YtmcncflieoolmaaTopTopRentm13
import Derived.Test.YtmcncflieoolmaaTopTopRentm19
import Derived.Shelf.Bits.Mul64
import Derived.Deep.DeepCutAuto
import Derived.Deep.RegionHeld3
import Derived.Test.YtmcncflieoolmaaTopTopRentm23
import Derived.Test.YtmcncflieoolmaaTopTopRentm18
/- The reference's arithmetic of ratios whose parts are small: products, Less. -/
namespace Go.Proofs.Ytmcncflieoolmaa
set_option linter.unusedVariables false
set_option linter.unusedSimpArgs false
open Go.ChangeShapes Go.WideShapes Go.ChangeAt Go.RowKit Go.Deep

theorem bcell {W w1 : World} (hb : Below W.heap.size W w1) : (∀ b o, b < W.heap.size → w1.cell? ⟨b, o, none⟩ = W.cell? ⟨b, o, none⟩) ∧ (∀ b o, b < W.heap.size → w1.frozen? ⟨b, o, none⟩ = W.frozen? ⟨b, o, none⟩) :=
  ⟨fun b o h => hb.cell (p := ⟨b, o, none⟩) h, fun b o h => hb.frozen (p := ⟨b, o, none⟩) h⟩
theorem and_mask {a : Nat} (h : a ≤ 4294967295) : bits .and .u64 (a : Int) 4294967295 = a := by
  rw [Mul64.maskN a (by omega), Nat.mod_eq_of_lt (by omega)]
theorem or_parts {p : Nat} (h : p < 18446744073709551616) : bits .or .u64 ((p : Int) / 4294967296 * 4294967296) (bits .and .u64 (p : Int) 4294967295) = p := by
  rw [Mul64.maskN p h, Mul64.divN]
  have e : ((p / 4294967296 : Nat) : Int) * 4294967296 = ((p / 4294967296 * 4294967296 : Nat) : Int) := by omega
  rw [e, bits_or_u64_nat _ _ (by omega) (by omega)]
  have h2 := Nat.shiftLeft_add_eq_or_of_lt (b := p % 4294967296) (i := 32) (by omega) (p / 4294967296)
  rw [Nat.shiftLeft_eq] at h2
  have h3 : p / 4294967296 * 4294967296 ||| p % 4294967296 = p / 4294967296 * 4294967296 + p % 4294967296 := h2.symm
  rw [h3]
  congr 1
  omega
set_option maxHeartbeats 1600000 in
theorem refTimes_any (a b : Nat) (w : World) (ha : a ≤ 4294967295) (hb : b ≤ 4294967295) :
    Calls Try.prog 36 #[.int .u64 a, .int .u64 b] w fun e w' => e = .returned (.agg #[.int .u64 0, .int .u64 ((a * b : Nat) : Int)]) ∧ Below w.heap.size w w' := by
  have hab : a * b ≤ 4294967295 * 4294967295 := Nat.mul_le_mul ha hb
  obtain ⟨p, hp⟩ : ∃ p, a * b = p := ⟨_, rfl⟩
  rw [hp] at hab ⊢
  have h1 : (a : Int) / 4294967296 = 0 := by omega
  have h2 := and_mask ha
  have h3 : (b : Int) / 4294967296 = 0 := by omega
  have h4 := and_mask hb
  have h5 : IntKind.u64.wrap ((a : Int) * b) = p := by rw [Mul64.mulN, hp]; exact Mul64.wrapN _ (by omega)
  have h6 : bits .and .u64 0 4294967295 = 0 := by decide +kernel
  have h7 := or_parts (p := p) (by omega)
  have h8 : IntKind.u64.wrap ((p : Int) / 4294967296) = (p : Int) / 4294967296 := by rw [Mul64.divN]; exact Mul64.wrapN _ (by omega)
  have h9 : (p : Int) / 4294967296 / 4294967296 = 0 := by omega
  have h0 : IntKind.u64.wrap 0 = 0 := by decide +kernel
  clear hp hab ha hb
  go_enter Try.func36, Try.ntmps36
  go_wp2_with fail
  refine bodyPost_ret (v := .agg #[.int .u64 0, .int .u64 p]) (by simp [results, Try.results36, go_sem, h1, h2, h3, h4, h5, h6, h7, h8, h9, h0]) rfl ⟨rfl, ?_⟩
  exact ((Below.refl _ _).alloc (Nat.le_refl _) _)
theorem refLess2_any (a b : Nat) (w : World) :
    Calls Try.prog 38 #[.agg #[.int .u64 0, .int .u64 a], .agg #[.int .u64 0, .int .u64 b]] w fun e w' => e = .returned (.bool (decide (a < b))) ∧ Below w.heap.size w w' := by
  by_cases h : a < b
  · have hd : decide (a < b) = true := by simpa using h
    have hd2 : decide ((a : Int) < b) = true := by simp; omega
    rw [hd]
    clear h
    go_enter Try.func38, Try.ntmps38
    go_wp2_with fail
    go_ret
    exact ⟨rfl, (((Below.refl _ _).alloc (Nat.le_refl _) _).alloc (by simp) _)⟩
  · have hd : decide (a < b) = false := by simpa using h
    have hd2 : decide ((a : Int) < b) = false := by simp; omega
    rw [hd]
    clear h
    go_enter Try.func38, Try.ntmps38
    go_wp2_with fail
    go_ret
    exact ⟨rfl, (((Below.refl _ _).alloc (Nat.le_refl _) _).alloc (by simp) _)⟩
def lessVal (S : Nat) (a c : Int) (b e : Nat) : Nat → Value
  | 0 => .pointer (some ⟨S, 0, none⟩)
  | 1 => .int .i64 a
  | 2 => .int .u64 (a.natAbs : Int)
  | 3 => .pointer (some ⟨S + 1, 1, none⟩)
  | 4 => .int .i64 e
  | 5 => .int .u64 e
  | 6 => .agg #[.int .u64 0, .int .u64 ((a.natAbs * e : Nat) : Int)]
  | 7 => .pointer (some ⟨S + 1, 0, none⟩)
  | 8 => .int .i64 c
  | 9 => .int .u64 (c.natAbs : Int)
  | 10 => .pointer (some ⟨S, 1, none⟩)
  | 11 => .int .i64 b
  | 12 => .int .u64 b
  | 13 => .agg #[.int .u64 0, .int .u64 ((c.natAbs * b : Nat) : Int)]
  | _ => undef
-- the region of Less is printed by wip/genrata.py --@region
theorem lt18 {i : Nat} (h : i < 18) : i = 0 ∨ i = 1 ∨ i = 2 ∨ i = 3 ∨ i = 4 ∨ i = 5 ∨ i = 6 ∨ i = 7 ∨ i = 8 ∨ i = 9 ∨ i = 10 ∨ i = 11 ∨ i = 12 ∨ i = 13 ∨ i = 14 ∨ i = 15 ∨ i = 16 ∨ i = 17 := by omega
/-- The parts of two ratios of the same sign, multiplied crosswise. -/
theorem less_pos {a c : Int} {b e : Nat} (h1 : 0 ≤ a) (h2 : 0 ≤ c) : decide (a.natAbs * e < c.natAbs * b) = decide (a * e < c * b) := by
  obtain ⟨x, rfl⟩ : ∃ x : Nat, a = x := ⟨a.toNat, by omega⟩
  obtain ⟨y, rfl⟩ : ∃ y : Nat, c = y := ⟨c.toNat, by omega⟩
  rw [Int.natAbs_natCast, Int.natAbs_natCast, ← Int.natCast_mul, ← Int.natCast_mul, Bool.eq_iff_iff, decide_eq_true_iff, decide_eq_true_iff, Int.ofNat_lt]
theorem less_mix {a c : Int} {b e : Nat} (he : 0 < e) (hb : 0 < b) (hs : (decide (a < 0) != decide (c < 0)) = true) : decide (a * e < c * b) = decide (a < 0) := by
  by_cases h : a < 0
  · have h2 : ¬ c < 0 := by simpa [h] using hs
    have x1 : a * e < 0 := Int.mul_neg_of_neg_of_pos h (by omega)
    have x2 : 0 ≤ c * b := Int.mul_nonneg (by omega) (by omega)
    simp [h]; omega
  · have h2 : c < 0 := by simpa [h] using hs
    have x1 : c * b < 0 := Int.mul_neg_of_neg_of_pos h2 (by omega)
    have x2 : 0 ≤ a * e := Int.mul_nonneg (by omega) (by omega)
    simp [h]; omega
theorem less_neg {a c : Int} {b e : Nat} (h1 : a < 0) (h2 : c < 0) : decide (c.natAbs * b < a.natAbs * e) = decide (a * e < c * b) := by
  obtain ⟨x, rfl⟩ : ∃ x : Nat, a = -x := ⟨a.natAbs, by omega⟩
  obtain ⟨y, rfl⟩ : ∃ y : Nat, c = -y := ⟨c.natAbs, by omega⟩
  rw [Int.natAbs_neg, Int.natAbs_neg, Int.natAbs_natCast, Int.natAbs_natCast, Int.neg_mul, Int.neg_mul, ← Int.natCast_mul, ← Int.natCast_mul, Bool.eq_iff_iff, decide_eq_true_iff, decide_eq_true_iff]
  omega
set_option maxHeartbeats 40000000 in
set_option maxRecDepth 100000 in
theorem refLess_any (a c : Int) (b e : Nat) (w : World) (ha : -4294967295 ≤ a ∧ a ≤ 4294967295) (hc : -4294967295 ≤ c ∧ c ≤ 4294967295) (hb : 0 < b ∧ b ≤ 4294967295) (he : 0 < e ∧ e ≤ 4294967295) :
    Calls Try.prog 11 #[.agg #[.int .i64 a, .int .i64 b], .agg #[.int .i64 c, .int .i64 e]] w fun r w' => r = .returned (.bool (decide (a * e < c * b))) ∧ Below w.heap.size w w' := by
  obtain ⟨W1, hW1⟩ : ∃ W, w.alloc (.cells #[.int .i64 a, .int .i64 b] 35) = W := ⟨_, rfl⟩
  obtain ⟨W0, hW0⟩ : ∃ W, W1.alloc (.cells #[.int .i64 c, .int .i64 e] 35) = W := ⟨_, rfl⟩
  have hB1 := below_alloc hW1
  have hB2 := below_alloc hW0
  have bX : BoxV W0 w.heap.size [.int .i64 a, .int .i64 b] := (BoxV.new rfl hW1).below hB2
  have hs : W1.heap.size = w.heap.size + 1 := by rw [← hW1]; simp
  have bY : BoxV W0 (w.heap.size + 1) [.int .i64 c, .int .i64 e] := BoxV.new hs hW0
  have hB : Below w.heap.size w W0 := hB1.trans (hB2.mono hB1.size)
  have hz : W0.heap.size = w.heap.size + 2 := by rw [← hW0]; simp [hs]
  have HW1 := Lib.hid hW1
  have HW0 := Lib.hid hW0
  clear hW1 hW0 hB1 hB2 hs hz
  have k0 := bX.cell 0 _ rfl
  have k1 := bX.cell 1 _ rfl
  have k2 := bY.cell 0 _ rfl
  have k3 := bY.cell 1 _ rfl
  have lX := bX.lt
  have lY := bY.lt
  have Hmk : Hid (∀ W, Below W0.heap.size W0 W → (W.cell? ⟨w.heap.size, 0, none⟩ = some (.int .i64 a) ∧ W.cell? ⟨w.heap.size, 1, none⟩ = some (.int .i64 b) ∧ W.cell? ⟨w.heap.size + 1, 0, none⟩ = some (.int .i64 c) ∧ W.cell? ⟨w.heap.size + 1, 1, none⟩ = some (.int .i64 e) ∧ Below W0.heap.size W0 W)) := fun W hG => ⟨(hG.cell (p := ⟨w.heap.size, 0, none⟩) lX).trans k0, (hG.cell (p := ⟨w.heap.size, 1, none⟩) lX).trans k1, (hG.cell (p := ⟨w.heap.size + 1, 0, none⟩) lY).trans k2, (hG.cell (p := ⟨w.heap.size + 1, 1, none⟩) lY).trans k3, hG⟩
  obtain ⟨ha1, ha2⟩ := ha
  obtain ⟨hc1, hc2⟩ := hc
  obtain ⟨hb1, hb2⟩ := hb
  obtain ⟨he1, he2⟩ := he
  have T1 := Lib.hid (fun W => refTimes_any a.natAbs e W (by omega) he2)
  have T2 := Lib.hid (fun W => refTimes_any c.natAbs b W (by omega) hb2)
  have A1 := Lib.hid (fun W => abs_any a W (by omega) (by omega))
  have A2 := Lib.hid (fun W => abs_any c W (by omega) (by omega))
  have ub : IntKind.u64.wrap (b : Int) = b := wrap_u (by omega)
  have ue : IntKind.u64.wrap (e : Int) = e := wrap_u (by omega)
  by_cases hs : (decide (a < 0) != decide (c < 0)) = true
  · have hr : decide (a * e < c * b) = decide (a < 0) := less_mix he1 hb1 hs
    rw [hr]
    clear hr k0 k1 k2 k3 he1 hb1
    cases hd : decide (a < 0) with
    | true =>
      have hd2 : decide (c < 0) = false := by
        rw [hd] at hs; simpa using hs
      clear hs
      have k0 := bX.cell 0 _ rfl
      have k2 := bY.cell 0 _ rfl
      go_enter Try.func11, Try.ntmps11
      go_wp2_with fail
      rw [HW1.out, HW0.out]
      go_wp2_with fail
      go_ret
      exact ⟨rfl, hB⟩
    | false =>
      have hd2 : decide (c < 0) = true := by
        rw [hd] at hs; simpa using hs
      clear hs
      have k0 := bX.cell 0 _ rfl
      have k2 := bY.cell 0 _ rfl
      go_enter Try.func11, Try.ntmps11
      go_wp2_with fail
      rw [HW1.out, HW0.out]
      go_wp2_with fail
      go_ret
      exact ⟨rfl, hB⟩
  · obtain ⟨s, hd⟩ : ∃ s, decide (a < 0) = s := ⟨_, rfl⟩
    have hd2 : decide (c < 0) = s := by
      revert hs; rw [hd]; cases s <;> cases (decide (c < 0)) <;> simp
    have HL : Hid (decide (a * e < c * b) = if s = true then decide (c.natAbs * b < a.natAbs * e) else decide (a.natAbs * e < c.natAbs * b)) := by
      unfold Hid
      cases s with
      | true => rw [if_pos rfl, less_neg (by simpa using hd) (by simpa using hd2)]
      | false => rw [if_neg (by simp), less_pos (by simpa using hd) (by simpa using hd2)]
    clear hs k0 k1 k2 k3 he1 hb1
    go_enter Try.func11, Try.ntmps11
    have k0 := bX.cell 0 _ rfl
    have k1 := bX.cell 1 _ rfl
    have k2 := bY.cell 0 _ rfl
    have k3 := bY.cell 1 _ rfl
    go_wp2_with fail
    rw [HW1.out, HW0.out]
    go_wp2_with fail
    go_cut [5, 6] (fun t5 t6 wx => ∃ s5 s6, t5 = .pointer (some ⟨s5, 0, none⟩) ∧ t6 = .pointer (some ⟨s6, 0, none⟩) ∧ wx.cell? ⟨s5, 0, none⟩ = some (.int .u64 0) ∧ wx.cell? ⟨s5, 1, none⟩ = some (.int .u64 ((a.natAbs * e : Nat) : Int)) ∧ wx.cell? ⟨s6, 0, none⟩ = some (.int .u64 0) ∧ wx.cell? ⟨s6, 1, none⟩ = some (.int .u64 ((c.natAbs * b : Nat) : Int)) ∧ Below W0.heap.size W0 wx)
    case first =>
      refine wp_region_inv (by kernel_rfl) (by decide +kernel) (by decide +kernel) _ _ (PairJ W0 14 (lessVal w.heap.size a c b e) ((a.natAbs * e : Nat) : Int) ((c.natAbs * b : Nat) : Int)) ?_ ?_ ?_
      · exact fun us => PairJ.start us
      · intro us D W i o A hA hi hJ hnD hon K hK
        have hlt : i < 18 := (Array.getElem?_eq_some_iff.1 hi).1
        rcases lt18 hlt with rfl | rfl | rfl | rfl | rfl | rfl | rfl | rfl | rfl | rfl | rfl | rfl | rfl | rfl | rfl | rfl | rfl | rfl
        · have hi' := Option.some.inj hi
          subst hi'
          refine wp_val (v := (.pointer (some ⟨w.heap.size, 0, none⟩))) (w' := W) ?_ (hK _ _ (hJ.pure (i := 0) (by omega) (Below.refl _ _)))
          · skip
            have e2 : A.tmps[2]?.getD undef = (.pointer (some ⟨w.heap.size, 0, none⟩)) := by rw [hA]; kernel_rfl
            clear hA hK hon hJ
            go_simp
        · have hi' := Option.some.inj hi
          subst hi'
          refine wp_val (v := (.int .i64 a)) (w' := W) ?_ (hK _ _ (hJ.pure (i := 1) (by omega) (Below.refl _ _)))
          · skip
            have e17 : A.tmps[17]?.getD undef = (.pointer (some ⟨w.heap.size, 0, none⟩)) := (by rw [hA]; kernel_rfl : A.tmps[17]?.getD undef = us 0).trans (hJ.val 0 (by omega) (hon 0 (by decide +kernel)))
            have cc := (hJ.bel.cell (p := ⟨w.heap.size, 0, none⟩) lX).trans k0
            clear hA hK hon hJ
            go_simp
        · have hi' := Option.some.inj hi
          subst hi'
          refine wp_enter (f := 37) (args := #[.int .i64 a]) (w' := W) ?_ ((A1.out W).mono ?_)
          · skip
            have e18 : A.tmps[18]?.getD undef = (.int .i64 a) := (by rw [hA]; kernel_rfl : A.tmps[18]?.getD undef = us 1).trans (hJ.val 1 (by omega) (hon 1 (by decide +kernel)))
            clear hA hK hon hJ
            go_simp
          · rintro r' wC ⟨rfl, rfl⟩
            exact ⟨_, rfl, hK _ _ (hJ.pure (i := 2) (by omega) (Below.refl _ _))⟩
        · have hi' := Option.some.inj hi
          subst hi'
          refine wp_val (v := (.pointer (some ⟨w.heap.size + 1, 1, none⟩))) (w' := W) ?_ (hK _ _ (hJ.pure (i := 3) (by omega) (Below.refl _ _)))
          · skip
            have e3 : A.tmps[3]?.getD undef = (.pointer (some ⟨w.heap.size + 1, 0, none⟩)) := by rw [hA]; kernel_rfl
            clear hA hK hon hJ
            go_simp
        · have hi' := Option.some.inj hi
          subst hi'
          refine wp_val (v := (.int .i64 e)) (w' := W) ?_ (hK _ _ (hJ.pure (i := 4) (by omega) (Below.refl _ _)))
          · skip
            have e20 : A.tmps[20]?.getD undef = (.pointer (some ⟨w.heap.size + 1, 1, none⟩)) := (by rw [hA]; kernel_rfl : A.tmps[20]?.getD undef = us 3).trans (hJ.val 3 (by omega) (hon 3 (by decide +kernel)))
            have cc := (hJ.bel.cell (p := ⟨w.heap.size + 1, 1, none⟩) lY).trans k3
            clear hA hK hon hJ
            go_simp
        · have hi' := Option.some.inj hi
          subst hi'
          refine wp_val (v := (.int .u64 e)) (w' := W) ?_ (hK _ _ (hJ.pure (i := 5) (by omega) (Below.refl _ _)))
          · skip
            have e21 : A.tmps[21]?.getD undef = (.int .i64 e) := (by rw [hA]; kernel_rfl : A.tmps[21]?.getD undef = us 4).trans (hJ.val 4 (by omega) (hon 4 (by decide +kernel)))
            clear hA hK hon hJ
            go_simp
        · have hi' := Option.some.inj hi
          subst hi'
          refine wp_enter (f := 36) (args := #[.int .u64 (a.natAbs : Int), .int .u64 e]) (w' := W) ?_ ((T1.out W).mono ?_)
          · skip
            have e19 : A.tmps[19]?.getD undef = (.int .u64 (a.natAbs : Int)) := (by rw [hA]; kernel_rfl : A.tmps[19]?.getD undef = us 2).trans (hJ.val 2 (by omega) (hon 2 (by decide +kernel)))
            have e22 : A.tmps[22]?.getD undef = (.int .u64 e) := (by rw [hA]; kernel_rfl : A.tmps[22]?.getD undef = us 5).trans (hJ.val 5 (by omega) (hon 5 (by decide +kernel)))
            clear hA hK hon hJ
            go_simp
          · rintro r' wC ⟨rfl, hbC⟩
            exact ⟨_, rfl, hK _ _ (hJ.pure (i := 6) (by omega) hbC)⟩
        · have hi' := Option.some.inj hi
          subst hi'
          refine wp_val (v := (.pointer (some ⟨w.heap.size + 1, 0, none⟩))) (w' := W) ?_ (hK _ _ (hJ.pure (i := 7) (by omega) (Below.refl _ _)))
          · skip
            have e3 : A.tmps[3]?.getD undef = (.pointer (some ⟨w.heap.size + 1, 0, none⟩)) := by rw [hA]; kernel_rfl
            clear hA hK hon hJ
            go_simp
        · have hi' := Option.some.inj hi
          subst hi'
          refine wp_val (v := (.int .i64 c)) (w' := W) ?_ (hK _ _ (hJ.pure (i := 8) (by omega) (Below.refl _ _)))
          · skip
            have e24 : A.tmps[24]?.getD undef = (.pointer (some ⟨w.heap.size + 1, 0, none⟩)) := (by rw [hA]; kernel_rfl : A.tmps[24]?.getD undef = us 7).trans (hJ.val 7 (by omega) (hon 7 (by decide +kernel)))
            have cc := (hJ.bel.cell (p := ⟨w.heap.size + 1, 0, none⟩) lY).trans k2
            clear hA hK hon hJ
            go_simp
        · have hi' := Option.some.inj hi
          subst hi'
          refine wp_enter (f := 37) (args := #[.int .i64 c]) (w' := W) ?_ ((A2.out W).mono ?_)
          · skip
            have e25 : A.tmps[25]?.getD undef = (.int .i64 c) := (by rw [hA]; kernel_rfl : A.tmps[25]?.getD undef = us 8).trans (hJ.val 8 (by omega) (hon 8 (by decide +kernel)))
            clear hA hK hon hJ
            go_simp
          · rintro r' wC ⟨rfl, rfl⟩
            exact ⟨_, rfl, hK _ _ (hJ.pure (i := 9) (by omega) (Below.refl _ _))⟩
        · have hi' := Option.some.inj hi
          subst hi'
          refine wp_val (v := (.pointer (some ⟨w.heap.size, 1, none⟩))) (w' := W) ?_ (hK _ _ (hJ.pure (i := 10) (by omega) (Below.refl _ _)))
          · skip
            have e2 : A.tmps[2]?.getD undef = (.pointer (some ⟨w.heap.size, 0, none⟩)) := by rw [hA]; kernel_rfl
            clear hA hK hon hJ
            go_simp
        · have hi' := Option.some.inj hi
          subst hi'
          refine wp_val (v := (.int .i64 b)) (w' := W) ?_ (hK _ _ (hJ.pure (i := 11) (by omega) (Below.refl _ _)))
          · skip
            have e27 : A.tmps[27]?.getD undef = (.pointer (some ⟨w.heap.size, 1, none⟩)) := (by rw [hA]; kernel_rfl : A.tmps[27]?.getD undef = us 10).trans (hJ.val 10 (by omega) (hon 10 (by decide +kernel)))
            have cc := (hJ.bel.cell (p := ⟨w.heap.size, 1, none⟩) lX).trans k1
            clear hA hK hon hJ
            go_simp
        · have hi' := Option.some.inj hi
          subst hi'
          refine wp_val (v := (.int .u64 b)) (w' := W) ?_ (hK _ _ (hJ.pure (i := 12) (by omega) (Below.refl _ _)))
          · skip
            have e28 : A.tmps[28]?.getD undef = (.int .i64 b) := (by rw [hA]; kernel_rfl : A.tmps[28]?.getD undef = us 11).trans (hJ.val 11 (by omega) (hon 11 (by decide +kernel)))
            clear hA hK hon hJ
            go_simp
        · have hi' := Option.some.inj hi
          subst hi'
          refine wp_enter (f := 36) (args := #[.int .u64 (c.natAbs : Int), .int .u64 b]) (w' := W) ?_ ((T2.out W).mono ?_)
          · skip
            have e26 : A.tmps[26]?.getD undef = (.int .u64 (c.natAbs : Int)) := (by rw [hA]; kernel_rfl : A.tmps[26]?.getD undef = us 9).trans (hJ.val 9 (by omega) (hon 9 (by decide +kernel)))
            have e29 : A.tmps[29]?.getD undef = (.int .u64 b) := (by rw [hA]; kernel_rfl : A.tmps[29]?.getD undef = us 12).trans (hJ.val 12 (by omega) (hon 12 (by decide +kernel)))
            clear hA hK hon hJ
            go_simp
          · rintro r' wC ⟨rfl, hbC⟩
            exact ⟨_, rfl, hK _ _ (hJ.pure (i := 13) (by omega) hbC)⟩
        · have hi' := Option.some.inj hi
          subst hi'
          refine wp_val (v := .pointer (some ⟨W.heap.size, 0, none⟩)) (w' := W.alloc (.cells #[.int .u64 0, .int .u64 0] 73)) ?_ (hK _ _ (hJ.alloc1 hnD _))
          · skip
            clear hA hK hon hJ
            go_simp
        · have hi' := Option.some.inj hi
          subst hi'
          refine wp_val (v := .pointer (some ⟨W.heap.size, 0, none⟩)) (w' := W.alloc (.cells #[.int .u64 0, .int .u64 0] 73)) ?_ (hK _ _ (hJ.alloc2 hnD _))
          · skip
            clear hA hK hon hJ
            go_simp
        · have hi' := Option.some.inj hi
          subst hi'
          obtain ⟨g, y', hg, _, hlt, ht, _⟩ := hJ.a1 (hon 14 (by decide +kernel))
          refine wp_skip (w' := (W.setCell ⟨g, 0, none⟩ (.int .u64 0)).setCell ⟨g, 1, none⟩ (.int .u64 ((a.natAbs * e : Nat) : Int))) ?_ (hK _ _ (hJ.store1 (hon 14 (by decide +kernel)) hg undef))
          · skip
            have e5 : A.tmps[5]?.getD undef = .pointer (some ⟨g, 0, none⟩) := (by rw [hA]; kernel_rfl : A.tmps[5]?.getD undef = us 14).trans hg
            have e23 : A.tmps[23]?.getD undef = (.agg #[.int .u64 0, .int .u64 ((a.natAbs * e : Nat) : Int)]) := (by rw [hA]; kernel_rfl : A.tmps[23]?.getD undef = us 6).trans (hJ.val 6 (by omega) (hon 6 (by decide +kernel)))
            have c0 := ht.c0
            have c1 := ht.c1
            have f0 := ht.f0
            have f1 := ht.f1
            clear hA hK hon hJ ht
            go_simp
        · have hi' := Option.some.inj hi
          subst hi'
          obtain ⟨g, y', hg, _, hlt, ht, _⟩ := hJ.a2 (hon 15 (by decide +kernel))
          refine wp_skip (w' := (W.setCell ⟨g, 0, none⟩ (.int .u64 0)).setCell ⟨g, 1, none⟩ (.int .u64 ((c.natAbs * b : Nat) : Int))) ?_ (hK _ _ (hJ.store2 (hon 15 (by decide +kernel)) hg undef))
          · skip
            have e6 : A.tmps[6]?.getD undef = .pointer (some ⟨g, 0, none⟩) := (by rw [hA]; kernel_rfl : A.tmps[6]?.getD undef = us 15).trans hg
            have e30 : A.tmps[30]?.getD undef = (.agg #[.int .u64 0, .int .u64 ((c.natAbs * b : Nat) : Int)]) := (by rw [hA]; kernel_rfl : A.tmps[30]?.getD undef = us 13).trans (hJ.val 13 (by omega) (hon 13 (by decide +kernel)))
            have c0 := ht.c0
            have c1 := ht.c1
            have f0 := ht.f0
            have f1 := ht.f1
            clear hA hK hon hJ ht
            go_simp
      · intro us D W hJ hall
        obtain ⟨g, y', hg, hg1, _, ht, hy⟩ := hJ.a1 (hall 14 (by decide))
        obtain ⟨g2, y2, hg2, _, _, ht2, hy2⟩ := hJ.a2 (hall 15 (by decide))
        obtain rfl := hy (hall 16 (by decide))
        obtain rfl := hy2 (hall 17 (by decide))
        have hbel := hJ.bel
        obtain ⟨c0, c1, _, _⟩ := ht
        obtain ⟨c2, c3, _, _⟩ := ht2
        clear hJ hall
        simp only [actL, slotL, putL, List.setIfInBounds_toArray, List.set_cons_zero, List.set_cons_succ, hg, hg2]
        go_wp2_with fail
        go_meet
        exact ⟨g, g2, rfl, rfl, c0, c1, c2, c3, hbel⟩
    case rest =>
      obtain ⟨s5, s6, rfl, rfl, c0, c1, c2, c3, hb⟩ := hcut
      have k0 := (hb.cell (p := ⟨w.heap.size, 0, none⟩) lX).trans k0
      have HL2 := HL
      cases s with
      | true =>
        rw [if_pos rfl] at HL2
        go_wp2_with fail
        refine (refLess2_any _ _ _).mono ?_
        rintro r w2 ⟨rfl, hb2⟩
        go_wp2_with fail
        go_ret
        exact ⟨by rw [HL2.out]; rfl, (hB.trans (hb.mono hB.size)).trans (hb2.mono (hB.trans (hb.mono hB.size)).size)⟩
      | false =>
        rw [if_neg (by simp)] at HL2
        go_wp2_with fail
        refine (refLess2_any _ _ _).mono ?_
        rintro r w2 ⟨rfl, hb2⟩
        go_wp2_with fail
        go_ret
        exact ⟨by rw [HL2.out]; rfl, (hB.trans (hb.mono hB.size)).trans (hb2.mono (hB.trans (hb.mono hB.size)).size)⟩
end Go.Proofs.Ytmcncflieoolmaa

/- The reference's sums, differences and long division of numbers of two words whose upper word is 0; its Check of reduced ratios with small parts. -/
namespace Go.Proofs.Ytmcncflieoolmaa
set_option linter.unusedVariables false
set_option linter.unusedSimpArgs false
open Go.ChangeShapes Go.WideShapes Go.ChangeAt Go.RowKit Go.Deep

set_option maxHeartbeats 1600000 in
theorem refCheckQ_any (a : Int) (b : Nat) (w : World) (ha : -1000000000 ≤ a ∧ a ≤ 1000000000) (hb : 0 < b ∧ b ≤ 1000000000) (hg : Nat.gcd a.natAbs b = 1) :
    Calls Try.prog 27 #[.agg #[.int .i64 a, .int .i64 b]] w fun e w' => e = .returned (.int .i64 0) ∧ Below w.heap.size w w' := by
  obtain ⟨W0, hW0⟩ : ∃ W, w.alloc (.cells #[.int .i64 a, .int .i64 b] 35) = W := ⟨_, rfl⟩
  have hB := below_alloc hW0
  have bX : BoxV W0 w.heap.size [.int .i64 a, .int .i64 b] := BoxV.new rfl hW0
  have HW0 := Lib.hid hW0
  clear hW0
  have k0 := bX.cell 0 _ rfl
  have k1 := bX.cell 1 _ rfl
  obtain ⟨ha1, ha2⟩ := ha
  obtain ⟨hb1, hb2⟩ := hb
  have d1 : decide ((b : Int) < 1) = false := by simp; omega
  have d2 : decide (1000000000000000000 < (b : Int)) = false := by simp; omega
  have d3 : decide (a < -1000000000000000000) = false := by simp; omega
  have d4 : decide (1000000000000000000 < a) = false := by simp; omega
  have ub : IntKind.u64.wrap (b : Int) = b := wrap_u (by omega)
  have A1 := Lib.hid (fun W => abs_any a W (by omega) (by omega))
  have G1 := Lib.hid (fun W => (hg ▸ refGcd_any a.natAbs b W (by omega) (by omega) : Calls Try.prog 46 #[.int .u64 (a.natAbs : Int), .int .u64 (b : Int)] W fun e w' => e = .returned (.int .u64 ((1 : Nat) : Int)) ∧ ∃ n, w' = W.drewN n))
  have Hg := Lib.hid hg
  clear hg
  go_enter Try.func27, Try.ntmps27
  go_wp2_with fail
  rw [HW0.out]
  go_quiet (first | (go_at_call 37; exact Calls.quiet_of_same (A1.out _)) | (go_at_call 46; exact Calls.quiet_of ((G1.out _))))
  go_wp2_with fail
  go_ret
  exact ⟨rfl, hB.drewN' _⟩
def hi2 (t k : Nat) : Nat := t / 2 ^ k
theorem hi2_big {t k : Nat} (ht : t < 9223372036854775808) (hk : 64 ≤ k) : hi2 t k = 0 := by
  unfold hi2
  refine Nat.div_eq_of_lt (Nat.lt_of_lt_of_le ht ?_)
  exact Nat.le_trans (by decide) (Nat.pow_le_pow_right (by decide) hk)
theorem hi2_step (t m : Nat) : hi2 t m = 2 * hi2 t (m + 1) + hi2 t m % 2 := by
  unfold hi2
  rw [Nat.pow_succ, ← Nat.div_div_eq_div_mul]
  omega
theorem or_bit {R β : Nat} (h : R ≤ 9223372036854775807) (hb : β < 2) : bits .or .u64 ((R : Int) * 2) (β : Int) = ((2 * R + β : Nat) : Int) := by
  have e : (R : Int) * 2 = ((R * 2 : Nat) : Int) := by omega
  rw [e, bits_or_u64_nat _ _ (by omega) (by omega)]
  have h2 := Nat.shiftLeft_add_eq_or_of_lt (b := β) (i := 1) (by omega) R
  rw [Nat.shiftLeft_eq] at h2
  have h3 : R * 2 ||| β = R * 2 + β := h2.symm
  rw [h3]
  omega
theorem and_one {t m : Nat} (h : t < 18446744073709551616) : bits .and .u64 ((t : Int) / 2 ^ m) 1 = ((t / 2 ^ m % 2 : Nat) : Int) := by
  have e : (t : Int) / 2 ^ m = ((t / 2 ^ m : Nat) : Int) := by simp
  have hl : t / 2 ^ m ≤ t := Nat.div_le_self _ _
  have := bits_and_u64_nat (t / 2 ^ m) 1 (by omega) (by omega)
  rw [e, Nat.and_one_is_mod] at *
  exact this
theorem split_next {d H H' R Q T β : Nat} (hd : 0 < d) (hs : H' = 2 * H + β) (hR : R = H % d) (hQ : Q = H / d) (hT : 2 * R + β = T) :
    if d ≤ T then (T < 2 * d → (T - d = H' % d ∧ 2 * Q + 1 = H' / d)) else (T = H' % d ∧ 2 * Q = H' / d) := by
  have hH := Nat.div_add_mod H d
  rw [← hR, ← hQ] at hH
  have e : H' = T + d * (2 * Q) := by
    rw [Nat.mul_left_comm]; omega
  split
  · rename_i h
    intro h2
    have e2 : H' = (T - d) + d * (2 * Q + 1) := by rw [Nat.mul_add]; omega
    rw [e2, Nat.add_mul_mod_self_left, Nat.add_mul_div_left _ _ hd, Nat.mod_eq_of_lt (by omega), Nat.div_eq_of_lt (by omega)]
    omega
  · rename_i h
    rw [e, Nat.add_mul_mod_self_left, Nat.add_mul_div_left _ _ hd, Nat.mod_eq_of_lt (by omega), Nat.div_eq_of_lt (by omega)]
    omega
theorem u64_eq {a b : Int} (h : a = b) : Value.int .u64 a = Value.int .u64 b := by rw [h]
theorem Two.put1 {w : World} {S : Nat} {x y v : Value} (h : Two w S x y) : Two (w.setCell ⟨S, 1, none⟩ v) S x v := by
  have hne : (⟨S, 1, none⟩ : Addr) ≠ ⟨S, 0, none⟩ := fun e => by cases e
  exact ⟨(World.cell?_setCell_other _ _ _ _ hne).trans h.c0, World.cell?_setCell_same _ _ _ h.c1, by rw [World.frozen?_setCell]; exact h.f0, by rw [World.frozen?_setCell]; exact h.f1⟩
theorem and63 {m : Nat} (h : m < 128) : bits .and .i64 (m : Int) 63 = ((m % 64 : Nat) : Int) := by
  have : ∀ m : Fin 128, bits .and .i64 ((m.1 : Nat) : Int) 63 = ((m.1 % 64 : Nat) : Int) := by decide +kernel
  exact this ⟨m, h⟩
end Go.Proofs.Ytmcncflieoolmaa

/- What the laws on rent need of the fair and the calm lease, as contracts; no condition but what each says. -/
namespace Go.Proofs.Ytmcncflieoolmaa
set_option linter.unusedVariables false
set_option linter.unusedSimpArgs false
open Go.ChangeShapes Go.WideShapes Go.ChangeAt Go.RowKit Go.Deep

theorem boxOf2 {w : World} {S : Nat} {x y : Value} (hS : S < w.heap.size) (h : Two w S x y) : BoxV w S [x, y] := ⟨hS, fun k v hk => by
  match k, hk with
  | 0, hk => simp at hk; subst hk; exact h.c0
  | 1, hk => simp at hk; subst hk; exact h.c1⟩
theorem freeB_ef {v : List (List Int)} {r : Int} {al ps : List Int} {z : Int} (h : freeB v r al ps z = true) : vldR v r al ps z = 0 ∧ EF v al (iget ps) z := by
  unfold freeB at h
  rw [decide_eq_true_iff] at h
  exact ⟨h.1, (envs_nil h.1).1 h.2⟩
theorem lea_parts {v : List (List Int)} {r : Int} {g : List Int} (hc : chkR v r = 0) : bestI v r = bestA v ∧ leaY v r g = lowL v.length (leaseL v r (bestA v) g) ∧ leaZ v r g = lowN v.length (leaseL v r (bestA v) g) := by
  unfold bestI leaY leaZ
  rw [if_pos hc, if_pos hc, if_pos hc]; exact ⟨rfl, rfl, rfl⟩
theorem lea_vld {v : List (List Int)} {r : Int} {g : List Int} (hc : chkR v r = 0) (hg : GP v (iget g) 1) : vldR v r (bestA v) (leaY v r g) (leaZ v r g) = 0 ∧ freeB v r (bestA v) (leaY v r g) (leaZ v r g) = true := by
  obtain ⟨_, e2, e3⟩ := lea_parts (g := g) hc
  rw [e2, e3]
  have h := leaseOk hc hg
  have hv := vld_ok hc h.vld
  refine ⟨hv, ?_⟩
  unfold freeB
  rw [decide_eq_true_iff]
  exact ⟨hv, (envs_nil hv).2 h.ef⟩
theorem lessRat_any (x y : Int) (d e : Nat) (w : World) (hx : -700000000 ≤ x ∧ x ≤ 700000000) (hy : -700000000 ≤ y ∧ y ≤ 700000000) (hd : 0 < d ∧ d ≤ 60) (he : 0 < e ∧ e ≤ 60) :
    Calls Try.prog 11 #[.agg #[.int .i64 (rN x d), .int .i64 (rD x d)], .agg #[.int .i64 (rN y e), .int .i64 (rD y e)]] w fun r w' => r = .returned (.bool (decide (x * e < y * d))) ∧ Below w.heap.size w w' := by
  rw [← rat_less hd.1 he.1]
  have h1 := rN_bd (x := x) (d := d) (M := 700000000) (by omega) (by omega)
  have h2 := rN_bd (x := y) (d := e) (M := 700000000) (by omega) (by omega)
  have h3 := rD_pos (x := x) hd.1
  have h4 := rD_pos (x := y) he.1
  have h5 := rD_le (x := x) (d := d)
  have h6 := rD_le (x := y) (d := e)
  exact refLess_any (rN x d) (rN y e) (d / rG x d) (e / rG y e) w ⟨by omega, by omega⟩ ⟨by omega, by omega⟩ ⟨h3, by omega⟩ ⟨h4, by omega⟩
theorem checkRat_any (x : Int) (d : Nat) (w : World) (hx : -700000000 ≤ x ∧ x ≤ 700000000) (hd : 0 < d ∧ d ≤ 60) :
    Calls Try.prog 27 #[.agg #[.int .i64 (rN x d), .int .i64 (rD x d)]] w fun e w' => e = .returned (.int .i64 0) ∧ Below w.heap.size w w' := by
  have h1 := rN_bd (x := x) (d := d) (M := 700000000) (by omega) (by omega)
  have h3 := rD_pos (x := x) hd.1
  have h5 := rD_le (x := x) (d := d)
  exact refCheckQ_any (rN x d) (d / rG x d) w ⟨by omega, by omega⟩ ⟨h3, by omega⟩ (rat_cop hd.1)
/-- The gains of a valid lease. -/
def loG (v : List (List Int)) (al ps : List Int) (z : Nat) : Int := lowTo (gainL v al ps z) v.length
def hiG (v : List (List Int)) (al ps : List Int) (z : Nat) : Int := highTo (gainL v al ps z) v.length
theorem worst_ok (p q s : Option Addr) (c d f : Nat) (v : List (List Int)) (r : Int) (al ps : List Int) (z : Nat) (w : World) (hx : Mat w p c v) (hy : Ints w q d al) (hz : Ints w s f ps) (hv : vldR v r al ps z = 0) :
    Calls Try.prog 10 #[.agg #[.slice p v.length c, .int .i64 r], .agg #[.slice q al.length d, .slice s ps.length f, .int .i64 z]] w fun e w' => e = .returned (.tuple #[.agg #[.int .i64 (rN (loG v al ps z) z), .int .i64 (rD (loG v al ps z) z)], .agg #[.int .i64 (rN (hiG v al ps z) z), .int .i64 (rD (hiG v al ps z) z)], .int .i64 0]) ∧ Below w.heap.size w w' := by
  have hl : al.length ≤ 1000000 := by
    obtain ⟨hc, hA, _⟩ := vld_zero.1 hv
    have := (chkR_zero.1 hc).1.2.1
    have := hA.1
    omega
  refine (rentWorst_any p q s c d f v r al ps z w hx hy hz hl).mono ?_
  rintro e w' ⟨h1, h2⟩
  unfold wLo wHi at h1
  rw [if_pos hv, if_pos hv, hv, Int.toNat_natCast] at h1
  exact ⟨h1, h2⟩
theorem loG_spec {v : List (List Int)} {r : Int} {al ps : List Int} {z : Nat} (hv : vldR v r al ps z = 0) :
    (-700000000 ≤ loG v al ps z ∧ loG v al ps z ≤ 700000000) ∧ (∀ i, i < v.length → loG v al ps z ≤ gainI v ps z i (itm al i)) ∧ ∃ i, i < v.length ∧ loG v al ps z = gainI v ps z i (itm al i) := by
  have hg := good_of hv
  refine ⟨(wLo_bd hv).1, fun i hi => ?_, ?_⟩
  · have := lowTo_le (gainL v al ps z) v.length i hi
    rw [gainL_get (by rw [hg.alen]; exact hi)] at this
    exact this
  · obtain ⟨i, hi, e⟩ := lowTo_mem (gainL v al ps z) v.length hg.bids.1
    exact ⟨i, hi, by unfold loG; rw [e, gainL_get (by rw [hg.alen]; exact hi)]⟩
theorem hiG_spec {v : List (List Int)} {r : Int} {al ps : List Int} {z : Nat} (hv : vldR v r al ps z = 0) :
    (-700000000 ≤ hiG v al ps z ∧ hiG v al ps z ≤ 700000000) ∧ (∀ i, i < v.length → gainI v ps z i (itm al i) ≤ hiG v al ps z) ∧ ∃ i, i < v.length ∧ hiG v al ps z = gainI v ps z i (itm al i) := by
  have hg := good_of hv
  refine ⟨(wLo_bd hv).2, fun i hi => ?_, ?_⟩
  · have := highTo_ge (gainL v al ps z) v.length i hi
    rw [gainL_get (by rw [hg.alen]; exact hi)] at this
    exact this
  · obtain ⟨i, hi, e⟩ := highTo_mem (gainL v al ps z) v.length hg.bids.1
    exact ⟨i, hi, by unfold hiG; rw [e, gainL_get (by rw [hg.alen]; exact hi)]⟩
/-- The stage's theorem. -/
theorem best_law {v : List (List Int)} {r : Int} {al ps : List Int} {z Z : Nat} (hv : vldR v r al ps z = 0) (h : EF v al (iget ps) z) (hZ : leaZ v r (fairG v) = Z) :
    loG v al ps z * Z ≤ loG v (bestA v) (leaY v r (fairG v)) Z * z ∧ (loG v al ps z * Z = loG v (bestA v) (leaY v r (fairG v)) Z * z → ∀ i, i < v.length → gainI v ps z i (itm al i) * Z = gainI v (leaY v r (fairG v)) Z i (itm (bestA v) i) * z) := by
  obtain ⟨hc, _⟩ := vld_zero.1 hv
  have hbv := (chkR_zero.1 hc).1
  obtain ⟨hv1, hf1⟩ := lea_vld hc (fair_gp hbv)
  rw [hZ] at hv1
  obtain ⟨_, e2, e3⟩ := lea_parts (g := fairG v) hc
  obtain ⟨_, lo1, i, hi, ei⟩ := loG_spec hv1
  obtain ⟨_, lo2, _⟩ := loG_spec hv
  obtain ⟨k, hk, hk0⟩ := fair_zero hbv
  have hki : gnB v (leaY v r (fairG v)) Z k = loG v (bestA v) (leaY v r (fairG v)) Z := by
    have h1 : gnB v (leaY v r (fairG v)) Z k ≤ gnB v (leaY v r (fairG v)) Z i := by
      rw [← hZ, e2, e3]
      exact (fair_low hc hk hi).2 (by rw [hk0]; exact fair_nonneg hbv hi)
    have h2 := lo1 k hk
    have h3 : gainI v (leaY v r (fairG v)) Z k (itm (bestA v) k) = gnB v (leaY v r (fairG v)) Z k := rfl
    have h4 : gainI v (leaY v r (fairG v)) Z i (itm (bestA v) i) = gnB v (leaY v r (fairG v)) Z i := rfl
    omega
  have hm := fair_most hv h (m := loG v al ps z) (m' := loG v (bestA v) (leaY v r (fairG v)) Z) (fun i hi => by rw [← gn_best hv h hi]; exact lo2 i hi) ⟨k, hk, hk0, by rw [← hki, ← hZ, e2, e3]⟩
  rw [← e3, hZ, ← e2] at hm
  refine ⟨hm.1, fun e i hi => ?_⟩
  rw [gn_best hv h hi]
  exact hm.2 e i hi
theorem calm_law {v : List (List Int)} {r : Int} {al ps : List Int} {z Z : Nat} (hv : vldR v r al ps z = 0) (h : EF v al (iget ps) z) (hZ : leaZ v r (calmG v) = Z) :
    hiG v (bestA v) (leaY v r (calmG v)) Z * z ≤ hiG v al ps z * Z := by
  obtain ⟨hc, _⟩ := vld_zero.1 hv
  have hbv := (chkR_zero.1 hc).1
  obtain ⟨hv1, hf1⟩ := lea_vld hc (calm_gp hbv)
  rw [hZ] at hv1
  obtain ⟨_, e2, e3⟩ := lea_parts (g := calmG v) hc
  obtain ⟨_, lo1, i, hi, ei⟩ := hiG_spec hv1
  obtain ⟨_, lo2, _⟩ := hiG_spec hv
  obtain ⟨k, hk, hk0⟩ := calm_zero hbv
  have hki : gnB v (leaY v r (calmG v)) Z k = hiG v (bestA v) (leaY v r (calmG v)) Z := by
    have h1 : gnB v (leaY v r (calmG v)) Z i ≤ gnB v (leaY v r (calmG v)) Z k := by
      rw [← hZ, e2, e3]
      exact (calm_high hc hi hk).2 (by rw [hk0]; exact calm_nonpos hbv hi)
    have h2 := lo1 k hk
    have h3 : gainI v (leaY v r (calmG v)) Z k (itm (bestA v) k) = gnB v (leaY v r (calmG v)) Z k := rfl
    have h4 : gainI v (leaY v r (calmG v)) Z i (itm (bestA v) i) = gnB v (leaY v r (calmG v)) Z i := rfl
    omega
  have hm := calm_least hv h (m := hiG v al ps z) (m' := hiG v (bestA v) (leaY v r (calmG v)) Z) (fun i hi => by rw [← gn_best hv h hi]; exact lo2 i hi) ⟨k, hk, hk0, by rw [← hki, ← hZ, e2, e3]⟩
  rw [← e3, hZ] at hm
  exact hm
/-- Who is held. -/
def hldB (G : Nat → Int) (g l : Int) (i : Nat) : Nat → Bool
  | 0 => g == l
  | k + 1 => hldB G g l i k || (decide (k ≠ i) && G k == g)
theorem hldB_true {G : Nat → Int} {g l : Int} {i : Nat} : ∀ n, (g = l ∨ ∃ k, k < n ∧ k ≠ i ∧ G k = g) → hldB G g l i n = true
  | 0, h => by
    rcases h with h | ⟨k, hk, _⟩
    · simp [hldB, h]
    · omega
  | n + 1, h => by
    rw [hldB, Bool.or_eq_true]
    rcases h with h | ⟨k, hk, h1, h2⟩
    · exact .inl (hldB_true n (.inl h))
    · by_cases e : k = n
      · subst e; exact .inr (by simp [h1, h2])
      · exact .inl (hldB_true n (.inr ⟨k, by omega, h1, h2⟩))
theorem held_law {v : List (List Int)} {r : Int} {Z : Nat} (hc : chkR v r = 0) (hZ : leaZ v r (fairG v) = Z) {i : Nat} (hi : i < v.length) :
    hldB (fun k => gainI v (leaY v r (fairG v)) Z i (itm (bestA v) k)) (gainI v (leaY v r (fairG v)) Z i (itm (bestA v) i)) (loG v (bestA v) (leaY v r (fairG v)) Z) i v.length = true := by
  have hbv := (chkR_zero.1 hc).1
  obtain ⟨hv1, hf1⟩ := lea_vld hc (fair_gp hbv)
  rw [hZ] at hv1
  obtain ⟨_, e2, e3⟩ := lea_parts (g := fairG v) hc
  apply hldB_true
  have hg := fair_nonneg hbv hi
  by_cases h0 : iget (fairG v) i = 0
  · left
    obtain ⟨_, lo1, k, hk, ek⟩ := loG_spec hv1
    have h1 : gnB v (leaY v r (fairG v)) Z i ≤ gnB v (leaY v r (fairG v)) Z k := by
      rw [← hZ, e2, e3]
      exact (fair_low hc hi hk).2 (by rw [h0]; exact fair_nonneg hbv hk)
    have h2 := lo1 i hi
    have h3 : gainI v (leaY v r (fairG v)) Z k (itm (bestA v) k) = gnB v (leaY v r (fairG v)) Z k := rfl
    have h4 : gainI v (leaY v r (fairG v)) Z i (itm (bestA v) i) = gnB v (leaY v r (fairG v)) Z i := rfl
    omega
  · right
    obtain ⟨k, hk, hne, he⟩ := fair_tight hbv hi (by omega)
    refine ⟨k, hk, hne, ?_⟩
    have := (fair_held hc hi hk).2 he
    rw [← e2, ← e3, hZ] at this
    exact this
/-- The least of the gains looked at so far. -/
def lstI (xs : List Int) (k : Nat) : Int := if k = 0 then 0 else lowTo xs k
theorem lstI_zero (xs : List Int) : lstI xs 0 = 0 := rfl
theorem lstI_one (xs : List Int) : lstI xs 1 = iget xs 0 := by simp [lstI, lowTo]
theorem lstI_low {xs : List Int} {k : Nat} (h0 : k ≠ 0) (h : iget xs k < lstI xs k) : lstI xs (k + 1) = iget xs k := by
  unfold lstI at *
  rw [if_neg h0] at h
  rw [if_neg (by omega), lowTo]; omega
theorem lstI_same {xs : List Int} {k : Nat} (h0 : k ≠ 0) (h : ¬ iget xs k < lstI xs k) : lstI xs (k + 1) = lstI xs k := by
  unfold lstI at *
  rw [if_neg h0] at h ⊢
  rw [if_neg (by omega), lowTo]; omega
theorem stk_bd {v : List (List Int)} {r : Int} (hc : chkR v r = 0) {i : Nat} (hi : i < v.length) : (-700000000 ≤ stLo v r i ∧ stLo v r i ≤ 700000000) ∧ (-700000000 ≤ stHi v r i ∧ stHi v r i ≤ 700000000) := by
  obtain ⟨hv, hr1, hr2⟩ := chkR_zero.1 hc
  have hx := (isA_lt (bestA_best hv.1).1 i hi).2
  have h1 := lowI_bd hv hr1 hr2 hx (Nat.le_refl v.length)
  have h2 := highI_bd hv hr1 hr2 hx (Nat.le_refl v.length)
  have h3 := (hv.2.2 i hi).2 _ hx
  have h6 := hv.2.1
  have h4 := bz_bd (b := iget (rget v i) (itm (bestA v) i)) (z := v.length) h3.1 h3.2 (by have := hv.1; omega) (by omega)
  unfold stLo stHi bid
  omega
/-- Equal fractions. -/
theorem rat_same {x y : Int} {d e : Nat} (hd : 0 < d) (he : 0 < e) (h1 : rN x d = rN y e) (h2 : rD x d = rD y e) : x * e = y * d := by
  have a1 := rN_mul (x := x) hd
  have a2 := rD_mul (x := x) (d := d)
  have a3 := rN_mul (x := y) he
  have a4 := rD_mul (x := y) (d := e)
  rw [← h1] at a3
  rw [← h2] at a4
  generalize rN x d = p at *
  generalize rD x d = q at *
  generalize ((rG x d : Nat) : Int) = s at *
  generalize ((rG y e : Nat) : Int) = t at *
  rw [← a1, ← a2, ← a3, ← a4]
  grind
end Go.Proofs.Ytmcncflieoolmaa
