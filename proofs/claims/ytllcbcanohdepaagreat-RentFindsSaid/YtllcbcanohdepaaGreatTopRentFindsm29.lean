/- The reference's sum of ratios whose parts are small (at most 700,000,000): the sum in lowest terms.  (The region is printed by wip/genratc.py.) -/
import Derived.Test.YtllcbcanohdepaaGreatTopRentFindsm28
import Derived.Test.YtllcbcanohdepaaGreatTopRentFindsm18
import Derived.Test.YtllcbcanohdepaaGreatTopRentFindsm22
import Derived.Deep.DeepCutAuto
/- The reference's sum of ratios whose parts are small (at most 700,000,000): the sum in lowest terms.  (The region is printed by wip/genratc.py.) -/
namespace Go.Proofs.YtllcbcanohdepaaGreat
set_option linter.unusedVariables false
set_option linter.unusedSimpArgs false
open Go.ChangeShapes Go.WideShapes Go.ChangeAt Go.RowKit Go.Deep

/-- A ratio in lowest terms with parts of at most 700,000,000. -/
structure SmallQ (a : Int) (b : Nat) : Prop where
  lo : -700000000 ≤ a
  hi : a ≤ 700000000
  pos : 0 < b
  top : b ≤ 700000000
  cop : Nat.gcd a.natAbs b = 1
theorem boxV_ofTwo {w : World} {S : Nat} {x y : Value} (hS : S < w.heap.size) (h : Two w S x y) : BoxV w S [x, y] := ⟨hS, fun k v hk => by
  match k, hk with
  | 0, hk => simp at hk; subst hk; exact h.c0
  | 1, hk => simp at hk; subst hk; exact h.c1⟩
theorem BoxV.beside {w : World} {S g k : Nat} {vs : List Value} {u : Value} (h : BoxV w S vs) (hne : g ≠ S) : BoxV (w.setCell ⟨g, k, none⟩ u) S vs := ⟨by simpa [World.setCell] using h.lt, fun j v hj => (World.cell?_setCell_other _ _ _ _ (ne_blk hne)).trans (h.cell j v hj)⟩
theorem BoxV.belowB {w w' : World} {S B : Nat} {vs : List Value} (h : BoxV w S vs) (hb : Below B w w') (hS : S < B) : BoxV w' S vs := ⟨Nat.lt_of_lt_of_le h.lt hb.size, fun k v hk => (hb.cell (p := ⟨S, k, none⟩) hS).trans (h.cell k v hk)⟩
theorem rat_zero {d : Nat} (hd : 0 < d) : rN 0 d = 0 ∧ rD 0 d = 1 := by
  unfold rN rD rG
  simp [sgn, Nat.div_self hd]
theorem ad_same {a c t : Int} {E B : Nat} (h : decide (a < 0) = decide (c < 0)) (ht : t = a * E + c * B) : t.natAbs = a.natAbs * E + c.natAbs * B ∧ (t ≠ 0 → decide (a < 0) = decide (t < 0)) := by
  by_cases h1 : a < 0
  · have h2 : c < 0 := by simpa [h1] using h.symm
    obtain ⟨p, rfl⟩ : ∃ p : Nat, a = -p := ⟨a.natAbs, by omega⟩
    obtain ⟨q, rfl⟩ : ∃ p : Nat, c = -p := ⟨c.natAbs, by omega⟩
    have e : t = -((p * E + q * B : Nat) : Int) := by rw [ht]; push_cast; rw [Int.neg_mul, Int.neg_mul]; omega
    rw [Int.natAbs_neg, Int.natAbs_neg, Int.natAbs_natCast, Int.natAbs_natCast]
    refine ⟨by omega, fun h0 => ?_⟩
    rw [decide_eq_true h1, decide_eq_true (by omega)]
  · have h2 : ¬ c < 0 := by simpa [h1] using h.symm
    obtain ⟨p, rfl⟩ : ∃ p : Nat, a = p := ⟨a.natAbs, by omega⟩
    obtain ⟨q, rfl⟩ : ∃ p : Nat, c = p := ⟨c.natAbs, by omega⟩
    have e : t = ((p * E + q * B : Nat) : Int) := by rw [ht]; push_cast; rfl
    rw [Int.natAbs_natCast, Int.natAbs_natCast]
    refine ⟨by omega, fun h0 => ?_⟩
    rw [decide_eq_false h1, decide_eq_false (by omega)]
theorem ad_more {a c t : Int} {E B : Nat} (h : (decide (a < 0) != decide (c < 0)) = true) (hle : c.natAbs * B ≤ a.natAbs * E) (ht : t = a * E + c * B) : t.natAbs = a.natAbs * E - c.natAbs * B ∧ (t ≠ 0 → decide (a < 0) = decide (t < 0)) := by
  by_cases h1 : a < 0
  · have h2 : ¬ c < 0 := by simpa [h1] using h
    obtain ⟨p, rfl⟩ : ∃ p : Nat, a = -p := ⟨a.natAbs, by omega⟩
    obtain ⟨q, rfl⟩ : ∃ p : Nat, c = p := ⟨c.natAbs, by omega⟩
    rw [Int.natAbs_neg, Int.natAbs_natCast, Int.natAbs_natCast] at hle ⊢
    have e : t = ((q * B : Nat) : Int) - ((p * E : Nat) : Int) := by rw [ht]; push_cast; rw [Int.neg_mul]; omega
    refine ⟨by omega, fun h0 => ?_⟩
    rw [decide_eq_true h1, decide_eq_true (by omega)]
  · have h2 : c < 0 := by simpa [h1] using h
    obtain ⟨p, rfl⟩ : ∃ p : Nat, a = p := ⟨a.natAbs, by omega⟩
    obtain ⟨q, rfl⟩ : ∃ p : Nat, c = -p := ⟨c.natAbs, by omega⟩
    rw [Int.natAbs_neg, Int.natAbs_natCast, Int.natAbs_natCast] at hle ⊢
    have e : t = ((p * E : Nat) : Int) - ((q * B : Nat) : Int) := by rw [ht]; push_cast; rw [Int.neg_mul]; omega
    refine ⟨by omega, fun h0 => ?_⟩
    rw [decide_eq_false h1, decide_eq_false (by omega)]
theorem ad_less {a c t : Int} {E B : Nat} (h : (decide (a < 0) != decide (c < 0)) = true) (hlt : a.natAbs * E < c.natAbs * B) (ht : t = a * E + c * B) : t.natAbs = c.natAbs * B - a.natAbs * E ∧ (t ≠ 0 → decide (c < 0) = decide (t < 0)) := by
  have := ad_more (a := c) (c := a) (E := B) (B := E) (t := t) (by rw [bne_comm]; exact h) (Nat.le_of_lt hlt) (by rw [ht, Int.add_comm])
  exact this
theorem refMinusNeg_any (a b : Nat) (w : World) (hab : a < b) :
    Calls Tryz.prog 77 #[.agg #[.int .u64 0, .int .u64 a], .agg #[.int .u64 0, .int .u64 b]] w fun e w' => ∃ h l : Int, e = .returned (.agg #[.int .u64 h, .int .u64 l]) ∧ Below w.heap.size w w' := by
  have hd : decide ((a : Int) < b) = true := by simp; omega
  go_enter Tryz.func77, Tryz.ntmps77
  go_wp2_with fail
  refine bodyPost_ret (v := .agg #[.int .u64 _, .int .u64 _]) (by simp [results, Tryz.results77, go_sem]; exact ⟨rfl, rfl⟩) rfl ⟨_, _, rfl, ?_⟩
  exact (((Below.refl _ _).alloc (Nat.le_refl _) _).alloc (by simp) _).alloc (by simp; omega) _
theorem lt22 {i : Nat} (h : i < 22) : i = 0 ∨ i = 1 ∨ i = 2 ∨ i = 3 ∨ i = 4 ∨ i = 5 ∨ i = 6 ∨ i = 7 ∨ i = 8 ∨ i = 9 ∨ i = 10 ∨ i = 11 ∨ i = 12 ∨ i = 13 ∨ i = 14 ∨ i = 15 ∨ i = 16 ∨ i = 17 ∨ i = 18 ∨ i = 19 ∨ i = 20 ∨ i = 21 := by omega
set_option maxHeartbeats 1600000 in
theorem refBoth_any (a c : Int) (b e : Nat) (w : World) (h1 : SmallQ a b) (h2 : SmallQ c e) :
    Calls Tryz.prog 57 #[.agg #[.int .i64 a, .int .i64 b], .agg #[.int .i64 c, .int .i64 e]] w fun r w' => r = .returned (.int .i64 0) ∧ Below w.heap.size w w' := by
  obtain ⟨W1, hW1⟩ : ∃ W, w.alloc (.cells #[.int .i64 a, .int .i64 b] 37) = W := ⟨_, rfl⟩
  obtain ⟨W0, hW0⟩ : ∃ W, W1.alloc (.cells #[.int .i64 c, .int .i64 e] 37) = W := ⟨_, rfl⟩
  have hB1 := below_alloc hW1
  have hB2 := below_alloc hW0
  have bX : BoxV W0 w.heap.size [.int .i64 a, .int .i64 b] := (BoxV.new rfl hW1).below hB2
  have hs : W1.heap.size = w.heap.size + 1 := by rw [← hW1]; simp
  have bY : BoxV W0 (w.heap.size + 1) [.int .i64 c, .int .i64 e] := BoxV.new hs hW0
  have hB : Below w.heap.size w W0 := hB1.trans (hB2.mono hB1.size)
  have HW1 := Lib.hid hW1
  have HW0 := Lib.hid hW0
  have C1 := Lib.hid (fun W => refCheckQ_any a b W ⟨by have := h1.lo; omega, by have := h1.hi; omega⟩ ⟨h1.pos, by have := h1.top; omega⟩ h1.cop)
  have C2 := Lib.hid (fun W => refCheckQ_any c e W ⟨by have := h2.lo; omega, by have := h2.hi; omega⟩ ⟨h2.pos, by have := h2.top; omega⟩ h2.cop)
  clear hW1 hW0 hB1 hB2 hs h1 h2
  have k0 := bX.cell 0 _ rfl
  have k1 := bX.cell 1 _ rfl
  have k2 := bY.cell 0 _ rfl
  have k3 := bY.cell 1 _ rfl
  go_enter Tryz.func57, Tryz.ntmps57
  go_wp2_with fail
  rw [HW1.out, HW0.out]
  go_wp2_with fail
  refine (C1.out _).mono ?_
  rintro r w2 ⟨rfl, hb⟩
  replace bY := bY.below hb
  replace hB := hB.trans (hb.mono hB.size)
  clear hb k0 k1 k2 k3
  have k2 := bY.cell 0 _ rfl
  have k3 := bY.cell 1 _ rfl
  go_wp2_with fail
  refine (C2.out _).mono ?_
  rintro r w3 ⟨rfl, hb⟩
  go_wp2_with fail
  go_ret
  exact ⟨rfl, hB.trans (hb.mono hB.size)⟩
set_option maxHeartbeats 16000000 in
set_option maxRecDepth 100000 in
theorem refAdd_any (a c : Int) (b e : Nat) (w : World) (h1 : SmallQ a b) (h2 : SmallQ c e) :
    Calls Tryz.prog 58 #[.agg #[.int .i64 a, .int .i64 b], .agg #[.int .i64 c, .int .i64 e]] w fun r w' => r = .returned (.tuple #[ratV (a * e + c * b) (b * e), .int .i64 0]) ∧ Below w.heap.size w w' := by
  obtain ⟨W1, hW1⟩ : ∃ W, w.alloc (.cells #[.int .i64 a, .int .i64 b] 37) = W := ⟨_, rfl⟩
  obtain ⟨W2, hW2⟩ : ∃ W, W1.alloc (.cells #[.int .i64 c, .int .i64 e] 37) = W := ⟨_, rfl⟩
  obtain ⟨W0, hW0⟩ : ∃ W, W2.alloc (.cells #[.int .i64 0, .int .i64 0] 37) = W := ⟨_, rfl⟩
  have hB1 := below_alloc hW1
  have hB2 := below_alloc hW2
  have hB3 := below_alloc hW0
  have s1 : W1.heap.size = w.heap.size + 1 := by rw [← hW1]; simp
  have s2 : W2.heap.size = w.heap.size + 2 := by rw [← hW2]; simp [s1]
  have bX : BoxV W0 w.heap.size [.int .i64 a, .int .i64 b] := ((BoxV.new rfl hW1).below hB2).below hB3
  have bY : BoxV W0 (w.heap.size + 1) [.int .i64 c, .int .i64 e] := (BoxV.new s1 hW2).below hB3
  have tR : Two W0 (w.heap.size + 2) (.int .i64 0) (.int .i64 0) := Two.new s2 hW0.symm
  have hB : Below w.heap.size w W0 := (hB1.trans (hB2.mono hB1.size)).trans (hB3.mono (hB1.trans (hB2.mono hB1.size)).size)
  have hsR : w.heap.size + 2 < W0.heap.size := by rw [← hW0]; simp [s2]
  have HW1 := Lib.hid hW1
  have HW2 := Lib.hid hW2
  have HW0 := Lib.hid hW0
  have HBo := Lib.hid (fun W => refBoth_any a c b e W h1 h2)
  obtain ⟨R1, R2⟩ := ad_sum h1.pos h2.pos h1.cop h2.cop
  have hAg : Nat.gcd b e = adG b e := rfl
  have hAt : adT a c b e = a * ((e / adG b e : Nat) : Int) + c * ((b / adG b e : Nat) : Int) := rfl
  have hAh : adH a c b e = Nat.gcd ((adT a c b e).natAbs % adG b e) (adG b e) := rfl
  have hdb : adG b e ∣ b := Nat.gcd_dvd_left _ _
  have hde : adG b e ∣ e := Nat.gcd_dvd_right _ _
  have hg0 : 0 < adG b e := Nat.gcd_pos_of_pos_left _ h1.pos
  have hgb : adG b e ≤ b := Nat.le_of_dvd h1.pos (Nat.gcd_dvd_left _ _)
  have hge : adG b e ≤ e := Nat.le_of_dvd h2.pos (Nat.gcd_dvd_right _ _)
  obtain ⟨a1, a2, b1, b2, _⟩ := h1
  obtain ⟨c1, c2, e1, e2, _⟩ := h2
  have G1 := Lib.hid (fun W => hAg ▸ refGcd_any b e W (by omega) (by omega))
  obtain ⟨g, eg⟩ : ∃ x, adG b e = x := ⟨_, rfl⟩
  rw [eg] at hg0 hgb hge hAt hAh G1 R2 hdb hde
  obtain ⟨E1, eE⟩ : ∃ x, e / g = x := ⟨_, rfl⟩
  obtain ⟨B1, eB⟩ : ∃ x, b / g = x := ⟨_, rfl⟩
  have hE1 : E1 ≤ 700000000 := by rw [← eE]; exact Nat.le_trans (Nat.div_le_self _ _) e2
  have hB1' : B1 ≤ 700000000 := by rw [← eB]; exact Nat.le_trans (Nat.div_le_self _ _) b2
  have qE : (e : Int).tdiv g = E1 := by rw [Int.tdiv_eq_ediv_of_nonneg (by omega), ← eE]; simp
  have qE2 : (e : Int) / g = E1 := by rw [← eE]; simp
  have qB : (b : Int).tdiv g = B1 := by rw [Int.tdiv_eq_ediv_of_nonneg (by omega), ← eB]; simp
  have qB2 : (b : Int) / g = B1 := by rw [← eB]; simp
  have Hge := Lib.hid (show (e : Int) = g * E1 ∧ (b : Int) = g * B1 from ⟨by rw [← eE, ← Int.natCast_mul, Nat.mul_div_cancel' hde], by rw [← eB, ← Int.natCast_mul, Nat.mul_div_cancel' hdb]⟩)
  clear hdb hde
  rw [eE, eB] at hAt
  rw [eB] at R2
  have hgz : g ≠ 0 := by omega
  have wE : IntKind.u64.wrap (E1 : Int) = E1 := wrap_u (by omega)
  have wB : IntKind.u64.wrap (B1 : Int) = B1 := wrap_u (by omega)
  have HE := Lib.hid (And.intro qE (And.intro qE2 (And.intro hgz wE)))
  have HBb := Lib.hid (And.intro qB (And.intro qB2 (And.intro hgz wB)))
  have T1 := Lib.hid (fun W => refTimes_any a.natAbs E1 W (by omega) (by omega))
  have T2 := Lib.hid (fun W => refTimes_any c.natAbs B1 W (by omega) (by omega))
  have A1 := Lib.hid (fun W => abs_any a W (by omega) (by omega))
  have A2 := Lib.hid (fun W => abs_any c W (by omega) (by omega))
  have ub : IntKind.u64.wrap (b : Int) = b := wrap_u (by omega)
  have ue : IntKind.u64.wrap (e : Int) = e := wrap_u (by omega)
  have R := Lib.hid (And.intro R1 R2)
  have HT := Lib.hid hAt
  have HH := Lib.hid hAh
  clear hW1 hW2 hW0 hB1 hB2 hB3 s1 s2 hAg hAt hAh R1 R2 eg eE eB qE qE2 qB qB2 hgz wE wB
  have k0 := bX.cell 0 _ rfl
  have k1 := bX.cell 1 _ rfl
  have k2 := bY.cell 0 _ rfl
  have k3 := bY.cell 1 _ rfl
  go_enter Tryz.func58, Tryz.ntmps58
  go_wp2_with fail
  rw [HW1.out, HW2.out, HW0.out]
  go_wp2_with fail
  refine (HBo.out _).mono ?_
  rintro r w1 ⟨rfl, hb⟩
  replace bX := bX.below hb
  replace bY := bY.below hb
  replace tR := tR.below hb hsR
  replace hsR : w.heap.size + 2 < w1.heap.size := Nat.lt_of_lt_of_le hsR hb.size
  replace hB := hB.trans (hb.mono hB.size)
  clear hb k0 k1 k2 k3
  have k0 := bX.cell 0 _ rfl
  have k1 := bX.cell 1 _ rfl
  have k2 := bY.cell 0 _ rfl
  have k3 := bY.cell 1 _ rfl
  go_wp2_with fail
  refine (G1.out _).mono ?_
  rintro r w2 ⟨rfl, hw⟩
  have hb : Below w1.heap.size w1 w2 := by obtain ⟨n, rfl⟩ := hw; exact below_drewN _ _ _
  replace bX := bX.below hb
  replace bY := bY.below hb
  replace tR := tR.below hb hsR
  replace hsR : w.heap.size + 2 < w2.heap.size := Nat.lt_of_lt_of_le hsR hb.size
  replace hB := hB.trans (hb.mono hB.size)
  clear hb hw k0 k1 k2 k3
  have k0 := bX.cell 0 _ rfl
  have k1 := bX.cell 1 _ rfl
  have k2 := bY.cell 0 _ rfl
  have k3 := bY.cell 1 _ rfl
  have lX := bX.lt
  have lY := bY.lt
  go_wp2_with fail
  refine wp_region_inv (by kernel_rfl) (by decide +kernel) (by decide +kernel) _ _ (PairJ w2 18 (fun k => match k with | 0 => (.pointer (some ⟨w.heap.size, 0, none⟩)) | 1 => (.int .i64 a) | 2 => (.int .u64 (a.natAbs : Int)) | 3 => (.pointer (some ⟨w.heap.size + 1, 1, none⟩)) | 4 => (.int .i64 e) | 5 => (.int .u64 e) | 6 => (.int .u64 g) | 7 => (.int .u64 E1) | 8 => (.agg #[.int .u64 0, .int .u64 ((a.natAbs * E1 : Nat) : Int)]) | 9 => (.pointer (some ⟨w.heap.size + 1, 0, none⟩)) | 10 => (.int .i64 c) | 11 => (.int .u64 (c.natAbs : Int)) | 12 => (.pointer (some ⟨w.heap.size, 1, none⟩)) | 13 => (.int .i64 b) | 14 => (.int .u64 b) | 15 => (.int .u64 g) | 16 => (.int .u64 B1) | 17 => (.agg #[.int .u64 0, .int .u64 ((c.natAbs * B1 : Nat) : Int)]) | _ => undef) ((a.natAbs * E1 : Nat) : Int) ((c.natAbs * B1 : Nat) : Int)) ?_ ?_ ?_
  · exact fun us => PairJ.start us
  · intro us D W i o A hA hi hJ hnD hon K hK
    have hlt : i < 22 := (Array.getElem?_eq_some_iff.1 hi).1
    rcases lt22 hlt with rfl | rfl | rfl | rfl | rfl | rfl | rfl | rfl | rfl | rfl | rfl | rfl | rfl | rfl | rfl | rfl | rfl | rfl | rfl | rfl | rfl | rfl
    · have hi' := Option.some.inj hi
      subst hi'
      refine wp_val (v := (.pointer (some ⟨w.heap.size, 0, none⟩))) (w' := W) ?_ (hK _ _ (hJ.pure (i := 0) (by omega) (Below.refl _ _)))
      · skip
        have e2 : A.tmps[2]?.getD undef = (.pointer (some ⟨w.heap.size, 0, none⟩)) := by rw [hA]; kernel_rfl
        clear hA hK hon hJ
        go_simp
    · have hi' := Option.some.inj hi
      subst hi'
      refine wp_val (v := (.int .i64 a)) (w' := W) ?_ (hK _ _ (hJ.pure (i := 1) (by omega) (Below.refl _ _)))
      · skip
        have e31 : A.tmps[31]?.getD undef = (.pointer (some ⟨w.heap.size, 0, none⟩)) := (by rw [hA]; kernel_rfl : A.tmps[31]?.getD undef = us 0).trans (hJ.val 0 (by omega) (hon 0 (by decide +kernel)))
        have cc := (hJ.bel.cell (p := ⟨w.heap.size, 0, none⟩) lX).trans k0
        clear hA hK hon hJ
        go_simp
    · have hi' := Option.some.inj hi
      subst hi'
      refine wp_enter (f := 51) (args := #[.int .i64 a]) (w' := W) ?_ ((A1.out W).mono ?_)
      · skip
        have e32 : A.tmps[32]?.getD undef = (.int .i64 a) := (by rw [hA]; kernel_rfl : A.tmps[32]?.getD undef = us 1).trans (hJ.val 1 (by omega) (hon 1 (by decide +kernel)))
        clear hA hK hon hJ
        go_simp
      · rintro r' wC ⟨rfl, rfl⟩
        exact ⟨_, rfl, hK _ _ (hJ.pure (i := 2) (by omega) (Below.refl _ _))⟩
    · have hi' := Option.some.inj hi
      subst hi'
      refine wp_val (v := (.pointer (some ⟨w.heap.size + 1, 1, none⟩))) (w' := W) ?_ (hK _ _ (hJ.pure (i := 3) (by omega) (Below.refl _ _)))
      · skip
        have e3 : A.tmps[3]?.getD undef = (.pointer (some ⟨w.heap.size + 1, 0, none⟩)) := by rw [hA]; kernel_rfl
        clear hA hK hon hJ
        go_simp
    · have hi' := Option.some.inj hi
      subst hi'
      refine wp_val (v := (.int .i64 e)) (w' := W) ?_ (hK _ _ (hJ.pure (i := 4) (by omega) (Below.refl _ _)))
      · skip
        have e34 : A.tmps[34]?.getD undef = (.pointer (some ⟨w.heap.size + 1, 1, none⟩)) := (by rw [hA]; kernel_rfl : A.tmps[34]?.getD undef = us 3).trans (hJ.val 3 (by omega) (hon 3 (by decide +kernel)))
        have cc := (hJ.bel.cell (p := ⟨w.heap.size + 1, 1, none⟩) lY).trans k3
        clear hA hK hon hJ
        go_simp
    · have hi' := Option.some.inj hi
      subst hi'
      refine wp_val (v := (.int .u64 e)) (w' := W) ?_ (hK _ _ (hJ.pure (i := 5) (by omega) (Below.refl _ _)))
      · skip
        have e35 : A.tmps[35]?.getD undef = (.int .i64 e) := (by rw [hA]; kernel_rfl : A.tmps[35]?.getD undef = us 4).trans (hJ.val 4 (by omega) (hon 4 (by decide +kernel)))
        clear hA hK hon hJ
        go_simp
    · have hi' := Option.some.inj hi
      subst hi'
      refine wp_val (v := (.int .u64 g)) (w' := W) ?_ (hK _ _ (hJ.pure (i := 6) (by omega) (Below.refl _ _)))
      · skip
        have e6 : A.tmps[6]?.getD undef = (.int .u64 g) := by rw [hA]; kernel_rfl
        clear hA hK hon hJ
        go_simp
    · have hi' := Option.some.inj hi
      subst hi'
      refine wp_val (v := (.int .u64 E1)) (w' := W) ?_ (hK _ _ (hJ.pure (i := 7) (by omega) (Below.refl _ _)))
      · skip
        have e36 : A.tmps[36]?.getD undef = (.int .u64 e) := (by rw [hA]; kernel_rfl : A.tmps[36]?.getD undef = us 5).trans (hJ.val 5 (by omega) (hon 5 (by decide +kernel)))
        have e37 : A.tmps[37]?.getD undef = (.int .u64 g) := (by rw [hA]; kernel_rfl : A.tmps[37]?.getD undef = us 6).trans (hJ.val 6 (by omega) (hon 6 (by decide +kernel)))
        have q1 := HE.out
        clear hA hK hon hJ
        go_simp
    · have hi' := Option.some.inj hi
      subst hi'
      refine wp_enter (f := 75) (args := #[.int .u64 (a.natAbs : Int), .int .u64 E1]) (w' := W) ?_ ((T1.out W).mono ?_)
      · skip
        have e33 : A.tmps[33]?.getD undef = (.int .u64 (a.natAbs : Int)) := (by rw [hA]; kernel_rfl : A.tmps[33]?.getD undef = us 2).trans (hJ.val 2 (by omega) (hon 2 (by decide +kernel)))
        have e38 : A.tmps[38]?.getD undef = (.int .u64 E1) := (by rw [hA]; kernel_rfl : A.tmps[38]?.getD undef = us 7).trans (hJ.val 7 (by omega) (hon 7 (by decide +kernel)))
        clear hA hK hon hJ
        go_simp
      · rintro r' wC ⟨rfl, hbC⟩
        exact ⟨_, rfl, hK _ _ (hJ.pure (i := 8) (by omega) hbC)⟩
    · have hi' := Option.some.inj hi
      subst hi'
      refine wp_val (v := (.pointer (some ⟨w.heap.size + 1, 0, none⟩))) (w' := W) ?_ (hK _ _ (hJ.pure (i := 9) (by omega) (Below.refl _ _)))
      · skip
        have e3 : A.tmps[3]?.getD undef = (.pointer (some ⟨w.heap.size + 1, 0, none⟩)) := by rw [hA]; kernel_rfl
        clear hA hK hon hJ
        go_simp
    · have hi' := Option.some.inj hi
      subst hi'
      refine wp_val (v := (.int .i64 c)) (w' := W) ?_ (hK _ _ (hJ.pure (i := 10) (by omega) (Below.refl _ _)))
      · skip
        have e40 : A.tmps[40]?.getD undef = (.pointer (some ⟨w.heap.size + 1, 0, none⟩)) := (by rw [hA]; kernel_rfl : A.tmps[40]?.getD undef = us 9).trans (hJ.val 9 (by omega) (hon 9 (by decide +kernel)))
        have cc := (hJ.bel.cell (p := ⟨w.heap.size + 1, 0, none⟩) lY).trans k2
        clear hA hK hon hJ
        go_simp
    · have hi' := Option.some.inj hi
      subst hi'
      refine wp_enter (f := 51) (args := #[.int .i64 c]) (w' := W) ?_ ((A2.out W).mono ?_)
      · skip
        have e41 : A.tmps[41]?.getD undef = (.int .i64 c) := (by rw [hA]; kernel_rfl : A.tmps[41]?.getD undef = us 10).trans (hJ.val 10 (by omega) (hon 10 (by decide +kernel)))
        clear hA hK hon hJ
        go_simp
      · rintro r' wC ⟨rfl, rfl⟩
        exact ⟨_, rfl, hK _ _ (hJ.pure (i := 11) (by omega) (Below.refl _ _))⟩
    · have hi' := Option.some.inj hi
      subst hi'
      refine wp_val (v := (.pointer (some ⟨w.heap.size, 1, none⟩))) (w' := W) ?_ (hK _ _ (hJ.pure (i := 12) (by omega) (Below.refl _ _)))
      · skip
        have e2 : A.tmps[2]?.getD undef = (.pointer (some ⟨w.heap.size, 0, none⟩)) := by rw [hA]; kernel_rfl
        clear hA hK hon hJ
        go_simp
    · have hi' := Option.some.inj hi
      subst hi'
      refine wp_val (v := (.int .i64 b)) (w' := W) ?_ (hK _ _ (hJ.pure (i := 13) (by omega) (Below.refl _ _)))
      · skip
        have e43 : A.tmps[43]?.getD undef = (.pointer (some ⟨w.heap.size, 1, none⟩)) := (by rw [hA]; kernel_rfl : A.tmps[43]?.getD undef = us 12).trans (hJ.val 12 (by omega) (hon 12 (by decide +kernel)))
        have cc := (hJ.bel.cell (p := ⟨w.heap.size, 1, none⟩) lX).trans k1
        clear hA hK hon hJ
        go_simp
    · have hi' := Option.some.inj hi
      subst hi'
      refine wp_val (v := (.int .u64 b)) (w' := W) ?_ (hK _ _ (hJ.pure (i := 14) (by omega) (Below.refl _ _)))
      · skip
        have e44 : A.tmps[44]?.getD undef = (.int .i64 b) := (by rw [hA]; kernel_rfl : A.tmps[44]?.getD undef = us 13).trans (hJ.val 13 (by omega) (hon 13 (by decide +kernel)))
        clear hA hK hon hJ
        go_simp
    · have hi' := Option.some.inj hi
      subst hi'
      refine wp_val (v := (.int .u64 g)) (w' := W) ?_ (hK _ _ (hJ.pure (i := 15) (by omega) (Below.refl _ _)))
      · skip
        have e6 : A.tmps[6]?.getD undef = (.int .u64 g) := by rw [hA]; kernel_rfl
        clear hA hK hon hJ
        go_simp
    · have hi' := Option.some.inj hi
      subst hi'
      refine wp_val (v := (.int .u64 B1)) (w' := W) ?_ (hK _ _ (hJ.pure (i := 16) (by omega) (Below.refl _ _)))
      · skip
        have e45 : A.tmps[45]?.getD undef = (.int .u64 b) := (by rw [hA]; kernel_rfl : A.tmps[45]?.getD undef = us 14).trans (hJ.val 14 (by omega) (hon 14 (by decide +kernel)))
        have e46 : A.tmps[46]?.getD undef = (.int .u64 g) := (by rw [hA]; kernel_rfl : A.tmps[46]?.getD undef = us 15).trans (hJ.val 15 (by omega) (hon 15 (by decide +kernel)))
        have q1 := HBb.out
        clear hA hK hon hJ
        go_simp
    · have hi' := Option.some.inj hi
      subst hi'
      refine wp_enter (f := 75) (args := #[.int .u64 (c.natAbs : Int), .int .u64 B1]) (w' := W) ?_ ((T2.out W).mono ?_)
      · skip
        have e42 : A.tmps[42]?.getD undef = (.int .u64 (c.natAbs : Int)) := (by rw [hA]; kernel_rfl : A.tmps[42]?.getD undef = us 11).trans (hJ.val 11 (by omega) (hon 11 (by decide +kernel)))
        have e47 : A.tmps[47]?.getD undef = (.int .u64 B1) := (by rw [hA]; kernel_rfl : A.tmps[47]?.getD undef = us 16).trans (hJ.val 16 (by omega) (hon 16 (by decide +kernel)))
        clear hA hK hon hJ
        go_simp
      · rintro r' wC ⟨rfl, hbC⟩
        exact ⟨_, rfl, hK _ _ (hJ.pure (i := 17) (by omega) hbC)⟩
    · have hi' := Option.some.inj hi
      subst hi'
      refine wp_val (v := .pointer (some ⟨W.heap.size, 0, none⟩)) (w' := W.alloc (.cells #[.int .u64 0, .int .u64 0] 86)) ?_ (hK _ _ (hJ.alloc1 hnD _))
      · skip
        clear hA hK hon hJ
        go_simp
    · have hi' := Option.some.inj hi
      subst hi'
      refine wp_val (v := .pointer (some ⟨W.heap.size, 0, none⟩)) (w' := W.alloc (.cells #[.int .u64 0, .int .u64 0] 86)) ?_ (hK _ _ (hJ.alloc2 hnD _))
      · skip
        clear hA hK hon hJ
        go_simp
    · have hi' := Option.some.inj hi
      subst hi'
      obtain ⟨g, y', hg, _, hlt, ht, _⟩ := hJ.a1 (hon 18 (by decide +kernel))
      refine wp_skip (w' := (W.setCell ⟨g, 0, none⟩ (.int .u64 0)).setCell ⟨g, 1, none⟩ (.int .u64 ((a.natAbs * E1 : Nat) : Int))) ?_ (hK _ _ (hJ.store1 (hon 18 (by decide +kernel)) hg undef))
      · skip
        have e7 : A.tmps[7]?.getD undef = .pointer (some ⟨g, 0, none⟩) := (by rw [hA]; kernel_rfl : A.tmps[7]?.getD undef = us 18).trans hg
        have e39 : A.tmps[39]?.getD undef = (.agg #[.int .u64 0, .int .u64 ((a.natAbs * E1 : Nat) : Int)]) := (by rw [hA]; kernel_rfl : A.tmps[39]?.getD undef = us 8).trans (hJ.val 8 (by omega) (hon 8 (by decide +kernel)))
        have c0 := ht.c0
        have c1 := ht.c1
        have f0 := ht.f0
        have f1 := ht.f1
        clear hA hK hon hJ ht
        go_simp
    · have hi' := Option.some.inj hi
      subst hi'
      obtain ⟨g, y', hg, _, hlt, ht, _⟩ := hJ.a2 (hon 19 (by decide +kernel))
      refine wp_skip (w' := (W.setCell ⟨g, 0, none⟩ (.int .u64 0)).setCell ⟨g, 1, none⟩ (.int .u64 ((c.natAbs * B1 : Nat) : Int))) ?_ (hK _ _ (hJ.store2 (hon 19 (by decide +kernel)) hg undef))
      · skip
        have e8 : A.tmps[8]?.getD undef = .pointer (some ⟨g, 0, none⟩) := (by rw [hA]; kernel_rfl : A.tmps[8]?.getD undef = us 19).trans hg
        have e48 : A.tmps[48]?.getD undef = (.agg #[.int .u64 0, .int .u64 ((c.natAbs * B1 : Nat) : Int)]) := (by rw [hA]; kernel_rfl : A.tmps[48]?.getD undef = us 17).trans (hJ.val 17 (by omega) (hon 17 (by decide +kernel)))
        have c0 := ht.c0
        have c1 := ht.c1
        have f0 := ht.f0
        have f1 := ht.f1
        clear hA hK hon hJ ht
        go_simp
  · intro us D w3 hJ hall
    obtain ⟨s7, y7, hg7, hg71, hl7, ht7, hy7⟩ := hJ.a1 (hall 18 (by decide))
    obtain ⟨s8, y8, hg8, hg81, hl8, ht8, hy8⟩ := hJ.a2 (hall 19 (by decide))
    obtain rfl := hy7 (hall 20 (by decide))
    obtain rfl := hy8 (hall 21 (by decide))
    have hb := hJ.bel
    clear hJ hall
    simp only [actL, slotL, putL, List.setIfInBounds_toArray, List.set_cons_zero, List.set_cons_succ, hg7, hg8]
    obtain ⟨X, eX⟩ : ∃ x, a.natAbs * E1 = x := ⟨_, rfl⟩
    obtain ⟨Y, eY⟩ : ∃ x, c.natAbs * B1 = x := ⟨_, rfl⟩
    have hXb : X ≤ 700000000 * 700000000 := by rw [← eX]; exact Nat.mul_le_mul (by omega) hE1
    have hYb : Y ≤ 700000000 * 700000000 := by rw [← eY]; exact Nat.mul_le_mul (by omega) hB1'
    obtain ⟨t, et⟩ : ∃ x, adT a c b e = x := ⟨_, rfl⟩
    have ht := HT.out
    rw [et] at ht
    have M1 := Lib.hid (fun h => ad_same (a := a) (c := c) (E := E1) (B := B1) h ht)
    have M2 := Lib.hid (fun h h' => ad_more (a := a) (c := c) (E := E1) (B := B1) h h' ht)
    have M3 := Lib.hid (fun h h' => ad_less (a := a) (c := c) (E := E1) (B := B1) h h' ht)
    rw [eX, eY] at M1 M2 M3
    rw [eX] at ht7
    rw [eY] at ht8
    have htb : t.natAbs ≤ a.natAbs * E1 + c.natAbs * B1 := by
      rw [ht]; refine Nat.le_trans (Int.natAbs_add_le _ _) ?_; rw [Int.natAbs_mul, Int.natAbs_mul, Int.natAbs_natCast, Int.natAbs_natCast]; exact Nat.le_refl _
    rw [eX, eY] at htb
    have Htt := Lib.hid ht
    have Het := Lib.hid et
    clear ht et eX eY
    replace bX := bX.below hb
    replace bY := bY.below hb
    replace tR := tR.below hb hsR
    replace hsR : w.heap.size + 2 < w3.heap.size := Nat.lt_of_lt_of_le hsR hb.size
    replace hB := hB.trans (hb.mono hB.size)
    have b7 : BoxV w3 s7 [.int .u64 0, .int .u64 X] := boxV_ofTwo hl7 ht7
    have b8 : BoxV w3 s8 [.int .u64 0, .int .u64 Y] := boxV_ofTwo hl8 ht8
    clear hb k0 k1 k2 k3 lX lY ht7 ht8
    have k0 := bX.cell 0 _ rfl
    have k2 := bY.cell 0 _ rfl
    have j0 := b7.cell 0 _ rfl
    have j1 := b7.cell 1 _ rfl
    have j2 := b8.cell 0 _ rfl
    have j3 := b8.cell 1 _ rfl
    go_wp2_with fail
    refine (refPlus_any X Y _ (by omega)).mono ?_
    rintro r w4 ⟨rfl, hb⟩
    obtain ⟨w5, hw5⟩ : ∃ W, w4.alloc (.cells #[.int .u64 0, .int .u64 ((X : Int) + Y)] 86) = W := ⟨_, rfl⟩
    have hb45 : Below w3.heap.size w3 w5 := hb.trans ((below_alloc hw5).mono hb.size)
    have tS : Two w5 w4.heap.size (.int .u64 0) (.int .u64 ((X : Int) + Y)) := Two.new rfl hw5.symm
    have hsS : w4.heap.size < w5.heap.size := by rw [← hw5]; simp
    have hs34 : w3.heap.size ≤ w4.heap.size := hb.size
    obtain ⟨S10, hS10⟩ : ∃ S, w4.heap.size = S := ⟨_, rfl⟩
    rw [hS10] at tS hsS hs34
    replace bX := bX.below hb45
    replace bY := bY.below hb45
    replace tR := tR.below hb45 hsR
    replace b7 := b7.below hb45
    replace b8 := b8.below hb45
    have hsR5 : w.heap.size + 2 < w5.heap.size := Nat.lt_of_lt_of_le hsR hb45.size
    replace hB := hB.trans (hb45.mono hB.size)
    have hn7 : s7 < S10 := by omega
    have hn8 : s8 < S10 := by omega
    clear hb hb45 k0 k2 j0 j1 j2 j3 hl7 hl8
    go_upto_region 7 with (fail)
    clear hw5 hS10
    have k0 := bX.cell 0 _ rfl
    have k2 := bY.cell 0 _ rfl
    have j0 := b7.cell 0 _ rfl
    have j1 := b7.cell 1 _ rfl
    have j2 := b8.cell 0 _ rfl
    have j3 := b8.cell 1 _ rfl
    go_upto_if 61 with (fail)
    go_cut [9, 10] (fun t9 t10 wx => ∃ n s10, t9 = .bool n ∧ t10 = .pointer (some ⟨s10, 0, none⟩) ∧ Hid (t ≠ 0 → n = decide (t < 0)) ∧ Two wx s10 (.int .u64 0) (.int .u64 (t.natAbs : Int)) ∧ s10 < wx.heap.size ∧ Below S10 w5 wx)
    case first =>
      cases h1 : decide (a < 0) <;> cases h2 : decide (c < 0)
      · skip
        obtain ⟨m1, m2⟩ := M1.out (by rw [h1, h2])
        rw [h1] at m2
        have hm : ((t.natAbs : Nat) : Int) = (X : Int) + Y := by omega
        have Hm1 := Lib.hid hm
        have Hm2 := Lib.hid m2
        clear m1 m2 hm
        go_wp2_with fail
        go_meet
        exact ⟨_, S10, rfl, rfl, Hm2.out, by rw [Hm1.out]; exact tS, hsS, Below.refl _ _⟩
      · skip
        by_cases hXY : X < Y
        · obtain ⟨m1, m2⟩ := M3.out (by rw [h1, h2]; rfl) hXY
          rw [h2] at m2
          have hm : ((t.natAbs : Nat) : Int) = ((Y - X : Nat) : Int) := by omega
          have Hm1 := Lib.hid hm
          have Hm2 := Lib.hid m2
          have hd : decide (X < Y) = true := by simpa using hXY
          have HL := Lib.hid (fun W => (hd ▸ refLess2_any X Y W : Calls Tryz.prog 78 #[.agg #[.int .u64 0, .int .u64 X], .agg #[.int .u64 0, .int .u64 Y]] W fun e w' => e = .returned (.bool true) ∧ Below W.heap.size W w'))
          have HMn := Lib.hid (fun W => refMinusNeg_any X Y W hXY)
          have HMp := Lib.hid (fun W => refMinus_any Y X W (by omega) (by omega))
          clear m1 m2 hm hd hXY
          have q0 := tS.c0
          have q1 := tS.c1
          have q2 := tS.f0
          have q3 := tS.f1
          go_wp2_with fail
          refine (HMn.out _).mono ?_
          rintro r w6 ⟨h6, l6, rfl, hb⟩
          have tS6 := tS.below hb hsS
          have hs6 : S10 < w6.heap.size := Nat.lt_of_lt_of_le hsS hb.size
          have b6Y := bY.below hb
          have b67 := b7.below hb
          have b68 := b8.below hb
          have hb6 : Below S10 w5 w6 := hb.mono (Nat.le_of_lt hsS)
          clear q0 q1 q2 q3 j0 j1 j2 j3 k0 k2 hb
          have q0 := tS6.c0
          have q1 := tS6.c1
          have q2 := tS6.f0
          have q3 := tS6.f1
          have j0 := b67.cell 0 _ rfl
          have j1 := b67.cell 1 _ rfl
          have j2 := b68.cell 0 _ rfl
          have j3 := b68.cell 1 _ rfl
          go_wp2_with fail
          obtain ⟨w7, hw7⟩ : ∃ W, (w6.setCell ⟨S10, 0, none⟩ (.int .u64 h6)).setCell ⟨S10, 1, none⟩ (.int .u64 l6) = W := ⟨_, rfl⟩
          rw [hw7]
          have tS7 : Two w7 S10 (.int .u64 h6) (.int .u64 l6) := by rw [← hw7]; exact tS6.put
          have b7Y : BoxV w7 (w.heap.size + 1) [.int .i64 c, .int .i64 e] := by rw [← hw7]; exact (b6Y.beside (by omega)).beside (by omega)
          have b77 : BoxV w7 s7 [.int .u64 0, .int .u64 X] := by rw [← hw7]; exact (b67.beside (by omega)).beside (by omega)
          have b78 : BoxV w7 s8 [.int .u64 0, .int .u64 Y] := by rw [← hw7]; exact (b68.beside (by omega)).beside (by omega)
          have hs7 : S10 < w7.heap.size := by rw [← hw7]; simpa [World.setCell] using hs6
          have hb7 : Below S10 w5 w7 := by rw [← hw7]; exact (hb6.setCell (p := ⟨S10, 0, none⟩) (Nat.le_refl _) _).setCell (p := ⟨S10, 1, none⟩) (Nat.le_refl _) _
          clear hw7 q0 q1 q2 q3 j0 j1 j2 j3 tS6 b6Y b67 b68 hs6 hb6
          refine (HL.out _).mono ?_
          rintro r w8 ⟨rfl, hb⟩
          have tS8 := tS7.below hb hs7
          have hs8 : S10 < w8.heap.size := Nat.lt_of_lt_of_le hs7 hb.size
          have b8Y := b7Y.below hb
          have b87 := b77.below hb
          have b88 := b78.below hb
          have hb8 : Below S10 w5 w8 := hb7.trans (hb.mono (Nat.le_of_lt hs7))
          clear hb tS7 b7Y b77 b78 hs7 hb7
          have q0 := tS8.c0
          have q1 := tS8.c1
          have q2 := tS8.f0
          have q3 := tS8.f1
          have j0 := b87.cell 0 _ rfl
          have j1 := b87.cell 1 _ rfl
          have j2 := b88.cell 0 _ rfl
          have j3 := b88.cell 1 _ rfl
          have k2 := b8Y.cell 0 _ rfl
          go_wp2_with fail
          refine (HMp.out _).mono ?_
          rintro r w9 ⟨rfl, hb⟩
          have tS9 := tS8.below hb hs8
          have hs9 : S10 < w9.heap.size := Nat.lt_of_lt_of_le hs8 hb.size
          have b9Y := b8Y.below hb
          have hb9 : Below S10 w5 w9 := hb8.trans (hb.mono (Nat.le_of_lt hs8))
          clear hb q0 q1 q2 q3 j0 j1 j2 j3 k2 tS8 b8Y b87 b88 hs8 hb8
          have q0 := tS9.c0
          have q1 := tS9.c1
          have q2 := tS9.f0
          have q3 := tS9.f1
          have k2 := b9Y.cell 0 _ rfl
          have hne : w.heap.size + 1 ≠ S10 := by omega
          go_wp2_with fail
          go_meet
          exact ⟨_, S10, rfl, rfl, Hm2.out, by rw [Hm1.out]; exact tS9.put, by simpa [World.setCell] using hs9, (hb9.setCell (p := ⟨S10, 0, none⟩) (Nat.le_refl _) _).setCell (p := ⟨S10, 1, none⟩) (Nat.le_refl _) _⟩
        · obtain ⟨m1, m2⟩ := M2.out (by rw [h1, h2]; rfl) (by omega)
          rw [h1] at m2
          have hm : ((t.natAbs : Nat) : Int) = ((X - Y : Nat) : Int) := by omega
          have Hm1 := Lib.hid hm
          have Hm2 := Lib.hid m2
          have hd : decide (X < Y) = false := by simpa using hXY
          have HL := Lib.hid (fun W => (hd ▸ refLess2_any X Y W : Calls Tryz.prog 78 #[.agg #[.int .u64 0, .int .u64 X], .agg #[.int .u64 0, .int .u64 Y]] W fun e w' => e = .returned (.bool false) ∧ Below W.heap.size W w'))
          have HMn := Lib.hid (fun W => refMinus_any X Y W (by omega) (by omega))
          clear m1 m2 hm hd hXY
          have q0 := tS.c0
          have q1 := tS.c1
          have q2 := tS.f0
          have q3 := tS.f1
          go_wp2_with fail
          refine (HMn.out _).mono ?_
          rintro r w6 ⟨rfl, hb⟩
          have tS6 := tS.below hb hsS
          have hs6 : S10 < w6.heap.size := Nat.lt_of_lt_of_le hsS hb.size
          have b6Y := bY.below hb
          have b67 := b7.below hb
          have b68 := b8.below hb
          have hb6 : Below S10 w5 w6 := hb.mono (Nat.le_of_lt hsS)
          clear q0 q1 q2 q3 j0 j1 j2 j3 k0 k2 hb
          have q0 := tS6.c0
          have q1 := tS6.c1
          have q2 := tS6.f0
          have q3 := tS6.f1
          have j0 := b67.cell 0 _ rfl
          have j1 := b67.cell 1 _ rfl
          have j2 := b68.cell 0 _ rfl
          have j3 := b68.cell 1 _ rfl
          go_wp2_with fail
          obtain ⟨w7, hw7⟩ : ∃ W, (w6.setCell ⟨S10, 0, none⟩ (.int .u64 0)).setCell ⟨S10, 1, none⟩ (.int .u64 ((X - Y : Nat) : Int)) = W := ⟨_, rfl⟩
          rw [hw7]
          have tS7 : Two w7 S10 (.int .u64 0) (.int .u64 ((X - Y : Nat) : Int)) := by rw [← hw7]; exact tS6.put
          have b7Y : BoxV w7 (w.heap.size + 1) [.int .i64 c, .int .i64 e] := by rw [← hw7]; exact (b6Y.beside (by omega)).beside (by omega)
          have b77 : BoxV w7 s7 [.int .u64 0, .int .u64 X] := by rw [← hw7]; exact (b67.beside (by omega)).beside (by omega)
          have b78 : BoxV w7 s8 [.int .u64 0, .int .u64 Y] := by rw [← hw7]; exact (b68.beside (by omega)).beside (by omega)
          have hs7 : S10 < w7.heap.size := by rw [← hw7]; simpa [World.setCell] using hs6
          have hb7 : Below S10 w5 w7 := by rw [← hw7]; exact (hb6.setCell (p := ⟨S10, 0, none⟩) (Nat.le_refl _) _).setCell (p := ⟨S10, 1, none⟩) (Nat.le_refl _) _
          clear hw7 q0 q1 q2 q3 j0 j1 j2 j3 tS6 b6Y b67 b68 hs6 hb6
          refine (HL.out _).mono ?_
          rintro r w8 ⟨rfl, hb⟩
          have tS8 := tS7.below hb hs7
          have hs8 : S10 < w8.heap.size := Nat.lt_of_lt_of_le hs7 hb.size
          have b8Y := b7Y.below hb
          have b87 := b77.below hb
          have b88 := b78.below hb
          have hb8 : Below S10 w5 w8 := hb7.trans (hb.mono (Nat.le_of_lt hs7))
          clear hb tS7 b7Y b77 b78 hs7 hb7
          have q0 := tS8.c0
          have q1 := tS8.c1
          have q2 := tS8.f0
          have q3 := tS8.f1
          have j0 := b87.cell 0 _ rfl
          have j1 := b87.cell 1 _ rfl
          have j2 := b88.cell 0 _ rfl
          have j3 := b88.cell 1 _ rfl
          have k2 := b8Y.cell 0 _ rfl
          go_wp2_with fail
          go_meet
          exact ⟨_, S10, rfl, rfl, Hm2.out, by rw [Hm1.out]; exact tS8, hs8, hb8⟩
      · skip
        by_cases hXY : X < Y
        · obtain ⟨m1, m2⟩ := M3.out (by rw [h1, h2]; rfl) hXY
          rw [h2] at m2
          have hm : ((t.natAbs : Nat) : Int) = ((Y - X : Nat) : Int) := by omega
          have Hm1 := Lib.hid hm
          have Hm2 := Lib.hid m2
          have hd : decide (X < Y) = true := by simpa using hXY
          have HL := Lib.hid (fun W => (hd ▸ refLess2_any X Y W : Calls Tryz.prog 78 #[.agg #[.int .u64 0, .int .u64 X], .agg #[.int .u64 0, .int .u64 Y]] W fun e w' => e = .returned (.bool true) ∧ Below W.heap.size W w'))
          have HMn := Lib.hid (fun W => refMinusNeg_any X Y W hXY)
          have HMp := Lib.hid (fun W => refMinus_any Y X W (by omega) (by omega))
          clear m1 m2 hm hd hXY
          have q0 := tS.c0
          have q1 := tS.c1
          have q2 := tS.f0
          have q3 := tS.f1
          go_wp2_with fail
          refine (HMn.out _).mono ?_
          rintro r w6 ⟨h6, l6, rfl, hb⟩
          have tS6 := tS.below hb hsS
          have hs6 : S10 < w6.heap.size := Nat.lt_of_lt_of_le hsS hb.size
          have b6Y := bY.below hb
          have b67 := b7.below hb
          have b68 := b8.below hb
          have hb6 : Below S10 w5 w6 := hb.mono (Nat.le_of_lt hsS)
          clear q0 q1 q2 q3 j0 j1 j2 j3 k0 k2 hb
          have q0 := tS6.c0
          have q1 := tS6.c1
          have q2 := tS6.f0
          have q3 := tS6.f1
          have j0 := b67.cell 0 _ rfl
          have j1 := b67.cell 1 _ rfl
          have j2 := b68.cell 0 _ rfl
          have j3 := b68.cell 1 _ rfl
          go_wp2_with fail
          obtain ⟨w7, hw7⟩ : ∃ W, (w6.setCell ⟨S10, 0, none⟩ (.int .u64 h6)).setCell ⟨S10, 1, none⟩ (.int .u64 l6) = W := ⟨_, rfl⟩
          rw [hw7]
          have tS7 : Two w7 S10 (.int .u64 h6) (.int .u64 l6) := by rw [← hw7]; exact tS6.put
          have b7Y : BoxV w7 (w.heap.size + 1) [.int .i64 c, .int .i64 e] := by rw [← hw7]; exact (b6Y.beside (by omega)).beside (by omega)
          have b77 : BoxV w7 s7 [.int .u64 0, .int .u64 X] := by rw [← hw7]; exact (b67.beside (by omega)).beside (by omega)
          have b78 : BoxV w7 s8 [.int .u64 0, .int .u64 Y] := by rw [← hw7]; exact (b68.beside (by omega)).beside (by omega)
          have hs7 : S10 < w7.heap.size := by rw [← hw7]; simpa [World.setCell] using hs6
          have hb7 : Below S10 w5 w7 := by rw [← hw7]; exact (hb6.setCell (p := ⟨S10, 0, none⟩) (Nat.le_refl _) _).setCell (p := ⟨S10, 1, none⟩) (Nat.le_refl _) _
          clear hw7 q0 q1 q2 q3 j0 j1 j2 j3 tS6 b6Y b67 b68 hs6 hb6
          refine (HL.out _).mono ?_
          rintro r w8 ⟨rfl, hb⟩
          have tS8 := tS7.below hb hs7
          have hs8 : S10 < w8.heap.size := Nat.lt_of_lt_of_le hs7 hb.size
          have b8Y := b7Y.below hb
          have b87 := b77.below hb
          have b88 := b78.below hb
          have hb8 : Below S10 w5 w8 := hb7.trans (hb.mono (Nat.le_of_lt hs7))
          clear hb tS7 b7Y b77 b78 hs7 hb7
          have q0 := tS8.c0
          have q1 := tS8.c1
          have q2 := tS8.f0
          have q3 := tS8.f1
          have j0 := b87.cell 0 _ rfl
          have j1 := b87.cell 1 _ rfl
          have j2 := b88.cell 0 _ rfl
          have j3 := b88.cell 1 _ rfl
          have k2 := b8Y.cell 0 _ rfl
          go_wp2_with fail
          refine (HMp.out _).mono ?_
          rintro r w9 ⟨rfl, hb⟩
          have tS9 := tS8.below hb hs8
          have hs9 : S10 < w9.heap.size := Nat.lt_of_lt_of_le hs8 hb.size
          have b9Y := b8Y.below hb
          have hb9 : Below S10 w5 w9 := hb8.trans (hb.mono (Nat.le_of_lt hs8))
          clear hb q0 q1 q2 q3 j0 j1 j2 j3 k2 tS8 b8Y b87 b88 hs8 hb8
          have q0 := tS9.c0
          have q1 := tS9.c1
          have q2 := tS9.f0
          have q3 := tS9.f1
          have k2 := b9Y.cell 0 _ rfl
          have hne : w.heap.size + 1 ≠ S10 := by omega
          go_wp2_with fail
          go_meet
          exact ⟨_, S10, rfl, rfl, Hm2.out, by rw [Hm1.out]; exact tS9.put, by simpa [World.setCell] using hs9, (hb9.setCell (p := ⟨S10, 0, none⟩) (Nat.le_refl _) _).setCell (p := ⟨S10, 1, none⟩) (Nat.le_refl _) _⟩
        · obtain ⟨m1, m2⟩ := M2.out (by rw [h1, h2]; rfl) (by omega)
          rw [h1] at m2
          have hm : ((t.natAbs : Nat) : Int) = ((X - Y : Nat) : Int) := by omega
          have Hm1 := Lib.hid hm
          have Hm2 := Lib.hid m2
          have hd : decide (X < Y) = false := by simpa using hXY
          have HL := Lib.hid (fun W => (hd ▸ refLess2_any X Y W : Calls Tryz.prog 78 #[.agg #[.int .u64 0, .int .u64 X], .agg #[.int .u64 0, .int .u64 Y]] W fun e w' => e = .returned (.bool false) ∧ Below W.heap.size W w'))
          have HMn := Lib.hid (fun W => refMinus_any X Y W (by omega) (by omega))
          clear m1 m2 hm hd hXY
          have q0 := tS.c0
          have q1 := tS.c1
          have q2 := tS.f0
          have q3 := tS.f1
          go_wp2_with fail
          refine (HMn.out _).mono ?_
          rintro r w6 ⟨rfl, hb⟩
          have tS6 := tS.below hb hsS
          have hs6 : S10 < w6.heap.size := Nat.lt_of_lt_of_le hsS hb.size
          have b6Y := bY.below hb
          have b67 := b7.below hb
          have b68 := b8.below hb
          have hb6 : Below S10 w5 w6 := hb.mono (Nat.le_of_lt hsS)
          clear q0 q1 q2 q3 j0 j1 j2 j3 k0 k2 hb
          have q0 := tS6.c0
          have q1 := tS6.c1
          have q2 := tS6.f0
          have q3 := tS6.f1
          have j0 := b67.cell 0 _ rfl
          have j1 := b67.cell 1 _ rfl
          have j2 := b68.cell 0 _ rfl
          have j3 := b68.cell 1 _ rfl
          go_wp2_with fail
          obtain ⟨w7, hw7⟩ : ∃ W, (w6.setCell ⟨S10, 0, none⟩ (.int .u64 0)).setCell ⟨S10, 1, none⟩ (.int .u64 ((X - Y : Nat) : Int)) = W := ⟨_, rfl⟩
          rw [hw7]
          have tS7 : Two w7 S10 (.int .u64 0) (.int .u64 ((X - Y : Nat) : Int)) := by rw [← hw7]; exact tS6.put
          have b7Y : BoxV w7 (w.heap.size + 1) [.int .i64 c, .int .i64 e] := by rw [← hw7]; exact (b6Y.beside (by omega)).beside (by omega)
          have b77 : BoxV w7 s7 [.int .u64 0, .int .u64 X] := by rw [← hw7]; exact (b67.beside (by omega)).beside (by omega)
          have b78 : BoxV w7 s8 [.int .u64 0, .int .u64 Y] := by rw [← hw7]; exact (b68.beside (by omega)).beside (by omega)
          have hs7 : S10 < w7.heap.size := by rw [← hw7]; simpa [World.setCell] using hs6
          have hb7 : Below S10 w5 w7 := by rw [← hw7]; exact (hb6.setCell (p := ⟨S10, 0, none⟩) (Nat.le_refl _) _).setCell (p := ⟨S10, 1, none⟩) (Nat.le_refl _) _
          clear hw7 q0 q1 q2 q3 j0 j1 j2 j3 tS6 b6Y b67 b68 hs6 hb6
          refine (HL.out _).mono ?_
          rintro r w8 ⟨rfl, hb⟩
          have tS8 := tS7.below hb hs7
          have hs8 : S10 < w8.heap.size := Nat.lt_of_lt_of_le hs7 hb.size
          have b8Y := b7Y.below hb
          have b87 := b77.below hb
          have b88 := b78.below hb
          have hb8 : Below S10 w5 w8 := hb7.trans (hb.mono (Nat.le_of_lt hs7))
          clear hb tS7 b7Y b77 b78 hs7 hb7
          have q0 := tS8.c0
          have q1 := tS8.c1
          have q2 := tS8.f0
          have q3 := tS8.f1
          have j0 := b87.cell 0 _ rfl
          have j1 := b87.cell 1 _ rfl
          have j2 := b88.cell 0 _ rfl
          have j3 := b88.cell 1 _ rfl
          have k2 := b8Y.cell 0 _ rfl
          go_wp2_with fail
          go_meet
          exact ⟨_, S10, rfl, rfl, Hm2.out, by rw [Hm1.out]; exact tS8, hs8, hb8⟩
      · skip
        obtain ⟨m1, m2⟩ := M1.out (by rw [h1, h2])
        rw [h1] at m2
        have hm : ((t.natAbs : Nat) : Int) = (X : Int) + Y := by omega
        have Hm1 := Lib.hid hm
        have Hm2 := Lib.hid m2
        clear m1 m2 hm
        go_wp2_with fail
        go_meet
        exact ⟨_, S10, rfl, rfl, Hm2.out, by rw [Hm1.out]; exact tS, hsS, Below.refl _ _⟩
    case rest =>
      obtain ⟨n, s10, rfl, rfl, hn, tC, hsC, hb⟩ := hcut
      replace bX := bX.belowB hb (by omega)
      replace bY := bY.belowB hb (by omega)
      replace tR := tR.below hb (by omega)
      replace hB := hB.trans (hb.mono (by omega))
      have hsz5 := hb.size
      have hsR6 : w.heap.size + 2 < wc.heap.size := by omega
      clear hb k0 k2 j0 j1 j2 j3 b7 b8 tS hsS hn7 hn8 hs34 M1 M2 M3
      have c0 := tC.c0
      have c1' := tC.c1
      have r0 := tR.c0
      have r1 := tR.c1
      have r2 := tR.f0
      have r3 := tR.f1
      by_cases h0 : t = 0
      · have hd : ((t.natAbs : Nat) : Int) = 0 := by omega
        rw [hd] at c1'
        clear hn
        have hz : a * (e : Int) + c * b = 0 := by
          obtain ⟨u1, u2⟩ := Hge.out
          rw [u1, u2, Int.mul_left_comm, Int.mul_left_comm c, ← Int.mul_add, ← Htt.out, h0, Int.mul_zero]
        have HZ := Lib.hid hz
        clear hz h0 hd
        go_wp2_with fail
        obtain ⟨k0, k1⟩ := Two.set (x := .int .i64 0) (y := .int .i64 1) r0 r1
        refine bodyPost_ret (v := .tuple #[.agg #[.int .i64 0, .int .i64 1], .int .i64 0]) (by simp [results, Tryz.results58, go_sem, k0, k1]) rfl ⟨?_, ?_⟩
        · rw [HZ.out]
          obtain ⟨u1, u2⟩ := rat_zero (d := b * e) (Nat.mul_pos b1 e1)
          unfold ratV
          rw [u1, u2]
        · exact (hB.setCell (p := ⟨w.heap.size + 1 + 1, 0, none⟩) (by simp only; omega) _).setCell (p := ⟨w.heap.size + 1 + 1, 1, none⟩) (by simp only; omega) _
      · have hd : ((t.natAbs : Nat) : Int) ≠ 0 := by omega
        have hS1 := fun W => refSplit_any t.natAbs g W (by omega) hg0 (by omega)
        have hG2 := fun W => refGcd_any (t.natAbs % g) g W (by have := Nat.mod_lt t.natAbs hg0; omega) (by omega)
        have hh := HH.out
        rw [Het.out] at hh
        rw [← hh] at hG2
        have hR := R.out
        rw [Het.out] at hR
        have hh0 : 0 < adH a c b e := hh ▸ Nat.gcd_pos_of_pos_right _ hg0
        have hhg : adH a c b e ≤ g := hh ▸ Nat.le_of_dvd hg0 (Nat.gcd_dvd_right _ _)
        obtain ⟨h', eh⟩ : ∃ x, adH a c b e = x := ⟨_, rfl⟩
        rw [eh] at hG2 hR hh0 hhg
        have hS2 := fun W => refSplit_any t.natAbs h' W (by omega) hh0 (by omega)
        obtain ⟨q1, eq1⟩ : ∃ x, t.natAbs / g = x := ⟨_, rfl⟩
        obtain ⟨p1, ep1⟩ : ∃ x, t.natAbs % g = x := ⟨_, rfl⟩
        obtain ⟨q2, eq2⟩ : ∃ x, t.natAbs / h' = x := ⟨_, rfl⟩
        obtain ⟨p2, ep2⟩ : ∃ x, t.natAbs % h' = x := ⟨_, rfl⟩
        obtain ⟨E2, eE2⟩ : ∃ x, e / h' = x := ⟨_, rfl⟩
        have hq2 : q2 ≤ 1000000000000000000 := by rw [← eq2]; exact Nat.le_trans (Nat.div_le_self _ _) (by omega)
        have hE2 : E2 ≤ 700000000 := by rw [← eE2]; exact Nat.le_trans (Nat.div_le_self _ _) e2
        have hD2 : B1 * E2 ≤ 1000000000000000000 := Nat.le_trans (Nat.mul_le_mul hB1' hE2) (by decide)
        rw [eq1, ep1] at hS1
        rw [ep1] at hG2
        rw [eq2, ep2] at hS2
        rw [eq2, eE2, ← hn.out h0] at hR
        have HS1 := Lib.hid hS1
        have HS2 := Lib.hid hS2
        have HG2 := Lib.hid hG2
        have HR := Lib.hid hR
        clear hS1 hS2 hG2 hR hh eh eq1 ep1 eq2 ep2 hn h0 htb
        have hd2 : ((t.natAbs : Nat) : Int) ≠ 0 := hd
        go_wp2_with fail
        refine (HS1.out _).mono ?_
        rintro r x1 ⟨rfl, hb⟩
        obtain ⟨x2, hx2⟩ : ∃ W, x1.alloc (.cells #[.int .u64 0, .int .u64 (q1 : Int)] 86) = W := ⟨_, rfl⟩
        have hb2 : Below wc.heap.size wc x2 := hb.trans ((below_alloc hx2).mono hb.size)
        replace bX := bX.below hb2
        replace bY := bY.below hb2
        replace tR := tR.below hb2 hsR6
        replace tC := tC.below hb2 hsC
        replace hB := hB.trans (hb2.mono hB.size)
        replace hsR6 := Nat.lt_of_lt_of_le hsR6 hb2.size
        replace hsC := Nat.lt_of_lt_of_le hsC hb2.size
        clear hb hb2 c0 c1' r0 r1 r2 r3
        go_wp2_with fail
        refine (HG2.out _).mono ?_
        rintro r x3 ⟨rfl, hw⟩
        have hb : Below x2.heap.size x2 x3 := by obtain ⟨n', rfl⟩ := hw; exact below_drewN _ _ _
        replace bX := bX.below hb
        replace bY := bY.below hb
        replace tR := tR.below hb hsR6
        replace tC := tC.below hb hsC
        replace hB := hB.trans (hb.mono hB.size)
        replace hsR6 := Nat.lt_of_lt_of_le hsR6 hb.size
        replace hsC := Nat.lt_of_lt_of_le hsC hb.size
        clear hb hw hx2
        have c0 := tC.c0
        have c1' := tC.c1
        go_wp2_with fail
        refine (HS2.out _).mono ?_
        rintro r x4 ⟨rfl, hb⟩
        have hx4 := Nat.lt_of_lt_of_le hsR6 hb.size
        obtain ⟨x5, hx5⟩ : ∃ W, x4.alloc (.cells #[.int .u64 0, .int .u64 (q2 : Int)] 86) = W := ⟨_, rfl⟩
        have hb2 : Below x3.heap.size x3 x5 := hb.trans ((below_alloc hx5).mono hb.size)
        have tQ : Two x5 x4.heap.size (.int .u64 0) (.int .u64 (q2 : Int)) := Two.new rfl hx5.symm
        have hsQ : x4.heap.size < x5.heap.size := by rw [← hx5]; simp
        replace bX := bX.below hb2
        replace bY := bY.below hb2
        replace tR := tR.below hb2 hsR6
        replace tC := tC.below hb2 hsC
        replace hB := hB.trans (hb2.mono hB.size)
        replace hsR6 := Nat.lt_of_lt_of_le hsR6 hb2.size
        replace hsC := Nat.lt_of_lt_of_le hsC hb2.size
        clear hb hb2 c0 c1'
        go_wp2_with fail
        have kX1 := bX.cell 1 _ rfl
        have kY1 := bY.cell 1 _ rfl
        have kQ0 := tQ.c0
        have kQ1 := tQ.c1
        have lX := bX.lt
        have lY := bY.lt
        have hb0 : w.heap.size ≤ x5.heap.size := by omega
        have hRB : w.heap.size + 1 + 1 < x5.heap.size := hsR6
        have hbR : w.heap.size ≤ w.heap.size + 1 + 1 := by omega
        obtain ⟨SQ, hSQ⟩ : ∃ S, x4.heap.size = S := ⟨_, rfl⟩
        have hQR : SQ ≠ w.heap.size + 1 + 1 := by omega
        rw [hSQ] at kQ0 kQ1 hsQ ⊢
        have qB := HBb.out
        have qE2 := Lib.hid (show (e : Int).tdiv h' = E2 ∧ (e : Int) / h' = E2 ∧ h' ≠ 0 ∧ IntKind.u64.wrap (E2 : Int) = E2 from ⟨by rw [Int.tdiv_eq_ediv_of_nonneg (by omega), ← eE2]; simp, by rw [← eE2]; simp, by omega, wrap_u (by omega)⟩)
        have TT := Lib.hid (fun W => refTimes_any B1 E2 W (by omega) (by omega))
        have MM := Lib.hid (fun W => made_any n q2 (B1 * E2) W hq2 hD2)
        clear hSQ hx5 qB
        refine wp_region_inv (by kernel_rfl) (by decide +kernel) (by decide +kernel) _ _ (PutJ w.heap.size x5 (w.heap.size + 1 + 1) 16 (fun k => match k with | 0 => (.bool n) | 1 => (.agg #[.int .u64 0, .int .u64 (q2 : Int)]) | 2 => (.pointer (some ⟨w.heap.size, 1, none⟩)) | 3 => (.int .i64 b) | 4 => (.int .u64 b) | 5 => (.int .u64 g) | 6 => (.int .u64 B1) | 7 => (.pointer (some ⟨w.heap.size + 1, 1, none⟩)) | 8 => (.int .i64 e) | 9 => (.int .u64 e) | 10 => (.int .u64 h') | 11 => (.int .u64 E2) | 12 => (.agg #[.int .u64 0, .int .u64 ((B1 * E2 : Nat) : Int)]) | 13 => (.tuple #[.agg #[.int .i64 (sgn n q2), .int .i64 ((B1 * E2 : Nat) : Int)], .int .i64 0]) | 14 => (.agg #[.int .i64 (sgn n q2), .int .i64 ((B1 * E2 : Nat) : Int)]) | 15 => (.int .i64 0) | 17 => (.int .i64 0) | _ => undef) (.int .i64 0) (.int .i64 0) (.int .i64 (sgn n q2)) (.int .i64 ((B1 * E2 : Nat) : Int))) ?_ ?_ ?_
        · exact fun us => PutJ.start us hRB tR
        · intro us D W i o A hA hi hJ hnD hon K hK
          have hlt : i < 18 := (Array.getElem?_eq_some_iff.1 hi).1
          rcases lt18 hlt with rfl | rfl | rfl | rfl | rfl | rfl | rfl | rfl | rfl | rfl | rfl | rfl | rfl | rfl | rfl | rfl | rfl | rfl
          · have hi' := Option.some.inj hi
            subst hi'
            refine wp_val (v := (.bool n)) (w' := W) ?_ (hK _ _ (hJ.pure (i := 0) (by decide) hb0 hRB (Below.refl _ _)))
            · skip
              have e9 : A.tmps[9]?.getD undef = (.bool n) := by rw [hA]; kernel_rfl
              clear hA hK hon hJ
              go_simp
          · have hi' := Option.some.inj hi
            subst hi'
            refine wp_val (v := (.agg #[.int .u64 0, .int .u64 (q2 : Int)])) (w' := W) ?_ (hK _ _ (hJ.pure (i := 1) (by decide) hb0 hRB (Below.refl _ _)))
            · skip
              have e14 : A.tmps[14]?.getD undef = (.pointer (some ⟨SQ, 0, none⟩)) := by rw [hA]; kernel_rfl
              have cc := (hJ.far (SQ) 0 hsQ hQR).trans kQ0
              have cc2 := (hJ.far (SQ) 1 hsQ hQR).trans kQ1
              clear hA hK hon hJ
              go_simp
          · have hi' := Option.some.inj hi
            subst hi'
            refine wp_val (v := (.pointer (some ⟨w.heap.size, 1, none⟩))) (w' := W) ?_ (hK _ _ (hJ.pure (i := 2) (by decide) hb0 hRB (Below.refl _ _)))
            · skip
              have e2 : A.tmps[2]?.getD undef = (.pointer (some ⟨w.heap.size, 0, none⟩)) := by rw [hA]; kernel_rfl
              clear hA hK hon hJ
              go_simp
          · have hi' := Option.some.inj hi
            subst hi'
            refine wp_val (v := (.int .i64 b)) (w' := W) ?_ (hK _ _ (hJ.pure (i := 3) (by decide) hb0 hRB (Below.refl _ _)))
            · skip
              have e95 : A.tmps[95]?.getD undef = (.pointer (some ⟨w.heap.size, 1, none⟩)) := (by rw [hA]; kernel_rfl : A.tmps[95]?.getD undef = us 2).trans (hJ.val 2 (by decide) (hon 2 (by decide +kernel)))
              have cc := (hJ.far (w.heap.size) 1 lX (by omega)).trans kX1
              clear hA hK hon hJ
              go_simp
          · have hi' := Option.some.inj hi
            subst hi'
            refine wp_val (v := (.int .u64 b)) (w' := W) ?_ (hK _ _ (hJ.pure (i := 4) (by decide) hb0 hRB (Below.refl _ _)))
            · skip
              have e96 : A.tmps[96]?.getD undef = (.int .i64 b) := (by rw [hA]; kernel_rfl : A.tmps[96]?.getD undef = us 3).trans (hJ.val 3 (by decide) (hon 3 (by decide +kernel)))
              clear hA hK hon hJ
              go_simp
          · have hi' := Option.some.inj hi
            subst hi'
            refine wp_val (v := (.int .u64 g)) (w' := W) ?_ (hK _ _ (hJ.pure (i := 5) (by decide) hb0 hRB (Below.refl _ _)))
            · skip
              have e6 : A.tmps[6]?.getD undef = (.int .u64 g) := by rw [hA]; kernel_rfl
              clear hA hK hon hJ
              go_simp
          · have hi' := Option.some.inj hi
            subst hi'
            refine wp_val (v := (.int .u64 B1)) (w' := W) ?_ (hK _ _ (hJ.pure (i := 6) (by decide) hb0 hRB (Below.refl _ _)))
            · skip
              have e97 : A.tmps[97]?.getD undef = (.int .u64 b) := (by rw [hA]; kernel_rfl : A.tmps[97]?.getD undef = us 4).trans (hJ.val 4 (by decide) (hon 4 (by decide +kernel)))
              have e98 : A.tmps[98]?.getD undef = (.int .u64 g) := (by rw [hA]; kernel_rfl : A.tmps[98]?.getD undef = us 5).trans (hJ.val 5 (by decide) (hon 5 (by decide +kernel)))
              obtain ⟨qa, qb, qc, qd⟩ := HBb.out
              clear hA hK hon hJ
              go_simp
          · have hi' := Option.some.inj hi
            subst hi'
            refine wp_val (v := (.pointer (some ⟨w.heap.size + 1, 1, none⟩))) (w' := W) ?_ (hK _ _ (hJ.pure (i := 7) (by decide) hb0 hRB (Below.refl _ _)))
            · skip
              have e3 : A.tmps[3]?.getD undef = (.pointer (some ⟨w.heap.size + 1, 0, none⟩)) := by rw [hA]; kernel_rfl
              clear hA hK hon hJ
              go_simp
          · have hi' := Option.some.inj hi
            subst hi'
            refine wp_val (v := (.int .i64 e)) (w' := W) ?_ (hK _ _ (hJ.pure (i := 8) (by decide) hb0 hRB (Below.refl _ _)))
            · skip
              have e100 : A.tmps[100]?.getD undef = (.pointer (some ⟨w.heap.size + 1, 1, none⟩)) := (by rw [hA]; kernel_rfl : A.tmps[100]?.getD undef = us 7).trans (hJ.val 7 (by decide) (hon 7 (by decide +kernel)))
              have cc := (hJ.far (w.heap.size + 1) 1 lY (by omega)).trans kY1
              clear hA hK hon hJ
              go_simp
          · have hi' := Option.some.inj hi
            subst hi'
            refine wp_val (v := (.int .u64 e)) (w' := W) ?_ (hK _ _ (hJ.pure (i := 9) (by decide) hb0 hRB (Below.refl _ _)))
            · skip
              have e101 : A.tmps[101]?.getD undef = (.int .i64 e) := (by rw [hA]; kernel_rfl : A.tmps[101]?.getD undef = us 8).trans (hJ.val 8 (by decide) (hon 8 (by decide +kernel)))
              clear hA hK hon hJ
              go_simp
          · have hi' := Option.some.inj hi
            subst hi'
            refine wp_val (v := (.int .u64 h')) (w' := W) ?_ (hK _ _ (hJ.pure (i := 10) (by decide) hb0 hRB (Below.refl _ _)))
            · skip
              have e13 : A.tmps[13]?.getD undef = (.int .u64 h') := by rw [hA]; kernel_rfl
              clear hA hK hon hJ
              go_simp
          · have hi' := Option.some.inj hi
            subst hi'
            refine wp_val (v := (.int .u64 E2)) (w' := W) ?_ (hK _ _ (hJ.pure (i := 11) (by decide) hb0 hRB (Below.refl _ _)))
            · skip
              have e102 : A.tmps[102]?.getD undef = (.int .u64 e) := (by rw [hA]; kernel_rfl : A.tmps[102]?.getD undef = us 9).trans (hJ.val 9 (by decide) (hon 9 (by decide +kernel)))
              have e103 : A.tmps[103]?.getD undef = (.int .u64 h') := (by rw [hA]; kernel_rfl : A.tmps[103]?.getD undef = us 10).trans (hJ.val 10 (by decide) (hon 10 (by decide +kernel)))
              obtain ⟨qa, qb, qc, qd⟩ := qE2.out
              clear hA hK hon hJ
              go_simp
          · have hi' := Option.some.inj hi
            subst hi'
            refine wp_enter (f := 75) (args := #[.int .u64 B1, .int .u64 E2]) (w' := W) ?_ ((TT.out W).mono ?_)
            · skip
              have e99 : A.tmps[99]?.getD undef = (.int .u64 B1) := (by rw [hA]; kernel_rfl : A.tmps[99]?.getD undef = us 6).trans (hJ.val 6 (by decide) (hon 6 (by decide +kernel)))
              have e104 : A.tmps[104]?.getD undef = (.int .u64 E2) := (by rw [hA]; kernel_rfl : A.tmps[104]?.getD undef = us 11).trans (hJ.val 11 (by decide) (hon 11 (by decide +kernel)))
              clear hA hK hon hJ
              go_simp
            · rintro r' wC ⟨rfl, hbC⟩
              exact ⟨_, rfl, hK _ _ (hJ.pure (i := 12) (by decide) hb0 hRB hbC)⟩
          · have hi' := Option.some.inj hi
            subst hi'
            refine wp_enter (f := 53) (args := #[.bool n, (.agg #[.int .u64 0, .int .u64 (q2 : Int)]), (.agg #[.int .u64 0, .int .u64 ((B1 * E2 : Nat) : Int)])]) (w' := W) ?_ ((MM.out W).mono ?_)
            · skip
              have e93 : A.tmps[93]?.getD undef = (.bool n) := (by rw [hA]; kernel_rfl : A.tmps[93]?.getD undef = us 0).trans (hJ.val 0 (by decide) (hon 0 (by decide +kernel)))
              have e94 : A.tmps[94]?.getD undef = (.agg #[.int .u64 0, .int .u64 (q2 : Int)]) := (by rw [hA]; kernel_rfl : A.tmps[94]?.getD undef = us 1).trans (hJ.val 1 (by decide) (hon 1 (by decide +kernel)))
              have e105 : A.tmps[105]?.getD undef = (.agg #[.int .u64 0, .int .u64 ((B1 * E2 : Nat) : Int)]) := (by rw [hA]; kernel_rfl : A.tmps[105]?.getD undef = us 12).trans (hJ.val 12 (by decide) (hon 12 (by decide +kernel)))
              clear hA hK hon hJ
              go_simp
            · rintro r' wC ⟨rfl, hbC⟩
              exact ⟨_, rfl, hK _ _ (hJ.pure (i := 13) (by decide) hb0 hRB hbC)⟩
          · have hi' := Option.some.inj hi
            subst hi'
            refine wp_val (v := (.agg #[.int .i64 (sgn n q2), .int .i64 ((B1 * E2 : Nat) : Int)])) (w' := W) ?_ (hK _ _ (hJ.pure (i := 14) (by decide) hb0 hRB (Below.refl _ _)))
            · skip
              have e106 : A.tmps[106]?.getD undef = (.tuple #[.agg #[.int .i64 (sgn n q2), .int .i64 ((B1 * E2 : Nat) : Int)], .int .i64 0]) := (by rw [hA]; kernel_rfl : A.tmps[106]?.getD undef = us 13).trans (hJ.val 13 (by decide) (hon 13 (by decide +kernel)))
              clear hA hK hon hJ
              go_simp
          · have hi' := Option.some.inj hi
            subst hi'
            refine wp_val (v := (.int .i64 0)) (w' := W) ?_ (hK _ _ (hJ.pure (i := 15) (by decide) hb0 hRB (Below.refl _ _)))
            · skip
              have e106 : A.tmps[106]?.getD undef = (.tuple #[.agg #[.int .i64 (sgn n q2), .int .i64 ((B1 * E2 : Nat) : Int)], .int .i64 0]) := (by rw [hA]; kernel_rfl : A.tmps[106]?.getD undef = us 13).trans (hJ.val 13 (by decide) (hon 13 (by decide +kernel)))
              clear hA hK hon hJ
              go_simp
          · have hi' := Option.some.inj hi
            subst hi'
            have ht := hJ.two hnD
            refine wp_skip (w' := (W.setCell ⟨w.heap.size + 1 + 1, 0, none⟩ (.int .i64 (sgn n q2))).setCell ⟨w.heap.size + 1 + 1, 1, none⟩ (.int .i64 ((B1 * E2 : Nat) : Int))) ?_ (hK _ _ (hJ.store hnD hbR undef))
            · skip
              have e4 : A.tmps[4]?.getD undef = (.pointer (some ⟨w.heap.size + 1 + 1, 0, none⟩)) := by rw [hA]; kernel_rfl
              have e107 : A.tmps[107]?.getD undef = (.agg #[.int .i64 (sgn n q2), .int .i64 ((B1 * E2 : Nat) : Int)]) := (by rw [hA]; kernel_rfl : A.tmps[107]?.getD undef = us 14).trans (hJ.val 14 (by decide) (hon 14 (by decide +kernel)))
              have c0 := ht.c0
              have c1 := ht.c1
              have f0 := ht.f0
              have f1 := ht.f1
              clear ht
              clear hA hK hon hJ
              go_simp
          · have hi' := Option.some.inj hi
            subst hi'
            refine wp_val (v := (.int .i64 0)) (w' := W) ?_ (hK _ _ (hJ.pure (i := 17) (by decide) hb0 hRB (Below.refl _ _)))
            · skip
              have e108 : A.tmps[108]?.getD undef = (.int .i64 0) := (by rw [hA]; kernel_rfl : A.tmps[108]?.getD undef = us 15).trans (hJ.val 15 (by decide) (hon 15 (by decide +kernel)))
              clear hA hK hon hJ
              go_simp
        · intro us D y1 hJ hall
          have hp := hJ.put (hall 16 (by decide))
          have hbel := hJ.bel
          have h17 : us 17 = .int .i64 0 := hJ.val 17 (by decide) (hall 17 (by decide))
          clear hJ hall
          simp only [actL, slotL, putL, List.setIfInBounds_toArray, List.set_cons_zero, List.set_cons_succ, Nat.zero_add, Nat.reduceAdd, h17]
          have c0 := hp.c0
          have c1 := hp.c1
          clear hp kX1 kY1 kQ1 kQ0 bX bY tR tC tQ h17
          go_wp2_with fail
          refine bodyPost_ret (v := .tuple #[.agg #[.int .i64 (sgn n q2), .int .i64 ((B1 * E2 : Nat) : Int)], .int .i64 0]) (by simp [results, Tryz.results58, go_sem, c0, c1]) rfl ⟨?_, hB.trans hbel⟩
          obtain ⟨u1, u2⟩ := HR.out
          unfold ratV
          rw [u1, u2]
end Go.Proofs.YtllcbcanohdepaaGreat
