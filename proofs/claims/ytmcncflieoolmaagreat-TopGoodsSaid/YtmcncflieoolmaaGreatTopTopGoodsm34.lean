/- The walks of adjust.Valid and Values, for divisions that Divide finds. -/
import Derived.Test.YtmcncflieoolmaaGreatTopTopGoodsm32
import Derived.Test.YtmcncflieoolmaaGreatTopTopGoodsm4
import Derived.Test.YtmcncflieoolmaaGreatTopTopGoodsm16
import Derived.Test.YtmcncflieoolmaaGreatTopTopGoodsm3
import Derived.Test.YtmcncflieoolmaaGreatTopTopGoodsm14
import Derived.BigQuiet
import Derived.BigRegion
import Derived.Deep.RegionHeld3
import Derived.Deep.DeepCutAuto
import Derived.Test.YtmcncflieoolmaaGreatTopTopGoodsm15
import Derived.Test.YtmcncflieoolmaaGreatTopTopGoodsm5
/- The walks of adjust.Valid and Values, for divisions that Divide finds. -/
namespace Go.Proofs.YtmcncflieoolmaaGreat
set_option linter.unusedVariables false
set_option linter.unusedSimpArgs false
open Go.ChangeShapes Go.WideShapes Go.ChangeAt Go.RowKit Go.Deep


theorem hasB_out {A : List Int} (h : ∀ k, k < A.length → 0 ≤ iget A k) : hasB A (-1) = false := by
  unfold hasB
  rw [decide_eq_false_iff_not]
  intro hh
  obtain ⟨j, hj, e⟩ := List.mem_iff_getElem.1 hh
  have := h j hj
  have e2 : iget A j = -1 := by rw [← e]; simp [iget, List.getD, hj]
  omega
set_option maxHeartbeats 1600000 in
set_option maxRecDepth 100000 in
theorem adjValid_any (p : Option Addr) (c : Nat) (v : List (List Int)) (q : Option Addr) (d n : Nat) (A : List Int) (s pn pd : Int) (w : World) (hx : Mat w p c v) (hA : Ints w q d A) (hn : A.length = n) (hg : Gds v) (h2 : v.length = 2) (hall : allG v 0 = allG v 1) (hnz : allG v 0 ≠ 0) (hD : DivOk v A s pn pd) :
    Calls Tryz.prog 56 #[.agg #[.slice p v.length c], .agg #[.slice q n d, .int .i64 s, .int .i64 pn, .int .i64 pd]] w fun e w' => e = .returned (.int .i64 0) ∧ Below w.heap.size w w' := by
  obtain ⟨W0, hW0⟩ : ∃ W0, w.alloc (.cells #[.slice p v.length c] 24) = W0 := ⟨_, rfl⟩
  have hB : Below w.heap.size w W0 := below_alloc hW0
  have bX : BoxV W0 w.heap.size [.slice p v.length c] := BoxV.new rfl hW0
  obtain ⟨W1, hW1⟩ : ∃ W1, W0.alloc (.cells #[.slice q n d, .int .i64 s, .int .i64 pn, .int .i64 pd] 52) = W1 := ⟨_, rfl⟩
  have hB1 : Below W0.heap.size W0 W1 := below_alloc hW1
  have bY : BoxV W1 W0.heap.size [.slice q n d, .int .i64 s, .int .i64 pn, .int .i64 pd] := BoxV.new rfl hW1
  have hS : W0.heap.size = w.heap.size + 1 := by rw [← hW0]; simp
  rw [hS] at bY
  have bX := bX.below hB1
  have hx := (hx.below hB (Nat.le_refl _)).below hB1 (Nat.le_refl _)
  have hA := (hA.below hB (Nat.le_refl _)).below hB1 (Nat.le_refl _)
  have hBw : Below w.heap.size w W1 := hB.trans (hB1.mono hB.size)
  have HC := Lib.hid (adjCheck_any p c v W1 hx hg h2 hall hnz)
  have hOk : AlcOk v A := ⟨hD.len, fun k hk => by have := hD.two k (by rw [← hD.len]; exact hk); omega⟩
  have HV := Lib.hid (fun W (h : Below W1.heap.size W1 W) => by
    have := goodsValid_any p c v q d A W (hx.below h (Nat.le_refl _)) (hA.below h (Nat.le_refl _))
    rw [chkA_ok hg hOk, hn] at this
    exact this)
  have HN := Lib.hid (fun W (h : Below W1.heap.size W1 W) => by
    have := contains_any q d A (-1) W (hA.below h (Nat.le_refl _))
    rw [hasB_out (fun k hk => by have := hD.two k (by rw [← hD.len]; exact hk); omega), hn] at this
    exact this)
  have HA := Lib.hid hA
  have HD := Lib.hid hD
  have Hn := Lib.hid hn
  have HW0 := Lib.hid hW0
  have HW1 := Lib.hid hW1
  have hlX := bX.lt
  have hlY := bY.lt
  clear hW0 hW1 hx hA h2 hall hnz hg hOk hD hn hS
  go_enter Tryz.func56, Tryz.ntmps56
  go_wp2_with fail
  rw [HW0.out, HW1.out]
  refine HC.out.mono ?_
  rintro e w1 ⟨rfl, hb1⟩
  have x0 := (bX.below hb1).cell 0 _ rfl
  have y0 := (bY.below hb1).cell 0 _ rfl
  have CV := HV.out w1 hb1
  clear HC
  go_wp2_with fail
  refine CV.mono ?_
  rintro e w2 ⟨rfl, hb2⟩
  have hb2 := hb1.trans (hb2.mono hb1.size)
  clear hb1 x0 y0 CV
  have x0 := (bX.below hb2).cell 0 _ rfl
  have y0 := (bY.below hb2).cell 0 _ rfl
  have CV := HN.out w2 hb2
  go_wp2_with fail
  refine CV.mono ?_
  rintro e w3 ⟨rfl, rfl⟩
  have y1 := (bY.below hb2).cell 1 _ rfl
  have y2 := (bY.below hb2).cell 2 _ rfl
  have y3 := (bY.below hb2).cell 3 _ rfl
  clear CV
  by_cases hs : s = -1
  · obtain ⟨e1, e2⟩ := HD.out.no hs
    subst hs e1 e2
    go_wp2_with fail
    go_ret
    exact ⟨rfl, hBw.trans (hb2.mono hBw.size)⟩
  · obtain ⟨s1, s2, s3, s4, s5⟩ := HD.out.yes hs
    have hnum := HD.out.num
    have hden := HD.out.den
    obtain ⟨g, rfl⟩ : ∃ g : Nat, s = (g : Int) := ⟨s.toNat, by omega⟩
    obtain ⟨a, rfl⟩ : ∃ a : Nat, pn = (a : Int) := ⟨pn.toNat, by omega⟩
    obtain ⟨b, rfl⟩ : ∃ b : Nat, pd = (b : Int) := ⟨pd.toNat, by omega⟩
    rw [Int.toNat_natCast] at s3
    rw [Int.natAbs_natCast, Int.natAbs_natCast] at s5
    have hgn : g < n := by rw [← Hn.out, HD.out.len]; omega
    obtain ⟨gb, go, rfl, _, hc⟩ := (HA.out.below hb2 (Nat.le_refl _)).get (j := g) (by rw [Hn.out]; exact hgn)
    rw [s3] at hc
    have CR := Lib.hid (ratCheckK_any a b w3 (by omega) (by omega) (by omega) s5)
    have d1 : ((g : Int) == -1) = false := by rw [beq_eq_false_iff_ne]; omega
    have d2 : decide ((g : Int) < 0) = false := by rw [decide_eq_false_iff_not]; omega
    have d3 : decide ((n : Int) ≤ (g : Int)) = false := by rw [decide_eq_false_iff_not]; omega
    have d3' : decide (n ≤ g) = false := by rw [decide_eq_false_iff_not]; omega
    have d4 : (g : Int) < (n : Int) := by omega
    have d5 : decide ((a : Int) ≤ 0) = false := by rw [decide_eq_false_iff_not]; omega
    have d5' : decide (a ≤ 0) = false := by rw [decide_eq_false_iff_not]; omega
    have d5a : decide (a = 0) = false := by rw [decide_eq_false_iff_not]; omega
    have d5b : ¬ a = 0 := by omega
    have d6 : decide ((b : Int) ≤ (a : Int)) = false := by rw [decide_eq_false_iff_not]; omega
    have d6' : decide (b ≤ a) = false := by rw [decide_eq_false_iff_not]; omega
    have d7 : decide ((1000000 : Int) < (b : Int)) = false := by rw [decide_eq_false_iff_not]; omega
    have d7' : decide (1000000 < b) = false := by rw [decide_eq_false_iff_not]; omega
    clear hs s1 s2 s3 s4 s5 hnum hden hgn
    go_wp2_with fail
    refine CR.out.mono ?_
    rintro e w4 ⟨rfl, hb4⟩
    have hb4 := hb2.trans (hb4.mono hb2.size)
    clear x0 y0 y1 y2 y3 hc
    have y2 := (bY.below hb4).cell 2 _ rfl
    have y3 := (bY.below hb4).cell 3 _ rfl
    go_wp2_with fail
    go_ret
    exact ⟨rfl, hBw.trans (hb4.mono hBw.size)⟩

theorem sv_in {v : List (List Int)} {A : List Int} {s pn pd : Int} (hg : Gds v) (h2 : v.length = 2) (h0 : 0 ≤ pn) (h1 : pn ≤ pd) (hd : pd ≤ 2000) : ∀ k, k ≤ wid v → (0 ≤ sv0 v A s pn pd k ∧ sv0 v A s pn pd k ≤ 2000000 * k) ∧ (0 ≤ sv1 v A s pn pd k ∧ sv1 v A s pn pd k ≤ 2000000 * k)
  | 0, _ => by simp [sv0, sv1]
  | k + 1, hk => by
    have ih := sv_in hg h2 h0 h1 hd k (by omega) (A := A) (s := s)
    have hv0 := hg.2.2.2 0 (by omega)
    have hv1 := hg.2.2.2 1 (by omega)
    have b0 := hv0.2 k (by rw [hv0.1]; omega)
    have b1 := hv1.2 k (by rw [hv1.1]; omega)
    have m : ∀ x y : Int, 0 ≤ x → x ≤ 1000 → 0 ≤ y → y ≤ 2000 → 0 ≤ x * y ∧ x * y ≤ 2000000 := fun x y h1 h2 h3 h4 => ⟨Int.mul_nonneg h1 h3, by have := Int.mul_le_mul h2 h4 h3 (by omega : (0 : Int) ≤ 1000); omega⟩
    have m1 := m _ pn b0.1 b0.2 h0 (by omega)
    have m2 := m _ pd b0.1 b0.2 (by omega) hd
    have m3 := m _ (pd - pn) b1.1 b1.2 (by omega) (by omega)
    have m4 := m _ pd b1.1 b1.2 (by omega) hd
    simp only [sv0, sv1]
    constructor
    · split
      · omega
      · split <;> omega
    · split
      · omega
      · split <;> omega
set_option maxHeartbeats 4000000 in
set_option maxRecDepth 100000 in
theorem adjValues_any (p : Option Addr) (c : Nat) (v : List (List Int)) (q : Option Addr) (d n : Nat) (A : List Int) (s pn pd : Int) (w : World) (hx : Mat w p c v) (hA : Ints w q d A) (hn : A.length = n) (hg : Gds v) (h2 : v.length = 2) (hall : allG v 0 = allG v 1) (hnz : allG v 0 ≠ 0) (hD : DivOk v A s pn pd) :
    Calls Tryz.prog 22 #[.agg #[.slice p v.length c], .agg #[.slice q n d, .int .i64 s, .int .i64 pn, .int .i64 pd]] w fun e w' => e = .returned (.tuple #[ratV (sv0 v A s pn pd n) pd.toNat, ratV (sv1 v A s pn pd n) pd.toNat, .int .i64 0]) ∧ Below w.heap.size w w' := by
  obtain ⟨W0, hW0⟩ : ∃ W0, w.alloc (.cells #[.slice p v.length c] 24) = W0 := ⟨_, rfl⟩
  have hB : Below w.heap.size w W0 := below_alloc hW0
  have bX : BoxV W0 w.heap.size [.slice p v.length c] := BoxV.new rfl hW0
  obtain ⟨W1, hW1⟩ : ∃ W1, W0.alloc (.cells #[.slice q n d, .int .i64 s, .int .i64 pn, .int .i64 pd] 52) = W1 := ⟨_, rfl⟩
  have hB1 : Below W0.heap.size W0 W1 := below_alloc hW1
  have hS : W0.heap.size = w.heap.size + 1 := by rw [← hW0]; simp
  have bY : BoxV W1 (w.heap.size + 1) [.slice q n d, .int .i64 s, .int .i64 pn, .int .i64 pd] := BoxV.new hS hW1
  have bX := bX.below hB1
  obtain ⟨W2, hW2⟩ : ∃ W2, W1.alloc (.cells #[.int .i64 0, .int .i64 0] 50) = W2 := ⟨_, rfl⟩
  have hB2 : Below W1.heap.size W1 W2 := below_alloc hW2
  have hS1 : W1.heap.size = w.heap.size + 1 + 1 := by rw [← hW1]; simp [hS]
  have aX : Arr W2 (w.heap.size + 1 + 1) [.int .i64 0, .int .i64 0] 50 := Arr.new hS1 hW2
  have bX := bX.below hB2
  have bY := bY.below hB2
  obtain ⟨W3, hW3⟩ : ∃ W3, W2.alloc (.cells #[.int .i64 0, .int .i64 0] 50) = W3 := ⟨_, rfl⟩
  have hB3 : Below W2.heap.size W2 W3 := below_alloc hW3
  have hS2 : W2.heap.size = w.heap.size + 1 + 1 + 1 := by rw [← hW2]; simp [hS1]
  have aY : Arr W3 (w.heap.size + 1 + 1 + 1) [.int .i64 0, .int .i64 0] 50 := Arr.new hS2 hW3
  have aX := aX.below hB3 aX.lt
  have bX := bX.below hB3
  have bY := bY.below hB3
  have hBw : Below w.heap.size w W3 := ((hB.trans (hB1.mono hB.size)).trans (hB2.mono (by omega))).trans (hB3.mono (by omega))
  have hx := hx.below hBw (Nat.le_refl _)
  have hA := hA.below hBw (Nat.le_refl _)
  have HC := Lib.hid (adjValid_any p c v q d n A s pn pd W3 hx hA hn hg h2 hall hnz hD)
  have HX := Lib.hid hx
  have HA := Lib.hid hA
  have HD := Lib.hid hD
  have Hn := Lib.hid hn
  have Hg := Lib.hid hg
  have H2 := Lib.hid h2
  have HW0 := Lib.hid hW0
  have HW1 := Lib.hid hW1
  have HW2 := Lib.hid hW2
  have HW3 := Lib.hid hW3
  have hl3 : W3.heap.size = w.heap.size + 1 + 1 + 1 + 1 := by rw [← hW3]; simp [hS2]
  have Hl3 := Lib.hid hl3
  have HaX := Lib.hid aX
  have HaY := Lib.hid aY
  clear hW0 hW1 hW2 hW3 hx hA h2 hall hnz hg hD hn hS hS1 hS2 hl3 aX aY
  go_enter Tryz.func22, Tryz.ntmps22
  go_wp2_with fail
  rw [HW0.out, HW1.out, HW2.out, HW3.out]
  refine HC.out.mono ?_
  rintro e w4 ⟨rfl, hb4⟩
  obtain ⟨W5, hW5⟩ : ∃ W5, w4.alloc (.cells #[.int .i64 0, .int .i64 0] 94) = W5 := ⟨_, rfl⟩
  have hB5 : Below w4.heap.size w4 W5 := below_alloc hW5
  obtain ⟨B, eB⟩ : ∃ B, w4.heap.size = B := ⟨_, rfl⟩
  have aS : Arr W5 B [.int .i64 0, .int .i64 0] 94 := Arr.new eB hW5
  have hb5 : Below W3.heap.size W3 W5 := hb4.trans (hB5.mono hb4.size)
  have x0 := (bX.below hb4).cell 0 _ rfl
  have y0 := (bY.below hb4).cell 0 _ rfl
  have hBl : W3.heap.size ≤ B := by rw [← eB]; exact hb4.size
  have HBl := Lib.hid hBl
  rw [eB] at hB5
  have HW5 := Lib.hid hW5
  have HeB := Lib.hid eB
  clear hW5 eB HC
  go_upto_region 5 with (fail)
  rw [HeB.out, HW5.out]
  clear x0 y0
  have x0 := (bX.below hb5).cell 0 _ rfl
  have y0 := (bY.below hb5).cell 0 _ rfl
  have hl1 := HA.out.length_le
  rw [Hn.out] at hl1
  go_wp2_with fail
  go_loopw [22] (fun t wr => ∃ k : Nat, k ≤ n ∧ t = .int .i64 (k : Int) ∧ Arr wr B [.int .i64 (sv0 v A s pn pd k), .int .i64 (sv1 v A s pn pd k)] 94 ∧ Below B W5 wr) (fun t _ => n - (intOf t).toNat)
  case atStart => exact ⟨0, Nat.zero_le _, rfl, aS, Below.refl _ _⟩
  case round =>
    obtain ⟨k, hk, rfl, hArr, hBr⟩ := hrel
    have hb6 : Below W3.heap.size W3 wr := hb5.trans (hBr.mono hBl)
    by_cases hlt : k < n
    · have hk1 : (k : Int) < (n : Int) := by omega
      have hkw : k < wid v := by rw [← HD.out.len, Hn.out]; exact hlt
      have x0 := (bX.below hb6).cell 0 _ rfl
      have y0 := (bY.below hb6).cell 0 _ rfl
      have y1 := (bY.below hb6).cell 1 _ rfl
      have y2 := (bY.below hb6).cell 2 _ rfl
      have y3 := (bY.below hb6).cell 3 _ rfl
      obtain ⟨gq, oq, rfl, hgl, ha3⟩ := HA.out.get (j := k) (by rw [Hn.out]; exact hlt)
      obtain ⟨b, o, rfl, hbl, q0, d0, hc03, hi0⟩ := HX.out.get (j := 0) (by rw [H2.out]; omega)
      obtain ⟨b', o', e', _, q1, d1, hc13, hi1⟩ := HX.out.get (j := 1) (by rw [H2.out]; omega)
      cases e'
      rw [Nat.add_zero] at hc03
      have hv0 := Hg.out.2.2.2 0 (by rw [H2.out]; omega)
      have hv1 := Hg.out.2.2.2 1 (by rw [H2.out]; omega)
      obtain ⟨b0, o0, rfl, hb0l, he03⟩ := hi0.get (j := k) (by rw [hv0.1]; exact hkw)
      obtain ⟨b1, o1, rfl, hb1l, he13⟩ := hi1.get (j := k) (by rw [hv1.1]; exact hkw)
      have r0 := hv0.2 k (by rw [hv0.1]; exact hkw)
      have r1 := hv1.2 k (by rw [hv1.1]; exact hkw)
      have l0 : (k : Int) < (rget v 0).length := by rw [hv0.1]; omega
      have l1 : (k : Int) < (rget v 1).length := by rw [hv1.1]; omega
      have lv0 : (0 : Int) < v.length := by rw [H2.out]; omega
      have lv1 : (1 : Int) < v.length := by rw [H2.out]; omega
      have lv0n : 0 < v.length := by rw [H2.out]; omega
      have lv1n : 1 < v.length := by rw [H2.out]; omega
      have hin := sv_in (A := A) (s := s) Hg.out H2.out HD.out.num.1 (Int.le_of_lt HD.out.num.2) HD.out.den.2 k (by omega)
      have hm10 := Hg.out.2.2.1
      have hnum := HD.out.num
      have hden := HD.out.den
      have E0 : Hid (sv0 v A s pn pd (k + 1) = sv0 v A s pn pd k + (if s = (k : Int) then iget (rget v 0) k * pn else if iget A k = 0 then iget (rget v 0) k * pd else 0)) := rfl
      have E1 : Hid (sv1 v A s pn pd (k + 1) = sv1 v A s pn pd k + (if s = (k : Int) then iget (rget v 1) k * (pd - pn) else if iget A k = 1 then iget (rget v 1) k * pd else 0)) := rfl
      have htw := HD.out.two k hkw
      have s0 := hArr.cell (j := 0) rfl
      have s1 := hArr.cell (j := 1) rfl
      have fz0 := hArr.free 0
      have fz1 := hArr.free 1
      have L1 := hi0.length_le
      have L2 := hi1.length_le
      have L3 := HX.out.length_le
      obtain ⟨S0, eS0⟩ : ∃ y, sv0 v A s pn pd k = y := ⟨_, rfl⟩
      obtain ⟨S1, eS1⟩ : ∃ y, sv1 v A s pn pd k = y := ⟨_, rfl⟩
      obtain ⟨X, eX⟩ : ∃ y, iget (rget v 0) k = y := ⟨_, rfl⟩
      obtain ⟨Y, eY⟩ : ∃ y, iget (rget v 1) k = y := ⟨_, rfl⟩
      rw [eS0, eS1] at hin hArr
      rw [eS0] at s0 E0
      rw [eS1] at s1 E1
      rw [eX] at he03 r0 E0
      rw [eY] at he13 r1 E1
      have ha := (hb6.cell (p := ⟨gq, oq + k, none⟩) hgl).trans ha3
      have hc0 := (hb6.cell (p := ⟨b, o, none⟩) hbl).trans hc03
      have hc1 := (hb6.cell (p := ⟨b, o + 1, none⟩) hbl).trans hc13
      have he0 := (hb6.cell (p := ⟨b0, o0 + k, none⟩) hb0l).trans he03
      have he1 := (hb6.cell (p := ⟨b1, o1 + k, none⟩) hb1l).trans he13
      have HC13 := Lib.hid hc13
      have HE13 := Lib.hid he13
      have HBbl := Lib.hid hbl
      have HB1l := Lib.hid hb1l
      clear eS0 eS1 eX eY hv0 hv1 hi0 hi1 ha3 hc03 hc13 he03 he13 hbl hb1l hgl hb0l
      have m1 : 0 ≤ X * pn ∧ X * pn ≤ 2000000 := ⟨Int.mul_nonneg r0.1 hnum.1, by have := Int.mul_le_mul r0.2 (by omega : pn ≤ 2000) hnum.1 (by omega : (0 : Int) ≤ 1000); omega⟩
      have m2 : 0 ≤ Y * (pd - pn) ∧ Y * (pd - pn) ≤ 2000000 := ⟨Int.mul_nonneg r1.1 (by omega), by have := Int.mul_le_mul r1.2 (by omega : pd - pn ≤ 2000) (by omega) (by omega : (0 : Int) ≤ 1000); omega⟩
      have m3 : 0 ≤ X * pd ∧ X * pd ≤ 2000000 := ⟨Int.mul_nonneg r0.1 (by omega), by have := Int.mul_le_mul r0.2 hden.2 (by omega) (by omega : (0 : Int) ≤ 1000); omega⟩
      have m4 : 0 ≤ Y * pd ∧ Y * pd ≤ 2000000 := ⟨Int.mul_nonneg r1.1 (by omega), by have := Int.mul_le_mul r1.2 hden.2 (by omega) (by omega : (0 : Int) ≤ 1000); omega⟩
      by_cases hs : s = (k : Int)
      · have hsb : ((k : Int) == s) = true := by rw [hs]; simp
        have u1 : IntKind.i64.wrap (X * pn) = X * pn := IntWalk.i64_in _ (by omega)
        have u2 : IntKind.i64.wrap (S0 + X * pn) = S0 + X * pn := IntWalk.i64_in _ (by omega)
        have u3 : IntKind.i64.wrap (pd - pn) = pd - pn := IntWalk.i64_in _ (by omega)
        have u4 : IntKind.i64.wrap (Y * (pd - pn)) = Y * (pd - pn) := IntWalk.i64_in _ (by omega)
        have u5 : IntKind.i64.wrap (S1 + Y * (pd - pn)) = S1 + Y * (pd - pn) := IntWalk.i64_in _ (by omega)
        have Hs := Lib.hid hs
        have HArr := Lib.hid hArr
        have HBr := Lib.hid hBr
        have HI := Lib.hid hin
        have HM := Lib.hid (And.intro m1 m2)
        have Hnum := Lib.hid (And.intro hnum hden)
        have Hr := Lib.hid (And.intro r0 r1)
        rw [if_pos hs] at E0 E1
        clear hs hArr hBr hin m1 m2 m3 m4 hnum hden r0 r1 htw
        go_wp2_with fail
        go_still_tail 15, (by kernel_rfl)
        go_wp2_with fail
        obtain ⟨w6, hw6⟩ : ∃ W, (wr.setCell ⟨B, 0, none⟩ (.int .i64 (S0 + X * pn))).drew = W := ⟨_, rfl⟩
        have a6 : Arr w6 B [.int .i64 (S0 + X * pn), .int .i64 S1] 94 := by rw [← hw6]; exact (HArr.out.set (j := 0)).drew1
        have b6 : Below B W5 w6 := by rw [← hw6]; exact (HBr.out.setCell (p := ⟨B, 0, none⟩) (Nat.le_refl _) _).drew
        rw [hw6]
        clear hw6
        have hb7 : Below W3.heap.size W3 w6 := hb5.trans (b6.mono hBl)
        clear x0 y0 y1 y2 y3 s0 s1 fz0 fz1 ha hc0 hc1 he0 he1
        have x0 := (bX.below hb7).cell 0 _ rfl
        have y2 := (bY.below hb7).cell 2 _ rfl
        have y3 := (bY.below hb7).cell 3 _ rfl
        have hc1 := (hb7.cell (p := ⟨b, o + 1, none⟩) HBbl.out).trans HC13.out
        have he1 := (hb7.cell (p := ⟨b1, o1 + k, none⟩) HB1l.out).trans HE13.out
        have s0 := a6.cell (j := 0) rfl
        have s1 := a6.cell (j := 1) rfl
        have fz0 := a6.free 0
        have fz1 := a6.free 1
        have A6 := Lib.hid a6
        have B6 := Lib.hid b6
        clear a6 b6 hb7
        go_wp2_with fail
        go_still_tail 19, (by kernel_rfl)
        go_wp2_with fail
        go_roundw
        case rel =>
          refine ⟨k + 1, by omega, by go_num, ?_, (B6.out.setCell (p := ⟨B, 1, none⟩) (Nat.le_refl _) _).drew⟩
          rw [E0.out, E1.out]
          exact (A6.out.set (j := 1)).drew1
        case measure => simp [intOf]; omega
      · have hsb : ((k : Int) == s) = false := by rw [beq_eq_false_iff_ne]; exact fun h => hs h.symm
        rw [if_neg hs] at E0 E1
        have HArr := Lib.hid hArr
        have HBr := Lib.hid hBr
        rcases htw with h | h
        · have u1 : IntKind.i64.wrap (X * pd) = X * pd := IntWalk.i64_in _ (by omega)
          have u2 : IntKind.i64.wrap (S0 + X * pd) = S0 + X * pd := IntWalk.i64_in _ (by omega)
          rw [if_pos h] at E0
          rw [if_neg (by omega)] at E1
          rw [h] at ha
          clear hs hArr hBr hin m1 m2 m3 m4 hnum hden r0 r1 h
          go_wp2_with fail
          go_still_tail 17, (by kernel_rfl)
          go_wp2_with fail
          go_roundw
          case rel =>
            refine ⟨k + 1, by omega, by go_num, ?_, (HBr.out.setCell (p := ⟨B, 0, none⟩) (Nat.le_refl _) _).drew⟩
            rw [E0.out, E1.out, Int.add_zero]
            exact (HArr.out.set (j := 0)).drew1
          case measure => simp [intOf]; omega
        · have u1 : IntKind.i64.wrap (Y * pd) = Y * pd := IntWalk.i64_in _ (by omega)
          have u2 : IntKind.i64.wrap (S1 + Y * pd) = S1 + Y * pd := IntWalk.i64_in _ (by omega)
          rw [if_neg (by omega)] at E0
          rw [if_pos h] at E1
          rw [h] at ha
          clear hs hArr hBr hin m1 m2 m3 m4 hnum hden r0 r1 h
          go_wp2_with fail
          go_still_tail 17, (by kernel_rfl)
          go_wp2_with fail
          go_roundw
          case rel =>
            refine ⟨k + 1, by omega, by go_num, ?_, (HBr.out.setCell (p := ⟨B, 1, none⟩) (Nat.le_refl _) _).drew⟩
            rw [E0.out, E1.out, Int.add_zero]
            exact (HArr.out.set (j := 1)).drew1
          case measure => simp [intOf]; omega
    · have hk1 : ¬ (k : Int) < (n : Int) := by omega
      obtain rfl : k = n := by omega
      have hnum := HD.out.num
      have hden := HD.out.den
      have hin := sv_in (A := A) (s := s) Hg.out H2.out hnum.1 (Int.le_of_lt hnum.2) hden.2 k (by rw [← HD.out.len, Hn.out]; exact Nat.le_refl _)
      have hkw : k ≤ 10 := by rw [← Hn.out, HD.out.len]; exact Hg.out.2.2.1
      obtain ⟨S0, eS0⟩ : ∃ y, sv0 v A s pn pd k = y := ⟨_, rfl⟩
      obtain ⟨S1, eS1⟩ : ∃ y, sv1 v A s pn pd k = y := ⟨_, rfl⟩
      rw [eS0, eS1] at hin hArr
      have E0 := Lib.hid eS0
      have E1 := Lib.hid eS1
      obtain ⟨pb, rfl⟩ : ∃ pb : Nat, pd = (pb : Int) := ⟨pd.toNat, by omega⟩
      have CM0 : Hid (∀ W, Calls Tryz.prog 55 #[.int .i64 S0, .int .i64 (pb : Int)] W fun e w' => e = .returned (.tuple #[.agg #[.int .i64 (rN S0 pb), .int .i64 (rD S0 pb)], .int .i64 0]) ∧ Below W.heap.size W w') := fun W => make_any S0 pb W (by omega) (by omega) (by omega) (by omega)
      have CM1 : Hid (∀ W, Calls Tryz.prog 55 #[.int .i64 S1, .int .i64 (pb : Int)] W fun e w' => e = .returned (.tuple #[.agg #[.int .i64 (rN S1 pb), .int .i64 (rD S1 pb)], .int .i64 0]) ∧ Below W.heap.size W w') := fun W => make_any S1 pb W (by omega) (by omega) (by omega) (by omega)
      have HR : Hid (ratV (sv0 v A s pn (pb : Int) k) ((pb : Int)).toNat = .agg #[.int .i64 (rN S0 pb), .int .i64 (rD S0 pb)] ∧ ratV (sv1 v A s pn (pb : Int) k) ((pb : Int)).toNat = .agg #[.int .i64 (rN S1 pb), .int .i64 (rD S1 pb)]) := by
        rw [E0.out, E1.out, Int.toNat_natCast]; exact ⟨rfl, rfl⟩
      obtain ⟨n0, en0⟩ : ∃ y, rN S0 pb = y := ⟨_, rfl⟩
      obtain ⟨n1, en1⟩ : ∃ y, rN S1 pb = y := ⟨_, rfl⟩
      obtain ⟨m0, em0⟩ : ∃ y, rD S0 pb = y := ⟨_, rfl⟩
      obtain ⟨m1, em1⟩ : ∃ y, rD S1 pb = y := ⟨_, rfl⟩
      rw [en0, em0] at CM0 HR
      rw [en1, em1] at CM1 HR
      clear eS0 eS1 E0 E1 en0 en1 em0 em1 hin hnum hden hkw
      have x0 := (bX.below hb6).cell 0 _ rfl
      have y3 := (bY.below hb6).cell 3 _ rfl
      have s0 := hArr.cell (j := 0) rfl
      have HArr := Lib.hid hArr
      have HBr := Lib.hid hBr
      have aX6 := HaX.out.below hb6 HaX.out.lt
      have aY6 := HaY.out.below hb6 HaY.out.lt
      clear hArr hBr
      go_wp2_with fail
      refine (CM0.out _).mono ?_
      rintro e w6 ⟨rfl, hb7⟩
      clear x0 y3 s0
      have aX7 := aX6.below hb7 aX6.lt
      have c0 := aX7.cell (j := 0) rfl
      have c1 := aX7.cell (j := 1) rfl
      have f0 := aX7.free 0
      have f1 := aX7.free 1
      go_upto_region 14 with (fail)
      have hl3 := Hl3.out
      have hne : ∀ {S S' j j' : Nat}, S ≠ S' → (⟨S, j, none⟩ : Addr) ≠ ⟨S', j', none⟩ := fun h e => h (by cases e; rfl)
      have hb8 : Below W3.heap.size W3 w6 := hb6.trans (hb7.mono hb6.size)
      have y3' := (bY.below hb8).cell 3 _ rfl
      have hBl' := HBl.out
      obtain ⟨w7, hw7⟩ : ∃ W, (w6.setCell ⟨w.heap.size + 1 + 1, 0, none⟩ (.int .i64 n0)).setCell ⟨w.heap.size + 1 + 1, 1, none⟩ (.int .i64 m0) = W := ⟨_, rfl⟩
      have y3 : w7.cell? ⟨w.heap.size + 1, 3, none⟩ = some (.int .i64 (pb : Int)) := by
        rw [← hw7]
        exact (World.cell?_setCell_other _ _ _ _ (hne (by omega))).trans ((World.cell?_setCell_other _ _ _ _ (hne (by omega))).trans y3')
      have aX8 : Arr w7 (w.heap.size + 1 + 1) [.int .i64 n0, .int .i64 m0] 50 := by rw [← hw7]; exact (aX7.set (j := 0)).set (j := 1)
      have aY8 : Arr w7 (w.heap.size + 1 + 1 + 1) [.int .i64 0, .int .i64 0] 50 := by rw [← hw7]; exact ((aY6.below hb7 aY6.lt).other (by omega)).other (by omega)
      have aS8 : Arr w7 B [.int .i64 S0, .int .i64 S1] 94 := by rw [← hw7]; exact ((HArr.out.below hb7 HArr.out.lt).other (by omega)).other (by omega)
      have hbw : Below w.heap.size w w7 := by rw [← hw7]; exact ((hBw.trans (hb8.mono hBw.size)).setCell (p := ⟨w.heap.size + 1 + 1, 0, none⟩) (by simp; omega) _).setCell (p := ⟨w.heap.size + 1 + 1, 1, none⟩) (by simp; omega) _
      rw [hw7]
      clear hw7 y3' c0 c1 f0 f1 aX7 aX6 aY6
      have s1 := aS8.cell (j := 1) rfl
      go_wp2_with fail
      refine (CM1.out _).mono ?_
      rintro e w8 ⟨rfl, hb9⟩
      clear y3 s1
      have aX9 := aX8.below hb9 aX8.lt
      have aY9 := aY8.below hb9 aY8.lt
      have c0 := aY9.cell (j := 0) rfl
      have c1 := aY9.cell (j := 1) rfl
      have f0 := aY9.free 0
      have f1 := aY9.free 1
      go_upto_region 15 with (fail)
      have hbw9 : Below w.heap.size w w8 := hbw.trans (hb9.mono hbw.size)
      obtain ⟨w9, hw9⟩ : ∃ W, (w8.setCell ⟨w.heap.size + 1 + 1 + 1, 0, none⟩ (.int .i64 n1)).setCell ⟨w.heap.size + 1 + 1 + 1, 1, none⟩ (.int .i64 m1) = W := ⟨_, rfl⟩
      have aX10 : Arr w9 (w.heap.size + 1 + 1) [.int .i64 n0, .int .i64 m0] 50 := by rw [← hw9]; exact (aX9.other (by omega)).other (by omega)
      have aY10 : Arr w9 (w.heap.size + 1 + 1 + 1) [.int .i64 n1, .int .i64 m1] 50 := by rw [← hw9]; exact (aY9.set (j := 0)).set (j := 1)
      have hbw10 : Below w.heap.size w w9 := by rw [← hw9]; exact (hbw9.setCell (p := ⟨w.heap.size + 1 + 1 + 1, 0, none⟩) (by simp; omega) _).setCell (p := ⟨w.heap.size + 1 + 1 + 1, 1, none⟩) (by simp; omega) _
      rw [hw9]
      clear hw9 c0 c1 f0 f1 aX9 aY9
      have c0 := aX10.cell (j := 0) rfl
      have c1 := aX10.cell (j := 1) rfl
      have f0 := aX10.free 0
      have f1 := aX10.free 1
      have c2 := aY10.cell (j := 0) rfl
      have c3 := aY10.cell (j := 1) rfl
      have f2 := aY10.free 0
      have f3 := aY10.free 1
      go_wp2_with fail
      go_region
      all_goals
        go_wp2_with fail
        have zX : Arr (((((w9.setCell ⟨w.heap.size + 1 + 1, 0, none⟩ (.int .i64 n0)).setCell ⟨w.heap.size + 1 + 1, 1, none⟩ (.int .i64 m0)).setCell ⟨w.heap.size + 1 + 1 + 1, 0, none⟩ (.int .i64 n1)).setCell ⟨w.heap.size + 1 + 1 + 1, 1, none⟩ (.int .i64 m1)).drew) (w.heap.size + 1 + 1) [.int .i64 n0, .int .i64 m0] 50 := ((((aX10.set (j := 0)).set (j := 1)).other (by omega)).other (by omega)).drew1
        have zY : Arr (((((w9.setCell ⟨w.heap.size + 1 + 1, 0, none⟩ (.int .i64 n0)).setCell ⟨w.heap.size + 1 + 1, 1, none⟩ (.int .i64 m0)).setCell ⟨w.heap.size + 1 + 1 + 1, 0, none⟩ (.int .i64 n1)).setCell ⟨w.heap.size + 1 + 1 + 1, 1, none⟩ (.int .i64 m1)).drew) (w.heap.size + 1 + 1 + 1) [.int .i64 n1, .int .i64 m1] 50 := ((((aY10.other (by omega)).other (by omega)).set (j := 0)).set (j := 1)).drew1
        have zB := (((((hbw10.setCell (p := ⟨w.heap.size + 1 + 1, 0, none⟩) (by simp; omega) (.int .i64 n0)).setCell (p := ⟨w.heap.size + 1 + 1, 1, none⟩) (by simp; omega) (.int .i64 m0)).setCell (p := ⟨w.heap.size + 1 + 1 + 1, 0, none⟩) (by simp; omega) (.int .i64 n1)).setCell (p := ⟨w.heap.size + 1 + 1 + 1, 1, none⟩) (by simp; omega) (.int .i64 m1))).drew
        have k0 := zX.cell (j := 0) rfl
        have k1 := zX.cell (j := 1) rfl
        have k2 := zY.cell (j := 0) rfl
        have k3 := zY.cell (j := 1) rfl
        rw [HR.out.1, HR.out.2]
        generalize ((((w9.setCell ⟨w.heap.size + 1 + 1, 0, none⟩ (.int .i64 n0)).setCell ⟨w.heap.size + 1 + 1, 1, none⟩ (.int .i64 m0)).setCell ⟨w.heap.size + 1 + 1 + 1, 0, none⟩ (.int .i64 n1)).setCell ⟨w.heap.size + 1 + 1 + 1, 1, none⟩ (.int .i64 m1)).drew = wz at k0 k1 k2 k3 zB ⊢
        exact bodyPost_ret (v := .tuple #[.agg #[.int .i64 n0, .int .i64 m0], .agg #[.int .i64 n1, .int .i64 m1], .int .i64 0]) (by simp [results, Tryz.results22, go_sem, k0, k1, k2, k3]) rfl ⟨rfl, zB⟩
end Go.Proofs.YtmcncflieoolmaaGreat

/- Two agents: one cuts, the other one chooses: a division that gives both their shares (plain). -/
namespace Go.Proofs.YtmcncflieoolmaaGreat
set_option linter.unusedVariables false
set_option linter.unusedSimpArgs false

theorem two_sum {v : List (List Int)} {x : List Int} (i : Nat) : ∀ m, (∀ j, j < m → iget x j = 0 ∨ iget x j = 1) → worthUp v x i 0 m + worthUp v x i 1 m = sumUp (rget v i) m
  | 0, _ => rfl
  | m + 1, h => by
    have ih := two_sum i m (fun j hj => h j (by omega)) (v := v)
    simp only [worthUp, sumUp]
    rcases h m (by omega) with e | e
    · rw [if_pos e, if_neg (by omega)]; omega
    · rw [if_neg (by omega), if_pos e]; omega
/-- The bundles changed over. -/
def flipL (x : List Int) : List Int := x.map fun y => 1 - y
theorem flipL_len (x : List Int) : (flipL x).length = x.length := by simp [flipL]
theorem flipL_get {x : List Int} {j : Nat} (hj : j < x.length) : iget (flipL x) j = 1 - iget x j := by simp [flipL, iget, List.getD, hj]
theorem worth_flip {v : List (List Int)} {x : List Int} (i : Nat) (k : Int) : ∀ m, m ≤ x.length → worthUp v (flipL x) i (1 - k) m = worthUp v x i k m
  | 0, _ => rfl
  | m + 1, h => by
    have ih := worth_flip i k m (by omega) (v := v) (x := x)
    simp only [worthUp]
    rw [ih, flipL_get (by omega)]
    by_cases e : iget x m = k
    · rw [if_pos e, if_pos (by omega)]
    · rw [if_neg e, if_neg (by omega)]
theorem cut_choose {v : List (List Int)} (hg : Gds v) (h2 : v.length = 2) (L : List Int) (hL : ShrL v L v.length) : ∃ C, DigL v.length (wid v) C ∧ ∀ i, i < v.length → iget L i ≤ worth v C i (i : Int) := by
  obtain ⟨hl, hs⟩ := hL
  have s0 := (hs 0 (by omega)).1
  have s1 := (hs 1 (by omega)).1
  rw [h2] at s0 s1 ⊢
  have nn : ∀ (x : List Int) (i : Nat) (k : Int), i < 2 → x.length = wid v → 0 ≤ worth v x i k := fun x i k hi hx => (worthUp_in hg (by omega) k _ (by rw [hx]; exact Nat.le_refl _)).1
  obtain ⟨x, hx, hx0⟩ : ∃ x, DigL 2 (wid v) x ∧ ∀ b : Nat, b < 2 → iget L 0 ≤ worth v x 0 (b : Int) := by
    rcases s0.2 with e | ⟨x, h1, h3⟩
    · refine ⟨List.replicate (wid v) 0, ⟨by simp, fun j hj => ?_⟩, fun b hb => ?_⟩
      · have : iget (List.replicate (wid v) (0 : Int)) j = 0 := by simp [iget, List.getD, hj]
        rw [this]; omega
      · have := nn (List.replicate (wid v) 0) 0 (b : Int) (by omega) (by simp)
        omega
    · exact ⟨x, h1, h3⟩
  have hxd : ∀ j, j < wid v → iget x j = 0 ∨ iget x j = 1 := fun j hj => by have := hx.2 j hj; omega
  -- the second one's greater bundle is worth its share
  have hy : iget L 1 ≤ worth v x 1 0 ∨ iget L 1 ≤ worth v x 1 1 := by
    have n0 := nn x 1 0 (by omega) hx.1
    have n1 := nn x 1 1 (by omega) hx.1
    rcases s1.2 with e | ⟨y, h1, h3⟩
    · left; omega
    · have e1 := two_sum (v := v) (x := x) 1 (wid v) hxd
      have e2 := two_sum (v := v) (x := y) 1 (wid v) (fun j hj => by have := h1.2 j hj; omega)
      have a0 := h3 0 (by omega)
      have a1 := h3 1 (by omega)
      unfold worth at a0 a1 ⊢
      rw [h1.1] at a0 a1
      rw [hx.1]
      have b0 : iget L 1 ≤ worthUp v y 1 0 (wid v) := a0
      have b1 : iget L 1 ≤ worthUp v y 1 1 (wid v) := a1
      omega
  rcases hy with hy | hy
  · refine ⟨flipL x, ⟨by rw [flipL_len]; exact hx.1, fun j hj => ?_⟩, fun i hi => ?_⟩
    · rw [flipL_get (by rw [hx.1]; exact hj)]
      have := hxd j hj
      omega
    · have f0 := worth_flip (v := v) (x := x) 0 1 x.length (Nat.le_refl _)
      have f1 := worth_flip (v := v) (x := x) 1 0 x.length (Nat.le_refl _)
      have a1 := hx0 1 (by omega)
      rcases (show i = 0 ∨ i = 1 by omega) with e | e
      · subst e
        unfold worth at a1 ⊢
        rw [flipL_len]
        have : worthUp v (flipL x) 0 ((0 : Nat) : Int) x.length = worthUp v x 0 1 x.length := f0
        rw [this]; exact a1
      · subst e
        unfold worth at hy ⊢
        rw [flipL_len]
        have : worthUp v (flipL x) 1 ((1 : Nat) : Int) x.length = worthUp v x 1 0 x.length := f1
        rw [this]; exact hy
  · refine ⟨x, hx, fun i hi => ?_⟩
    rcases (show i = 0 ∨ i = 1 by omega) with e | e
    · subst e; exact hx0 0 (by omega)
    · subst e; exact hy
end Go.Proofs.YtmcncflieoolmaaGreat
