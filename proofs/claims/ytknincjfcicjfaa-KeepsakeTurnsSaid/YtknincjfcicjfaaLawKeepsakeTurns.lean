/- The walk of the law KeepsakeTurns: for every allocation, list and rankings it returns true, and changes nothing that was there.  (Printed by wip/genkturns.py.) -/
import Derived.Test.YtknincjfcicjfaaKeepZ
import Derived.Test.YtknincjfcicjfaaSame25
namespace Go.Proofs.Ytknincjfcicjfaa
set_option linter.unusedVariables false
set_option linter.unusedSimpArgs false
open Go.ChangeShapes Go.WideShapes Go.ChangeAt Go.RowKit Go.Deep

set_option maxHeartbeats 4000000 in
set_option maxRecDepth 100000 in
theorem keepsakeTurns_walk (pa : Option Addr) (ca : Nat) (a : List Int) (po : Option Addr) (co : Nat) (o : List Int) (p : Option Addr) (c : Nat) (v : List (List Int)) (w : World) (ha : Ints w pa ca a) (ho : Ints w po co o) (hx : Mat w p c v) :
    Calls Try.prog 4 #[.slice pa a.length ca, .slice po o.length co, .slice p v.length c] w fun e w' => e = .returned (.bool true) ∧ Below w.heap.size w w' := by
  have hla := ha.length_le
  have hlo := ho.length_le
  have hlv := hx.length_le
  have hG := great29_any pa ca a p c v w ha hx
  by_cases hgr : GreatK a v
  · rw [decide_eq_true hgr] at hG
    have HG := Lib.hid hG
    clear hgr hG
    go_enter Try.func4, Try.ntmps4
    go_wp2_with fail
    refine HG.out.mono ?_
    rintro e w1 ⟨rfl, rfl⟩
    go_wp2_with fail
    go_ret
    exact ⟨rfl, Below.refl _ _⟩
  rw [decide_eq_false hgr] at hG
  have HG := Lib.hid hG
  by_cases h20 : 20 < o.length
  · have hd : decide (20 < (o.length : Int)) = true := by rw [decide_eq_true_iff]; omega
    clear hgr hG h20
    go_enter Try.func4, Try.ntmps4
    go_wp2_with fail
    refine HG.out.mono ?_
    rintro e w1 ⟨rfl, rfl⟩
    go_wp2_with fail
    go_ret
    exact ⟨rfl, Below.refl _ _⟩
  have hd : decide (20 < (o.length : Int)) = false := by rw [decide_eq_false_iff_not]; omega
  have hrl : Hid (∀ i, i < v.length → (rget v i).length ≤ 1000000) := fun i hi => Classical.byContradiction fun hc => hgr (.inl ⟨i, hi, by omega⟩)
  have ho6 : o.length ≤ 1000000 := by omega
  have H1 := Lib.hid (fun W h1 h2 h3 => keepTurns_any pa ca a po co o p c v W h1 h2 h3 hrl ho6)
  have H2 := Lib.hid (fun W h1 h2 h3 => ref29Turns_any pa ca a po co o p c v W h1 h2 h3)
  have H3 := Lib.hid (fun W h1 h2 => keepTrade_any pa ca a p c v W h1 h2 hrl)
  have H4 := Lib.hid (fun W h1 h2 => ref29Trade_any pa ca a p c v W h1 h2)
  have H5 := Lib.hid (fun W h1 h2 => keepSettle_any pa ca a p c v W h1 h2 hrl)
  have H6 := Lib.hid (fun W h1 h2 => ref29Settle_any pa ca a p c v W h1 h2)
  obtain ⟨E1, hE1⟩ : ∃ x, trnE a o v = x := ⟨_, rfl⟩
  obtain ⟨X1, hX1⟩ : ∃ x, trnsL a o v = x := ⟨_, rfl⟩
  obtain ⟨E2, hE2⟩ : ∃ x, trdE a v = x := ⟨_, rfl⟩
  obtain ⟨X2, hX2⟩ : ∃ x, trdX a v = x := ⟨_, rfl⟩
  obtain ⟨E3, hE3⟩ : ∃ x, lkdI a v = x := ⟨_, rfl⟩
  obtain ⟨N3, hN3⟩ : ∃ x, stlN a v = x := ⟨_, rfl⟩
  obtain ⟨X3, hX3⟩ : ∃ x, stlL a v = x := ⟨_, rfl⟩
  rw [hE1, hX1] at H1 H2
  rw [hE2, hX2] at H3 H4
  rw [hE3, hX3, hN3] at H5 H6
  obtain ⟨ti, tj, tx, ty, hV⟩ := exV_eq X2
  have HV := Lib.hid hV
  clear hE1 hX1 hE2 hX2 hE3 hN3 hX3 hgr hG h20 hV
  have hB : Below w.heap.size w w := Below.refl _ _
  go_enter Try.func4, Try.ntmps4
  go_wp2_with fail
  refine HG.out.mono ?_
  rintro e w0 ⟨rfl, rfl⟩
  go_wp2_with fail
  refine (H1.out _ ha ho hx).mono ?_
  rintro e w1 ⟨p1, c1, rfl, o1, hb⟩
  replace ha := ha.below hb (Nat.le_refl _)
  replace ho := ho.below hb (Nat.le_refl _)
  replace hx := hx.below hb (Nat.le_refl _)
  replace hB := hB.trans (hb.mono hB.size)
  clear hb
  have i1 := o1.ints
  clear o1
  go_wp2_with fail
  refine (H2.out _ ha ho hx).mono ?_
  rintro e w2 ⟨p2, c2, rfl, o2, hb⟩
  replace ha := ha.below hb (Nat.le_refl _)
  replace ho := ho.below hb (Nat.le_refl _)
  replace hx := hx.below hb (Nat.le_refl _)
  replace i1 := i1.below hb (Nat.le_refl _)
  replace hB := hB.trans (hb.mono hB.size)
  clear hb
  have i2 := o2.ints
  clear o2
  go_wp2_with fail
  refine (H3.out _ ha hx).mono ?_
  rintro e w3 ⟨he, hb⟩
  rw [HV.out] at he
  subst he
  replace ha := ha.below hb (Nat.le_refl _)
  replace ho := ho.below hb (Nat.le_refl _)
  replace hx := hx.below hb (Nat.le_refl _)
  replace i1 := i1.below hb (Nat.le_refl _)
  replace i2 := i2.below hb (Nat.le_refl _)
  replace hB := hB.trans (hb.mono hB.size)
  clear hb
  obtain ⟨W3, hW3⟩ : ∃ W, w3.alloc (.cells #[.int .i64 ti, .int .i64 tj, .int .i64 tx, .int .i64 ty] 37) = W := ⟨_, rfl⟩
  have hb : Below w3.heap.size w3 W3 := below_alloc hW3
  have b3 : BoxF W3 w3.heap.size [.int .i64 ti, .int .i64 tj, .int .i64 tx, .int .i64 ty] := BoxF.new rfl hW3
  have HW3 := Lib.hid hW3
  replace ha := ha.below hb (Nat.le_refl _)
  replace ho := ho.below hb (Nat.le_refl _)
  replace hx := hx.below hb (Nat.le_refl _)
  replace i1 := i1.below hb (Nat.le_refl _)
  replace i2 := i2.below hb (Nat.le_refl _)
  replace hB := hB.trans (hb.mono hB.size)
  clear hb hW3
  go_wp2_with fail
  rw [HW3.out]
  refine (H4.out _ ha hx).mono ?_
  rintro e w4 ⟨he, hb⟩
  rw [HV.out] at he
  subst he
  replace ha := ha.below hb (Nat.le_refl _)
  replace ho := ho.below hb (Nat.le_refl _)
  replace hx := hx.below hb (Nat.le_refl _)
  replace i1 := i1.below hb (Nat.le_refl _)
  replace i2 := i2.below hb (Nat.le_refl _)
  replace b3 := b3.below hb
  replace hB := hB.trans (hb.mono hB.size)
  clear hb
  obtain ⟨W4, hW4⟩ : ∃ W, w4.alloc (.cells #[.int .i64 ti, .int .i64 tj, .int .i64 tx, .int .i64 ty] 37) = W := ⟨_, rfl⟩
  have hb : Below w4.heap.size w4 W4 := below_alloc hW4
  have b4 : BoxF W4 w4.heap.size [.int .i64 ti, .int .i64 tj, .int .i64 tx, .int .i64 ty] := BoxF.new rfl hW4
  have HW4 := Lib.hid hW4
  replace ha := ha.below hb (Nat.le_refl _)
  replace ho := ho.below hb (Nat.le_refl _)
  replace hx := hx.below hb (Nat.le_refl _)
  replace i1 := i1.below hb (Nat.le_refl _)
  replace i2 := i2.below hb (Nat.le_refl _)
  replace b3 := b3.below hb
  replace hB := hB.trans (hb.mono hB.size)
  clear hb hW4
  go_wp2_with fail
  rw [HW4.out]
  refine (H5.out _ ha hx).mono ?_
  rintro e w5 ⟨p5, c5, rfl, o5, hb⟩
  replace ha := ha.below hb (Nat.le_refl _)
  replace ho := ho.below hb (Nat.le_refl _)
  replace hx := hx.below hb (Nat.le_refl _)
  replace i1 := i1.below hb (Nat.le_refl _)
  replace i2 := i2.below hb (Nat.le_refl _)
  replace b3 := b3.below hb
  replace b4 := b4.below hb
  replace hB := hB.trans (hb.mono hB.size)
  clear hb
  have i5 := o5.ints
  clear o5
  go_wp2_with fail
  refine (H6.out _ ha hx).mono ?_
  rintro e w6 ⟨p6, c6, rfl, o6, hb⟩
  replace ha := ha.below hb (Nat.le_refl _)
  replace ho := ho.below hb (Nat.le_refl _)
  replace hx := hx.below hb (Nat.le_refl _)
  replace i1 := i1.below hb (Nat.le_refl _)
  replace i2 := i2.below hb (Nat.le_refl _)
  replace b3 := b3.below hb
  replace b4 := b4.below hb
  replace i5 := i5.below hb (Nat.le_refl _)
  replace hB := hB.trans (hb.mono hB.size)
  clear hb
  have i6 := o6.ints
  clear o6
  go_wp2_with fail
  refine (eq25_true i1 i2).mono ?_
  rintro e w7 ⟨rfl, hw⟩
  have hb : Below _ _ _ := drew_below25 hw
  replace ha := ha.below hb (Nat.le_refl _)
  replace ho := ho.below hb (Nat.le_refl _)
  replace hx := hx.below hb (Nat.le_refl _)
  replace i1 := i1.below hb (Nat.le_refl _)
  replace i2 := i2.below hb (Nat.le_refl _)
  replace b3 := b3.below hb
  replace b4 := b4.below hb
  replace i5 := i5.below hb (Nat.le_refl _)
  replace i6 := i6.below hb (Nat.le_refl _)
  replace hB := hB.trans (hb.mono hB.size)
  clear hb hw
  have kb3_0 := b3.cell 0 _ rfl
  have kb3_1 := b3.cell 1 _ rfl
  have kb3_2 := b3.cell 2 _ rfl
  have kb3_3 := b3.cell 3 _ rfl
  have kb4_0 := b4.cell 0 _ rfl
  have kb4_1 := b4.cell 1 _ rfl
  have kb4_2 := b4.cell 2 _ rfl
  have kb4_3 := b4.cell 3 _ rfl
  go_wp2_with fail
  refine (eq25_true i5 i6).mono ?_
  rintro e w8 ⟨rfl, hw⟩
  have hb : Below _ _ _ := drew_below25 hw
  replace ha := ha.below hb (Nat.le_refl _)
  replace ho := ho.below hb (Nat.le_refl _)
  replace hx := hx.below hb (Nat.le_refl _)
  replace i1 := i1.below hb (Nat.le_refl _)
  replace i2 := i2.below hb (Nat.le_refl _)
  replace b3 := b3.below hb
  replace b4 := b4.below hb
  replace i5 := i5.below hb (Nat.le_refl _)
  replace i6 := i6.below hb (Nat.le_refl _)
  replace hB := hB.trans (hb.mono hB.size)
  clear hb hw
  go_wp2_with fail
  go_ret
  exact ⟨rfl, hB⟩
end Go.Proofs.Ytknincjfcicjfaa
