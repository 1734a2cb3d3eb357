/- The walk of room.Valid, for every flat and lease; no condition but the lists' sizes. -/
import Derived.Test.YtojldecldemfaaaBox
import Derived.Test.YtojldecldemfaaaAsksA
namespace Go.Proofs.Ytojldecldemfaaa
set_option linter.unusedVariables false
set_option linter.unusedSimpArgs false
open Go.ChangeShapes Go.WideShapes Go.ChangeAt Go.RowKit Go.Deep

/-- The first k prices are small. -/
def PriceOk (z : Int) (ps : List Int) (k : Nat) : Prop := ∀ i, i < k → -10000000 * z ≤ iget ps i ∧ iget ps i ≤ 10000000 * z
instance (z : Int) (ps : List Int) (k : Nat) : Decidable (PriceOk z ps k) := by unfold PriceOk; infer_instance
/-- The lease is valid, in a valid flat. -/
def VldP (v : List (List Int)) (r : Int) (al ps : List Int) (z : Int) : Prop := IsA al v.length ∧ 1 ≤ z ∧ z ≤ 60 ∧ ps.length = v.length ∧ PriceOk z ps ps.length ∧ sumTo (iget ps) ps.length = r * z
instance (v : List (List Int)) (r : Int) (al ps : List Int) (z : Int) : Decidable (VldP v r al ps z) := by unfold VldP; infer_instance
def vldR (v : List (List Int)) (r : Int) (al ps : List Int) (z : Int) : Int := if chkR v r = 0 then (if VldP v r al ps z then 0 else 8) else chkR v r
theorem vld_bad {v : List (List Int)} {r : Int} {al ps : List Int} {z : Int} (h : ¬ chkR v r = 0) : vldR v r al ps z = chkR v r := if_neg h
theorem vld_off {v : List (List Int)} {r : Int} {al ps : List Int} {z : Int} (h : chkR v r = 0) (h2 : ¬ VldP v r al ps z) : vldR v r al ps z = 8 := by unfold vldR; rw [if_pos h, if_neg h2]
theorem vld_ok {v : List (List Int)} {r : Int} {al ps : List Int} {z : Int} (h : chkR v r = 0) (h2 : VldP v r al ps z) : vldR v r al ps z = 0 := by unfold vldR; rw [if_pos h, if_pos h2]
theorem vld_zero {v : List (List Int)} {r : Int} {al ps : List Int} {z : Int} : vldR v r al ps z = 0 ↔ chkR v r = 0 ∧ VldP v r al ps z := by
  constructor
  · intro h
    by_cases hc : chkR v r = 0
    · by_cases hv : VldP v r al ps z
      · exact ⟨hc, hv⟩
      · rw [vld_off hc hv] at h; cases h
    · rw [vld_bad hc] at h; exact absurd h hc
  · rintro ⟨h1, h2⟩; exact vld_ok h1 h2
theorem price_sum {z : Int} {ps : List Int} {n : Nat} (hz : z ≤ 60) (hn : n ≤ 6) (h : PriceOk z ps n) : -3600000000 ≤ sumTo (iget ps) n ∧ sumTo (iget ps) n ≤ 3600000000 := by
  have : -(600000000 * (n : Int)) ≤ sumTo (iget ps) n ∧ sumTo (iget ps) n ≤ 600000000 * n := by
    clear hn
    induction n with
    | zero => simp [sumTo]
    | succ k ih =>
      have h1 := ih (fun i hi => h i (by omega))
      have h2 := h k (by omega)
      simp only [sumTo]
      omega
  omega
theorem rz_bd {r z : Int} (hr1 : 0 ≤ r) (hr2 : r ≤ 10000000) (hz1 : 1 ≤ z) (hz2 : z ≤ 60) : 0 ≤ r * z ∧ r * z ≤ 600000000 := by
  have h1 : r * z ≤ 10000000 * z := Int.mul_le_mul_of_nonneg_right hr2 (by omega)
  exact ⟨Int.mul_nonneg hr1 (by omega), by omega⟩

set_option maxHeartbeats 8000000 in
set_option maxRecDepth 100000 in
theorem roomValid_any (p q s : Option Addr) (c d f : Nat) (v : List (List Int)) (r : Int) (al ps : List Int) (z : Int) (w : World) (hx : Mat w p c v) (hy : Ints w q d al) (hz : Ints w s f ps) (hl : al.length ≤ 1000000) :
    Calls Try.prog 25 #[.agg #[.slice p v.length c, .int .i64 r], .agg #[.slice q al.length d, .slice s ps.length f, .int .i64 z]] w fun e w' => e = .returned (.int .i64 (vldR v r al ps z)) ∧ Below w.heap.size w w' := by
  obtain ⟨Wx, hWx⟩ : ∃ W, w.alloc (.cells #[.slice p v.length c, .int .i64 r] 24) = W := ⟨_, rfl⟩
  obtain ⟨W0, hW0⟩ : ∃ W, Wx.alloc (.cells #[.slice q al.length d, .slice s ps.length f, .int .i64 z] 28) = W := ⟨_, rfl⟩
  have hB1 := below_alloc hWx
  have hB2 := below_alloc hW0
  have bX : BoxV W0 w.heap.size [.slice p v.length c, .int .i64 r] := (BoxV.new rfl hWx).below hB2
  have hs : Wx.heap.size = w.heap.size + 1 := by rw [← hWx]; simp
  have bL : BoxV W0 (w.heap.size + 1) [.slice q al.length d, .slice s ps.length f, .int .i64 z] := BoxV.new hs hW0
  have hB : Below w.heap.size w W0 := hB1.trans (hB2.mono hB1.size)
  have mX := hx.below hB (Nat.le_refl _)
  have mA := hy.below hB (Nat.le_refl _)
  have mP := hz.below hB (Nat.le_refl _)
  have HWx := Lib.hid hWx
  have HW0 := Lib.hid hW0
  clear hWx hW0 hB1 hB2 hs hx hy hz
  have hvl := mX.length_le
  have hpl := mP.length_le
  go_enter Try.func25, Try.ntmps25
  go_wp2_with fail
  rw [HWx.out, HW0.out]
  refine (roomCheck_any p c v r _ mX).mono ?_
  rintro e w1 ⟨rfl, hb⟩
  replace mX := mX.below hb (Nat.le_refl _)
  replace mA := mA.below hb (Nat.le_refl _)
  replace mP := mP.below hb (Nat.le_refl _)
  replace bX := bX.below hb
  replace bL := bL.below hb
  replace hB := hB.trans (hb.mono hB.size)
  clear hb
  by_cases hC : chkR v r = 0
  · have hcz : (chkR v r != 0) = false := by rw [hC]; rfl
    have HC := Lib.hid hC
    clear hC
    have x0 := bX.cell 0 _ rfl
    have x1 := bX.cell 1 _ rfl
    have l0 := bL.cell 0 _ rfl
    have l1 := bL.cell 1 _ rfl
    have l2 := bL.cell 2 _ rfl
    go_wp2_with fail
    refine (valueTop_any p q c d v al _ mX mA hl).mono ?_
    rintro e w2 ⟨rfl, hb⟩
    clear x0 x1 l0 l1 l2
    replace mX := mX.below hb (Nat.le_refl _)
    replace mA := mA.below hb (Nat.le_refl _)
    replace mP := mP.below hb (Nat.le_refl _)
    replace bX := bX.below hb
    replace bL := bL.below hb
    replace hB := hB.trans (hb.mono hB.size)
    clear hb
    obtain ⟨hv, hr1, hr2⟩ := chkR_zero.1 HC.out
    have hv6 := hv.2.1
    by_cases hA : IsA al v.length
    · have hE : (valE v al != 0) = false := by unfold valE; rw [if_pos hv, if_pos hA]; rfl
      have HA := Lib.hid hA
      clear hA hv
      have x0 := bX.cell 0 _ rfl
      have x1 := bX.cell 1 _ rfl
      have l0 := bL.cell 0 _ rfl
      have l1 := bL.cell 1 _ rfl
      have l2 := bL.cell 2 _ rfl
      by_cases hz1 : z < 1
      · have g1 : decide (z < 1) = true := by simpa using hz1
        go_wp2_with fail
        go_ret
        exact ⟨ret_int (vld_off HC.out fun h => by have := h.2.1; omega).symm, hB⟩
      have g1 : decide (z < 1) = false := by simpa using hz1
      by_cases hz2 : 60 < z
      · have g2 : decide (60 < z) = true := by simpa using hz2
        go_wp2_with fail
        go_ret
        exact ⟨ret_int (vld_off HC.out fun h => by have := h.2.2.1; omega).symm, hB⟩
      have g2 : decide (60 < z) = false := by simpa using hz2
      by_cases hp : ps.length = v.length
      · have g3 : ((ps.length : Int) != (v.length : Int)) = false := by rw [hp]; simp
        have Hp := Lib.hid hp
        have hz3 : 1 ≤ z := by omega
        have hz4 : z ≤ 60 := by omega
        have hp6 : ps.length ≤ 6 := by omega
        clear hz1 hz2 hp
        go_wp2_with fail
        go_loop [8, 47] (fun s i => ∃ k : Nat, k ≤ ps.length ∧ i = .int .i64 k ∧ s = .int .i64 (sumTo (iget ps) k) ∧ Hid (PriceOk z ps k)) (fun _ i => ps.length - (intOf i).toNat)
        case atStart => exact ⟨0, by omega, rfl, rfl, fun j hj => by omega⟩
        case round =>
          obtain ⟨k, hk, rfl, rfl, ht⟩ := hrel
          have hS := price_sum hz4 (by omega) ht.out
          by_cases hlt : k < ps.length
          · obtain ⟨b, o, rfl, _, hc⟩ := mP.get hlt
            have hk1 : (k : Int) < ps.length := by omega
            by_cases hlow : iget ps k < -10000000 * z
            · have hdl : decide (iget ps k < -10000000 * z) = true := by simpa using hlow
              have hn := Lib.hid (show ¬ VldP v r al ps z from fun h => by have := (h.2.2.2.2.1 k hlt).1; omega)
              clear hS hlow
              go_wp2_with fail
              go_ret
              exact ⟨ret_int (vld_off HC.out hn.out).symm, hB⟩
            · have hdl : decide (iget ps k < -10000000 * z) = false := by simpa using hlow
              by_cases hhi : 10000000 * z < iget ps k
              · have hdh : decide (10000000 * z < iget ps k) = true := by simpa using hhi
                have hn := Lib.hid (show ¬ VldP v r al ps z from fun h => by have := (h.2.2.2.2.1 k hlt).2; omega)
                clear hS hlow hhi
                go_wp2_with fail
                go_ret
                exact ⟨ret_int (vld_off HC.out hn.out).symm, hB⟩
              · have hdh : decide (10000000 * z < iget ps k) = false := by simpa using hhi
                have Hn := Lib.hid (show PriceOk z ps (k + 1) from snoc_all ht.out ⟨by omega, by omega⟩)
                have Hs : Hid (sumTo (iget ps) (k + 1) = sumTo (iget ps) k + iget ps k) := rfl
                generalize sumTo (iget ps) k = s0 at *
                obtain ⟨hS1, hS2⟩ := hS
                have e1 : -600000000 ≤ iget ps k := by omega
                have e2 : iget ps k ≤ 600000000 := by omega
                clear hlow hhi
                go_wp2_with fail
                go_round
                case rel => exact ⟨k + 1, by omega, by go_num, by rw [Hs.out], Hn⟩
                case measure => simp [intOf]; omega
          · have hk1 : ¬ (k : Int) < ps.length := by omega
            obtain rfl : k = ps.length := by omega
            obtain ⟨m1, m2⟩ := rz_bd hr1 hr2 hz3 hz4
            have hw : IntKind.i64.wrap (r * z) = r * z := IntWalk.i64_in _ (by omega)
            by_cases hq : sumTo (iget ps) ps.length = r * z
            · have g4 : (sumTo (iget ps) ps.length != r * z) = false := by rw [hq]; simp
              have Hq := Lib.hid hq
              clear hq
              go_wp2_with fail
              go_ret
              exact ⟨ret_int (vld_ok HC.out ⟨HA.out, hz3, hz4, Hp.out, ht.out, Hq.out⟩).symm, hB⟩
            · have g4 : (sumTo (iget ps) ps.length != r * z) = true := by rw [bne_iff_ne]; exact hq
              have Hq := Lib.hid hq
              clear hq
              go_wp2_with fail
              go_ret
              exact ⟨ret_int (vld_off HC.out fun h => Hq.out h.2.2.2.2.2).symm, hB⟩
      · have g3 : ((ps.length : Int) != (v.length : Int)) = true := by rw [bne_iff_ne]; omega
        have Hp := Lib.hid hp
        clear hp
        go_wp2_with fail
        go_ret
        exact ⟨ret_int (vld_off HC.out fun h => Hp.out h.2.2.2.1).symm, hB⟩
    · have hE : (valE v al != 0) = true := by unfold valE; rw [if_pos hv, if_neg hA]; rfl
      have hE8 : Hid (valE v al = 8) := by unfold Hid valE; rw [if_pos hv, if_neg hA]
      have HA := Lib.hid hA
      clear hA hv
      go_wp2_with fail
      go_ret
      rw [hE8.out]
      exact ⟨ret_int (vld_off HC.out fun h => HA.out h.1).symm, hB⟩
  · have hcz : (chkR v r != 0) = true := by rw [bne_iff_ne]; exact hC
    have HC := Lib.hid hC
    clear hC
    go_wp2_with fail
    go_ret
    exact ⟨ret_int (vld_bad HC.out).symm, hB⟩
end Go.Proofs.Ytojldecldemfaaa
