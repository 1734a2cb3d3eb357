/- The walks of goods.Envies and chores.Envies, for every goods and allocation; no condition.  (Printed by wip/genenv.py.) -/
import Derived.Test.YtiohehofnlmenaaGoodsX
import Derived.Test.YtiohehofnlmenaaGoodsQ
namespace Go.Proofs.Ytiohehofnlmenaa
set_option linter.unusedVariables false
set_option linter.unusedSimpArgs false
open Go.ChangeShapes Go.WideShapes Go.ChangeAt Go.RowKit Go.Deep

/-- A list of pairs, and an error. -/
def GivesQ (w : World) (xs : List (Nat × Nat)) (k : Int) (e : Ending) (w' : World) : Prop :=
  ∃ p c, e = .returned (.tuple #[.slice p xs.length c, .int .i64 k]) ∧ OwnP w' w.heap.size p c xs ∧ Below w.heap.size w w'


set_option maxHeartbeats 8000000 in
set_option maxRecDepth 100000 in
theorem choresEnvies_any (p : Option Addr) (c : Nat) (v : List (List Int)) (q : Option Addr) (d : Nat) (a : List Int) (w : World) (hx : Mat w p c v) (hi : Ints w q d a) :
    Calls Try.prog 11 #[.agg #[.slice p v.length c], .slice q a.length d] w (GivesQ w (envG cP v a) (chkA v a)) := by
  obtain ⟨W0, hW0⟩ : ∃ W0, w.alloc (.cells #[.slice p v.length c] 24) = W0 := ⟨_, rfl⟩
  have hB : Below w.heap.size w W0 := below_alloc hW0
  have bX : BoxV W0 w.heap.size [.slice p v.length c] := BoxV.new rfl hW0
  have hx := hx.below hB (Nat.le_refl _)
  have hi := hi.below hB (Nat.le_refl _)
  have x0 := bX.cell 0 _ rfl
  have HW0 := Lib.hid hW0
  clear hW0
  have hl1 := hx.length_le
  have hl2 := hi.length_le
  go_enter Try.func11, Try.ntmps11
  go_wp2_with fail
  rw [HW0.out]
  refine (goodsValues_any p c v q d a _ hx hi).mono ?_
  rintro e w1 ⟨pv, cv, rfl, mV, hb1⟩
  have hB := hB.trans (hb1.mono hB.size)
  by_cases hF : chkA v a = 0
  · have HL := Lib.hid (envG_ok (P := cP) hF)
    have HF := Lib.hid hF
    rw [valsL_ok hF] at mV
    rw [valsL_ok hF, valsG_len, hF]
    obtain ⟨hg, ha⟩ := chkA_zero.1 hF
    have h0 : 0 < v.length := hg.1
    have h6 := hg.2.1
    obtain ⟨B1, hB1⟩ : ∃ B1, w1.heap.size = B1 := ⟨_, rfl⟩
    have Hg := Lib.hid hg
    have Ha := Lib.hid ha
    have HB1 := Lib.hid hB1
    have HB := Lib.hid hB
    obtain ⟨bv, ov, rfl, hbv, _, _, _, _⟩ := mV.get (j := 0) (by rw [valsG_len]; exact h0)
    rw [hB1] at hbv
    clear hg ha hF hb1 hB hB1
    go_wp2_with fail
    go_loopw [8, 24] (fun s t wr => ∃ m : Nat, m ≤ v.length ∧ t = .int .i64 m ∧ (∃ zs q d, Hid (zs = prTo (cP v a) v.length m) ∧ s = .slice q (zs : List (Nat × Nat)).length d ∧ OwnP wr B1 q d zs) ∧ Below B1 w1 wr) (fun _ t _ => v.length - (intOf t).toNat)
    case atStart => exact ⟨0, Nat.zero_le _, rfl, ⟨[], none, 0, rfl, rfl, OwnP.ofNil _ _⟩, Below.refl _ _⟩
    case round =>
      obtain ⟨m, hm, rfl, ⟨zs, qz, dz, hz, rfl, hO⟩, hbr⟩ := hrel
      by_cases hlt : m < v.length
      · have hm1 : (m : Int) < v.length := by omega
        obtain ⟨qm, dm, hc, hI⟩ := mV.at (j := m) (by rw [valsG_len]; exact hlt)
        rw [valsG_row hlt] at hc hI
        rw [worthRow_len] at hc
        have hc := (hbr.cell (p := ⟨bv, ov + m, none⟩) hbv).trans hc
        have hz1 := hz.out
        go_wp2_with fail
        go_loopw [8, 31] (fun s t wk => ∃ k : Nat, k ≤ v.length ∧ t = .int .i64 k ∧ (∃ ys q d, Hid (ys = prTo (cP v a) v.length m ++ prRow (cP v a) m k) ∧ s = .slice q (ys : List (Nat × Nat)).length d ∧ OwnP wk B1 q d ys) ∧ Below B1 w1 wk) (fun _ t _ => v.length - (intOf t).toNat)
        case atStart => exact ⟨0, Nat.zero_le _, rfl, ⟨zs, qz, dz, by unfold Hid; rw [prRow, List.append_nil]; exact hz1, rfl, hO⟩, hbr⟩
        case round =>
          clear hO hz1 hz hc hbr
          obtain ⟨k, hk, rfl, ⟨ys, qy, dy, hy, rfl, hO⟩, hbk⟩ := hrel
          have hszk := hbk.size
          rw [HB1.out] at hszk
          by_cases hkl : k < v.length
          · have hk1 : (k : Int) < v.length := by omega
            have hIk := hI.below hbk (Nat.le_of_eq HB1.out)
            obtain ⟨b2, o2, rfl, _, hc2⟩ := hIk.get (j := k) (by rw [worthRow_len]; exact hkl)
            have hc3 := hIk.at (j := m) (by rw [worthRow_len]; exact hlt)
            rw [worthRow_get hkl] at hc2
            rw [worthRow_get hlt] at hc3
            have hyl : ys.length ≤ 900000 := by
              rw [hy.out, List.length_append]
              have h1 := prTo_len (cP v a) v.length m
              have h2 := prRow_len (cP v a) m k
              have h3 : m * v.length ≤ 6 * 6 := Nat.mul_le_mul (by omega) h6
              omega
            have hP : cP v a m k = decide (worth v a m (k : Int) < worth v a m (m : Int)) := rfl
            have HR1 := Lib.hid (show cP v a m k = true → _ from fun h => prRow_yes (P := cP v a) (m := m) (k := k) h)
            have HR2 := Lib.hid (show cP v a m k = false → _ from fun h => prRow_no (P := cP v a) (m := m) (k := k) h)
            obtain ⟨y, ey⟩ : ∃ y, worth v a m (k : Int) = y := ⟨_, rfl⟩
            obtain ⟨z, ez⟩ : ∃ z, worth v a m (m : Int) = z := ⟨_, rfl⟩
            rw [ey] at hc2 hP
            rw [ez] at hc3 hP
            clear ey ez hIk
            cases hd : decide (y < z) with
            | true =>
              have HR := Lib.hid (HR1.out (hP.trans hd))
              have HO := Lib.hid hO
              clear hP hO
              go_wp2_with (at_builtin; refine wpList_appP rfl (.tmp 42) (.tmp 46) rfl B1 _ _ ys m k rfl rfl rfl HO.out hyl hszk ?_; intro p3 c3 w3 u3 hu3 hO3 hg3 hf3)
              go_roundw
              case rel => exact ⟨k + 1, by omega, by go_num, ⟨u3, _, _, by unfold Hid; rw [hu3.out, hy.out, HR.out, List.append_assoc], rfl, hO3⟩, hbk.grown hg3 hszk (fun k' e => (HO.out.lt k' e).1)⟩
              case measure => simp [intOf]; omega
            | false =>
              have HR := Lib.hid (HR2.out (hP.trans hd))
              have HO := Lib.hid hO
              clear hP hO
              go_wp2_with fail
              go_roundw
              case rel => exact ⟨k + 1, by omega, by go_num, ⟨ys, _, _, by unfold Hid; rw [hy.out, HR.out], rfl, HO.out⟩, hbk⟩
              case measure => simp [intOf]; omega
          · have hk1 : ¬ (k : Int) < v.length := by omega
            obtain rfl : k = v.length := by omega
            have HS := Lib.hid (prTo_succ (cP v a) v.length m)
            go_wp2_with fail
            go_roundw
            case rel => exact ⟨m + 1, by omega, by go_num, ⟨ys, _, _, by unfold Hid; rw [hy.out, HS.out], rfl, hO⟩, hbk⟩
            case measure => simp [intOf]; omega
      · have hm1 : ¬ (m : Int) < v.length := by omega
        obtain rfl : m = v.length := by omega
        have hzr := hz.out
        subst hzr
        have hsz := HB.out.size
        go_wp2_with fail
        go_ret2
        rw [HL.out, HF.out]
        exact ⟨qz, dz, rfl, hO.lower (by have := HB1.out; omega), HB.out.trans (hbr.mono (by have := HB1.out; omega))⟩
  · have HL := Lib.hid (envG_err (P := cP) hF)
    have hz : (chkA v a != 0) = true := by rw [bne_iff_ne]; exact hF
    clear hF
    go_wp2_with fail
    go_ret2
    rw [HL.out]
    exact ⟨none, 0, rfl, OwnP.ofNil _ _, hB⟩
end Go.Proofs.Ytiohehofnlmenaa
