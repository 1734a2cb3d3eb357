/- The walks of better.owns, above, few, looked and slices.Equal; no condition but what each says. -/
import Derived.Test.YtmcncflieoolmaaGreatTopTopGoodsm10
import Derived.Test.YtmcncflieoolmaaGreatTopTopGoodsm9
import Derived.StillTailTactics
import Derived.Deep.DeepCutAuto
import Derived.Test.YtmcncflieoolmaaGreatTopTopGoodsm26
import Derived.Test.YtmcncflieoolmaaGreatTopTopGoodsm5
import Derived.Test.YtmcncflieoolmaaGreatTopTopGoodsm16
import Derived.Deep.RegionHeld3
import Derived.Deep.RegionLaw
import Derived.BigQuiet
import Derived.Deep.MidRow
/- The walks of better.owns, above, few, looked and slices.Equal; no condition but what each says. -/
namespace Go.Proofs.YtmcncflieoolmaaGreat
set_option linter.unusedVariables false
set_option linter.unusedSimpArgs false
open Go.ChangeShapes Go.WideShapes Go.ChangeAt Go.RowKit Go.Deep

set_option maxHeartbeats 4000000 in
set_option maxRecDepth 100000 in
theorem owns_any (p : Option Addr) (c : Nat) (v : List (List Int)) (q : Option Addr) (d : Nat) (a : List Int) (w : World) (hx : Mat w p c v) (hi : Ints w q d a) (hg : Gds v) (ha : AlcOk v a) :
    Calls Tryz.prog 77 #[.agg #[.slice p v.length c], .slice q a.length d] w fun e w' => ∃ q' d', e = .returned (.slice q' v.length d') ∧ Ints w' q' d' (ownL v a) ∧ Below w.heap.size w w' := by
  obtain ⟨W0, hW0⟩ : ∃ W0, w.alloc (.cells #[.slice p v.length c] 24) = W0 := ⟨_, rfl⟩
  have hB : Below w.heap.size w W0 := below_alloc hW0
  have bX : BoxV W0 w.heap.size [.slice p v.length c] := BoxV.new rfl hW0
  have hx := hx.below hB (Nat.le_refl _)
  have hi := hi.below hB (Nat.le_refl _)
  have x0 := bX.cell 0 _ rfl
  have HW0 := Lib.hid hW0
  have h0 : 0 < v.length := hg.1
  have h6 := hg.2.1
  have Hg := Lib.hid hg
  have Ha := Lib.hid ha
  have hl2 := hi.length_le
  have hB0 : w.heap.size < W0.heap.size := by rw [← hW0]; simp
  obtain ⟨B1, hB1⟩ : ∃ B1, W0.heap.size = B1 := ⟨_, rfl⟩
  have HB1 := Lib.hid hB1
  clear hW0 hg ha
  go_enter Tryz.func77, Tryz.ntmps77
  go_wp2_with (first | (rw [HW0.out]; done) | (at_make; rw [HW0.out]; refine wpList_mk rfl (.tmp 10) (.tmp 10) rfl B1 v.length rfl rfl (by omega) (Nat.le_of_eq hB1.symm) ?_; intro w2 hO2 hg2 hs2))
  have hb2 : Below B1 W0 w2 := Below.grown (Below.refl B1 W0) hg2 (Nat.le_of_eq hB1.symm) (fun k e => (by cases e))
  have hB2 : Below w.heap.size w w2 := hB.trans (hb2.mono (by omega))
  clear hB1
  rw [HB1.out] at hO2
  try rw [HB1.out]
  go_loopw [14] (fun t wj => ∃ m : Nat, m ≤ a.length ∧ t = .int .i64 m ∧ Own wj B1 (some ⟨B1, 0, none⟩) v.length (ownUp v a m) ∧ Below B1 W0 wj) (fun t _ => a.length - (intOf t).toNat)
  case atStart => exact ⟨0, Nat.zero_le _, rfl, by rw [ownUp_zero]; exact hO2, hb2⟩
  case round =>
    obtain ⟨m, hm, rfl, hO, hbj⟩ := hrel
    have x0 := (bX.below (by rw [HB1.out]; exact hbj)).cell 0 _ rfl
    by_cases hml : m < a.length
    · have hm1 : (m : Int) < a.length := by omega
      obtain ⟨b2, o2, rfl, _, hc2⟩ := (hi.below hbj (Nat.le_of_eq HB1.out)).get hml
      have hal := Ha.out.2 m hml
      by_cases hneg : iget a m < 0
      · have hd : decide (0 ≤ iget a m) = false := by simpa using hneg
        have Hst := Lib.hid (ownUp_none (v := v) hneg)
        have HO := Lib.hid hO
        clear hneg hO
        go_wp2_with fail
        go_roundw
        case rel => exact ⟨m + 1, by omega, by go_num, by rw [Hst.out]; exact HO.out, hbj⟩
        case measure => simp [intOf]; omega
      · have hd : decide (0 ≤ iget a m) = true := by simpa using hneg
        obtain ⟨x, hxx⟩ : ∃ x : Nat, iget a m = (x : Int) := ⟨(iget a m).toNat, by omega⟩
        have hxl : x < v.length := by omega
        have hx1 : (x : Int) < v.length := by omega
        have Hst := Lib.hid (ownUp_set (v := v) hxx hxl)
        have hc4 := hO.at (j := x) (by rw [ownUp_len]; exact hxl)
        have hr1 := worthUp_in Hg.out hxl (x : Int) m (by have := Ha.out.1; omega) (a := a)
        rw [← ownUp_get hxl] at hr1
        have hfz := hO.free x
        have hmw : m < wid v := by have := Ha.out.1; omega
        have hr2 := gds_bid Hg.out hxl hmw
        obtain ⟨bv, ov, rfl, _, qk, dk, hc, hik⟩ := (hx.below hbj (Nat.le_of_eq HB1.out)).get hxl
        obtain ⟨b3, o3, rfl, _, hc3⟩ := hik.get (j := m) (by rw [(Hg.out.2.2.2 x hxl).1]; exact hmw)
        have hm2 : (m : Int) < (rget v x).length := by have := (Hg.out.2.2.2 x hxl).1; omega
        rw [hxx] at hc2 hd
        have hmm : m ≤ 10 := by have := Ha.out.1; have := Hg.out.2.2.1; omega
        obtain ⟨y1, e1⟩ : ∃ y, iget (ownUp v a m) x = y := ⟨_, rfl⟩
        obtain ⟨y2, e2⟩ : ∃ y, iget (rget v x) m = y := ⟨_, rfl⟩
        rw [e1] at hc4 hr1 Hst
        rw [e2] at hc3 hr2 Hst
        clear e1 e2 hxx hal hneg hik
        have hin : in64 (y1 + y2) := ⟨by omega, by omega⟩
        have HO := Lib.hid hO
        clear hO
        go_wp2_with fail
        go_still_tail 14, (by kernel_rfl)
        go_wp2_with fail
        go_roundw
        case rel => exact ⟨m + 1, by omega, by go_num, by rw [Hst.out]; exact (HO.out.set x hin).1.drew1, (hbj.setCell (p := ⟨B1, x, none⟩) (Nat.le_refl _) _).drew⟩
        case measure => simp [intOf]; omega
    · have hm1 : ¬ (m : Int) < a.length := by omega
      obtain rfl : m = a.length := by omega
      have hw2 : ownUp v a a.length = ownL v a := rfl
      rw [hw2] at hO
      go_wp2_with fail
      go_ret
      exact ⟨_, _, rfl, hO.ints, hB.trans (hbj.mono (by have := HB1.out; omega))⟩
set_option maxHeartbeats 800000 in
theorem slEqual_any (p q : Option Addr) (c d : Nat) (xs ys : List Int) (w : World) (hx : Ints w p c xs) (hy : Ints w q d ys) (Hl : Hid (xs.length = ys.length)) :
    Calls Tryz.prog 112 #[.slice p xs.length c, .slice q ys.length d] w fun e w' => e = .returned (.bool (decide (xs = ys))) ∧ ∃ n, w' = w.drewN n := by
  have hb : ((xs.length : Int) != ys.length) = false := by simp [Hl.out]
  go_enter Tryz.func112, Tryz.ntmps112
  go_wp2
  go_loopw [13] (fun i wr => ∃ k : Nat, k ≤ xs.length ∧ i = .int .i64 k ∧ (Hid (∀ j, j < k → iget xs j = iget ys j)) ∧ ∃ n, wr = w.drewN n) (fun i _ => xs.length - (intOf i).toNat)
  case atStart => exact ⟨0, Nat.zero_le _, rfl, fun j hj => by omega, 0, rfl⟩
  case round =>
    obtain ⟨k, hk, rfl, ht, n, rfl⟩ := hrel
    by_cases hlt : k < xs.length
    · obtain ⟨b, o, rfl, _, hc⟩ := hx.get hlt
      have hlt' : k < ys.length := by rw [← Hl.out]; exact hlt
      obtain ⟨b', o', rfl, _, hc'⟩ := hy.get hlt'
      have hk1 : (k : Int) < xs.length := by omega
      have hk2 : (k : Int) < ys.length := by omega
      have hl1 := hx.length_le
      go_wp2
      go_quiet (fail)
      go_wp2
      · have hne : (iget xs k != iget ys k) = true := by assumption
        go_ret
        refine ⟨ret_bool ?_, drew_drewN _ ⟨_, rfl⟩⟩
        symm
        rw [decide_eq_false_iff_not]
        rintro rfl
        simp at hne
      · have he : (iget xs k != iget ys k) = false := by assumption
        go_roundw
        case rel => exact ⟨k + 1, by omega, by go_num, snoc_all ht.out (by simpa using he), _, rfl⟩
        case measure => simp [intOf]; omega
    · have hk1 : ¬ (k : Int) < xs.length := by omega
      go_wp2
      go_ret
      refine ⟨ret_bool ?_, _, rfl⟩
      symm
      rw [decide_eq_true_iff]
      exact take_ext (fun j hj => ht.out j (by omega)) Hl.out
set_option maxHeartbeats 1600000 in
theorem above_any (p q : Option Addr) (c d : Nat) (xs ys : List Int) (w : World) (hx : Ints w p c xs) (hy : Ints w q d ys) (Hl : Hid (xs.length = ys.length)) :
    Calls Tryz.prog 79 #[.slice p xs.length c, .slice q ys.length d] w fun e w' => e = .returned (.bool (aboveB xs ys)) ∧ Below w.heap.size w w' := by
  have hl1 := hx.length_le
  have HE := Lib.hid (slEqual_any p q c d xs ys w hx hy Hl)
  go_enter Tryz.func79, Tryz.ntmps79
  go_wp2_with fail
  go_loop [9] (fun i => ∃ k : Nat, k ≤ xs.length ∧ i = .int .i64 k ∧ (Hid (∀ j, j < k → iget xs j ≤ iget ys j))) (fun i => xs.length - (intOf i).toNat)
  case atStart => exact ⟨0, Nat.zero_le _, rfl, fun j hj => by omega⟩
  case round =>
    obtain ⟨k, hk, rfl, ht⟩ := hrel
    by_cases hlt : k < xs.length
    · obtain ⟨b, o, rfl, _, hc⟩ := hx.get hlt
      have hlt' : k < ys.length := by rw [← Hl.out]; exact hlt
      obtain ⟨b', o', rfl, _, hc'⟩ := hy.get hlt'
      have hk1 : (k : Int) < xs.length := by omega
      have hk2 : (k : Int) < ys.length := by omega
      by_cases hlt2 : iget ys k < iget xs k
      · have hd : decide (iget ys k < iget xs k) = true := by rw [decide_eq_true_iff]; exact hlt2
        have hR : Hid (aboveB xs ys = false) := by unfold Hid aboveB; rw [decide_eq_false_iff_not]; intro h; have := h.1 k hlt; omega
        clear hlt2
        go_wp2_with fail
        go_ret
        exact ⟨ret_bool hR.out.symm, Below.refl _ _⟩
      · have hd : decide (iget ys k < iget xs k) = false := by rw [decide_eq_false_iff_not]; exact hlt2
        have hN := Lib.hid (snoc_all' (P := fun j => iget xs j ≤ iget ys j) ht.out (by omega))
        clear hlt2
        go_wp2_with fail
        go_round
        case rel => exact ⟨k + 1, by omega, by go_num, hN.out⟩
        case measure => simp [intOf]; omega
    · have hk1 : ¬ (k : Int) < xs.length := by omega
      have hR : Hid (aboveB xs ys = !(decide (xs = ys))) := by
        unfold Hid aboveB
        rw [Bool.eq_iff_iff, decide_eq_true_iff, Bool.not_eq_true', decide_eq_false_iff_not]
        unfold AboveP
        exact ⟨fun h => h.2, fun h => ⟨fun j hj => ht.out j (by omega), h⟩⟩
      go_wp2_with fail
      refine HE.out.mono ?_
      rintro e w' ⟨rfl, n, rfl⟩
      go_wp2_with fail
      go_ret
      exact ⟨ret_bool hR.out.symm, below_drewN _ _ _⟩
/-- Powers that stay small. -/
theorem pow_small {n k : Nat} (hn : n ≤ 4) (hk : k ≤ 6) : n ^ k ≤ 4096 := Nat.le_trans (Nat.pow_le_pow_left hn k) (Nat.le_trans (Nat.pow_le_pow_right (by omega) hk) (by decide))
theorem pow_step (n k : Nat) : ((n ^ k : Nat) : Int) * (n : Int) = ((n ^ (k + 1) : Nat) : Int) := by rw [Nat.pow_succ]; push_cast; rfl
set_option maxHeartbeats 1600000 in
theorem few_any (p : Option Addr) (c : Nat) (v : List (List Int)) (w : World) (hx : Mat w p c v) (h0 : 0 < v.length) (h4 : v.length ≤ 4) (hw6 : wid v ≤ 6) :
    Calls Tryz.prog 76 #[.agg #[.slice p v.length c]] w fun e w' => e = .returned (.bool true) ∧ Below w.heap.size w w' := by
  obtain ⟨W0, hW0⟩ : ∃ W0, w.alloc (.cells #[.slice p v.length c] 24) = W0 := ⟨_, rfl⟩
  have hB : Below w.heap.size w W0 := below_alloc hW0
  have bX : BoxV W0 w.heap.size [.slice p v.length c] := BoxV.new rfl hW0
  have hx := hx.below hB (Nat.le_refl _)
  have x0 := bX.cell 0 _ rfl
  obtain ⟨b, o, rfl, _, q0, d0, hc0, hi0⟩ := hx.get h0
  rw [Nat.add_zero] at hc0
  have hW : Hid ((rget v 0).length = wid v) := rfl
  have HW0 := Lib.hid hW0
  have h01 : (0 : Int) < v.length := by omega
  clear hW0 hi0
  go_enter Tryz.func76, Tryz.ntmps76
  go_upto_region 2 with (fail)
  rw [HW0.out]
  go_wp2_with fail
  go_loop [9, 3] (fun i t => ∃ k : Nat, k ≤ wid v ∧ i = .int .i64 k ∧ t = .int .i64 ((v.length ^ k : Nat) : Int)) (fun i _ => wid v - (intOf i).toNat)
  case atStart => exact ⟨0, Nat.zero_le _, rfl, rfl⟩
  case round =>
    obtain ⟨k, hk, rfl, rfl⟩ := hrel
    by_cases hlt : k < wid v
    · have hk1 : (k : Int) < (rget v 0).length := by rw [hW.out]; omega
      have h1 := pow_small h4 (k := k + 1) (by omega)
      have e1 := pow_step v.length k
      obtain ⟨y, ey⟩ : ∃ y, v.length ^ k = y := ⟨_, rfl⟩
      have He := Lib.hid ey
      rw [ey] at e1 ⊢
      obtain ⟨z, ez⟩ : ∃ z, v.length ^ (k + 1) = z := ⟨_, rfl⟩
      have Hz := Lib.hid ez
      rw [ez] at e1 h1
      clear ey ez
      have hwr : IntKind.i64.wrap ((y : Int) * (v.length : Int)) = (z : Int) := by rw [e1]; exact IntWalk.i64_in _ (by omega)
      have hd : decide ((20000 : Int) < (z : Int)) = false := by rw [decide_eq_false_iff_not]; omega
      clear e1
      go_wp2_with fail
      go_round
      case rel => exact ⟨k + 1, by omega, by go_num, by rw [Hz.out]⟩
      case measure => simp [intOf]; omega
    · have hk1 : ¬ (k : Int) < (rget v 0).length := by rw [hW.out]; omega
      go_wp2_with fail
      go_ret
      exact ⟨rfl, hB⟩
set_option maxHeartbeats 1600000 in
theorem looked_any (p : Option Addr) (c : Nat) (v : List (List Int)) (q : Option Addr) (d : Nat) (a : List Int) (w : World) (hx : Mat w p c v) (hi : Ints w q d a) (hF : chkA v a = 0) (h4 : v.length ≤ 4) (hw6 : wid v ≤ 6) :
    Calls Tryz.prog 40 #[.agg #[.slice p v.length c], .slice q a.length d] w fun e w' => e = .returned (.int .i64 0) ∧ Below w.heap.size w w' := by
  obtain ⟨W0, hW0⟩ : ∃ W0, w.alloc (.cells #[.slice p v.length c] 24) = W0 := ⟨_, rfl⟩
  have hB : Below w.heap.size w W0 := below_alloc hW0
  have bX : BoxV W0 w.heap.size [.slice p v.length c] := BoxV.new rfl hW0
  have hx := hx.below hB (Nat.le_refl _)
  have hi := hi.below hB (Nat.le_refl _)
  have x0 := bX.cell 0 _ rfl
  have HV := goodsValid_any p c v q d a W0 hx hi
  rw [hF] at HV
  have HW0 := Lib.hid hW0
  have h0 := (chkA_zero.1 hF).1.1
  clear hW0 hF
  go_enter Tryz.func40, Tryz.ntmps40
  go_wp2_with fail
  rw [HW0.out]
  refine HV.mono ?_
  rintro e w1 ⟨rfl, hb⟩
  have hx := hx.below hb (Nat.le_refl _)
  have x0 := (bX.below hb).cell 0 _ rfl
  have hB1 := hB.trans (hb.mono hB.size)
  clear hb HV
  go_wp2_with fail
  refine (few_any p c v w1 hx h0 h4 hw6).mono ?_
  rintro e w2 ⟨rfl, hb⟩
  go_wp2_with fail
  go_ret
  exact ⟨rfl, hB1.trans (hb.mono hB1.size)⟩
end Go.Proofs.YtmcncflieoolmaaGreat

/- The walk of share.Find, for goods of few agents and few goods for which there is a kept division. -/
namespace Go.Proofs.YtmcncflieoolmaaGreat
set_option linter.unusedSimpArgs false
open Go.ChangeShapes Go.WideShapes Go.ChangeAt Go.RowKit Go.Deep
set_option linter.unusedVariables false

theorem shL_eq {v : List (List Int)} {L L' : List Int} (h : ShrL v L v.length) (h' : ShrL v L' v.length) : L = L' := ext_iget (by rw [h.1, h'.1]) fun i hi => by
  rw [h.1] at hi
  rw [(h.2 i hi).2, (h'.2 i hi).2]
theorem lackL_zero {v : List (List Int)} {s A : List Int} (h : s.length = v.length) : lackL v s A 0 = s := ext_iget (by rw [lackL_len, h]) fun i hi => by
  rw [lackL_len] at hi
  rw [lackL_get hi]
  simp [worthUp]
set_option maxRecDepth 100000 in
set_option maxHeartbeats 4000000 in
theorem shFind_any (p : Option Addr) (c : Nat) (v : List (List Int)) (w : World) (hx : Mat w p c v) (hg : Gds v) (h4 : v.length ≤ 4) (hw6 : wid v ≤ 6) (hex : ∀ L, ShrL v L v.length → ∃ C, DigL v.length (wid v) C ∧ ∀ i, i < v.length → iget L i ≤ worth v C i (i : Int)) :
    Calls Tryz.prog 43 #[.agg #[.slice p v.length c]] w fun e w' => ∃ A q d, e = .returned (.tuple #[.slice q (wid v) d, .int .i64 0]) ∧ Ints w' q d A ∧ DigL v.length (wid v) A ∧ (∀ L, ShrL v L v.length → ∀ i, i < v.length → iget L i ≤ worth v A i (i : Int)) ∧ Below w.heap.size w w' := by
  obtain ⟨W0, hW0⟩ : ∃ W0, w.alloc (.cells #[.slice p v.length c] 24) = W0 := ⟨_, rfl⟩
  have hB : Below w.heap.size w W0 := below_alloc hW0
  have bX : BoxV W0 w.heap.size [.slice p v.length c] := BoxV.new rfl hW0
  have hx0 := hx.below hB (Nat.le_refl _)
  have x0 := bX.cell 0 _ rfl
  have h0 : 0 < v.length := hg.1
  have CA := Lib.hid (shAll_any p c v W0 hx0 hg)
  have HW0 := Lib.hid hW0
  have Hg := Lib.hid hg
  have Hex := Lib.hid hex
  clear hW0 hg hx0 hex
  go_enter Tryz.func43, Tryz.ntmps43
  go_wp2_with fail
  rw [HW0.out]
  refine CA.out.mono ?_
  rintro e w1 ⟨L, ql, dl, rfl, hO, hL, hb⟩
  have bX1 := bX.below hb
  have x0 := bX1.cell 0 _ rfl
  have hB1 := hB.trans (hb.mono hB.size)
  have hLp : L ≠ [] := fun e => by have := hL.1; rw [e] at this; simp at this; omega
  obtain ⟨gl, rfl⟩ := hO.some_of hLp
  have hgl := hO.lt gl rfl
  have hs0 : w.heap.size < W0.heap.size := bX.lt
  obtain ⟨b, o, rfl, _, q0, d0, hcr, hI⟩ := (hx.below hB1 (Nat.le_refl _)).get h0
  rw [Nat.add_zero] at hcr
  have hl0 : (0 : Int) < v.length := by omega
  replace hcr : w1.cell? ⟨b, o, none⟩ = some (.slice q0 (wid v) d0) := hcr
  have hWd : Hid ((rget v 0).length = wid v) := rfl
  have HL := Lib.hid hL
  have HO := Lib.hid hO
  clear hb CA hL hO hI hLp
  go_wp2_with fail
  go_loop [6, 21] (fun t i => ∃ k : Nat, k ≤ wid v ∧ i = .int .i64 k ∧ t = .int .i64 ((v.length ^ k : Nat) : Int)) (fun _ i => wid v - (intOf i).toNat)
  case atStart => exact ⟨0, Nat.zero_le _, rfl, rfl⟩
  case round =>
    obtain ⟨k, hk, rfl, rfl⟩ := hrel
    by_cases hlt : k < wid v
    · have hk1 : (k : Int) < wid v := by omega
      have h1 := pow_small h4 (k := k + 1) (by omega)
      have e1 := pow_step v.length k
      obtain ⟨y, ey⟩ : ∃ y, v.length ^ k = y := ⟨_, rfl⟩
      have He := Lib.hid ey
      rw [ey] at e1 ⊢
      obtain ⟨z, ez⟩ : ∃ z, v.length ^ (k + 1) = z := ⟨_, rfl⟩
      have Hz := Lib.hid ez
      rw [ez] at e1 h1
      clear ey ez
      have hwr : IntKind.i64.wrap ((y : Int) * (v.length : Int)) = (z : Int) := by rw [e1]; exact IntWalk.i64_in _ (by omega)
      have hd : decide ((20000 : Int) < (z : Int)) = false := by rw [decide_eq_false_iff_not]; omega
      clear e1
      go_wp2_with fail
      go_round
      case rel => exact ⟨k + 1, by omega, by go_num, by rw [Hz.out]⟩
      case measure => simp [intOf]; omega
    · have hk1 : ¬ (k : Int) < wid v := by omega
      have hw1s := hB1.size
      have hgl1 : gl < w1.heap.size := hgl.2
      go_wp2_with fail
      obtain ⟨wz, rfl⟩ : ∃ W, W = w1 := ⟨_, rfl⟩
      have hwz := hB1.size
      have Hmk : Hid (∀ W, Below wz.heap.size wz W → W.cell? ⟨w.heap.size, 0, none⟩ = some (.slice (some ⟨b, o, none⟩) v.length c) ∧ W.cell? ⟨b, o, none⟩ = some (.slice q0 (wid v) d0)) := fun W hG =>
        ⟨(hG.cell (p := ⟨w.heap.size, 0, none⟩) (World.block_lt_of_cell? _ _ x0)).trans x0, (hG.cell (p := ⟨b, o, none⟩) (World.block_lt_of_cell? _ _ hcr)).trans hcr⟩
      have hmk := run_mkN (wid v) (by omega)
      have xa := (Hmk.out (wz.alloc (mkB (wid v))) ((Below.refl _ _).alloc (Nat.le_refl _) _)).1
      have xb := (Hmk.out (wz.alloc (mkB (wid v))) ((Below.refl _ _).alloc (Nat.le_refl _) _)).2
      go_region
      obtain ⟨Wb, hWb⟩ : ∃ W, (wz.alloc (mkB (wid v))).alloc (.cells #[.slice (some ⟨b, o, none⟩) v.length c, .slice (some ⟨gl, 0, none⟩) v.length dl, .slice (some ⟨wz.heap.size, 0, none⟩) (wid v) (wid v)] 126) = W := ⟨_, rfl⟩
      have hBa : Below wz.heap.size wz (wz.alloc (mkB (wid v))) := (Below.refl _ _).alloc (Nat.le_refl _) _
      have hsa : (wz.alloc (mkB (wid v))).heap.size = wz.heap.size + 1 := by simp
      have hBb := below_alloc hWb
      have hBz : Below wz.heap.size wz Wb := hBa.trans (hBb.mono hBa.size)
      have hOa : Own Wb w.heap.size (some ⟨wz.heap.size, 0, none⟩) (wid v) (List.replicate (wid v) 0) := (own_mkN wz w.heap.size (wid v) (by omega) hwz).below hBb (Nat.le_refl _)
      have bK : BoxV Wb (wz.heap.size + 1) [.slice (some ⟨b, o, none⟩) v.length c, .slice (some ⟨gl, 0, none⟩) v.length dl, .slice (some ⟨wz.heap.size, 0, none⟩) (wid v) (wid v)] := BoxV.new hsa hWb
      rw [hWb]
      have hKS : KeptS w (wz.heap.size + 1) gl dl wz.heap.size (wid v) (wid v) (some ⟨b, o, none⟩) c v (List.replicate (wid v) 0) (lackL v L (List.replicate (wid v) 0) 0) Wb.drew := by
        rw [lackL_zero HL.out.1]
        exact KeptS.drew ⟨hB1.trans (hBz.mono hwz), bK, (HO.out.lower (by omega)).below hBz (Nat.le_refl _), hOa⟩
      have CK := kept_any w (wz.heap.size + 1) gl dl wz.heap.size (wid v) (wid v) (some ⟨b, o, none⟩) c v L hx Hg.out rfl (by omega) (by omega) (by omega) (fun i hi => (HL.out.2 i hi).1.1) (wid v) 0 _ _ (by omega) (by simp) (fun j hj => by omega) hKS
      have CK : Hid (Calls Tryz.prog 81 #[.pointer (some ⟨wz.heap.size + 1, 0, none⟩), .int .i64 0] Wb.drew fun e W' => ∃ b', e = .returned (.bool b') ∧ KeptE w (wz.heap.size + 1) gl dl wz.heap.size (wid v) (wid v) (some ⟨b, o, none⟩) c v L (List.replicate (wid v) 0) 0 b' W') := CK
      clear hKS hWb hBa hBb hBz hOa bK hmk xa xb Hmk hcr x0
      go_wp2_with fail
      refine CK.out.mono ?_
      rintro e w3 ⟨b', rfl, hE⟩
      rcases hE with ⟨rfl, A, L', hD, hA, hS⟩ | ⟨rfl, A, _, _, _, hno⟩
      · have c2 := hS.box.cell 2 _ rfl
        have HR : Hid (Ints w3 (some ⟨wz.heap.size, 0, none⟩) (wid v) A ∧ DigL v.length (wid v) A ∧ (∀ L, ShrL v L v.length → ∀ i, i < v.length → iget L i ≤ worth v A i (i : Int)) ∧ Below w.heap.size w w3) := ⟨hS.arr.ints, hD, fun L2 hL2 i hi => by rw [shL_eq hL2 HL.out]; exact hA i hi, hS.bel⟩
        clear hD hA hS CK
        go_wp2_with fail
        go_ret2
        exact ⟨A, _, _, rfl, HR.out⟩
      · obtain ⟨C, hC, hCw⟩ := Hex.out L HL.out
        obtain ⟨i, hi, hlt⟩ := hno C hC (fun j hj => by omega)
        have := hCw i hi
        omega
end Go.Proofs.YtmcncflieoolmaaGreat

/- Walks of parcenerref20.Tries, parcenerref22.Above, parcenerref23.Check and parcenerref01.Of. -/
namespace Go.Proofs.YtmcncflieoolmaaGreat
set_option linter.unusedVariables false
set_option linter.unusedSimpArgs false
open Go.ChangeShapes Go.WideShapes Go.ChangeAt Go.RowKit Go.Deep

set_option maxHeartbeats 1600000 in
theorem tries_any (p : Option Addr) (c : Nat) (v : List (List Int)) (w : World) (hx : Mat w p c v) (h0 : 0 < v.length) (h4 : v.length ≤ 4) (hw6 : wid v ≤ 6) :
    Calls Tryz.prog 9 #[.agg #[.slice p v.length c]] w fun e w' => e = .returned (.bool false) ∧ Below w.heap.size w w' := by
  obtain ⟨W0, hW0⟩ : ∃ W0, w.alloc (.cells #[.slice p v.length c] 24) = W0 := ⟨_, rfl⟩
  have hB : Below w.heap.size w W0 := below_alloc hW0
  have bX : BoxV W0 w.heap.size [.slice p v.length c] := BoxV.new rfl hW0
  have hx := hx.below hB (Nat.le_refl _)
  have x0 := bX.cell 0 _ rfl
  obtain ⟨b, o, rfl, _, q0, d0, hc0, hi0⟩ := hx.get h0
  rw [Nat.add_zero] at hc0
  have hW : Hid ((rget v 0).length = wid v) := rfl
  have HW0 := Lib.hid hW0
  have h01 : (0 : Int) < v.length := by omega
  clear hW0 hi0
  go_enter Tryz.func9, Tryz.ntmps9
  go_upto_region 2 with (fail)
  rw [HW0.out]
  go_wp2_with fail
  go_loop [4, 3] (fun i t => ∃ k : Nat, k ≤ wid v ∧ i = .int .i64 k ∧ t = .int .i64 ((v.length ^ k : Nat) : Int)) (fun i _ => wid v - (intOf i).toNat)
  case atStart => exact ⟨0, Nat.zero_le _, rfl, rfl⟩
  case round =>
    obtain ⟨k, hk, rfl, rfl⟩ := hrel
    have h2 := pow_small h4 (k := k) (by omega)
    by_cases hlt : k < wid v
    · have hk1 : (k : Int) < (rget v 0).length := by rw [hW.out]; omega
      have h1 := pow_small h4 (k := k + 1) (by omega)
      have e1 := pow_step v.length k
      obtain ⟨y, ey⟩ : ∃ y, v.length ^ k = y := ⟨_, rfl⟩
      have He := Lib.hid ey
      rw [ey] at e1 h2 ⊢
      obtain ⟨z, ez⟩ : ∃ z, v.length ^ (k + 1) = z := ⟨_, rfl⟩
      have Hz := Lib.hid ez
      rw [ez] at e1 h1
      clear ey ez
      have hwr : IntKind.i64.wrap ((y : Int) * (v.length : Int)) = (z : Int) := by rw [e1]; exact IntWalk.i64_in _ (by omega)
      have hd : decide ((y : Int) ≤ (20000 : Int)) = true := by rw [decide_eq_true_iff]; omega
      have hd1 : decide ((k : Int) < (rget v 0).length) = true := by rw [decide_eq_true_iff]; exact hk1
      clear e1
      go_wp2_with fail
      go_round
      case rel => exact ⟨k + 1, by omega, by go_num, by rw [Hz.out]⟩
      case measure => simp [intOf]; omega
    · have hk1 : ¬ (k : Int) < (rget v 0).length := by rw [hW.out]; omega
      have hd1 : decide ((k : Int) < (rget v 0).length) = false := by rw [decide_eq_false_iff_not]; exact hk1
      obtain ⟨y, ey⟩ : ∃ y, v.length ^ k = y := ⟨_, rfl⟩
      rw [ey] at h2 ⊢
      have hd : decide ((20000 : Int) < (y : Int)) = false := by rw [decide_eq_false_iff_not]; omega
      clear ey
      go_wp2_with fail
      go_ret
      exact ⟨rfl, hB⟩

set_option maxHeartbeats 4000000 in
set_option maxRecDepth 100000 in
theorem above22_any (p : Option Addr) (c : Nat) (v : List (List Int)) (pa pb : Option Addr) (ca cb m : Nat) (a b : List Int) (w : World) (hx : Mat w p c v) (hA : Ints w pa ca a) (hB' : Ints w pb cb b) (hg : Gds v) (ha : AlcOk v a) (hb : AlcOk v b) (hma : a.length = m) (hmb : b.length = m)
    (hle : ∀ k, k < v.length → worth v a k (k : Int) ≤ worth v b k (k : Int)) (hlt : ∃ k, k < v.length ∧ worth v a k (k : Int) < worth v b k (k : Int)) :
    Calls Tryz.prog 17 #[.agg #[.slice p v.length c], .slice pa m ca, .slice pb m cb] w fun e w' => e = .returned (.bool true) ∧ Below w.heap.size w w' := by
  obtain ⟨W0, hW0⟩ : ∃ W0, w.alloc (.cells #[.slice p v.length c] 24) = W0 := ⟨_, rfl⟩
  have hB : Below w.heap.size w W0 := below_alloc hW0
  have bX : BoxV W0 w.heap.size [.slice p v.length c] := BoxV.new rfl hW0
  have hx := hx.below hB (Nat.le_refl _)
  have hA := hA.below hB (Nat.le_refl _)
  have hB' := hB'.below hB (Nat.le_refl _)
  have CW1 := Lib.hid (fun (i : Nat) W (hi : i < v.length) (h : Below W0.heap.size W0 W) => by
    have := worth_any p c v pa ca a i (i : Int) W (hx.below h (Nat.le_refl _)) (hA.below h (Nat.le_refl _)) hg ha hi
    rw [hma] at this
    exact this)
  have CW2 := Lib.hid (fun (i : Nat) W (hi : i < v.length) (h : Below W0.heap.size W0 W) => by
    have := worth_any p c v pb cb b i (i : Int) W (hx.below h (Nat.le_refl _)) (hB'.below h (Nat.le_refl _)) hg hb hi
    rw [hmb] at this
    exact this)
  have HW0 := Lib.hid hW0
  have Hle := Lib.hid hle
  have Hlt := Lib.hid hlt
  have x00 := bX.cell 0 _ rfl
  have hl1 := hx.length_le
  clear hW0 hle hlt hg ha hb hma hmb hA hB' hx
  go_enter Tryz.func17, Tryz.ntmps17
  go_upto_region 2 with (fail)
  rw [HW0.out]
  go_wp2_with fail
  go_loopw [8, 7] (fun s t wr => ∃ k : Nat, k ≤ v.length ∧ s = .int .i64 (k : Int) ∧ ∃ bo : Bool, t = .bool bo ∧ Hid (bo = true ↔ ∃ k', k' < k ∧ worth v a k' (k' : Int) < worth v b k' (k' : Int)) ∧ Below W0.heap.size W0 wr) (fun s _ _ => v.length - (intOf s).toNat)
  case atStart => exact ⟨0, Nat.zero_le _, rfl, false, rfl, ⟨fun h => (by cases h), fun ⟨k', h, _⟩ => absurd h (by omega)⟩, Below.refl _ _⟩
  case round =>
    obtain ⟨k, hk, rfl, bo, rfl, hbo, hBr⟩ := hrel
    have x0 := (bX.below hBr).cell 0 _ rfl
    by_cases hlk : k < v.length
    · have hk1 : (k : Int) < v.length := by omega
      have CA := Lib.hid (fun W (h : Below wr.heap.size wr W) => CW1.out k W hlk (hBr.trans (h.mono hBr.size)))
      have CB := Lib.hid (fun W (h : Below wr.heap.size wr W) => CW2.out k W hlk (hBr.trans (h.mono hBr.size)))
      have hle1 := Hle.out k hlk
      have hlX := (bX.below hBr).lt
      obtain ⟨y1, e1⟩ : ∃ y, worth v a k (k : Int) = y := ⟨_, rfl⟩
      obtain ⟨y2, e2⟩ : ∃ y, worth v b k (k : Int) = y := ⟨_, rfl⟩
      rw [e1] at hle1 CA
      rw [e2] at hle1 CB
      have hd : decide (y2 < y1) = false := by rw [decide_eq_false_iff_not]; omega
      have hd' : ¬ y2 < y1 := by omega
      have Hb2 : Hid ((bo || decide (y1 < y2)) = true ↔ ∃ k', k' < k + 1 ∧ worth v a k' (k' : Int) < worth v b k' (k' : Int)) := by
        unfold Hid
        rw [Bool.or_eq_true, decide_eq_true_iff, hbo.out, ← e1, ← e2]
        constructor
        · rintro (⟨k', h1, h2⟩ | h)
          · exact ⟨k', by omega, h2⟩
          · exact ⟨k, by omega, h⟩
        · rintro ⟨k', h1, h2⟩
          by_cases e : k' = k
          · subst e; exact .inr h2
          · exact .inl ⟨k', by omega, h2⟩
      have Hmk : Hid (∀ W, Below wr.heap.size wr W → (W.cell? ⟨w.heap.size, 0, none⟩ = some (Value.slice p v.length c) ∧ Below wr.heap.size wr W)) := fun W hG => ⟨(hG.cell (p := ⟨w.heap.size, 0, none⟩) hlX).trans x0, hG⟩
      clear hle1 e1 e2
      go_wp2_with fail
      go_region_held3 (fun W => W.cell? ⟨w.heap.size, 0, none⟩ = some (Value.slice p v.length c) ∧ Below wr.heap.size wr W)
        (first | assumption | exact Hmk.out _ hG | exact Hmk.out _ (below_drewN wr.heap.size wr 1) | exact Hmk.out _ (Below.refl _ _))
        (first
          | (go_at_call_of 42 (Value.slice pa m ca); refine (CA.out _ (by go_split_ands; assumption)).mono ?_; rintro e wC ⟨rfl, hbC⟩; have hG : Below wr.heap.size wr wC := Below.trans (by go_split_ands; assumption) (hbC.mono (Below.size (B := wr.heap.size) (w := wr) (by go_split_ands; assumption))))
          | (go_at_call_of 42 (Value.slice pb m cb); refine (CB.out _ (by go_split_ands; assumption)).mono ?_; rintro e wC ⟨rfl, hbC⟩; have hG : Below wr.heap.size wr wC := Below.trans (by go_split_ands; assumption) (hbC.mono (Below.size (B := wr.heap.size) (w := wr) (by go_split_ands; assumption)))))
      have hBw := hBr.trans (hG.mono hBr.size)
      cases bo with
      | true =>
        go_wp2_with fail
        go_roundw
        case rel => exact ⟨k + 1, by omega, by go_num, true, rfl, Hb2.out, hBw⟩
        case measure => (simp [intOf] <;> omega)
      | false =>
        cases hyy : decide (y1 < y2) with
        | true =>
          have hy3 : y1 < y2 := by simpa using hyy
          have Hb3 := Hb2.out
          rw [hyy] at Hb3
          have Hb3 := Lib.hid Hb3
          go_wp2_with fail
          go_roundw
          case rel => exact ⟨k + 1, by omega, by go_num, true, rfl, Hb3.out, hBw⟩
          case measure => (simp [intOf] <;> omega)
        | false =>
          have hy3 : ¬ y1 < y2 := by simpa using hyy
          have Hb3 := Hb2.out
          rw [hyy] at Hb3
          have Hb3 := Lib.hid Hb3
          go_wp2_with fail
          go_roundw
          case rel => exact ⟨k + 1, by omega, by go_num, false, rfl, Hb3.out, hBw⟩
          case measure => (simp [intOf] <;> omega)
    · have hk1 : ¬ (k : Int) < v.length := by omega
      have hbt : bo = true := by
        rw [hbo.out]
        obtain ⟨k', h1, h2⟩ := Hlt.out
        exact ⟨k', by omega, h2⟩
      subst hbt
      go_wp2_with fail
      go_ret
      exact ⟨rfl, hB.trans (hBr.mono hB.size)⟩
theorem of_any (n : Int) (w : World) :
    Calls Tryz.prog 24 #[.int .i64 n] w fun e w' => e = .returned (.agg #[.int .i64 n, .int .i64 1]) ∧ Below w.heap.size w w' := by
  go_enter Tryz.func24, Tryz.ntmps24
  go_wp2_with fail
  exact bodyPost_ret (v := .agg #[.int .i64 n, .int .i64 1]) (by simp [results, Tryz.results24, go_sem]) rfl ⟨rfl, (Below.refl _ _).alloc (Nat.le_refl _) _⟩
set_option maxHeartbeats 4000000 in
set_option maxRecDepth 100000 in
theorem check23_any (p : Option Addr) (c : Nat) (v : List (List Int)) (w : World) (hx : Mat w p c v) (hg : Gds v) (h2 : v.length = 2) :
    Calls Tryz.prog 45 #[.agg #[.slice p v.length c]] w fun e w' => ∃ k, e = .returned (.int .i64 k) ∧ (k = 0 → allG v 0 = allG v 1 ∧ allG v 0 ≠ 0) ∧ Below w.heap.size w w' := by
  obtain ⟨W0, hW0⟩ : ∃ W0, w.alloc (.cells #[.slice p v.length c] 24) = W0 := ⟨_, rfl⟩
  have hB : Below w.heap.size w W0 := below_alloc hW0
  have bX : BoxV W0 w.heap.size [.slice p v.length c] := BoxV.new rfl hW0
  have hx := hx.below hB (Nat.le_refl _)
  have HK := ref16Check_any p c v W0 hx
  rw [chkG_zero.2 hg] at HK
  have HK := Lib.hid HK
  have CW := Lib.hid (fun (i : Nat) W (hi : i < v.length) (h : Below W0.heap.size W0 W) => all16_any p c v i W (hx.below h (Nat.le_refl _)) hg hi)
  have HW0 := Lib.hid hW0
  have x0 := bX.cell 0 _ rfl
  have h22 : ((v.length : Int) != 2) = false := by rw [h2]; rfl
  have hl0 : 0 < v.length := by omega
  have hl1 : 1 < v.length := by omega
  clear hW0 hx h2
  go_enter Tryz.func45, Tryz.ntmps45
  go_wp2_with fail
  rw [HW0.out]
  refine HK.out.mono ?_
  rintro e w1 ⟨rfl, hb1⟩
  have hw1 := hb1
  clear x0
  have x0 := (bX.below hw1).cell 0 _ rfl
  go_wp2_with fail
  refine (CW.out 0 _ (by omega) hw1).mono ?_
  rintro e w2 ⟨rfl, hb2⟩
  have hw2 := hw1.trans (hb2.mono hw1.size)
  clear x0
  have x0 := (bX.below hw2).cell 0 _ rfl
  obtain ⟨y1, e1⟩ : ∃ y, allG v 0 = y := ⟨_, rfl⟩
  obtain ⟨y2, e2⟩ : ∃ y, allG v 1 = y := ⟨_, rfl⟩
  rw [e1]
  by_cases hz : y1 = 0
  · have hd : (y1 == 0) = true := by rw [hz]; rfl
    have Hz := Lib.hid hz
    clear hz
    go_wp2_with fail
    go_ret
    exact ⟨_, rfl, fun h => by omega, hB.trans (hw2.mono hB.size)⟩
  · have hd : (y1 == 0) = false := by rw [beq_eq_false_iff_ne]; exact hz
    have Hz := Lib.hid hz
    have CA := Lib.hid (fun W (h : Below w2.heap.size w2 W) => CW.out 0 W (by omega) (hw2.trans (h.mono hw2.size)))
    have CB := Lib.hid (fun W (h : Below w2.heap.size w2 W) => CW.out 1 W (by omega) (hw2.trans (h.mono hw2.size)))
    rw [e1] at CA
    rw [e2] at CB
    have E1 := Lib.hid e1
    have E2 := Lib.hid e2
    clear e1 e2
    have hlX := (bX.below hw2).lt
    have Hmk : Hid (∀ W, Below w2.heap.size w2 W → (W.cell? ⟨w.heap.size, 0, none⟩ = some (Value.slice p v.length c) ∧ Below w2.heap.size w2 W)) := fun W hG => ⟨(hG.cell (p := ⟨w.heap.size, 0, none⟩) hlX).trans x0, hG⟩
    clear hz
    go_wp2_with fail
    go_region_held3 (fun W => W.cell? ⟨w.heap.size, 0, none⟩ = some (Value.slice p v.length c) ∧ Below w2.heap.size w2 W)
      (first | assumption | exact Hmk.out _ hG | exact Hmk.out _ (below_drewN w2.heap.size w2 1) | exact Hmk.out _ (Below.refl _ _))
      (first
        | (go_at_call_of 82 (Value.int .i64 0); refine (CA.out _ (by go_split_ands; assumption)).mono ?_; rintro e wC ⟨rfl, hbC⟩; have hG : Below w2.heap.size w2 wC := Below.trans (by go_split_ands; assumption) (hbC.mono (Below.size (B := w2.heap.size) (w := w2) (by go_split_ands; assumption))))
        | (go_at_call_of 82 (Value.int .i64 1); refine (CB.out _ (by go_split_ands; assumption)).mono ?_; rintro e wC ⟨rfl, hbC⟩; have hG : Below w2.heap.size w2 wC := Below.trans (by go_split_ands; assumption) (hbC.mono (Below.size (B := w2.heap.size) (w := w2) (by go_split_ands; assumption)))))
    have hBw := hB.trans ((hw2.trans (hG.mono hw2.size)).mono hB.size)
    by_cases he : y1 = y2
    · subst he
      have hdn : (y1 != y1) = false := by simp
      go_wp2_with fail
      go_ret
      exact ⟨_, rfl, fun _ => ⟨by rw [E1.out, E2.out], by rw [E1.out]; exact Hz.out⟩, hBw⟩
    · have hdn : (y1 != y2) = true := by rw [bne_iff_ne]; exact he
      clear he
      go_wp2_with fail
      go_ret
      exact ⟨_, rfl, fun h => by omega, hBw⟩
end Go.Proofs.YtmcncflieoolmaaGreat
