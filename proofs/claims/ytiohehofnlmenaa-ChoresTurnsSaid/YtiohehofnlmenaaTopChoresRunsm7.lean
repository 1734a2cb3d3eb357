/- The walks of the reference's All, Content, Envies and Burdened, and of chores.Burdened, for every chores and allocation. -/
import Derived.Test.YtiohehofnlmenaaTopChoresRunsm6
import Derived.Deep.RegionHeld3
/- The walks of the reference's All, Content, Envies and Burdened, and of chores.Burdened, for every chores and allocation. -/
namespace Go.Proofs.Ytiohehofnlmenaa
set_option linter.unusedVariables false
set_option linter.unusedSimpArgs false
open Go.ChangeShapes Go.WideShapes Go.ChangeAt Go.RowKit Go.Deep

set_option maxHeartbeats 2000000 in
theorem all16_any (p : Option Addr) (c : Nat) (v : List (List Int)) (i : Nat) (w : World) (hx : Mat w p c v) (hg : Gds v) (hiv : i < v.length) :
    Calls Try.prog 41 #[.agg #[.slice p v.length c], .int .i64 i] w fun e w' => e = .returned (.int .i64 (allG v i)) ∧ Below w.heap.size w w' := by
  obtain ⟨W0, hW0⟩ : ∃ W0, w.alloc (.cells #[.slice p v.length c] 24) = W0 := ⟨_, rfl⟩
  have hB : Below w.heap.size w W0 := below_alloc hW0
  have bX : BoxV W0 w.heap.size [.slice p v.length c] := BoxV.new rfl hW0
  have hx := hx.below hB (Nat.le_refl _)
  have x0 := bX.cell 0 _ rfl
  have HW0 := Lib.hid hW0
  clear hW0
  have hl1 := hx.length_le
  have hrl := Lib.hid ((hg.2.2.2 i hiv).1)
  have hm10 := hg.2.2.1
  have Hb := Lib.hid (fun k (h : k < (rget v i).length) => (hg.2.2.2 i hiv).2 k h)
  have Hs := Lib.hid (fun k h => sumUp_in hg hiv k h)
  clear hg
  obtain ⟨b, o, rfl, _, q0, d0, hc0, hi0⟩ := hx.get hiv
  have hi1 : (i : Int) < v.length := by omega
  go_enter Try.func41, Try.ntmps41
  go_wp2_with fail
  rw [HW0.out]
  go_loop [5, 6] (fun s t => ∃ k : Nat, k ≤ (rget v i).length ∧ t = .int .i64 k ∧ s = .int .i64 (sumUp (rget v i) k)) (fun _ t => (rget v i).length - (intOf t).toNat)
  case atStart => exact ⟨0, Nat.zero_le _, rfl, rfl⟩
  case round =>
    obtain ⟨k, hk, rfl, rfl⟩ := hrel
    by_cases hlt : k < (rget v i).length
    · have hk1 : (k : Int) < (rget v i).length := by omega
      obtain ⟨b3, o3, rfl, _, hc3⟩ := hi0.get hlt
      have hr1 := Hs.out k (by have := hrl.out; omega)
      have hr2 := Hb.out k hlt
      have Hst : Hid (sumUp (rget v i) (k + 1) = sumUp (rget v i) k + iget (rget v i) k) := rfl
      have hk10 : k ≤ 10 := by have := hrl.out; omega
      generalize sumUp (rget v i) k = y at *
      generalize iget (rget v i) k = z at *
      go_wp2_with fail
      go_round
      case rel => exact ⟨k + 1, by omega, by go_num, by rw [Hst.out]⟩
      case measure => (simp [intOf] <;> omega)
    · have hk1 : ¬ (k : Int) < (rget v i).length := by omega
      obtain rfl : k = (rget v i).length := by omega
      go_wp2_with fail
      go_ret
      exact ⟨rfl, hB⟩

set_option maxHeartbeats 4000000 in
set_option maxRecDepth 100000 in
theorem content24_any (p : Option Addr) (c : Nat) (v : List (List Int)) (q : Option Addr) (d : Nat) (a : List Int) (i k : Nat) (x : Int) (w : World) (hx : Mat w p c v) (hi : Ints w q d a) (hg : Gds v) (ha : AlcOk v a) (hiv : i < v.length) (hxl : x < a.length) (hx64 : in64 x) :
    Calls Try.prog 39 #[.agg #[.slice p v.length c], .slice q a.length d, .int .i64 i, .int .i64 k, .int .i64 x] w fun e w' => e = .returned (.bool (contB v a i k x)) ∧ Below w.heap.size w w' := by
  obtain ⟨W0, hW0⟩ : ∃ W0, w.alloc (.cells #[.slice p v.length c] 24) = W0 := ⟨_, rfl⟩
  have hB : Below w.heap.size w W0 := below_alloc hW0
  have bX : BoxV W0 w.heap.size [.slice p v.length c] := BoxV.new rfl hW0
  have hx := hx.below hB (Nat.le_refl _)
  have hi := hi.below hB (Nat.le_refl _)
  have x0 := bX.cell 0 _ rfl
  have HW0 := Lib.hid hW0
  clear hW0
  have hl1 := hx.length_le
  have hl2 := hi.length_le
  have hi1 : (i : Int) < v.length := by omega
  have hw1 := worth_in hg ha hiv (i : Int)
  have hw2 := worth_in hg ha hiv (k : Int)
  have CW := Lib.hid (fun (y : Int) W hX hI => worth_any p c v q d a i y W hX hI hg ha hiv)
  have hrl := (hg.2.2.2 i hiv).1.trans ha.1.symm
  have hcB : contB v a i k x = decide (worth v a i (i : Int) - (if 0 ≤ x ∧ iget a x.toNat = (i : Int) then iget (rget v i) x.toNat else 0) ≤ worth v a i (k : Int)) := rfl
  have CI := CW.out (i : Int)
  have CK := CW.out (k : Int)
  obtain ⟨Y, eY⟩ : ∃ y, worth v a i (i : Int) = y := ⟨_, rfl⟩
  obtain ⟨Z, eZ⟩ : ∃ y, worth v a i (k : Int) = y := ⟨_, rfl⟩
  rw [eY] at hw1 hcB CI
  rw [eZ] at hw2 hcB CK
  have CI := Lib.hid CI
  have CK := Lib.hid CK
  have Hbd := Lib.hid (fun j (h : j < wid v) => gds_bid hg hiv h)
  have Ham := Lib.hid ha.1
  clear eY eZ CW hg ha
  have finish : ∀ (e : Int) (b : Bool), b = decide (e ≤ Z) → e = Y - (if 0 ≤ x ∧ iget a x.toNat = (i : Int) then iget (rget v i) x.toNat else 0) → b = contB v a i k x := fun e b h1 h2 => by rw [h1, h2, hcB]
  have Hfin := Lib.hid finish
  clear finish hcB
  by_cases hneg : x < 0
  · have hd : decide (0 ≤ x) = false := by rw [decide_eq_false_iff_not]; omega
    have HE : Hid (Y = Y - (if 0 ≤ x ∧ iget a x.toNat = (i : Int) then iget (rget v i) x.toNat else 0)) := by unfold Hid; rw [if_neg (by omega)]; omega
    clear hneg
    go_enter Try.func39, Try.ntmps39
    go_wp2_with fail
    rw [HW0.out]
    refine (CI.out _ hx hi).mono ?_
    rintro e w1 ⟨rfl, hb1⟩
    replace hx := hx.below hb1 (Nat.le_refl _)
    replace hi := hi.below hb1 (Nat.le_refl _)
    replace bX := bX.below hb1
    replace x0 := bX.cell 0 _ rfl
    replace hB := hB.trans (hb1.mono hB.size)
    clear hb1
    go_wp2_with fail
    refine (CK.out _ hx hi).mono ?_
    rintro e w2 ⟨rfl, hb1⟩
    go_wp2_with fail
    go_ret
    exact ⟨ret_bool (Hfin.out Y _ rfl HE.out), hB.trans (hb1.mono hB.size)⟩
  · obtain ⟨j, rfl⟩ : ∃ j : Nat, x = j := ⟨x.toNat, by omega⟩
    have hd : decide (0 ≤ (j : Int)) = true := by rw [decide_eq_true_iff]; omega
    have hjl : j < a.length := by omega
    have hbd := Hbd.out j (by rw [← Ham.out]; exact hjl)
    rw [Int.toNat_natCast] at Hfin
    by_cases he : iget a j = (i : Int)
    · have hb : (iget a j == (i : Int)) = true := by simpa using he
      have HE : Hid (Y - iget (rget v i) j = Y - (if 0 ≤ (j : Int) ∧ iget a j = (i : Int) then iget (rget v i) j else 0)) := by unfold Hid; rw [if_pos ⟨by omega, he⟩]
      clear hneg he
      obtain ⟨y, ey⟩ : ∃ y, iget (rget v i) j = y := ⟨_, rfl⟩
      have hj2 : (j : Int) < (rget v i).length := by rw [hrl]; exact hxl
      go_enter Try.func39, Try.ntmps39
      go_wp2_with fail
      rw [HW0.out]
      refine (CI.out _ hx hi).mono ?_
      rintro e w1 ⟨rfl, hb1⟩
      replace hx := hx.below hb1 (Nat.le_refl _)
      replace hi := hi.below hb1 (Nat.le_refl _)
      replace bX := bX.below hb1
      replace x0 := bX.cell 0 _ rfl
      replace hB := hB.trans (hb1.mono hB.size)
      clear hb1
      obtain ⟨b2, o2, rfl, _, hc2⟩ := hi.get hjl
      obtain ⟨b, o, rfl, _, qi, di, hcv, hI⟩ := hx.get hiv
      obtain ⟨b3, o3, rfl, _, hc3⟩ := hI.get (j := j) (by rw [hrl]; exact hjl)
      rw [ey] at hc3 hbd HE Hfin
      clear hI ey hrl
      go_wp2_with fail
      refine (CK.out _ hx hi).mono ?_
      rintro e w2 ⟨rfl, hb1⟩
      go_wp2_with fail
      go_ret
      exact ⟨ret_bool (Hfin.out (Y - y) _ rfl HE.out), hB.trans (hb1.mono hB.size)⟩
    · have hb : (iget a j == (i : Int)) = false := by simpa using he
      have HE : Hid (Y = Y - (if 0 ≤ (j : Int) ∧ iget a j = (i : Int) then iget (rget v i) j else 0)) := by unfold Hid; rw [if_neg (fun h => he h.2)]; omega
      clear hneg he
      go_enter Try.func39, Try.ntmps39
      go_wp2_with fail
      rw [HW0.out]
      refine (CI.out _ hx hi).mono ?_
      rintro e w1 ⟨rfl, hb1⟩
      replace hx := hx.below hb1 (Nat.le_refl _)
      replace hi := hi.below hb1 (Nat.le_refl _)
      replace bX := bX.below hb1
      replace x0 := bX.cell 0 _ rfl
      replace hB := hB.trans (hb1.mono hB.size)
      clear hb1
      obtain ⟨b2, o2, rfl, _, hc2⟩ := hi.get hjl
      go_wp2_with fail
      refine (CK.out _ hx hi).mono ?_
      rintro e w2 ⟨rfl, hb1⟩
      go_wp2_with fail
      go_ret
      exact ⟨ret_bool (Hfin.out Y _ rfl HE.out), hB.trans (hb1.mono hB.size)⟩

set_option maxHeartbeats 8000000 in
set_option maxRecDepth 100000 in
theorem ref24Envies_any (p : Option Addr) (c : Nat) (v : List (List Int)) (q : Option Addr) (d : Nat) (a : List Int) (w : World) (hx : Mat w p c v) (hi : Ints w q d a) :
    Calls Try.prog 12 #[.agg #[.slice p v.length c], .slice q a.length d] w (GivesQ w (envG cP v a) (chkA v a)) := by
  obtain ⟨W0, hW0⟩ : ∃ W0, w.alloc (.cells #[.slice p v.length c] 24) = W0 := ⟨_, rfl⟩
  have hB : Below w.heap.size w W0 := below_alloc hW0
  have bX : BoxV W0 w.heap.size [.slice p v.length c] := BoxV.new rfl hW0
  have hx := hx.below hB (Nat.le_refl _)
  have hi := hi.below hB (Nat.le_refl _)
  have x0 := bX.cell 0 _ rfl
  have HW0 := Lib.hid hW0
  clear hW0
  have hl1 := hx.length_le
  have hl2 := hi.length_le
  go_enter Try.func12, Try.ntmps12
  go_wp2_with fail
  rw [HW0.out]
  refine (ref16Valid_any p c v q d a _ hx hi).mono ?_
  rintro e w1 ⟨rfl, hb1⟩
  replace hx := hx.below hb1 (Nat.le_refl _)
  replace hi := hi.below hb1 (Nat.le_refl _)
  replace bX := bX.below hb1
  replace x0 := bX.cell 0 _ rfl
  replace hB := hB.trans (hb1.mono hB.size)
  clear hb1
  by_cases hF : chkA v a = 0
  · have HL := Lib.hid (envG_ok (P := cP) hF)
    have HF := Lib.hid hF
    have hz : (chkA v a != 0) = false := by rw [hF]; rfl
    obtain ⟨hg, ha⟩ := chkA_zero.1 hF
    have h0 : 0 < v.length := hg.1
    have h6 := hg.2.1
    obtain ⟨B1, hB1⟩ : ∃ B1, w1.heap.size = B1 := ⟨_, rfl⟩
    have HB1 := Lib.hid hB1
    have HB := Lib.hid hB
    have HC := Lib.hid (fun (i k : Nat) W hX hI (h : i < v.length) => content24_any p c v q d a i k (-1) W hX hI hg ha h (by omega) ⟨by omega, by omega⟩)
    clear hg ha hF hB hB1
    go_wp2_with fail
    go_loopw [6, 7] (fun s t wr => ∃ m : Nat, m ≤ v.length ∧ t = .int .i64 m ∧ (∃ zs q d, Hid (zs = prTo (cP v a) v.length m) ∧ s = .slice q (zs : List (Nat × Nat)).length d ∧ OwnP wr B1 q d zs) ∧ Below B1 w1 wr) (fun _ t _ => v.length - (intOf t).toNat)
    case atStart => exact ⟨0, Nat.zero_le _, rfl, ⟨[], none, 0, rfl, rfl, OwnP.ofNil _ _⟩, Below.refl _ _⟩
    case round =>
      clear x0
      obtain ⟨m, hm, rfl, ⟨zs, qz, dz, hz, rfl, hO⟩, hbr⟩ := hrel
      have x0 := (bX.below (by rw [HB1.out]; exact hbr)).cell 0 _ rfl
      by_cases hlt : m < v.length
      · have hm1 : (m : Int) < v.length := by omega
        have hz1 := hz.out
        go_wp2_with fail
        go_loopw [6, 8] (fun s t wk => ∃ k : Nat, k ≤ v.length ∧ t = .int .i64 k ∧ (∃ ys q d, Hid (ys = prTo (cP v a) v.length m ++ prRow (cP v a) m k) ∧ s = .slice q (ys : List (Nat × Nat)).length d ∧ OwnP wk B1 q d ys) ∧ Below B1 w1 wk) (fun _ t _ => v.length - (intOf t).toNat)
        case atStart => exact ⟨0, Nat.zero_le _, rfl, ⟨zs, qz, dz, by unfold Hid; rw [prRow, List.append_nil]; exact hz1, rfl, hO⟩, hbr⟩
        case round =>
          clear hO hz1 hz hbr x0
          obtain ⟨k, hk, rfl, ⟨ys, qy, dy, hy, rfl, hO⟩, hbk⟩ := hrel
          have hszk := hbk.size
          rw [HB1.out] at hszk
          have x0 := (bX.below (by rw [HB1.out]; exact hbk)).cell 0 _ rfl
          by_cases hkl : k < v.length
          · have hk1 : (k : Int) < v.length := by omega
            have hyl : ys.length ≤ 900000 := by
              rw [hy.out, List.length_append]
              have h1 := prTo_len (cP v a) v.length m
              have h2 := prRow_len (cP v a) m k
              have h3 : m * v.length ≤ 6 * 6 := Nat.mul_le_mul (by omega) h6
              omega
            have CC := HC.out m k wr (hx.below hbk (Nat.le_of_eq HB1.out)) (hi.below hbk (Nat.le_of_eq HB1.out)) hlt
            rw [contB_none] at CC
            have HR1 := Lib.hid (show cP v a m k = true → _ from fun h => prRow_yes (P := cP v a) (m := m) (k := k) h)
            have HR2 := Lib.hid (show cP v a m k = false → _ from fun h => prRow_no (P := cP v a) (m := m) (k := k) h)
            have HO := Lib.hid hO
            clear hO
            cases hd : cP v a m k with
            | true =>
              have HR := Lib.hid (HR1.out hd)
              rw [hd] at CC
              have CC := Lib.hid CC
              clear hd
              go_wp2_with fail
              refine CC.out.mono ?_
              rintro e wC ⟨rfl, hbC⟩
              have hO2 := HO.out.below hbC (Nat.le_refl _)
              have hsz2 : B1 ≤ wC.heap.size := Nat.le_trans hszk hbC.size
              have hbk2 := hbk.trans (hbC.mono hszk)
              go_wp2_with (at_builtin; refine wpList_appP rfl (.tmp 36) (.tmp 40) rfl B1 _ _ ys m k rfl rfl rfl hO2 hyl hsz2 ?_; intro p3 c3 w3 u3 hu3 hO3 hg3 hf3)
              go_roundw
              case rel => exact ⟨k + 1, by omega, by go_num, ⟨u3, _, _, by unfold Hid; rw [hu3.out, hy.out, HR.out, List.append_assoc], rfl, hO3⟩, hbk2.grown hg3 hsz2 (fun k' e => (hO2.lt k' e).1)⟩
              case measure => (simp [intOf] <;> omega)
            | false =>
              have HR := Lib.hid (HR2.out hd)
              rw [hd] at CC
              have CC := Lib.hid CC
              clear hd
              go_wp2_with fail
              refine CC.out.mono ?_
              rintro e wC ⟨rfl, hbC⟩
              have hO2 := HO.out.below hbC (Nat.le_refl _)
              have hbk2 := hbk.trans (hbC.mono hszk)
              go_wp2_with fail
              go_roundw
              case rel => exact ⟨k + 1, by omega, by go_num, ⟨ys, _, _, by unfold Hid; rw [hy.out, HR.out], rfl, hO2⟩, hbk2⟩
              case measure => (simp [intOf] <;> omega)
          · have hk1 : ¬ (k : Int) < v.length := by omega
            obtain rfl : k = v.length := by omega
            have HS := Lib.hid (prTo_succ (cP v a) v.length m)
            go_wp2_with fail
            go_roundw
            case rel => exact ⟨m + 1, by omega, by go_num, ⟨ys, _, _, by unfold Hid; rw [hy.out, HS.out], rfl, hO⟩, hbk⟩
            case measure => (simp [intOf] <;> omega)
      · have hm1 : ¬ (m : Int) < v.length := by omega
        obtain rfl : m = v.length := by omega
        have hzr := hz.out
        subst hzr
        have hsz := HB.out.size
        go_wp2_with fail
        go_ret2
        rw [HL.out, HF.out]
        exact ⟨qz, dz, rfl, hO.lower (by have := HB1.out; omega), HB.out.trans (hbr.mono (by have := HB1.out; omega))⟩
  · have HL := Lib.hid (envG_err (P := cP) hF)
    have hz : (chkA v a != 0) = true := by rw [bne_iff_ne]; exact hF
    clear hF
    go_wp2_with fail
    refine (ref16Valid_any p c v q d a _ hx hi).mono ?_
    rintro e w2 ⟨rfl, hb1⟩
    replace hB := hB.trans (hb1.mono hB.size)
    go_wp2_with fail
    go_ret2
    rw [HL.out]
    exact ⟨none, 0, rfl, OwnP.ofNil _ _, hB⟩
end Go.Proofs.Ytiohehofnlmenaa

/- The walks of chores.Burdened and of the reference's, for every chores and allocation. -/
namespace Go.Proofs.Ytiohehofnlmenaa
set_option linter.unusedVariables false
set_option linter.unusedSimpArgs false
open Go.ChangeShapes Go.WideShapes Go.ChangeAt Go.RowKit Go.Deep

theorem times_in {y : Int} {n : Nat} (h0 : 0 ≤ y) (h1 : y ≤ 10000) (hn : n ≤ 6) : 0 ≤ y * (n : Int) ∧ y * (n : Int) ≤ 60000 := by
  have a := Int.mul_nonneg h0 (Int.natCast_nonneg n)
  have b := Int.mul_le_mul h1 (show (n : Int) ≤ 6 by omega) (Int.natCast_nonneg n) (by omega)
  omega

set_option maxHeartbeats 8000000 in
set_option maxRecDepth 100000 in
theorem choresBurdened_any (p : Option Addr) (c : Nat) (v : List (List Int)) (q : Option Addr) (d : Nat) (a : List Int) (w : World) (hx : Mat w p c v) (hi : Ints w q d a) :
    Calls Try.prog 13 #[.agg #[.slice p v.length c], .slice q a.length d] w (Gives2 w (burdL v a) (chkA v a)) := by
  obtain ⟨W0, hW0⟩ : ∃ W0, w.alloc (.cells #[.slice p v.length c] 24) = W0 := ⟨_, rfl⟩
  have hB : Below w.heap.size w W0 := below_alloc hW0
  have bX : BoxV W0 w.heap.size [.slice p v.length c] := BoxV.new rfl hW0
  have hx := hx.below hB (Nat.le_refl _)
  have hi := hi.below hB (Nat.le_refl _)
  have x0 := bX.cell 0 _ rfl
  have HW0 := Lib.hid hW0
  clear hW0
  have hl1 := hx.length_le
  have hl2 := hi.length_le
  go_enter Try.func13, Try.ntmps13
  go_wp2_with fail
  rw [HW0.out]
  refine (goodsValues_any p c v q d a _ hx hi).mono ?_
  rintro e w1 ⟨pv, cv, rfl, mV, hb1⟩
  replace hx := hx.below hb1 (Nat.le_refl _)
  replace bX := bX.below hb1
  replace x0 := bX.cell 0 _ rfl
  replace hB := hB.trans (hb1.mono hB.size)
  clear hb1
  by_cases hF : chkA v a = 0
  · have HL := Lib.hid (burdL_ok hF)
    have HF := Lib.hid hF
    rw [valsL_ok hF] at mV
    rw [valsL_ok hF, valsG_len, hF]
    obtain ⟨hg, ha⟩ := chkA_zero.1 hF
    have h0 : 0 < v.length := hg.1
    have h6 := hg.2.1
    have hm10 := hg.2.2.1
    obtain ⟨B1, hB1⟩ : ∃ B1, w1.heap.size = B1 := ⟨_, rfl⟩
    have Hg := Lib.hid hg
    have Ha := Lib.hid ha
    have HB1 := Lib.hid hB1
    have HB := Lib.hid hB
    obtain ⟨bv, ov, rfl, hbv, _, _, _, _⟩ := mV.get (j := 0) (by rw [valsG_len]; exact h0)
    obtain ⟨bx, ox, rfl, hbx, _, _, _, _⟩ := hx.get (j := 0) h0
    rw [hB1] at hbv hbx
    clear hg ha hF hB hB1
    go_wp2_with fail
    go_loopw [8, 25] (fun s t wr => ∃ m : Nat, m ≤ v.length ∧ t = .int .i64 m ∧ (∃ zs q d, Hid (zs = fUp (bP v a) m) ∧ s = .slice q (zs : List Int).length d ∧ Own wr B1 q d zs) ∧ Below B1 w1 wr) (fun _ t _ => v.length - (intOf t).toNat)
    case atStart => exact ⟨0, Nat.zero_le _, rfl, ⟨[], none, 0, rfl, rfl, Own.ofNil _ _⟩, Below.refl _ _⟩
    case round =>
      clear x0
      obtain ⟨m, hm, rfl, ⟨zs, qz, dz, hz, rfl, hO⟩, hbr⟩ := hrel
      by_cases hlt : m < v.length
      · have hm1 : (m : Int) < v.length := by omega
        have x0 := (bX.below (by rw [HB1.out]; exact hbr)).cell 0 _ rfl
        obtain ⟨qm, dm, hc, hI⟩ := mV.at (j := m) (by rw [valsG_len]; exact hlt)
        rw [valsG_row hlt] at hc hI
        rw [worthRow_len] at hc
        have hc := (hbr.cell (p := ⟨bv, ov + m, none⟩) hbv).trans hc
        obtain ⟨qx, dx, hcx, hX⟩ := hx.at (j := m) hlt
        have hcx := (hbr.cell (p := ⟨bx, ox + m, none⟩) hbx).trans hcx
        obtain ⟨b2, o2, rfl, _, hc3⟩ := (hI.below hbr (Nat.le_of_eq HB1.out)).get (j := m) (by rw [worthRow_len]; exact hlt)
        rw [worthRow_get hlt] at hc3
        have hXr := hX.below hbr (Nat.le_of_eq HB1.out)
        have hrl := Lib.hid ((Hg.out.2.2.2 m hlt).1)
        have hwy := worth_in Hg.out Ha.out hlt (m : Int)
        have hP : bP v a m = decide (allG v m < worth v a m (m : Int) * v.length) := rfl
        have Hall : Hid (allG v m = sumUp (rget v m) (rget v m).length) := rfl
        have HR1 := Lib.hid (show bP v a m = true → _ from fun h => fUp_yes (P := bP v a) (m := m) h)
        have HR2 := Lib.hid (show bP v a m = false → _ from fun h => fUp_no (P := bP v a) (m := m) h)
        have hzl : zs.length ≤ 900000 := by rw [hz.out]; have := fUp_len (bP v a) m; omega
        have hszr := hbr.size
        rw [HB1.out] at hszr
        obtain ⟨y, ey⟩ : ∃ y, worth v a m (m : Int) = y := ⟨_, rfl⟩
        rw [ey] at hc3 hwy hP
        have hty := times_in hwy.1 hwy.2 h6
        have hwr : IntKind.i64.wrap (y * (v.length : Int)) = y * v.length := IntWalk.i64_in _ (by omega)
        have HP := Lib.hid hP
        have HO := Lib.hid hO
        clear hI hX ey hP hO
        go_wp2_with fail
        go_loop [11, 36] (fun s t => ∃ k : Nat, k ≤ (rget v m).length ∧ t = .int .i64 k ∧ s = .int .i64 (sumUp (rget v m) k)) (fun _ t => (rget v m).length - (intOf t).toNat)
        case atStart => exact ⟨0, Nat.zero_le _, rfl, rfl⟩
        case round =>
          obtain ⟨k, hk, rfl, rfl⟩ := hrel
          by_cases hkl : k < (rget v m).length
          · have hk1 : (k : Int) < (rget v m).length := by omega
            obtain ⟨b3, o3, rfl, _, hc4⟩ := hXr.get hkl
            have hr1 := sumUp_in Hg.out hlt k (by have := hrl.out; omega)
            have hr2 := (Hg.out.2.2.2 m hlt).2 k hkl
            have Hst : Hid (sumUp (rget v m) (k + 1) = sumUp (rget v m) k + iget (rget v m) k) := rfl
            have hk10 : k ≤ 10 := by have := hrl.out; omega
            generalize sumUp (rget v m) k = s1 at *
            generalize iget (rget v m) k = s2 at *
            go_wp2_with fail
            go_round
            case rel => exact ⟨k + 1, by omega, by go_num, by rw [Hst.out]⟩
            case measure => (simp [intOf] <;> omega)
          · have hk1 : ¬ (k : Int) < (rget v m).length := by omega
            obtain rfl : k = (rget v m).length := by omega
            rw [← Hall.out]
            obtain ⟨S, eS⟩ : ∃ S, allG v m = S := ⟨_, rfl⟩
            rw [eS] at HP ⊢
            clear eS Hall
            cases hd : decide (S < y * (v.length : Int)) with
            | true =>
              have HR := Lib.hid (HR1.out (HP.out.trans hd))
              have hm64 : in64 (m : Int) := ⟨by omega, by omega⟩
              go_wp2_with (at_builtin; refine wpList_app1 rfl (.tmp 53) (.tmp 55) rfl B1 _ _ zs (m : Int) rfl rfl rfl HO.out hm64 hzl hszr ?_; intro p3 c3 w3 u3 hu3 hO3 hg3 hf3)
              go_roundw
              case rel => exact ⟨m + 1, by omega, by go_num, ⟨u3, _, _, by unfold Hid; rw [hu3.out, hz.out, HR.out], rfl, hO3⟩, hbr.grown hg3 hszr (fun k' e => (HO.out.lt k' e).1)⟩
              case measure => (simp [intOf] <;> omega)
            | false =>
              have HR := Lib.hid (HR2.out (HP.out.trans hd))
              go_wp2_with fail
              go_roundw
              case rel => exact ⟨m + 1, by omega, by go_num, ⟨zs, _, _, by unfold Hid; rw [hz.out, HR.out], rfl, HO.out⟩, hbr⟩
              case measure => (simp [intOf] <;> omega)
      · have hm1 : ¬ (m : Int) < v.length := by omega
        obtain rfl : m = v.length := by omega
        have hzr := hz.out
        subst hzr
        have hsz := HB.out.size
        go_wp2_with fail
        go_ret2
        rw [HL.out, HF.out]
        exact ⟨qz, dz, rfl, hO.lower (by have := HB1.out; omega), HB.out.trans (hbr.mono (by have := HB1.out; omega))⟩
  · have HL := Lib.hid (burdL_err hF)
    have hz : (chkA v a != 0) = true := by rw [bne_iff_ne]; exact hF
    clear hF
    go_wp2_with fail
    go_ret2
    rw [HL.out]
    exact ⟨none, 0, rfl, Own.ofNil _ _, hB⟩

set_option maxHeartbeats 8000000 in
set_option maxRecDepth 100000 in
theorem ref24Burdened_any (p : Option Addr) (c : Nat) (v : List (List Int)) (q : Option Addr) (d : Nat) (a : List Int) (w : World) (hx : Mat w p c v) (hi : Ints w q d a) :
    Calls Try.prog 14 #[.agg #[.slice p v.length c], .slice q a.length d] w (Gives2 w (burdL v a) (chkA v a)) := by
  obtain ⟨W0, hW0⟩ : ∃ W0, w.alloc (.cells #[.slice p v.length c] 24) = W0 := ⟨_, rfl⟩
  have hB : Below w.heap.size w W0 := below_alloc hW0
  have bX : BoxV W0 w.heap.size [.slice p v.length c] := BoxV.new rfl hW0
  have hx := hx.below hB (Nat.le_refl _)
  have hi := hi.below hB (Nat.le_refl _)
  have x0 := bX.cell 0 _ rfl
  have HW0 := Lib.hid hW0
  clear hW0
  have hl1 := hx.length_le
  have hl2 := hi.length_le
  go_enter Try.func14, Try.ntmps14
  go_wp2_with fail
  rw [HW0.out]
  refine (ref16Valid_any p c v q d a _ hx hi).mono ?_
  rintro e w1 ⟨rfl, hb1⟩
  replace hx := hx.below hb1 (Nat.le_refl _)
  replace hi := hi.below hb1 (Nat.le_refl _)
  replace bX := bX.below hb1
  replace x0 := bX.cell 0 _ rfl
  replace hB := hB.trans (hb1.mono hB.size)
  clear hb1
  by_cases hF : chkA v a = 0
  · have HL := Lib.hid (burdL_ok hF)
    have HF := Lib.hid hF
    have hz : (chkA v a != 0) = false := by rw [hF]; rfl
    obtain ⟨hg, ha⟩ := chkA_zero.1 hF
    have h0 : 0 < v.length := hg.1
    have h6 := hg.2.1
    obtain ⟨B1, hB1⟩ : ∃ B1, w1.heap.size = B1 := ⟨_, rfl⟩
    have HB1 := Lib.hid hB1
    have HB := Lib.hid hB
    have Hg := Lib.hid hg
    have Ha := Lib.hid ha
    clear hg ha hF hB hB1
    go_wp2_with fail
    go_loopw [6, 7] (fun s t wr => ∃ m : Nat, m ≤ v.length ∧ t = .int .i64 m ∧ (∃ zs q d, Hid (zs = fUp (bP v a) m) ∧ s = .slice q (zs : List Int).length d ∧ Own wr B1 q d zs) ∧ Below B1 w1 wr) (fun _ t _ => v.length - (intOf t).toNat)
    case atStart => exact ⟨0, Nat.zero_le _, rfl, ⟨[], none, 0, rfl, rfl, Own.ofNil _ _⟩, Below.refl _ _⟩
    case round =>
      clear x0
      obtain ⟨m, hm, rfl, ⟨zs, qz, dz, hz, rfl, hO⟩, hbr⟩ := hrel
      have bXr := bX.below (by rw [HB1.out]; exact hbr)
      have x0 := bXr.cell 0 _ rfl
      by_cases hlt : m < v.length
      · have hm1 : (m : Int) < v.length := by omega
        have hxr := hx.below hbr (Nat.le_of_eq HB1.out)
        have hir := hi.below hbr (Nat.le_of_eq HB1.out)
        have CA := Lib.hid (fun W (h : Below wr.heap.size wr W) => all16_any p c v m W (hxr.below h (Nat.le_refl _)) Hg.out hlt)
        have CW := Lib.hid (fun W (h : Below wr.heap.size wr W) => worth_any p c v q d a m (m : Int) W (hxr.below h (Nat.le_refl _)) (hir.below h (Nat.le_refl _)) Hg.out Ha.out hlt)
        have hwy := worth_in Hg.out Ha.out hlt (m : Int)
        have hP : bP v a m = decide (allG v m < (v.length : Int) * worth v a m (m : Int)) := by unfold bP; rw [Int.mul_comm]
        have HR1 := Lib.hid (show bP v a m = true → _ from fun h => fUp_yes (P := bP v a) (m := m) h)
        have HR2 := Lib.hid (show bP v a m = false → _ from fun h => fUp_no (P := bP v a) (m := m) h)
        have hzl : zs.length ≤ 900000 := by rw [hz.out]; have := fUp_len (bP v a) m; omega
        have hszr := hbr.size
        rw [HB1.out] at hszr
        obtain ⟨y, ey⟩ : ∃ y, worth v a m (m : Int) = y := ⟨_, rfl⟩
        obtain ⟨S, eS⟩ : ∃ S, allG v m = S := ⟨_, rfl⟩
        rw [ey] at hwy hP CW
        rw [eS] at hP CA
        have hty := times_in hwy.1 hwy.2 h6
        rw [Int.mul_comm] at hty
        have hwr : IntKind.i64.wrap ((v.length : Int) * y) = v.length * y := IntWalk.i64_in _ (by omega)
        have HP := Lib.hid hP
        have HO := Lib.hid hO
        have hlX := bXr.lt
        have Hmk : Hid (∀ W, Below wr.heap.size wr W → (W.cell? ⟨w.heap.size, 0, none⟩ = some (Value.slice p v.length c) ∧ Below wr.heap.size wr W)) := fun W hG => ⟨(hG.cell (p := ⟨w.heap.size, 0, none⟩) hlX).trans x0, hG⟩
        clear ey eS hP hO hxr hir hwy hty
        cases hd : decide (S < (v.length : Int) * y) with
        | true =>
          have HR := Lib.hid (HR1.out (HP.out.trans hd))
          have hm64 : in64 (m : Int) := ⟨by omega, by omega⟩
          go_wp2_with fail
          go_region_held3 (fun W => W.cell? ⟨w.heap.size, 0, none⟩ = some (Value.slice p v.length c) ∧ Below wr.heap.size wr W)
            (first | assumption | exact Hmk.out _ hG | exact Hmk.out _ (below_drewN wr.heap.size wr 1) | exact Hmk.out _ (Below.refl _ _))
            (first
              | (go_at_call 41; refine (CA.out _ (by go_split_ands; assumption)).mono ?_; rintro e wC ⟨rfl, hbC⟩; have hG : Below wr.heap.size wr wC := Below.trans (by go_split_ands; assumption) (hbC.mono (Below.size (B := wr.heap.size) (w := wr) (by go_split_ands; assumption))))
              | (go_at_call 42; refine (CW.out _ (by go_split_ands; assumption)).mono ?_; rintro e wC ⟨rfl, hbC⟩; have hG : Below wr.heap.size wr wC := Below.trans (by go_split_ands; assumption) (hbC.mono (Below.size (B := wr.heap.size) (w := wr) (by go_split_ands; assumption)))))
          have hO2 := HO.out.below hG (Nat.le_refl _)
          have hsz2 := Nat.le_trans hszr hG.size
          have hbr2 := hbr.trans (hG.mono hszr)
          go_wp2_with (at_builtin; refine wpList_app1 rfl (.tmp 35) (.tmp 37) rfl B1 _ _ zs (m : Int) rfl rfl rfl hO2 hm64 hzl hsz2 ?_; intro p3 c3 w3 u3 hu3 hO3 hg3 hf3)
          go_roundw
          case rel => exact ⟨m + 1, by omega, by go_num, ⟨u3, _, _, by unfold Hid; rw [hu3.out, hz.out, HR.out], rfl, hO3⟩, hbr2.grown hg3 hsz2 (fun k' e => (hO2.lt k' e).1)⟩
          case measure => (simp [intOf] <;> omega)
        | false =>
          have HR := Lib.hid (HR2.out (HP.out.trans hd))
          go_wp2_with fail
          go_region_held3 (fun W => W.cell? ⟨w.heap.size, 0, none⟩ = some (Value.slice p v.length c) ∧ Below wr.heap.size wr W)
            (first | assumption | exact Hmk.out _ hG | exact Hmk.out _ (below_drewN wr.heap.size wr 1) | exact Hmk.out _ (Below.refl _ _))
            (first
              | (go_at_call 41; refine (CA.out _ (by go_split_ands; assumption)).mono ?_; rintro e wC ⟨rfl, hbC⟩; have hG : Below wr.heap.size wr wC := Below.trans (by go_split_ands; assumption) (hbC.mono (Below.size (B := wr.heap.size) (w := wr) (by go_split_ands; assumption))))
              | (go_at_call 42; refine (CW.out _ (by go_split_ands; assumption)).mono ?_; rintro e wC ⟨rfl, hbC⟩; have hG : Below wr.heap.size wr wC := Below.trans (by go_split_ands; assumption) (hbC.mono (Below.size (B := wr.heap.size) (w := wr) (by go_split_ands; assumption)))))
          have hO2 := HO.out.below hG (Nat.le_refl _)
          have hbr2 := hbr.trans (hG.mono hszr)
          go_wp2_with fail
          go_roundw
          case rel => exact ⟨m + 1, by omega, by go_num, ⟨zs, _, _, by unfold Hid; rw [hz.out, HR.out], rfl, hO2⟩, hbr2⟩
          case measure => (simp [intOf] <;> omega)
      · have hm1 : ¬ (m : Int) < v.length := by omega
        obtain rfl : m = v.length := by omega
        have hzr := hz.out
        subst hzr
        have hsz := HB.out.size
        go_wp2_with fail
        go_ret2
        rw [HL.out, HF.out]
        exact ⟨qz, dz, rfl, hO.lower (by have := HB1.out; omega), HB.out.trans (hbr.mono (by have := HB1.out; omega))⟩
  · have HL := Lib.hid (burdL_err hF)
    have hz : (chkA v a != 0) = true := by rw [bne_iff_ne]; exact hF
    clear hF
    go_wp2_with fail
    refine (ref16Valid_any p c v q d a _ hx hi).mono ?_
    rintro e w2 ⟨rfl, hb1⟩
    replace hB := hB.trans (hb1.mono hB.size)
    go_wp2_with fail
    go_ret2
    rw [HL.out]
    exact ⟨none, 0, rfl, Own.ofNil _ _, hB⟩
end Go.Proofs.Ytiohehofnlmenaa

/- Rows of structs of three ints that a call itself makes: how they are read and appended to; no condition but sizes. -/
namespace Go.Proofs.Ytiohehofnlmenaa
set_option linter.unusedVariables false
set_option linter.unusedSimpArgs false
open Go.ChangeShapes Go.WideShapes Go.ChangeAt Go.RowKit Go.Deep

abbrev Trip := Nat × Nat × Int
/-- The cells of a list of triples. -/
def cellsT (xs : List Trip) : List Value := xs.flatMap fun x => [.int .i64 x.1, .int .i64 x.2.1, .int .i64 x.2.2]
def tget (xs : List Trip) (j : Nat) : Trip := xs.getD j (0, 0, 0)
theorem cellsT_append (xs ys : List Trip) : cellsT (xs ++ ys) = cellsT xs ++ cellsT ys := by simp [cellsT]
theorem cellsT_get : ∀ (xs : List Trip) (j : Nat), j < xs.length → (cellsT xs)[j * 3]? = some (.int .i64 (tget xs j).1) ∧ (cellsT xs)[j * 3 + 1]? = some (.int .i64 (tget xs j).2.1) ∧ (cellsT xs)[j * 3 + 2]? = some (.int .i64 (tget xs j).2.2)
  | x :: xs, 0, _ => ⟨rfl, rfl, rfl⟩
  | x :: xs, j + 1, h => by
    have ih := cellsT_get xs j (by simpa using h)
    have e : cellsT (x :: xs) = Value.int .i64 x.1 :: Value.int .i64 x.2.1 :: Value.int .i64 x.2.2 :: cellsT xs := rfl
    have e1 : (j + 1) * 3 = j * 3 + 1 + 1 + 1 := by omega
    have e2 : tget (x :: xs) (j + 1) = tget xs j := rfl
    rw [e, e1, e2]
    exact ih
/-- The slice (p, xs.length, c) is a row of the call's own, of structs E, in a block from base on, and holds the triples xs. -/
structure OwnT (E : TypeId) (w : World) (base : Nat) (p : Option Addr) (c : Nat) (xs : List Trip) : Prop where
  row : w.ownsRow base E 3 (.slice p xs.length c) xs.length (cellsT xs)
section
variable {E : TypeId}
theorem OwnT.ofNil (w : World) (base : Nat) : OwnT E w base none 0 [] := ⟨World.ownsRow_nil w base _ _⟩
theorem OwnT.lt {w : World} {base : Nat} {p : Option Addr} {c : Nat} {xs : List Trip} (h : OwnT E w base p c xs) : ∀ k, blk p = some k → base ≤ k ∧ k < w.heap.size := fun k hk => h.row.lt k (by rw [ownBlock_slice]; exact hk)
theorem OwnT.lower {w : World} {base base' : Nat} {p : Option Addr} {c : Nat} {xs : List Trip} (h : OwnT E w base p c xs) (hb : base' ≤ base) : OwnT E w base' p c xs := by
  refine ⟨⟨h.row.1, ?_⟩⟩
  rcases h.row.2 with h1 | ⟨g, cap, cur, h1, h2, r⟩
  · exact .inl h1
  · exact .inr ⟨g, cap, cur, h1, Nat.le_trans hb h2, r⟩
theorem OwnT.keptBy {w w' : World} {base : Nat} {p : Option Addr} {c : Nat} {xs : List Trip} (h : OwnT E w base p c xs) {row : Option Nat} (hg : w.grownBy w' row) (hne : ∀ k, blk p = some k → row ≠ some k) : OwnT E w' base p c xs :=
  ⟨h.row.kept hg (by
    rw [ownBlock_slice]
    cases hb : blk p with
    | none => exact .inl rfl
    | some k => exact .inr fun e => hne k hb e.symm)⟩
theorem OwnT.below {w w' : World} {base B : Nat} {p : Option Addr} {c : Nat} {xs : List Trip} (h : OwnT E w base p c xs) (hb : Below B w w') (hB : w.heap.size ≤ B) : OwnT E w' base p c xs :=
  h.keptBy (grownBy_of_below hb hB none) (fun _ _ h => by cases h)
theorem OwnT.drew {w w' : World} {base : Nat} {p : Option Addr} {c : Nat} {xs : List Trip} (h : OwnT E w base p c xs) (hw : ∃ n, w' = w.drewN n) : OwnT E w' base p c xs := by
  obtain ⟨n, rfl⟩ := hw
  exact h.below (below_drewN w.heap.size w n) (Nat.le_refl _)
theorem OwnT.alloc {w : World} {base : Nat} {p : Option Addr} {c : Nat} {xs : List Trip} (h : OwnT E w base p c xs) (o : Obj) : OwnT E (w.alloc o) base p c xs := ⟨h.row.alloc o⟩
theorem OwnT.cap {w : World} {base : Nat} {p : Option Addr} {c : Nat} {xs : List Trip} (h : OwnT E w base p c xs) : xs.length ≤ 9223372036854775807 := by
  rcases h.row.2 with ⟨_, h2⟩ | ⟨g, cap, cur, _, _, _, h4, h5, _, _⟩
  · omega
  · simp only [maxLen] at h5; omega
theorem OwnT.get {w : World} {base : Nat} {p : Option Addr} {c : Nat} {xs : List Trip} (h : OwnT E w base p c xs) {j : Nat} (hj : j < xs.length) :
    ∃ g, p = some ⟨g, 0, none⟩ ∧ base ≤ g ∧ g < w.heap.size ∧ w.cell? ⟨g, j * 3, none⟩ = some (.int .i64 (tget xs j).1) ∧ w.cell? ⟨g, j * 3 + 1, none⟩ = some (.int .i64 (tget xs j).2.1) ∧ w.cell? ⟨g, j * 3 + 2, none⟩ = some (.int .i64 (tget xs j).2.2) := by
  obtain ⟨g, cap, hv, hb, hlt⟩ := h.row.form (by omega)
  simp only [Value.slice.injEq] at hv
  obtain ⟨rfl, _, rfl⟩ := hv
  obtain ⟨e1, e2, e3⟩ := cellsT_get xs j hj
  exact ⟨g, rfl, hb, hlt, (h.row.cellAt (j * 3) (by omega)).trans e1, (h.row.cellAt (j * 3 + 1) (by omega)).trans e2, (h.row.cellAt (j * 3 + 2) (by omega)).trans e3⟩

/-- 'append(s, E{x, y, z})', the struct laid in a new block. -/
theorem wpList_appT {w : World} {ops : Array Oper} {rest : List Oper} {o : Oper} {a : Act} {Q : Exit → Act → World → Prop} (hgd : o.guard = none) (s x : Operand) (T : TypeId)
    (ho : o.op = .call { callee := .builtin .append, args := #[s, x], argTypes := #[T, T] }) (ht : Try.prog.underlying T = some (.slice E))
    (hinfo : (Try.prog.info? E).map (fun i => (i.zero, i.size, i.bytes)) = some (some (.agg #[.int .i64 0, .int .i64 0, .int .i64 0]), 3, 24))
    (base : Nat) (p : Option Addr) (c : Nat) (xs : List Trip) (y0 y1 : Nat) (y2 : Int) (hs : a.eval s = .slice p xs.length c) {B : Nat} (hx : a.eval x = .slice (some ⟨B, 0, none⟩) 1 1) (hB : w.heap.size = B) (hown : OwnT E w base p c xs)
    (hsz : xs.length ≤ 900000) (hbase : base ≤ w.heap.size)
    (h : ∀ p' c' w' zs, Hid (zs = xs ++ [(y0, y1, y2)]) → OwnT E w' base p' c' zs → w.grownBy w' (blk p) → Fresh w p p' → wpList Try.prog ops Q rest (a.put o.dst (.slice p' zs.length c')) w') : wpList Try.prog ops Q (o :: rest) a (w.alloc (.cells #[.int .i64 y0, .int .i64 y1, .int .i64 y2] E)) := by
  subst hB
  refine wpList_appG (w := w.alloc (.cells #[.int .i64 y0, .int .i64 y1, .int .i64 y2] E)) hgd s x T E ho (.agg #[.int .i64 0, .int .i64 0, .int .i64 0]) 3 24 ht hinfo (by kernel_rfl) (by decide) base p (some ⟨w.heap.size, 0, none⟩) xs.length 1 c 1 (cellsT xs) [.int .i64 y0, .int .i64 y1, .int .i64 y2] hs hx (hown.row.alloc _)
    (fun e => (by cases e)) rfl ?_ (by simp [Value.oneCell']) (by simp [maxLen]; omega) (by omega) (by simp; omega) ?_
  · rintro ad ⟨⟩ j u hu
    rw [add_plain, World.cell?_alloc_at _ _ _ _ rfl]
    simpa using hu
  · intro p' c' w' h2 h3 h4
    have hg : w.grownBy w' (blk p) := ⟨h3.os, h3.tape, h3.output, by have := h3.size; simp at this; omega, fun k hk hne => by
      rw [h3.block k (by simp; omega) hne]
      exact Below.heap_alloc _ _ _ hk⟩
    have hfr : Fresh w p p' := fun k hk => by
      rcases h4 k hk with h5 | h5
      · exact .inl h5
      · exact .inr (by simp at h5; omega)
    have := h p' c' w' (xs ++ [(y0, y1, y2)]) rfl ⟨by rw [List.length_append, cellsT_append]; exact h2⟩ hg hfr
    rw [List.length_append] at this
    exact this
end
end Go.Proofs.Ytiohehofnlmenaa
