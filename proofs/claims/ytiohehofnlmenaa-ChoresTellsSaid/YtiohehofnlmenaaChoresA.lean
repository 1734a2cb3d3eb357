/- The walks of the reference's All, Content, Envies and Burdened, and of chores.Burdened, for every chores and allocation. -/
import Derived.Test.YtiohehofnlmenaaGoodsE
import Derived.Deep.RegionHeld3
namespace Go.Proofs.Ytiohehofnlmenaa
set_option linter.unusedVariables false
set_option linter.unusedSimpArgs false
open Go.ChangeShapes Go.WideShapes Go.ChangeAt Go.RowKit Go.Deep

set_option maxHeartbeats 2000000 in
theorem all16_any (p : Option Addr) (c : Nat) (v : List (List Int)) (i : Nat) (w : World) (hx : Mat w p c v) (hg : Gds v) (hiv : i < v.length) :
    Calls Try.prog 41 #[.agg #[.slice p v.length c], .int .i64 i] w fun e w' => e = .returned (.int .i64 (allG v i)) ∧ Below w.heap.size w w' := by
  obtain ⟨W0, hW0⟩ : ∃ W0, w.alloc (.cells #[.slice p v.length c] 24) = W0 := ⟨_, rfl⟩
  have hB : Below w.heap.size w W0 := below_alloc hW0
  have bX : BoxV W0 w.heap.size [.slice p v.length c] := BoxV.new rfl hW0
  have hx := hx.below hB (Nat.le_refl _)
  have x0 := bX.cell 0 _ rfl
  have HW0 := Lib.hid hW0
  clear hW0
  have hl1 := hx.length_le
  have hrl := Lib.hid ((hg.2.2.2 i hiv).1)
  have hm10 := hg.2.2.1
  have Hb := Lib.hid (fun k (h : k < (rget v i).length) => (hg.2.2.2 i hiv).2 k h)
  have Hs := Lib.hid (fun k h => sumUp_in hg hiv k h)
  clear hg
  obtain ⟨b, o, rfl, _, q0, d0, hc0, hi0⟩ := hx.get hiv
  have hi1 : (i : Int) < v.length := by omega
  go_enter Try.func41, Try.ntmps41
  go_wp2_with fail
  rw [HW0.out]
  go_loop [5, 6] (fun s t => ∃ k : Nat, k ≤ (rget v i).length ∧ t = .int .i64 k ∧ s = .int .i64 (sumUp (rget v i) k)) (fun _ t => (rget v i).length - (intOf t).toNat)
  case atStart => exact ⟨0, Nat.zero_le _, rfl, rfl⟩
  case round =>
    obtain ⟨k, hk, rfl, rfl⟩ := hrel
    by_cases hlt : k < (rget v i).length
    · have hk1 : (k : Int) < (rget v i).length := by omega
      obtain ⟨b3, o3, rfl, _, hc3⟩ := hi0.get hlt
      have hr1 := Hs.out k (by have := hrl.out; omega)
      have hr2 := Hb.out k hlt
      have Hst : Hid (sumUp (rget v i) (k + 1) = sumUp (rget v i) k + iget (rget v i) k) := rfl
      have hk10 : k ≤ 10 := by have := hrl.out; omega
      generalize sumUp (rget v i) k = y at *
      generalize iget (rget v i) k = z at *
      go_wp2_with fail
      go_round
      case rel => exact ⟨k + 1, by omega, by go_num, by rw [Hst.out]⟩
      case measure => (simp [intOf] <;> omega)
    · have hk1 : ¬ (k : Int) < (rget v i).length := by omega
      obtain rfl : k = (rget v i).length := by omega
      go_wp2_with fail
      go_ret
      exact ⟨rfl, hB⟩

set_option maxHeartbeats 4000000 in
set_option maxRecDepth 100000 in
theorem content24_any (p : Option Addr) (c : Nat) (v : List (List Int)) (q : Option Addr) (d : Nat) (a : List Int) (i k : Nat) (x : Int) (w : World) (hx : Mat w p c v) (hi : Ints w q d a) (hg : Gds v) (ha : AlcOk v a) (hiv : i < v.length) (hxl : x < a.length) (hx64 : in64 x) :
    Calls Try.prog 39 #[.agg #[.slice p v.length c], .slice q a.length d, .int .i64 i, .int .i64 k, .int .i64 x] w fun e w' => e = .returned (.bool (contB v a i k x)) ∧ Below w.heap.size w w' := by
  obtain ⟨W0, hW0⟩ : ∃ W0, w.alloc (.cells #[.slice p v.length c] 24) = W0 := ⟨_, rfl⟩
  have hB : Below w.heap.size w W0 := below_alloc hW0
  have bX : BoxV W0 w.heap.size [.slice p v.length c] := BoxV.new rfl hW0
  have hx := hx.below hB (Nat.le_refl _)
  have hi := hi.below hB (Nat.le_refl _)
  have x0 := bX.cell 0 _ rfl
  have HW0 := Lib.hid hW0
  clear hW0
  have hl1 := hx.length_le
  have hl2 := hi.length_le
  have hi1 : (i : Int) < v.length := by omega
  have hw1 := worth_in hg ha hiv (i : Int)
  have hw2 := worth_in hg ha hiv (k : Int)
  have CW := Lib.hid (fun (y : Int) W hX hI => worth_any p c v q d a i y W hX hI hg ha hiv)
  have hrl := (hg.2.2.2 i hiv).1.trans ha.1.symm
  have hcB : contB v a i k x = decide (worth v a i (i : Int) - (if 0 ≤ x ∧ iget a x.toNat = (i : Int) then iget (rget v i) x.toNat else 0) ≤ worth v a i (k : Int)) := rfl
  have CI := CW.out (i : Int)
  have CK := CW.out (k : Int)
  obtain ⟨Y, eY⟩ : ∃ y, worth v a i (i : Int) = y := ⟨_, rfl⟩
  obtain ⟨Z, eZ⟩ : ∃ y, worth v a i (k : Int) = y := ⟨_, rfl⟩
  rw [eY] at hw1 hcB CI
  rw [eZ] at hw2 hcB CK
  have CI := Lib.hid CI
  have CK := Lib.hid CK
  have Hbd := Lib.hid (fun j (h : j < wid v) => gds_bid hg hiv h)
  have Ham := Lib.hid ha.1
  clear eY eZ CW hg ha
  have finish : ∀ (e : Int) (b : Bool), b = decide (e ≤ Z) → e = Y - (if 0 ≤ x ∧ iget a x.toNat = (i : Int) then iget (rget v i) x.toNat else 0) → b = contB v a i k x := fun e b h1 h2 => by rw [h1, h2, hcB]
  have Hfin := Lib.hid finish
  clear finish hcB
  by_cases hneg : x < 0
  · have hd : decide (0 ≤ x) = false := by rw [decide_eq_false_iff_not]; omega
    have HE : Hid (Y = Y - (if 0 ≤ x ∧ iget a x.toNat = (i : Int) then iget (rget v i) x.toNat else 0)) := by unfold Hid; rw [if_neg (by omega)]; omega
    clear hneg
    go_enter Try.func39, Try.ntmps39
    go_wp2_with fail
    rw [HW0.out]
    refine (CI.out _ hx hi).mono ?_
    rintro e w1 ⟨rfl, hb1⟩
    replace hx := hx.below hb1 (Nat.le_refl _)
    replace hi := hi.below hb1 (Nat.le_refl _)
    replace bX := bX.below hb1
    replace x0 := bX.cell 0 _ rfl
    replace hB := hB.trans (hb1.mono hB.size)
    clear hb1
    go_wp2_with fail
    refine (CK.out _ hx hi).mono ?_
    rintro e w2 ⟨rfl, hb1⟩
    go_wp2_with fail
    go_ret
    exact ⟨ret_bool (Hfin.out Y _ rfl HE.out), hB.trans (hb1.mono hB.size)⟩
  · obtain ⟨j, rfl⟩ : ∃ j : Nat, x = j := ⟨x.toNat, by omega⟩
    have hd : decide (0 ≤ (j : Int)) = true := by rw [decide_eq_true_iff]; omega
    have hjl : j < a.length := by omega
    have hbd := Hbd.out j (by rw [← Ham.out]; exact hjl)
    rw [Int.toNat_natCast] at Hfin
    by_cases he : iget a j = (i : Int)
    · have hb : (iget a j == (i : Int)) = true := by simpa using he
      have HE : Hid (Y - iget (rget v i) j = Y - (if 0 ≤ (j : Int) ∧ iget a j = (i : Int) then iget (rget v i) j else 0)) := by unfold Hid; rw [if_pos ⟨by omega, he⟩]
      clear hneg he
      obtain ⟨y, ey⟩ : ∃ y, iget (rget v i) j = y := ⟨_, rfl⟩
      have hj2 : (j : Int) < (rget v i).length := by rw [hrl]; exact hxl
      go_enter Try.func39, Try.ntmps39
      go_wp2_with fail
      rw [HW0.out]
      refine (CI.out _ hx hi).mono ?_
      rintro e w1 ⟨rfl, hb1⟩
      replace hx := hx.below hb1 (Nat.le_refl _)
      replace hi := hi.below hb1 (Nat.le_refl _)
      replace bX := bX.below hb1
      replace x0 := bX.cell 0 _ rfl
      replace hB := hB.trans (hb1.mono hB.size)
      clear hb1
      obtain ⟨b2, o2, rfl, _, hc2⟩ := hi.get hjl
      obtain ⟨b, o, rfl, _, qi, di, hcv, hI⟩ := hx.get hiv
      obtain ⟨b3, o3, rfl, _, hc3⟩ := hI.get (j := j) (by rw [hrl]; exact hjl)
      rw [ey] at hc3 hbd HE Hfin
      clear hI ey hrl
      go_wp2_with fail
      refine (CK.out _ hx hi).mono ?_
      rintro e w2 ⟨rfl, hb1⟩
      go_wp2_with fail
      go_ret
      exact ⟨ret_bool (Hfin.out (Y - y) _ rfl HE.out), hB.trans (hb1.mono hB.size)⟩
    · have hb : (iget a j == (i : Int)) = false := by simpa using he
      have HE : Hid (Y = Y - (if 0 ≤ (j : Int) ∧ iget a j = (i : Int) then iget (rget v i) j else 0)) := by unfold Hid; rw [if_neg (fun h => he h.2)]; omega
      clear hneg he
      go_enter Try.func39, Try.ntmps39
      go_wp2_with fail
      rw [HW0.out]
      refine (CI.out _ hx hi).mono ?_
      rintro e w1 ⟨rfl, hb1⟩
      replace hx := hx.below hb1 (Nat.le_refl _)
      replace hi := hi.below hb1 (Nat.le_refl _)
      replace bX := bX.below hb1
      replace x0 := bX.cell 0 _ rfl
      replace hB := hB.trans (hb1.mono hB.size)
      clear hb1
      obtain ⟨b2, o2, rfl, _, hc2⟩ := hi.get hjl
      go_wp2_with fail
      refine (CK.out _ hx hi).mono ?_
      rintro e w2 ⟨rfl, hb1⟩
      go_wp2_with fail
      go_ret
      exact ⟨ret_bool (Hfin.out Y _ rfl HE.out), hB.trans (hb1.mono hB.size)⟩

set_option maxHeartbeats 8000000 in
set_option maxRecDepth 100000 in
theorem ref24Envies_any (p : Option Addr) (c : Nat) (v : List (List Int)) (q : Option Addr) (d : Nat) (a : List Int) (w : World) (hx : Mat w p c v) (hi : Ints w q d a) :
    Calls Try.prog 12 #[.agg #[.slice p v.length c], .slice q a.length d] w (GivesQ w (envG cP v a) (chkA v a)) := by
  obtain ⟨W0, hW0⟩ : ∃ W0, w.alloc (.cells #[.slice p v.length c] 24) = W0 := ⟨_, rfl⟩
  have hB : Below w.heap.size w W0 := below_alloc hW0
  have bX : BoxV W0 w.heap.size [.slice p v.length c] := BoxV.new rfl hW0
  have hx := hx.below hB (Nat.le_refl _)
  have hi := hi.below hB (Nat.le_refl _)
  have x0 := bX.cell 0 _ rfl
  have HW0 := Lib.hid hW0
  clear hW0
  have hl1 := hx.length_le
  have hl2 := hi.length_le
  go_enter Try.func12, Try.ntmps12
  go_wp2_with fail
  rw [HW0.out]
  refine (ref16Valid_any p c v q d a _ hx hi).mono ?_
  rintro e w1 ⟨rfl, hb1⟩
  replace hx := hx.below hb1 (Nat.le_refl _)
  replace hi := hi.below hb1 (Nat.le_refl _)
  replace bX := bX.below hb1
  replace x0 := bX.cell 0 _ rfl
  replace hB := hB.trans (hb1.mono hB.size)
  clear hb1
  by_cases hF : chkA v a = 0
  · have HL := Lib.hid (envG_ok (P := cP) hF)
    have HF := Lib.hid hF
    have hz : (chkA v a != 0) = false := by rw [hF]; rfl
    obtain ⟨hg, ha⟩ := chkA_zero.1 hF
    have h0 : 0 < v.length := hg.1
    have h6 := hg.2.1
    obtain ⟨B1, hB1⟩ : ∃ B1, w1.heap.size = B1 := ⟨_, rfl⟩
    have HB1 := Lib.hid hB1
    have HB := Lib.hid hB
    have HC := Lib.hid (fun (i k : Nat) W hX hI (h : i < v.length) => content24_any p c v q d a i k (-1) W hX hI hg ha h (by omega) ⟨by omega, by omega⟩)
    clear hg ha hF hB hB1
    go_wp2_with fail
    go_loopw [6, 7] (fun s t wr => ∃ m : Nat, m ≤ v.length ∧ t = .int .i64 m ∧ (∃ zs q d, Hid (zs = prTo (cP v a) v.length m) ∧ s = .slice q (zs : List (Nat × Nat)).length d ∧ OwnP wr B1 q d zs) ∧ Below B1 w1 wr) (fun _ t _ => v.length - (intOf t).toNat)
    case atStart => exact ⟨0, Nat.zero_le _, rfl, ⟨[], none, 0, rfl, rfl, OwnP.ofNil _ _⟩, Below.refl _ _⟩
    case round =>
      clear x0
      obtain ⟨m, hm, rfl, ⟨zs, qz, dz, hz, rfl, hO⟩, hbr⟩ := hrel
      have x0 := (bX.below (by rw [HB1.out]; exact hbr)).cell 0 _ rfl
      by_cases hlt : m < v.length
      · have hm1 : (m : Int) < v.length := by omega
        have hz1 := hz.out
        go_wp2_with fail
        go_loopw [6, 8] (fun s t wk => ∃ k : Nat, k ≤ v.length ∧ t = .int .i64 k ∧ (∃ ys q d, Hid (ys = prTo (cP v a) v.length m ++ prRow (cP v a) m k) ∧ s = .slice q (ys : List (Nat × Nat)).length d ∧ OwnP wk B1 q d ys) ∧ Below B1 w1 wk) (fun _ t _ => v.length - (intOf t).toNat)
        case atStart => exact ⟨0, Nat.zero_le _, rfl, ⟨zs, qz, dz, by unfold Hid; rw [prRow, List.append_nil]; exact hz1, rfl, hO⟩, hbr⟩
        case round =>
          clear hO hz1 hz hbr x0
          obtain ⟨k, hk, rfl, ⟨ys, qy, dy, hy, rfl, hO⟩, hbk⟩ := hrel
          have hszk := hbk.size
          rw [HB1.out] at hszk
          have x0 := (bX.below (by rw [HB1.out]; exact hbk)).cell 0 _ rfl
          by_cases hkl : k < v.length
          · have hk1 : (k : Int) < v.length := by omega
            have hyl : ys.length ≤ 900000 := by
              rw [hy.out, List.length_append]
              have h1 := prTo_len (cP v a) v.length m
              have h2 := prRow_len (cP v a) m k
              have h3 : m * v.length ≤ 6 * 6 := Nat.mul_le_mul (by omega) h6
              omega
            have CC := HC.out m k wr (hx.below hbk (Nat.le_of_eq HB1.out)) (hi.below hbk (Nat.le_of_eq HB1.out)) hlt
            rw [contB_none] at CC
            have HR1 := Lib.hid (show cP v a m k = true → _ from fun h => prRow_yes (P := cP v a) (m := m) (k := k) h)
            have HR2 := Lib.hid (show cP v a m k = false → _ from fun h => prRow_no (P := cP v a) (m := m) (k := k) h)
            have HO := Lib.hid hO
            clear hO
            cases hd : cP v a m k with
            | true =>
              have HR := Lib.hid (HR1.out hd)
              rw [hd] at CC
              have CC := Lib.hid CC
              clear hd
              go_wp2_with fail
              refine CC.out.mono ?_
              rintro e wC ⟨rfl, hbC⟩
              have hO2 := HO.out.below hbC (Nat.le_refl _)
              have hsz2 : B1 ≤ wC.heap.size := Nat.le_trans hszk hbC.size
              have hbk2 := hbk.trans (hbC.mono hszk)
              go_wp2_with (at_builtin; refine wpList_appP rfl (.tmp 36) (.tmp 40) rfl B1 _ _ ys m k rfl rfl rfl hO2 hyl hsz2 ?_; intro p3 c3 w3 u3 hu3 hO3 hg3 hf3)
              go_roundw
              case rel => exact ⟨k + 1, by omega, by go_num, ⟨u3, _, _, by unfold Hid; rw [hu3.out, hy.out, HR.out, List.append_assoc], rfl, hO3⟩, hbk2.grown hg3 hsz2 (fun k' e => (hO2.lt k' e).1)⟩
              case measure => (simp [intOf] <;> omega)
            | false =>
              have HR := Lib.hid (HR2.out hd)
              rw [hd] at CC
              have CC := Lib.hid CC
              clear hd
              go_wp2_with fail
              refine CC.out.mono ?_
              rintro e wC ⟨rfl, hbC⟩
              have hO2 := HO.out.below hbC (Nat.le_refl _)
              have hbk2 := hbk.trans (hbC.mono hszk)
              go_wp2_with fail
              go_roundw
              case rel => exact ⟨k + 1, by omega, by go_num, ⟨ys, _, _, by unfold Hid; rw [hy.out, HR.out], rfl, hO2⟩, hbk2⟩
              case measure => (simp [intOf] <;> omega)
          · have hk1 : ¬ (k : Int) < v.length := by omega
            obtain rfl : k = v.length := by omega
            have HS := Lib.hid (prTo_succ (cP v a) v.length m)
            go_wp2_with fail
            go_roundw
            case rel => exact ⟨m + 1, by omega, by go_num, ⟨ys, _, _, by unfold Hid; rw [hy.out, HS.out], rfl, hO⟩, hbk⟩
            case measure => (simp [intOf] <;> omega)
      · have hm1 : ¬ (m : Int) < v.length := by omega
        obtain rfl : m = v.length := by omega
        have hzr := hz.out
        subst hzr
        have hsz := HB.out.size
        go_wp2_with fail
        go_ret2
        rw [HL.out, HF.out]
        exact ⟨qz, dz, rfl, hO.lower (by have := HB1.out; omega), HB.out.trans (hbr.mono (by have := HB1.out; omega))⟩
  · have HL := Lib.hid (envG_err (P := cP) hF)
    have hz : (chkA v a != 0) = true := by rw [bne_iff_ne]; exact hF
    clear hF
    go_wp2_with fail
    refine (ref16Valid_any p c v q d a _ hx hi).mono ?_
    rintro e w2 ⟨rfl, hb1⟩
    replace hB := hB.trans (hb1.mono hB.size)
    go_wp2_with fail
    go_ret2
    rw [HL.out]
    exact ⟨none, 0, rfl, OwnP.ofNil _ _, hB⟩
end Go.Proofs.Ytiohehofnlmenaa
