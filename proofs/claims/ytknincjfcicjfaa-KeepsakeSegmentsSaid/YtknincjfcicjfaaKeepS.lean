/- The walks of the reference's has, Segment and rounds, and of Rounds (both), for every markers; no condition. -/
import Derived.Test.YtknincjfcicjfaaKeepR
import Derived.BigQuiet
namespace Go.Proofs.Ytknincjfcicjfaa
set_option linter.unusedVariables false
set_option linter.unusedSimpArgs false
open Go.ChangeShapes Go.WideShapes Go.ChangeAt Go.RowKit Go.Deep

theorem hasB_true {xs : List Int} {x : Int} {k : Nat} (hk : k < xs.length) (h : iget xs k = x) : hasB xs x = true := by
  unfold hasB; rw [decide_eq_true_iff, ← h]; exact iget_mem hk
theorem hasB_false {xs : List Int} {x : Int} (h : ∀ j, j < xs.length → iget xs j ≠ x) : hasB xs x = false := by
  unfold hasB; rw [decide_eq_false_iff_not]
  intro hm
  obtain ⟨j, hj, rfl⟩ := List.getElem_of_mem hm
  exact h j hj (iget_of hj)
set_option maxHeartbeats 400000 in
theorem has29_any (p : Option Addr) (c : Nat) (xs : List Int) (x : Int) (w : World) (hx : Ints w p c xs) :
    Calls Try.prog 39 #[.slice p xs.length c, .int .i64 x] w fun e w' => e = .returned (.bool (hasB xs x)) ∧ w' = w := by
  have hl1 := hx.length_le
  go_enter Try.func39, Try.ntmps39
  go_wp2_with fail
  go_loop [5] (fun t => ∃ k : Nat, k ≤ xs.length ∧ t = .int .i64 k ∧ Hid (∀ j, j < k → iget xs j ≠ x)) (fun t => xs.length - (intOf t).toNat)
  case atStart => exact ⟨0, Nat.zero_le _, rfl, fun j hj => absurd hj (Nat.not_lt_zero j)⟩
  case round =>
    obtain ⟨k, hk, rfl, ht⟩ := hrel
    by_cases hlt : k < xs.length
    · obtain ⟨b, o, rfl, _, hc⟩ := hx.get hlt
      have hk1 : (k : Int) < xs.length := by omega
      by_cases he : iget xs k = x
      · have hb : (iget xs k == x) = true := by simpa using he
        have HF := Lib.hid (hasB_true hlt he)
        clear he
        go_wp2_with fail
        go_ret
        exact ⟨ret_bool HF.out.symm, rfl⟩
      · have hb : (iget xs k == x) = false := by simpa using he
        have HP := Lib.hid he
        clear he
        go_wp2_with fail
        go_round
        case rel => exact ⟨k + 1, by omega, by go_num, snoc_all' ht.out HP.out⟩
        case measure => simp [intOf]; omega
    · have hk1 : ¬ (k : Int) < xs.length := by omega
      go_wp2_with fail
      go_ret
      exact ⟨ret_bool (hasB_false (fun j hj => ht.out j (by omega))).symm, rfl⟩
theorem leftN_step (i : Nat) (out : List Int) : leftN (i + 1) out = leftN i out ++ if hasB out i = true then [] else [(i : Int)] := by
  unfold leftN hasB
  rw [List.range_succ, List.map_append, List.filter_append]
  congr 1
  by_cases e : (i : Int) ∈ out <;> simp [e]
theorem lstK_lt {key : Int → Int} {i : Nat} {out : List Int} (h : ¬ lstK key (leftN i out) < 0) : ∃ b : Nat, lstK key (leftN i out) = b ∧ b < i := by
  by_cases e : leftN i out = []
  · rw [e] at h; exact absurd (show (-1 : Int) < 0 by decide) h
  · have := leftN_mem.1 (lstK_mem (key := key) (fun x hx => (leftN_mem.1 hx).1) e)
    exact ⟨(lstK key (leftN i out)).toNat, by omega, by omega⟩
theorem lstK_big {key : Int → Int} {i : Nat} {out : List Int} (hi : i ≤ 6) : in64 (lstK key (leftN i out)) := by
  by_cases e : leftN i out = []
  · rw [e]; exact ⟨show (-9223372036854775808 : Int) ≤ -1 by decide, show (-1 : Int) ≤ 9223372036854775807 by decide⟩
  · have := leftN_mem.1 (lstK_mem (key := key) (fun x hx => (leftN_mem.1 hx).1) e)
    exact ⟨by omega, by omega⟩
set_option maxHeartbeats 4000000 in
set_option maxRecDepth 100000 in
theorem ref29rounds_any (m : Int) (p : Option Addr) (c : Nat) (v : List (List Int)) (w : World) (hM : Marks m v) (hx : Mat w p c v) :
    Calls Try.prog 30 #[.slice p v.length c] w (Gives w (rndL m v)) := by
  have hv0 : 0 < v.length := hM.2.2.1
  have hv6 : v.length ≤ 6 := hM.2.2.2.1
  have Hrl : Hid (∀ i, i < v.length → (rget v i).length + 1 = v.length) := fun i hi => (hM.2.2.2.2 i hi).1
  have Hrn := Lib.hid (fun r => rnd_len m v r)
  clear hM
  go_enter Try.func30, Try.ntmps30
  go_wp2_with fail
  go_loopw [3, 4] (fun s t wr => ∃ (r : Nat) (os : List Int) (pO : Option Addr) (cO : Nat), r ≤ v.length ∧ t = .int .i64 r ∧ s = .slice pO os.length cO ∧ Hid (os = rnd m v r) ∧ Own wr w.heap.size pO cO os ∧ Below w.heap.size w wr) (fun _ t _ => v.length - (intOf t).toNat)
  case atStart => exact ⟨0, [], none, 0, Nat.zero_le _, rfl, rfl, Lib.hid rfl, Own.ofNil _ _, Below.refl _ _⟩
  case round =>
    obtain ⟨r, os, pO, cO, hrn, rfl, rfl, hos, hO, hBr⟩ := hrel
    by_cases hlt : r < v.length
    · have hr1 : (r : Int) < v.length := by omega
      have hosl : os.length ≤ 1000 := by rw [hos.out, rnd_len]; omega
      obtain ⟨wo, rfl⟩ : ∃ wo : World, wo = wr := ⟨_, rfl⟩
      have hx1 := hx.below hBr (Nat.le_refl _)
      have hIo := hO.ints
      have hol := hIo.length_le
      go_wp2_with fail
      go_loopw [5, 6] (fun s t wr => ∃ i : Nat, i ≤ v.length ∧ t = .int .i64 i ∧ s = .int .i64 (lstK (keyR m v r) (leftN i os)) ∧ ∃ n, wr = wo.drewN n) (fun _ t _ => v.length - (intOf t).toNat)
      case atStart => exact ⟨0, Nat.zero_le _, rfl, rfl, drew_refl _⟩
      case round =>
        obtain ⟨i, hi, rfl, rfl, hw⟩ := hrel
        by_cases hlt2 : i < v.length
        · have hi1 : (i : Int) < v.length := by omega
          have hHas := has29_any pO cO os (i : Int) wr (hIo.drew hw)
          have hmx := hx1.drew hw
          have Hw := Lib.hid hw
          clear hw
          have Hstep := Lib.hid (leftN_step i os)
          have hbig := lstK_big (key := keyR m v r) (out := os) (show i ≤ 6 by omega)
          have Hb := Lib.hid (fun h => lstK_lt (key := keyR m v r) (i := i) (out := os) h)
          have Hsn := Lib.hid (fun x => lstK_snoc (keyR m v r) (leftN i os) x)
          obtain ⟨y, hy⟩ : ∃ y, lstK (keyR m v r) (leftN i os) = y := ⟨_, rfl⟩
          rw [hy] at Hb Hsn hbig
          rw [hy]
          cases hh : hasB os (i : Int) with
          | true =>
            rw [hh] at hHas
            have HH := Lib.hid hHas
            have HS : Hid (lstK (keyR m v r) (leftN (i + 1) os) = y) := by unfold Hid; rw [Hstep.out, hh, if_pos rfl, List.append_nil]; exact hy
            clear hh hHas hy
            go_wp2_with fail
            refine HH.out.mono ?_
            rintro e w2 ⟨rfl, rfl⟩
            go_wp2_with fail
            go_roundw
            case rel => exact ⟨i + 1, by omega, by go_num, by rw [HS.out], Hw.out⟩
            case measure => (simp [intOf] <;> omega)
          | false =>
            rw [hh] at hHas
            have HH := Lib.hid hHas
            have HS : Hid (lstK (keyR m v r) (leftN (i + 1) os) = if y < 0 ∨ keyR m v r (i : Int) < keyR m v r y then (i : Int) else y) := by unfold Hid; rw [Hstep.out, hh, if_neg (by simp)]; exact Hsn.out _
            clear hh hHas hy
            by_cases hneg : y < 0
            · have hd : decide (y < 0) = true := by simpa using hneg
              have HS2 : Hid (lstK (keyR m v r) (leftN (i + 1) os) = (i : Int)) := by unfold Hid; rw [HS.out, if_pos (.inl hneg)]
              clear hneg
              go_wp2_with fail
              refine HH.out.mono ?_
              rintro e w2 ⟨rfl, rfl⟩
              go_wp2_with fail
              go_quiet (fail)
              go_wp2_with fail
              go_roundw
              case rel => exact ⟨i + 1, by omega, by go_num, by rw [HS2.out], drew_drewN _ Hw.out⟩
              case measure => (simp [intOf] <;> omega)
            · have hd : decide (y < 0) = false := by simpa using hneg
              obtain ⟨b, rfl, hbi⟩ := Hb.out hneg
              clear hneg
              have hb1 : (b : Int) < v.length := by omega
              by_cases hlast : r + 1 < v.length
              · have hd2 : decide ((r : Int) + 1 < v.length) = true := by rw [decide_eq_true_iff]; omega
                obtain ⟨bv, ov, rfl, _, q1, d1, hc1, hi1'⟩ := hmx.get hlt2
                obtain ⟨q2, d2, hc2, hi2'⟩ := hmx.at (j := b) (by omega)
                have hra : r < (rget v i).length := by have := Hrl.out i hlt2; omega
                have hrb : r < (rget v b).length := by have := Hrl.out b (by omega); omega
                obtain ⟨b3, o3, rfl, _, hc3⟩ := hi1'.get hra
                obtain ⟨b4, o4, rfl, _, hc4⟩ := hi2'.get hrb
                have hra1 : (r : Int) < (rget v i).length := by omega
                have hrb1 : (r : Int) < (rget v b).length := by omega
                have HS2 : Hid (lstK (keyR m v r) (leftN (i + 1) os) = if iget (rget v i) r < iget (rget v b) r then (i : Int) else b) := by
                  unfold Hid; rw [HS.out]; unfold keyR; rw [if_pos hlast, if_pos hlast, Int.toNat_natCast, Int.toNat_natCast]
                  by_cases e : iget (rget v i) r < iget (rget v b) r
                  · rw [if_pos (.inr e), if_pos e]
                  · rw [if_neg (by omega), if_neg e]
                obtain ⟨x1, e1⟩ : ∃ x, iget (rget v i) r = x := ⟨_, rfl⟩
                obtain ⟨x2, e2⟩ : ∃ x, iget (rget v b) r = x := ⟨_, rfl⟩
                rw [e1] at hc3 HS2
                rw [e2] at hc4 HS2
                clear e1 e2 HS
                by_cases hcmp : x1 < x2
                · have hd3 : decide (x1 < x2) = true := by simpa using hcmp
                  have HS3 : Hid (lstK (keyR m v r) (leftN (i + 1) os) = (i : Int)) := by unfold Hid; rw [HS2.out, if_pos hcmp]
                  clear hcmp
                  go_wp2_with fail
                  refine HH.out.mono ?_
                  rintro e w2 ⟨rfl, rfl⟩
                  go_wp2_with fail
                  go_quiet (fail)
                  go_wp2_with fail
                  go_roundw
                  case rel => exact ⟨i + 1, by omega, by go_num, by rw [HS3.out], drew_drewN _ Hw.out⟩
                  case measure => (simp [intOf] <;> omega)
                · have hd3 : decide (x1 < x2) = false := by simpa using hcmp
                  have HS3 : Hid (lstK (keyR m v r) (leftN (i + 1) os) = (b : Int)) := by unfold Hid; rw [HS2.out, if_neg hcmp]
                  clear hcmp
                  go_wp2_with fail
                  refine HH.out.mono ?_
                  rintro e w2 ⟨rfl, rfl⟩
                  go_wp2_with fail
                  go_quiet (fail)
                  go_wp2_with fail
                  go_roundw
                  case rel => exact ⟨i + 1, by omega, by go_num, by rw [HS3.out], drew_drewN _ Hw.out⟩
                  case measure => (simp [intOf] <;> omega)
              · have hd2 : decide ((r : Int) + 1 < v.length) = false := by rw [decide_eq_false_iff_not]; omega
                have HS2 : Hid (lstK (keyR m v r) (leftN (i + 1) os) = (b : Int)) := by
                  unfold Hid; rw [HS.out]; unfold keyR; rw [if_neg hlast, if_neg hlast, if_neg (by omega)]
                clear HS hlast
                go_wp2_with fail
                refine HH.out.mono ?_
                rintro e w2 ⟨rfl, rfl⟩
                go_wp2_with fail
                go_quiet (fail)
                go_wp2_with fail
                go_roundw
                case rel => exact ⟨i + 1, by omega, by go_num, by rw [HS2.out], drew_drewN _ Hw.out⟩
                case measure => (simp [intOf] <;> omega)
        · have hi1 : ¬ (i : Int) < v.length := by omega
          obtain rfl : i = v.length := by omega
          have hb64 := lstK_big (key := keyR m v r) (out := os) hv6
          have hOw := hO.drew hw
          have hBw := hBr.drewP hw
          have HS : Hid (rnd m v (r + 1) = os ++ [lstK (keyR m v r) (leftN v.length os)]) := by unfold Hid; rw [rnd, ← hos.out]
          obtain ⟨y, hy⟩ : ∃ y, lstK (keyR m v r) (leftN v.length os) = y := ⟨_, rfl⟩
          rw [hy] at hb64 HS
          rw [hy]
          have hpl := hOw.lt
          have hbase : w.heap.size ≤ wr.heap.size := hBw.size
          clear hy hw
          go_wp2_with (at_builtin; refine wpList_app1 rfl (.tmp 49) (.tmp 51) rfl w.heap.size pO cO os y rfl rfl rfl hOw hb64 (by omega) hbase ?_; intro p4 c4 w4 zs hzs hO4 hg4 hf4)
          have hB4 := below_grown hBw hg4 hbase hpl (Nat.le_refl _)
          go_roundw
          case rel => exact ⟨r + 1, zs, p4, c4, by omega, by go_num, rfl, by unfold Hid; rw [HS.out]; exact hzs.out, hO4, hB4⟩
          case measure => (simp [intOf] <;> omega)
    · have hr1 : ¬ (r : Int) < v.length := by omega
      obtain rfl : r = v.length := by omega
      go_wp2_with fail
      go_ret
      refine ⟨pO, cO, ?_, ?_, hBr⟩
      · rw [hos.out]; rfl
      · unfold rndL; rw [← hos.out]; exact hO
/-- What Rounds hands back. -/
def rndsL (m : Int) (v : List (List Int)) : List Int := if Marks m v then rndL m v else []
theorem rndsL_pos {m : Int} {v : List (List Int)} (h : Marks m v) : rndsL m v = rndL m v := if_pos h
theorem rndsL_neg {m : Int} {v : List (List Int)} (h : ¬ Marks m v) : rndsL m v = [] := if_neg h
set_option maxHeartbeats 1000000 in
theorem keepRoundsTop_any (m : Int) (p : Option Addr) (c : Nat) (v : List (List Int)) (w : World) (hm64 : in64 m) (hx : Mat w p c v) :
    Calls Try.prog 10 #[.int .i64 m, .slice p v.length c] w (Gives2 w (rndsL m v) (chkM m v)) := by
  have hC := keepCheck_any m p c v w hm64 hx
  by_cases hM : Marks m v
  · have h0 := chkM_zero.2 hM
    have hL := Lib.hid (rndsL_pos hM)
    rw [h0] at hC ⊢
    have HC := Lib.hid hC
    have HR := Lib.hid (keepRounds_any m p c v w hM hx)
    clear hC hM h0
    go_enter Try.func10, Try.ntmps10
    go_wp2_with fail
    refine HC.out.mono ?_
    rintro e w2 ⟨rfl, rfl⟩
    go_wp2_with fail
    refine HR.out.mono ?_
    rintro e w3 ⟨p3, c3, rfl, hO, hb⟩
    go_wp2_with fail
    go_ret2
    unfold Gives2
    rw [hL.out]
    exact ⟨p3, c3, rfl, hO, hb⟩
  · have h0 : chkM m v ≠ 0 := fun h => hM (chkM_zero.1 h)
    have hL := Lib.hid (rndsL_neg hM)
    obtain ⟨k, hk⟩ : ∃ k, chkM m v = k := ⟨_, rfl⟩
    rw [hk] at hC h0 ⊢
    have hd : (k != 0) = true := by rw [bne_iff_ne]; exact h0
    have HC := Lib.hid hC
    clear hC hM h0 hk
    go_enter Try.func10, Try.ntmps10
    go_wp2_with fail
    refine HC.out.mono ?_
    rintro e w2 ⟨rfl, rfl⟩
    go_wp2_with fail
    go_ret2
    unfold Gives2
    rw [hL.out]
    exact ⟨none, 0, rfl, Own.ofNil _ _, Below.refl _ _⟩
set_option maxHeartbeats 1000000 in
theorem ref29RoundsTop_any (m : Int) (p : Option Addr) (c : Nat) (v : List (List Int)) (w : World) (hm64 : in64 m) (hx : Mat w p c v) :
    Calls Try.prog 11 #[.int .i64 m, .slice p v.length c] w (Gives2 w (rndsL m v) (chkM m v)) := by
  have hC := fun W h => ref29Check_any m p c v W hm64 (h : Mat W p c v)
  by_cases hM : Marks m v
  · have h0 := chkM_zero.2 hM
    have hL := Lib.hid (rndsL_pos hM)
    rw [h0] at hC ⊢
    have HC := Lib.hid hC
    have HR := Lib.hid (fun W h => ref29rounds_any m p c v W hM h)
    clear hC hM h0
    go_enter Try.func11, Try.ntmps11
    go_wp2_with fail
    refine (HC.out _ hx).mono ?_
    rintro e w2 ⟨rfl, n2, rfl⟩
    go_wp2_with fail
    refine (HR.out _ (hx.drewN _)).mono ?_
    rintro e w3 ⟨p3, c3, rfl, hO, hb⟩
    go_wp2_with fail
    go_ret2
    unfold Gives2
    rw [hL.out]
    exact ⟨p3, c3, rfl, hO, (below_drewN _ _ _).trans hb⟩
  · have h0 : chkM m v ≠ 0 := fun h => hM (chkM_zero.1 h)
    have hL := Lib.hid (rndsL_neg hM)
    obtain ⟨k, hk⟩ : ∃ k, chkM m v = k := ⟨_, rfl⟩
    rw [hk] at hC h0 ⊢
    have hd : (k != 0) = true := by rw [bne_iff_ne]; exact h0
    have HC := Lib.hid hC
    clear hC hM h0 hk
    go_enter Try.func11, Try.ntmps11
    go_wp2_with fail
    refine (HC.out _ hx).mono ?_
    rintro e w2 ⟨rfl, n2, rfl⟩
    go_wp2_with fail
    refine (HC.out _ (hx.drewN _)).mono ?_
    rintro e w3 ⟨rfl, n3, rfl⟩
    go_wp2_with fail
    go_ret2
    unfold Gives2
    rw [hL.out]
    exact ⟨none, 0, rfl, Own.ofNil _ _, below_drewN _ _ _⟩
end Go.Proofs.Ytknincjfcicjfaa
