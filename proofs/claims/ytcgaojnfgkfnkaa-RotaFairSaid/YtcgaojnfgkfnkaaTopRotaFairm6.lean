/- RotaFair: for every input the law returns true, and each argument reads as it read before; no condition. -/
import Derived.Test.YtcgaojnfgkfnkaaTopRotaFairm4
import Derived.Test.YtcgaojnfgkfnkaaTopRotaFairm5
import Derived.Test.YtcgaojnfgkfnkaaTopRotaFollowsm1
import Derived.Test.YtcgaojnfgkfnkaaTopRotaAddsm3
import Derived.ChangeOld
/- The walk of RotaFair: even counts stay even, and following zeros gives each shift as often, up to one; no condition.  (Printed by wip/genfair.py.) -/
namespace Go.Proofs.Ytcgaojnfgkfnkaa
set_option linter.unusedVariables false
set_option linter.unusedSimpArgs false
open Go.ChangeShapes Go.WideShapes Go.ChangeAt Go.RowKit Go.Deep

/-- What the law finds behind its first half. -/
def FairTl (n ws : Int) : Prop := 1 ≤ n → n ≤ 7 → 0 ≤ ws → ws ≤ 30 → ∃ (N T : Nat) (Z0 F D : List (List Int)) (Q1 Q2 S S1 : Nat), n = N ∧ ws = T ∧ 1 ≤ N ∧ N ≤ 7 ∧ T ≤ 30 ∧
  Hid (∀ W, Calls Try.prog 30 #[.int .i64 (N : Int)] W (GivesD W Z0)) ∧
  Hid (∀ W q d, Mat W q d Z0 → Calls Try.prog 18 #[.slice q Z0.length d, .int .i64 (T : Int)] W (GivesMt W F 0)) ∧
  Hid (∀ W q d q' d', Mat W q d Z0 → Mat W q' d' F → Calls Try.prog 25 #[.slice q Z0.length d, .slice q' F.length d'] W (GivesMt W D 0)) ∧
  Hid (∀ W q d, Mat W q d D → Calls Try.prog 15 #[.slice q D.length d] W fun e w' => e = .returned (.tuple #[.bool true, .int .i64 0]) ∧ Below W.heap.size W w') ∧
  ((F.length : Int) != (T : Int)) = false ∧ ((D.length : Int) != (N : Int)) = false ∧ Hid (D.length = N) ∧ Hid (∀ i, i < N → (rget D i).length = N) ∧
  Hid (∀ i k, i < N → k < N → iget (rget D i) k = (Q1 : Int) ∨ iget (rget D i) k = (Q2 : Int)) ∧
  Int.tdiv (T : Int) (N : Int) = (Q1 : Int) ∧ (T : Int) / (N : Int) = (Q1 : Int) ∧ Int.tdiv (S1 : Int) (N : Int) = (Q2 : Int) ∧ (S1 : Int) / (N : Int) = (Q2 : Int) ∧
  IntKind.i64.wrap ((T : Int) + N) = (S : Int) ∧ IntKind.i64.wrap ((S : Int) - 1) = (S1 : Int) ∧ ((N : Int) == 0) = false ∧ ((N : Int) != (N : Int)) = false ∧ IntKind.i64.wrap (Q1 : Int) = Q1 ∧ IntKind.i64.wrap (Q2 : Int) = Q2
theorem fair_tl (w : World) (n ws : Int) : FairTl n ws := by
  intro h1 h7 h0 h30
  obtain ⟨N, rfl⟩ : ∃ N : Nat, n = N := ⟨n.toNat, by omega⟩
  obtain ⟨T, rfl⟩ : ∃ T : Nat, ws = T := ⟨ws.toNat, by omega⟩
  have hN1 : 1 ≤ N := by omega
  have hN7 : N ≤ 7 := by omega
  have hT : T ≤ 30 := by omega
  have hC := zeroL_chk hN1 (show N ≤ 12 by omega)
  have hcnt := cntN_cnt (zeroL_cnt (show N ≤ 12 by omega)) T
  have hl : (cntN (zeroL N) T).length = N := by rw [cntN_len, zeroL_len]
  obtain ⟨hL, hr⟩ := lvl_zero w hN1 (show N ≤ 12 by omega) T (by omega)
  have hAdd : addE (zeroL N) (folL (zeroL N) T) = 0 ∧ addR (zeroL N) (folL (zeroL N) T) = cntN (zeroL N) T ∧ chk32 (cntN (zeroL N) T) = 0 := by
    rcases addE_fol hC T (by omega) with ⟨_, i, k, hi, hk, h⟩ | h
    · have := (hcnt.cb i k hi hk).2
      omega
    · exact h
  have hS1 : T + N - 1 + 1 = T + N := by omega
  have hb1 : T / N ≤ 30 := Nat.le_trans (Nat.div_le_self _ _) hT
  have hb2 : (T + N - 1) / N ≤ 36 := Nat.le_trans (Nat.div_le_self _ _) (by omega)
  have key : ∀ q : Nat, q ≤ 36 → IntKind.i64.wrap (q : Int) = q := fun q hq => IntWalk.i64_in _ (by omega)
  refine ⟨N, T, zeroL N, folL (zeroL N) T, cntN (zeroL N) T, T / N, (T + N - 1) / N, T + N, T + N - 1, rfl, rfl, hN1, hN7, hT, fun W => zeros_any N W (by omega), fun W q d hM => follow_ok hC (by omega) hM, fun W q d q' d' hM hM' => ?_, fun W q d hM => ?_, ?_, ?_, hl, fun i hi => ?_, fun i k hi hk => ?_, ?_, ?_, ?_, ?_, ?_, ?_, ?_, ?_, ?_, ?_⟩
  · have h := add32_any q q' d d' (zeroL N) (folL (zeroL N) T) W hM hM'
    rwa [hAdd.1, hAdd.2.1] at h
  · have h := even32_any q d (cntN (zeroL N) T) W hM
    rwa [hAdd.2.2, evenB_ok hAdd.2.2, lvlB_true.2 hL] at h
  · rw [folL_len]; simp
  · rw [hl]; simp
  · have := hcnt.row i (by rw [hl]; exact hi)
    rwa [hl] at this
  · have := lvl_quo (t := T) (by rw [hl]; exact hN1) (by rw [hl]; exact hN7) hL (fun i hi => hr i (by rw [hl] at hi; exact hi)) (i := i) (k := k) (by rw [hl]; exact hi) (by rw [hl]; exact hk)
    rwa [hl] at this
  · rw [Int.tdiv_eq_ediv_of_nonneg (by omega)]; rfl
  · rfl
  · rw [Int.tdiv_eq_ediv_of_nonneg (by omega)]; rfl
  · rfl
  · rw [show (T : Int) + N = ((T + N : Nat) : Int) by omega]; exact IntWalk.i64_in _ (by omega)
  · rw [show ((T + N : Nat) : Int) - 1 = ((T + N - 1 : Nat) : Int) by omega]; exact IntWalk.i64_in _ (by omega)
  · rw [beq_eq_false_iff_ne]; omega
  · simp
  · exact key _ (Nat.le_trans hb1 (by omega))
  · exact key _ hb2
/-- What adding the next week to even counts answers. -/
theorem fair_add (w : World) {v : List (List Int)} (hC : chk32 v = 0) (hL : LvlP v) : addE v [weekA v] = 2 ∨ (addE v [weekA v] = 0 ∧ chk32 (addR v [weekA v]) = 0 ∧ evenB (addR v [weekA v]) = true) := by
  have hM := CntM.of_chk hC
  have h1 : 1 ≤ v.length := (chk32_zero hC).2.1
  have hA := (weekA_spec v).1
  have hw : WksTo v [weekA v] 1 := fun t ht => by
    obtain rfl : t = 0 := by omega
    exact isWk_true.2 ⟨h1, hM.len, hA⟩
  have hl : ¬ 400 < [weekA v].length := by simp
  have e1 : addA v [weekA v] [weekA v].length = addW v (weekA v) := rfl
  by_cases ho : OverP (addW v (weekA v))
  · exact .inl (addE_over hC hl hw (by rw [e1]; exact ho))
  · have hE := addE_ok hC hl hw (by rw [e1]; exact ho)
    have hR : addR v [weekA v] = addW v (weekA v) := by rw [addR_ok hE, e1]
    have hcw := hM.addW hA
    have hC2 : chk32 (addW v (weekA v)) = 0 := chk32_of ⟨by rw [addW_len]; exact hM.len, hcw.row, fun i k hi hk => by
      have := hcw.cb i k hi hk
      exact ⟨this.1, Classical.byContradiction fun h => ho ⟨i, k, hi, hk, by omega⟩⟩⟩ (by rw [addW_len]; exact h1)
    refine .inr ⟨hE, by rw [hR]; exact hC2, ?_⟩
    rw [hR, evenB_ok hC2, lvlB_true]
    exact (lvl_add w hM (by omega) h1 hL).1
set_option maxHeartbeats 32000000 in
set_option maxRecDepth 100000 in
theorem rotaFair_walk (p : Option Addr) (c : Nat) (v : List (List Int)) (n ws : Int) (w : World) (hx : Mat w p c v) (_ : in64 n) (_ : in64 ws) :
    Calls Try.prog 7 #[.slice p v.length c, .int .i64 n, .int .i64 ws] w fun e w' => e = .returned (.bool true) ∧ Below w.heap.size w w' := by
  have tl := fair_tl w n ws
  go_enter Try.func7, Try.ntmps7
  have hS := (St.start w).addM rfl hx
  clear hx
  go_wp2_with fail
  refine (alive32_any _).mono ?_
  rintro e w1 ⟨rfl, hb⟩
  replace hS := hS.step hb
  clear hb
  go_wp2_with fail
  refine (great32_any p none c 0 v [] w1 (hS.matAt 0 rfl) (Mat.ofNil _)).mono ?_
  rintro e w' ⟨rfl, hw⟩
  subst w'
  cases hG : great32 v [] with
  | true =>
    clear hG tl
    go_wp2_with fail
    go_ret
    exact ⟨rfl, hS.bel⟩
  | false =>
  clear hG
  go_wp2_with fail
  refine (refChk_any p c v w1 (hS.matAt 0 rfl)).mono ?_
  rintro e w' ⟨rfl, hw⟩
  subst w'
  by_cases hC : chk32 v ≠ 0
  · have hb : (chk32 v == 0) = false := by rw [beq_eq_false_iff_ne]; exact hC
    obtain ⟨E, eE⟩ : ∃ E, chk32 v = E := ⟨_, rfl⟩
    rw [eE] at hb ⊢
    clear hC eE
    by_cases hn1 : n < 1
    · have hd1 : decide (n < 1) = true := by simpa using hn1
      clear hn1 tl
      go_wp2_with fail
      go_ret
      exact ⟨rfl, hS.bel⟩
    have hd1 : decide (n < 1) = false := by simpa using hn1
    by_cases hn7 : 7 < n
    · have hd2 : decide (7 < n) = true := by simpa using hn7
      clear hn1 hn7 tl
      go_wp2_with fail
      go_ret
      exact ⟨rfl, hS.bel⟩
    have hd2 : decide (7 < n) = false := by simpa using hn7
    by_cases ht0 : ws < 0
    · have hd3 : decide (ws < 0) = true := by simpa using ht0
      clear hn1 hn7 ht0 tl
      go_wp2_with fail
      go_ret
      exact ⟨rfl, hS.bel⟩
    have hd3 : decide (ws < 0) = false := by simpa using ht0
    by_cases ht30 : 30 < ws
    · have hd4 : decide (30 < ws) = true := by simpa using ht30
      clear hn1 hn7 ht0 ht30 tl
      go_wp2_with fail
      go_ret
      exact ⟨rfl, hS.bel⟩
    have hd4 : decide (30 < ws) = false := by simpa using ht30
    obtain ⟨N, T, Z0, F, D, Q1, Q2, S, S1, rfl, rfl, hN1, hN7, hT, CZ, CF, CA, CE, qF, qD, hDl, hDr, hDe, g1, g1', g2, g2', g3, g4, g5, g6, g7, g8⟩ := tl (by omega) (by omega) (by omega) (by omega)
    clear hn1 hn7 ht0 ht30
    go_wp2_with fail
    refine (CZ.out _).mono ?_
    rintro e wz ⟨qz, dz, Qz, Dz, rfl, hDz, hb⟩
    replace hS := hS.step hb
    replace hS := hS.addM rfl hDz.mat
    clear hb hDz
    go_wp2_with fail
    refine (CF.out _ _ _ (hS.matAt 0 rfl)).mono ?_
    rintro e wf ⟨qf, df, rfl, hM, hb⟩
    replace hS := hS.step hb
    replace hS := hS.addM rfl hM
    clear hb hM
    go_wp2_with fail
    refine (CZ.out _).mono ?_
    rintro e wy ⟨qy, dy, Qy, Dy, rfl, hDy, hb⟩
    replace hS := hS.step hb
    replace hS := hS.addM rfl hDy.mat
    clear hb hDy
    go_wp2_with fail
    refine (CA.out _ _ _ _ _ (hS.matAt 0 rfl) (hS.matAt 1 rfl)).mono ?_
    rintro e wa ⟨qd, dd, rfl, hM, hb⟩
    replace hS := hS.step hb
    replace hS := hS.addM rfl hM
    clear hb hM
    go_wp2_with fail
    refine (CE.out _ _ _ (hS.matAt 0 rfl)).mono ?_
    rintro e we ⟨rfl, hb⟩
    replace hS := hS.step hb
    clear hb CZ CF CA CE
    have hM := hS.matAt 0 rfl
    have hbel := hS.bel
    clear hS
    go_wp2_with fail
    go_loopw [20] (fun ii wk => ∃ i : Nat, i ≤ N ∧ ii = .int .i64 i ∧ ∃ m, wk = we.drewN m) (fun ii _ => N - (intOf ii).toNat)
    case atStart => exact ⟨0, by omega, rfl, 0, rfl⟩
    case round =>
      obtain ⟨i, hi, rfl, m0, rfl⟩ := hrel
      by_cases hli : i < N
      · have hi1 : (i : Int) < N := by omega
        go_wp2_with fail
        go_loopw [21] (fun kk wk => ∃ k : Nat, k ≤ N ∧ kk = .int .i64 k ∧ ∃ m, wk = we.drewN m) (fun kk _ => N - (intOf kk).toNat)
        case atStart => exact ⟨0, by omega, rfl, m0, rfl⟩
        case round =>
          obtain ⟨k, hk, rfl, m1, rfl⟩ := hrel
          by_cases hlk : k < N
          · have hk1 : (k : Int) < N := by omega
            obtain ⟨b, o, rfl, _, q1, d1, hc, hI⟩ := hM.get (j := i) (by rw [hDl.out]; exact hli)
            have hrl := hDr.out i hli
            obtain ⟨b1, o1, rfl, _, ck⟩ := hI.get (j := k) (by rw [hrl]; exact hlk)
            rw [hrl] at hc
            have hx := hDe.out i k hli hlk
            obtain ⟨x, ex⟩ : ∃ x, iget (rget D i) k = x := ⟨_, rfl⟩
            rw [ex] at ck hx
            have hiD : (i : Int) < D.length := by rw [hDl.out]; exact hi1
            clear hI hrl ex
            by_cases hx1 : x = (Q1 : Int)
            · have hq1 : (x != (Q1 : Int)) = false := by rw [hx1]; simp
              clear hx hx1
              go_wp2_with fail
              go_quiet (fail)
              go_wp2_with fail
              go_roundw
              case rel => exact ⟨k + 1, by omega, by go_num, _, rfl⟩
              case measure => simp [intOf]; omega
            · have hx2 : x = (Q2 : Int) := by rcases hx with h | h; exact absurd h hx1; exact h
              have hq1 : (x != (Q1 : Int)) = true := by rw [bne_iff_ne]; exact hx1
              have hq2 : (x != (Q2 : Int)) = false := by rw [hx2]; simp
              clear hx hx1 hx2
              go_wp2_with fail
              go_quiet (fail)
              go_wp2_with fail
              go_roundw
              case rel => exact ⟨k + 1, by omega, by go_num, _, rfl⟩
              case measure => simp [intOf]; omega
          · have hk1 : ¬ (k : Int) < N := by omega
            obtain rfl : k = N := by omega
            go_wp2_with fail
            go_roundw
            case rel => exact ⟨i + 1, by omega, by go_num, _, rfl⟩
            case measure => simp [intOf]; omega
      · have hi1 : ¬ (i : Int) < N := by omega
        go_wp2_with fail
        go_ret
        exact ⟨rfl, hbel.drewN' _⟩
  replace hC : chk32 v = 0 := Classical.not_not.1 hC
  rw [hC]
  have HC := Lib.hid hC
  have CL := Lib.hid (level_any p c v w1 (hS.matAt 0 rfl) (CntM.of_chk hC) (chk32_zero hC).2.1)
  clear hC
  go_wp2_with fail
  refine CL.out.mono ?_
  rintro e w2 ⟨rfl, hw⟩
  replace hS := hS.drew hw
  clear hw CL
  cases hL : lvlB v with
  | false =>
    clear hL
    by_cases hn1 : n < 1
    · have hd1 : decide (n < 1) = true := by simpa using hn1
      clear hn1 tl
      go_wp2_with fail
      go_ret
      exact ⟨rfl, hS.bel⟩
    have hd1 : decide (n < 1) = false := by simpa using hn1
    by_cases hn7 : 7 < n
    · have hd2 : decide (7 < n) = true := by simpa using hn7
      clear hn1 hn7 tl
      go_wp2_with fail
      go_ret
      exact ⟨rfl, hS.bel⟩
    have hd2 : decide (7 < n) = false := by simpa using hn7
    by_cases ht0 : ws < 0
    · have hd3 : decide (ws < 0) = true := by simpa using ht0
      clear hn1 hn7 ht0 tl
      go_wp2_with fail
      go_ret
      exact ⟨rfl, hS.bel⟩
    have hd3 : decide (ws < 0) = false := by simpa using ht0
    by_cases ht30 : 30 < ws
    · have hd4 : decide (30 < ws) = true := by simpa using ht30
      clear hn1 hn7 ht0 ht30 tl
      go_wp2_with fail
      go_ret
      exact ⟨rfl, hS.bel⟩
    have hd4 : decide (30 < ws) = false := by simpa using ht30
    obtain ⟨N, T, Z0, F, D, Q1, Q2, S, S1, rfl, rfl, hN1, hN7, hT, CZ, CF, CA, CE, qF, qD, hDl, hDr, hDe, g1, g1', g2, g2', g3, g4, g5, g6, g7, g8⟩ := tl (by omega) (by omega) (by omega) (by omega)
    clear hn1 hn7 ht0 ht30
    go_wp2_with fail
    refine (CZ.out _).mono ?_
    rintro e wz ⟨qz, dz, Qz, Dz, rfl, hDz, hb⟩
    replace hS := hS.step hb
    replace hS := hS.addM rfl hDz.mat
    clear hb hDz
    go_wp2_with fail
    refine (CF.out _ _ _ (hS.matAt 0 rfl)).mono ?_
    rintro e wf ⟨qf, df, rfl, hM, hb⟩
    replace hS := hS.step hb
    replace hS := hS.addM rfl hM
    clear hb hM
    go_wp2_with fail
    refine (CZ.out _).mono ?_
    rintro e wy ⟨qy, dy, Qy, Dy, rfl, hDy, hb⟩
    replace hS := hS.step hb
    replace hS := hS.addM rfl hDy.mat
    clear hb hDy
    go_wp2_with fail
    refine (CA.out _ _ _ _ _ (hS.matAt 0 rfl) (hS.matAt 1 rfl)).mono ?_
    rintro e wa ⟨qd, dd, rfl, hM, hb⟩
    replace hS := hS.step hb
    replace hS := hS.addM rfl hM
    clear hb hM
    go_wp2_with fail
    refine (CE.out _ _ _ (hS.matAt 0 rfl)).mono ?_
    rintro e we ⟨rfl, hb⟩
    replace hS := hS.step hb
    clear hb CZ CF CA CE
    have hM := hS.matAt 0 rfl
    have hbel := hS.bel
    clear hS
    go_wp2_with fail
    go_loopw [20] (fun ii wk => ∃ i : Nat, i ≤ N ∧ ii = .int .i64 i ∧ ∃ m, wk = we.drewN m) (fun ii _ => N - (intOf ii).toNat)
    case atStart => exact ⟨0, by omega, rfl, 0, rfl⟩
    case round =>
      obtain ⟨i, hi, rfl, m0, rfl⟩ := hrel
      by_cases hli : i < N
      · have hi1 : (i : Int) < N := by omega
        go_wp2_with fail
        go_loopw [21] (fun kk wk => ∃ k : Nat, k ≤ N ∧ kk = .int .i64 k ∧ ∃ m, wk = we.drewN m) (fun kk _ => N - (intOf kk).toNat)
        case atStart => exact ⟨0, by omega, rfl, m0, rfl⟩
        case round =>
          obtain ⟨k, hk, rfl, m1, rfl⟩ := hrel
          by_cases hlk : k < N
          · have hk1 : (k : Int) < N := by omega
            obtain ⟨b, o, rfl, _, q1, d1, hc, hI⟩ := hM.get (j := i) (by rw [hDl.out]; exact hli)
            have hrl := hDr.out i hli
            obtain ⟨b1, o1, rfl, _, ck⟩ := hI.get (j := k) (by rw [hrl]; exact hlk)
            rw [hrl] at hc
            have hx := hDe.out i k hli hlk
            obtain ⟨x, ex⟩ : ∃ x, iget (rget D i) k = x := ⟨_, rfl⟩
            rw [ex] at ck hx
            have hiD : (i : Int) < D.length := by rw [hDl.out]; exact hi1
            clear hI hrl ex
            by_cases hx1 : x = (Q1 : Int)
            · have hq1 : (x != (Q1 : Int)) = false := by rw [hx1]; simp
              clear hx hx1
              go_wp2_with fail
              go_quiet (fail)
              go_wp2_with fail
              go_roundw
              case rel => exact ⟨k + 1, by omega, by go_num, _, rfl⟩
              case measure => simp [intOf]; omega
            · have hx2 : x = (Q2 : Int) := by rcases hx with h | h; exact absurd h hx1; exact h
              have hq1 : (x != (Q1 : Int)) = true := by rw [bne_iff_ne]; exact hx1
              have hq2 : (x != (Q2 : Int)) = false := by rw [hx2]; simp
              clear hx hx1 hx2
              go_wp2_with fail
              go_quiet (fail)
              go_wp2_with fail
              go_roundw
              case rel => exact ⟨k + 1, by omega, by go_num, _, rfl⟩
              case measure => simp [intOf]; omega
          · have hk1 : ¬ (k : Int) < N := by omega
            obtain rfl : k = N := by omega
            go_wp2_with fail
            go_roundw
            case rel => exact ⟨i + 1, by omega, by go_num, _, rfl⟩
            case measure => simp [intOf]; omega
      · have hi1 : ¬ (i : Int) < N := by omega
        go_wp2_with fail
        go_ret
        exact ⟨rfl, hbel.drewN' _⟩
  | true =>
    have hAdd := Lib.hid (fair_add w HC.out (lvlB_true.1 hL))
    clear hL
    have CN := Lib.hid (next2_any p c v w2 (hS.matAt 0 rfl))
    rw [HC.out, nxtL_ok HC.out] at CN
    obtain ⟨A, eA⟩ : ∃ A, weekA v = A := ⟨_, rfl⟩
    rw [eA] at CN hAdd
    clear eA
    go_wp2_with fail
    refine CN.out.mono ?_
    rintro e w3 ⟨⟨pa, ca, rfl, hI, hb⟩, _⟩
    replace hS := hS.step hb
    replace hS := hS.addI rfl hI
    clear hb hI CN
    replace hS := hS.litM (ks := [0]) (v := [A]) (.cons rfl .nil) 1
    have CA0 := add32_any p (some ⟨w3.heap.size, 0, none⟩) c 1 v [A] _ (hS.matAt 2 rfl) (hS.matAt 0 rfl)
    obtain ⟨R, eR⟩ : ∃ R, addR v [A] = R := ⟨_, rfl⟩
    obtain ⟨Z, eZ⟩ : ∃ Z, addE v [A] = Z := ⟨_, rfl⟩
    rw [eR, eZ] at CA0
    rw [eR, eZ] at hAdd
    have CAd := Lib.hid CA0
    clear CA0 eR eZ
    go_wp2_with fail
    refine CAd.out.mono ?_
    rintro e w4 ⟨q4, d4, rfl, hM, hb⟩
    replace hS := hS.step hb
    replace hS := hS.addM rfl hM
    clear hb hM CAd
    have CE0 := even32_any q4 d4 R w4 (hS.matAt 0 rfl)
    rcases hAdd.out with hZ | ⟨hZ, hR1, hR2⟩
    · subst hZ
      have CE1 := Lib.hid CE0
      obtain ⟨B5, e5⟩ : ∃ B, evenB R = B := ⟨_, rfl⟩
      obtain ⟨E5, e6⟩ : ∃ E, chk32 R = E := ⟨_, rfl⟩
      rw [e5, e6] at CE1
      clear CE0 hAdd e5 e6
      go_wp2_with fail
      refine CE1.out.mono ?_
      rintro e w5 ⟨rfl, hb⟩
      replace hS := hS.step hb
      clear hb CE1
      by_cases hn1 : n < 1
      · have hd1 : decide (n < 1) = true := by simpa using hn1
        clear hn1 tl
        go_wp2_with fail
        go_ret
        exact ⟨rfl, hS.bel⟩
      have hd1 : decide (n < 1) = false := by simpa using hn1
      by_cases hn7 : 7 < n
      · have hd2 : decide (7 < n) = true := by simpa using hn7
        clear hn1 hn7 tl
        go_wp2_with fail
        go_ret
        exact ⟨rfl, hS.bel⟩
      have hd2 : decide (7 < n) = false := by simpa using hn7
      by_cases ht0 : ws < 0
      · have hd3 : decide (ws < 0) = true := by simpa using ht0
        clear hn1 hn7 ht0 tl
        go_wp2_with fail
        go_ret
        exact ⟨rfl, hS.bel⟩
      have hd3 : decide (ws < 0) = false := by simpa using ht0
      by_cases ht30 : 30 < ws
      · have hd4 : decide (30 < ws) = true := by simpa using ht30
        clear hn1 hn7 ht0 ht30 tl
        go_wp2_with fail
        go_ret
        exact ⟨rfl, hS.bel⟩
      have hd4 : decide (30 < ws) = false := by simpa using ht30
      obtain ⟨N, T, Z0, F, D, Q1, Q2, S, S1, rfl, rfl, hN1, hN7, hT, CZ, CF, CA, CE, qF, qD, hDl, hDr, hDe, g1, g1', g2, g2', g3, g4, g5, g6, g7, g8⟩ := tl (by omega) (by omega) (by omega) (by omega)
      clear hn1 hn7 ht0 ht30
      go_wp2_with fail
      refine (CZ.out _).mono ?_
      rintro e wz ⟨qz, dz, Qz, Dz, rfl, hDz, hb⟩
      replace hS := hS.step hb
      replace hS := hS.addM rfl hDz.mat
      clear hb hDz
      go_wp2_with fail
      refine (CF.out _ _ _ (hS.matAt 0 rfl)).mono ?_
      rintro e wf ⟨qf, df, rfl, hM, hb⟩
      replace hS := hS.step hb
      replace hS := hS.addM rfl hM
      clear hb hM
      go_wp2_with fail
      refine (CZ.out _).mono ?_
      rintro e wy ⟨qy, dy, Qy, Dy, rfl, hDy, hb⟩
      replace hS := hS.step hb
      replace hS := hS.addM rfl hDy.mat
      clear hb hDy
      go_wp2_with fail
      refine (CA.out _ _ _ _ _ (hS.matAt 0 rfl) (hS.matAt 1 rfl)).mono ?_
      rintro e wa ⟨qd, dd, rfl, hM, hb⟩
      replace hS := hS.step hb
      replace hS := hS.addM rfl hM
      clear hb hM
      go_wp2_with fail
      refine (CE.out _ _ _ (hS.matAt 0 rfl)).mono ?_
      rintro e we ⟨rfl, hb⟩
      replace hS := hS.step hb
      clear hb CZ CF CA CE
      have hM := hS.matAt 0 rfl
      have hbel := hS.bel
      clear hS
      go_wp2_with fail
      go_loopw [20] (fun ii wk => ∃ i : Nat, i ≤ N ∧ ii = .int .i64 i ∧ ∃ m, wk = we.drewN m) (fun ii _ => N - (intOf ii).toNat)
      case atStart => exact ⟨0, by omega, rfl, 0, rfl⟩
      case round =>
        obtain ⟨i, hi, rfl, m0, rfl⟩ := hrel
        by_cases hli : i < N
        · have hi1 : (i : Int) < N := by omega
          go_wp2_with fail
          go_loopw [21] (fun kk wk => ∃ k : Nat, k ≤ N ∧ kk = .int .i64 k ∧ ∃ m, wk = we.drewN m) (fun kk _ => N - (intOf kk).toNat)
          case atStart => exact ⟨0, by omega, rfl, m0, rfl⟩
          case round =>
            obtain ⟨k, hk, rfl, m1, rfl⟩ := hrel
            by_cases hlk : k < N
            · have hk1 : (k : Int) < N := by omega
              obtain ⟨b, o, rfl, _, q1, d1, hc, hI⟩ := hM.get (j := i) (by rw [hDl.out]; exact hli)
              have hrl := hDr.out i hli
              obtain ⟨b1, o1, rfl, _, ck⟩ := hI.get (j := k) (by rw [hrl]; exact hlk)
              rw [hrl] at hc
              have hx := hDe.out i k hli hlk
              obtain ⟨x, ex⟩ : ∃ x, iget (rget D i) k = x := ⟨_, rfl⟩
              rw [ex] at ck hx
              have hiD : (i : Int) < D.length := by rw [hDl.out]; exact hi1
              clear hI hrl ex
              by_cases hx1 : x = (Q1 : Int)
              · have hq1 : (x != (Q1 : Int)) = false := by rw [hx1]; simp
                clear hx hx1
                go_wp2_with fail
                go_quiet (fail)
                go_wp2_with fail
                go_roundw
                case rel => exact ⟨k + 1, by omega, by go_num, _, rfl⟩
                case measure => simp [intOf]; omega
              · have hx2 : x = (Q2 : Int) := by rcases hx with h | h; exact absurd h hx1; exact h
                have hq1 : (x != (Q1 : Int)) = true := by rw [bne_iff_ne]; exact hx1
                have hq2 : (x != (Q2 : Int)) = false := by rw [hx2]; simp
                clear hx hx1 hx2
                go_wp2_with fail
                go_quiet (fail)
                go_wp2_with fail
                go_roundw
                case rel => exact ⟨k + 1, by omega, by go_num, _, rfl⟩
                case measure => simp [intOf]; omega
            · have hk1 : ¬ (k : Int) < N := by omega
              obtain rfl : k = N := by omega
              go_wp2_with fail
              go_roundw
              case rel => exact ⟨i + 1, by omega, by go_num, _, rfl⟩
              case measure => simp [intOf]; omega
        · have hi1 : ¬ (i : Int) < N := by omega
          go_wp2_with fail
          go_ret
          exact ⟨rfl, hbel.drewN' _⟩
    · subst hZ
      rw [hR1, hR2] at CE0
      have CE1 := Lib.hid CE0
      clear CE0 hAdd hR1 hR2
      go_wp2_with fail
      refine CE1.out.mono ?_
      rintro e w5 ⟨rfl, hb⟩
      replace hS := hS.step hb
      clear hb CE1
      by_cases hn1 : n < 1
      · have hd1 : decide (n < 1) = true := by simpa using hn1
        clear hn1 tl
        go_wp2_with fail
        go_ret
        exact ⟨rfl, hS.bel⟩
      have hd1 : decide (n < 1) = false := by simpa using hn1
      by_cases hn7 : 7 < n
      · have hd2 : decide (7 < n) = true := by simpa using hn7
        clear hn1 hn7 tl
        go_wp2_with fail
        go_ret
        exact ⟨rfl, hS.bel⟩
      have hd2 : decide (7 < n) = false := by simpa using hn7
      by_cases ht0 : ws < 0
      · have hd3 : decide (ws < 0) = true := by simpa using ht0
        clear hn1 hn7 ht0 tl
        go_wp2_with fail
        go_ret
        exact ⟨rfl, hS.bel⟩
      have hd3 : decide (ws < 0) = false := by simpa using ht0
      by_cases ht30 : 30 < ws
      · have hd4 : decide (30 < ws) = true := by simpa using ht30
        clear hn1 hn7 ht0 ht30 tl
        go_wp2_with fail
        go_ret
        exact ⟨rfl, hS.bel⟩
      have hd4 : decide (30 < ws) = false := by simpa using ht30
      obtain ⟨N, T, Z0, F, D, Q1, Q2, S, S1, rfl, rfl, hN1, hN7, hT, CZ, CF, CA, CE, qF, qD, hDl, hDr, hDe, g1, g1', g2, g2', g3, g4, g5, g6, g7, g8⟩ := tl (by omega) (by omega) (by omega) (by omega)
      clear hn1 hn7 ht0 ht30
      go_wp2_with fail
      refine (CZ.out _).mono ?_
      rintro e wz ⟨qz, dz, Qz, Dz, rfl, hDz, hb⟩
      replace hS := hS.step hb
      replace hS := hS.addM rfl hDz.mat
      clear hb hDz
      go_wp2_with fail
      refine (CF.out _ _ _ (hS.matAt 0 rfl)).mono ?_
      rintro e wf ⟨qf, df, rfl, hM, hb⟩
      replace hS := hS.step hb
      replace hS := hS.addM rfl hM
      clear hb hM
      go_wp2_with fail
      refine (CZ.out _).mono ?_
      rintro e wy ⟨qy, dy, Qy, Dy, rfl, hDy, hb⟩
      replace hS := hS.step hb
      replace hS := hS.addM rfl hDy.mat
      clear hb hDy
      go_wp2_with fail
      refine (CA.out _ _ _ _ _ (hS.matAt 0 rfl) (hS.matAt 1 rfl)).mono ?_
      rintro e wa ⟨qd, dd, rfl, hM, hb⟩
      replace hS := hS.step hb
      replace hS := hS.addM rfl hM
      clear hb hM
      go_wp2_with fail
      refine (CE.out _ _ _ (hS.matAt 0 rfl)).mono ?_
      rintro e we ⟨rfl, hb⟩
      replace hS := hS.step hb
      clear hb CZ CF CA CE
      have hM := hS.matAt 0 rfl
      have hbel := hS.bel
      clear hS
      go_wp2_with fail
      go_loopw [20] (fun ii wk => ∃ i : Nat, i ≤ N ∧ ii = .int .i64 i ∧ ∃ m, wk = we.drewN m) (fun ii _ => N - (intOf ii).toNat)
      case atStart => exact ⟨0, by omega, rfl, 0, rfl⟩
      case round =>
        obtain ⟨i, hi, rfl, m0, rfl⟩ := hrel
        by_cases hli : i < N
        · have hi1 : (i : Int) < N := by omega
          go_wp2_with fail
          go_loopw [21] (fun kk wk => ∃ k : Nat, k ≤ N ∧ kk = .int .i64 k ∧ ∃ m, wk = we.drewN m) (fun kk _ => N - (intOf kk).toNat)
          case atStart => exact ⟨0, by omega, rfl, m0, rfl⟩
          case round =>
            obtain ⟨k, hk, rfl, m1, rfl⟩ := hrel
            by_cases hlk : k < N
            · have hk1 : (k : Int) < N := by omega
              obtain ⟨b, o, rfl, _, q1, d1, hc, hI⟩ := hM.get (j := i) (by rw [hDl.out]; exact hli)
              have hrl := hDr.out i hli
              obtain ⟨b1, o1, rfl, _, ck⟩ := hI.get (j := k) (by rw [hrl]; exact hlk)
              rw [hrl] at hc
              have hx := hDe.out i k hli hlk
              obtain ⟨x, ex⟩ : ∃ x, iget (rget D i) k = x := ⟨_, rfl⟩
              rw [ex] at ck hx
              have hiD : (i : Int) < D.length := by rw [hDl.out]; exact hi1
              clear hI hrl ex
              by_cases hx1 : x = (Q1 : Int)
              · have hq1 : (x != (Q1 : Int)) = false := by rw [hx1]; simp
                clear hx hx1
                go_wp2_with fail
                go_quiet (fail)
                go_wp2_with fail
                go_roundw
                case rel => exact ⟨k + 1, by omega, by go_num, _, rfl⟩
                case measure => simp [intOf]; omega
              · have hx2 : x = (Q2 : Int) := by rcases hx with h | h; exact absurd h hx1; exact h
                have hq1 : (x != (Q1 : Int)) = true := by rw [bne_iff_ne]; exact hx1
                have hq2 : (x != (Q2 : Int)) = false := by rw [hx2]; simp
                clear hx hx1 hx2
                go_wp2_with fail
                go_quiet (fail)
                go_wp2_with fail
                go_roundw
                case rel => exact ⟨k + 1, by omega, by go_num, _, rfl⟩
                case measure => simp [intOf]; omega
            · have hk1 : ¬ (k : Int) < N := by omega
              obtain rfl : k = N := by omega
              go_wp2_with fail
              go_roundw
              case rel => exact ⟨i + 1, by omega, by go_num, _, rfl⟩
              case measure => simp [intOf]; omega
        · have hi1 : ¬ (i : Int) < N := by omega
          go_wp2_with fail
          go_ret
          exact ⟨rfl, hbel.drewN' _⟩
end Go.Proofs.Ytcgaojnfgkfnkaa

/- RotaFair: for every input the law returns true, and each argument reads as it read before; no condition. -/
namespace Go.Proofs.Ytcgaojnfgkfnkaa.RotaFairTop
open Go.ChangeShapes Go.WideShapes Go.ChangeAt Go.RowKit Go.Deep
set_option linter.unusedVariables false

set_option maxRecDepth 100000 in
theorem lifted (os : Os) (started : os.Started) (H : Type) (enc : TypeId × Value → H) :
    ReturnsInHanded {} Try.checked os 7 .any (Rows.rotaFairSpec.pre6 enc Try.prog Try.f7 Rows.rotaFairRow.domain false) (Rows.rotaFairSpec.post enc Try.prog Try.f7 false true false false) := by
  refine returnsInHanded_of_change (C := Try.checked) own started (by kernel_rfl) Try.func7
    (ChangeSpec.witness6 (enc := enc) (C := Try.checked) false ⟨#[], #[.slice none 0 0, .int .i64 0, .int .i64 0], []⟩ 8 (by kernel_rfl) (by kernel_rfl) (by kernel_rfl) (by kernel_rfl)) ?_
  intro W base args ds gs before hval0 hW hcnd _
  have hval : ∀ (j : Nat) t v, Try.f7.params[j]? = some t → args[j]? = some v → Value.okWide Try.prog W .any base t v := hval0
  have hW' := hW
  obtain ⟨p, q, hA0, hV, rfl, hfz, hnd⟩ := hW
  have hA : DataW.TrodAll enc Try.prog W 0 (fun _ => true) true Try.f7.params.toList args.toList ds p := hA0
  rw [Try.params7] at hA hval
  obtain ⟨v0, vs0, d0, ds0, p0, q0, hargs, rfl, rfl, h0, r0⟩ := trodAll_cons hA
  obtain ⟨v1, vs1, d1, ds1, p1, q1, rfl, rfl, rfl, h1, r1⟩ := trodAll_cons r0
  obtain ⟨v2, vs2, d2, ds2, p2, q2, rfl, rfl, rfl, h2, r2⟩ := trodAll_cons r1
  obtain ⟨rfl, rfl, rfl⟩ := trodAll_nil r2
  obtain rfl : args = #[v0, v1, v2] := by cases args; simp_all
  obtain ⟨rfl, rfl⟩ := trodVars_none hV
  have k0 := h0
  have lt0 : ∀ x ∈ p0, x.block < W.heap.size := by obtain ⟨m, hm⟩ := k0; exact DataW.trod_lt m _ _ _ hm
  obtain ⟨a0, c0, x0, rfl, w0⟩ := open_matV (hval 0 22 v0 rfl rfl) h0
  have k1 := h1
  have lt1 : ∀ x ∈ p1, x.block < W.heap.size := by obtain ⟨m, hm⟩ := k1; exact DataW.trod_lt m _ _ _ hm
  obtain ⟨x1, rfl, w1⟩ := open_intV (hval 1 3 v1 rfl rfl) h1
  have k2 := h2
  have lt2 : ∀ x ∈ p2, x.block < W.heap.size := by obtain ⟨m, hm⟩ := k2; exact DataW.trod_lt m _ _ _ hm
  obtain ⟨x2, rfl, w2⟩ := open_intV (hval 2 3 v2 rfl rfl) h2
  clear hA0 hval0
  refine (rotaFair_walk a0 c0 x0 x1 x2 W w0 w1 w2).mono fun e W' ⟨he, bel⟩ => ?_
  subst he
  exact ⟨_, rfl, _, _, _, [], _, [], hW', trodAll_mk1 (shut_bool Try.underlying4 _), (trodAll_cons_mk (Below.trod laidOut (by kernel_rfl) (of_decide_eq_true (by kernel_rfl)) k0 bel lt0) (trodAll_cons_mk (Below.trod laidOut (by kernel_rfl) (of_decide_eq_true (by kernel_rfl)) k1 bel lt1) (trodAll_cons_mk (Below.trod laidOut (by kernel_rfl) (of_decide_eq_true (by kernel_rfl)) k2 bel lt2) trodAll_mk0))), rfl, bel.frame _, fun h => by cases h⟩

theorem over : Rows.rotaFairRow.holds Try.pinned (OpenSpec.ofChange Rows.rotaFairSpec) :=
  OpenClaim.holds_of_wide 7 Try.f7 rfl rfl rfl rfl rfl rfl rfl ⟨rfl, rfl, rfl, rfl, rfl⟩ rfl rfl rfl rfl rfl (by kernel_rfl) Try.func7 (by kernel_rfl)
    (of_decide_eq_true (by kernel_rfl)) (by unfold Func.isWrapper; first | (rw [if_pos (by decide +kernel)]; kernel_rfl) | (rw [if_neg (by decide +kernel)]; exact ⟨rfl, rfl⟩))
    (fun os started H enc _ => lifted os started H enc)
end Go.Proofs.Ytcgaojnfgkfnkaa.RotaFairTop
namespace Go.Proofs.Ytcgaojnfgkfnkaa
/-- The statement. -/
theorem rotaFair_holds : Rows.RotaFairSaid := RotaFairTop.over
#print axioms rotaFair_holds
end Go.Proofs.Ytcgaojnfgkfnkaa
