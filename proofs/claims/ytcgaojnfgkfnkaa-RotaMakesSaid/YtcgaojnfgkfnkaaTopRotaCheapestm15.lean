/- RotaCheapest: for every input the law returns true, and each argument reads as it read before; no condition. -/
import Derived.Test.YtcgaojnfgkfnkaaTopRotaCheapestm14
import Derived.ChangeOld
/- The walk of RotaCheapest: no week costs less than the next one, or as much and comes before; no condition. -/
namespace Go.Proofs.Ytcgaojnfgkfnkaa
set_option linter.unusedVariables false
set_option linter.unusedSimpArgs false
open Go.ChangeShapes Go.WideShapes Go.ChangeAt Go.RowKit Go.Deep

theorem sum_bd {v : List (List Int)} {x : List Int} (hv : CntM 400 v) (hx : IsA x v.length) : ∀ k, k ≤ v.length → 0 ≤ sumTo (fun i => bid v i (itm x i)) k ∧ sumTo (fun i => bid v i (itm x i)) k ≤ 400 * k
  | 0, _ => by simp [sumTo]
  | k + 1, h => by
    have ih := sum_bd hv hx k (by omega)
    have h1 := hv.cb k (itm x k) (by omega) (isA_lt hx k (by omega)).2
    have h2 : bid v k (itm x k) = iget (rget v k) (itm x k) := rfl
    simp only [sumTo]
    omega
theorem great_few {v : List (List Int)} (h : great32 v [] = false) (h1 : chk32 v = 0) : v.length ≤ 7 := by
  have h2 := great32_false.1 h
  have h3 := (CntM.of_chk h1).len
  exact Classical.byContradiction fun h4 => h2 (.inl (.inl ⟨by omega, h3⟩))
set_option maxHeartbeats 16000000 in
set_option maxRecDepth 100000 in
theorem rotaCheapest_walk (p : Option Addr) (c : Nat) (v : List (List Int)) (q : Option Addr) (d : Nat) (y : List Int) (w : World) (hx : Mat w p c v) (hy : Ints w q d y) :
    Calls Try.prog 3 #[.slice p v.length c, .slice q y.length d] w fun e w' => e = .returned (.bool true) ∧ Below w.heap.size w w' := by
  go_enter Try.func3, Try.ntmps3
  go_wp2_with fail
  refine (alive32_any _).mono ?_
  rintro e w1 ⟨rfl, hb1⟩
  have hx1 := hx.below hb1 (Nat.le_refl _)
  have hy1 := hy.below hb1 (Nat.le_refl _)
  clear hx hy
  go_wp2_with fail
  refine (great32_any p none c 0 v [] w1 hx1 (Mat.ofNil _)).mono ?_
  rintro e w' ⟨rfl, hw⟩
  subst w'
  cases hG : great32 v [] with
  | true =>
    clear hG
    go_wp2_with fail
    go_ret
    exact ⟨rfl, hb1⟩
  | false =>
  have HG := Lib.hid hG
  clear hG
  go_wp2_with fail
  refine (refChk_any p c v w1 hx1).mono ?_
  rintro e w' ⟨rfl, hw⟩
  subst w'
  by_cases hC : chk32 v ≠ 0
  · have hb : (chk32 v != 0) = true := by rw [bne_iff_ne]; exact hC
    obtain ⟨E, eE⟩ : ∃ E, chk32 v = E := ⟨_, rfl⟩
    rw [eE] at hb ⊢
    clear hC eE
    go_wp2_with fail
    go_ret
    exact ⟨rfl, hb1⟩
  replace hC : chk32 v = 0 := Classical.not_not.1 hC
  rw [hC]
  have Hv := Lib.hid (CntM.of_chk hC)
  have HC := Lib.hid hC
  have hl1 : 1 ≤ v.length := (chk32_zero hC).2.1
  have hl12 := Hv.out.len
  clear hC
  go_wp2_with fail
  refine (next2_any p c v w1 hx1).mono ?_
  rintro e w2 ⟨⟨pa, ca, rfl, hI, hb2⟩, hIs⟩
  rw [HC.out]
  have HIs := Lib.hid (hIs HC.out)
  rw [nxtL_ok HC.out] at hI ⊢
  obtain ⟨A, eA⟩ : ∃ A, weekA v = A := ⟨_, rfl⟩
  rw [eA] at hI HIs ⊢
  have hx2 := hx1.below hb2 (Nat.le_refl _)
  have hy2 := hy1.below hb2 (Nat.le_refl _)
  have hB := hb1.trans (hb2.mono hb1.size)
  clear hx1 hy1 hIs eA hb1 hb2
  have CI := is32_any pa ca A v.length w2 hI (by omega)
  rw [(isWk_true (a := A) (n := v.length)).2 ⟨hl1, hl12, HIs.out.1⟩] at CI
  have CIh := Lib.hid CI
  clear CI
  go_wp2_with fail
  refine CIh.out.mono ?_
  rintro e w' ⟨rfl, hw⟩
  subst w'
  go_wp2_with fail
  refine (is32_any q d y v.length w2 hy2 (by omega)).mono ?_
  rintro e w' ⟨rfl, hw⟩
  subst w'
  cases hW : isWk y v.length with
  | false =>
    clear hW
    go_wp2_with fail
    go_ret
    exact ⟨rfl, hB⟩
  | true =>
  have HY := Lib.hid ((isWk_true.1 hW).2.2)
  have HAl := Lib.hid HIs.out.1.1
  have HYl := Lib.hid HY.out.1
  clear hW CIh
  go_wp2_with fail
  go_loopw [8, 9, 10] (fun a b i wk => ∃ k : Nat, k ≤ v.length ∧ i = .int .i64 k ∧ a = .int .i64 (sumTo (fun i => bid v i (itm A i)) k) ∧ b = .int .i64 (sumTo (fun i => bid v i (itm y i)) k) ∧ ∃ n, wk = w2.drewN n) (fun _ _ i _ => v.length - (intOf i).toNat)
  case atStart => exact ⟨0, by omega, rfl, rfl, rfl, 0, rfl⟩
  case round =>
    obtain ⟨k, hk, rfl, rfl, rfl, n0, rfl⟩ := hrel
    by_cases hlt : k < v.length
    · have hk1 : (k : Int) < v.length := by omega
      obtain ⟨b, o, rfl, _, q1, d1, hc, hi⟩ := hx2.get hlt
      have hrl := Hv.out.row k hlt
      obtain ⟨a1, a2⟩ := isA_lt HIs.out.1 k hlt
      obtain ⟨y1, y2⟩ := isA_lt HY.out k hlt
      obtain ⟨s, es⟩ : ∃ s, itm A k = s := ⟨_, rfl⟩
      obtain ⟨t, et⟩ : ∃ t, itm y k = t := ⟨_, rfl⟩
      have hAk : iget A k = (s : Int) := by unfold itm at es; omega
      have hYk : iget y k = (t : Int) := by unfold itm at et; omega
      have kA : k < A.length := by rw [HAl.out]; exact hlt
      have kY : k < y.length := by rw [HYl.out]; exact hlt
      obtain ⟨bA, oA, rfl, _, cA⟩ := hI.get kA
      obtain ⟨bY, oY, rfl, _, cY⟩ := hy2.get kY
      rw [es] at a2
      rw [et] at y2
      obtain ⟨bR, oR, rfl, _, cS⟩ := hi.get (j := s) (by rw [hrl]; exact a2)
      have cT := hi.at (j := t) (by rw [hrl]; exact y2)
      rw [hAk] at cA
      rw [hYk] at cY
      rw [hrl] at hc
      have HSa : Hid (sumTo (fun i => bid v i (itm A i)) (k + 1) = sumTo (fun i => bid v i (itm A i)) k + iget (rget v k) s) := by unfold Hid; rw [← es]; simp only [sumTo]; rfl
      have HSb : Hid (sumTo (fun i => bid v i (itm y i)) (k + 1) = sumTo (fun i => bid v i (itm y i)) k + iget (rget v k) t) := by unfold Hid; rw [← et]; simp only [sumTo]; rfl
      have b1 := sum_bd Hv.out HIs.out.1 k hk
      have b2 := sum_bd Hv.out HY.out k hk
      have e1 := Hv.out.cb k s hlt a2
      have e2 := Hv.out.cb k t hlt y2
      obtain ⟨X, eX⟩ : ∃ X, sumTo (fun i => bid v i (itm A i)) k = X := ⟨_, rfl⟩
      obtain ⟨Y, eY⟩ : ∃ Y, sumTo (fun i => bid v i (itm y i)) k = Y := ⟨_, rfl⟩
      obtain ⟨U, eU⟩ : ∃ U, iget (rget v k) s = U := ⟨_, rfl⟩
      obtain ⟨V, eV⟩ : ∃ V, iget (rget v k) t = V := ⟨_, rfl⟩
      rw [eX] at b1 HSa
      rw [eY] at b2 HSb
      rw [eU] at e1 HSa cS
      rw [eV] at e2 HSb cT
      rw [eX, eY]
      have hw1 : IntKind.i64.wrap (X + U) = X + U := IntWalk.i64_in _ (by omega)
      have hw2 : IntKind.i64.wrap (Y + V) = Y + V := IntWalk.i64_in _ (by omega)
      have hs1 : (s : Int) < v.length := by omega
      have ht1 : (t : Int) < v.length := by omega
      have kA1 : (k : Int) < A.length := by omega
      have kY1 : (k : Int) < y.length := by omega
      clear es et hAk hYk hrl a1 a2 y1 y2 hi b1 b2 e1 e2 eX eY eU eV
      go_wp2_with fail
      go_quiet (fail)
      go_wp2_with fail
      go_quiet (fail)
      go_wp2_with fail
      go_roundw
      case rel => exact ⟨k + 1, by omega, by go_num, by rw [HSa.out], by rw [HSb.out], _, rfl⟩
      case measure => simp [intOf]; omega
    · have hk1 : ¬ (k : Int) < v.length := by omega
      obtain rfl : k = v.length := by omega
      have hmin : Hid (sumTo (fun i => bid v i (itm A i)) v.length < sumTo (fun i => bid v i (itm y i)) v.length ∨ (sumTo (fun i => bid v i (itm A i)) v.length = sumTo (fun i => bid v i (itm y i)) v.length ∧ (y = A ∨ llt A y))) := by
        have h := HIs.out.2
        rcases h with ⟨rfl, h⟩ | ⟨_, h⟩
        · have := HAl.out; simp at this; omega
        · have h2 := h y HY.out
          simp only [worthI, HAl.out, HYl.out] at h2
          rcases h2 with h3 | ⟨h3, h4⟩
          · exact .inl (by omega)
          · exact .inr ⟨by omega, h4⟩
      obtain ⟨X, eX⟩ : ∃ X, sumTo (fun i => bid v i (itm A i)) v.length = X := ⟨_, rfl⟩
      obtain ⟨Y, eY⟩ : ∃ Y, sumTo (fun i => bid v i (itm y i)) v.length = Y := ⟨_, rfl⟩
      rw [eX, eY] at hmin ⊢
      clear eX eY
      by_cases hXY : X = Y
      · have hq : (X != Y) = false := by simpa using hXY
        have hll : Hid (∀ i, i < v.length → (∀ j, j < i → iget A j = iget y j) → iget A i ≠ iget y i → iget A i < iget y i) := fun i hi hj hne => by
          rcases hmin.out with h | ⟨_, h | ⟨m, h1, h2, h3⟩⟩
          · omega
          · exact absurd (by rw [h]) hne
          · rcases Nat.lt_trichotomy m i with h4 | h4 | h4
            · have := hj m h4; omega
            · subst h4; exact h3
            · exact absurd (h2 i h4) hne
        clear hmin hXY
        go_wp2_with fail
        go_loopw [11] (fun i wk => ∃ k : Nat, k ≤ A.length ∧ i = .int .i64 k ∧ Hid (∀ j, j < k → iget A j = iget y j) ∧ ∃ n, wk = w2.drewN n) (fun i _ => A.length - (intOf i).toNat)
        case atStart => exact ⟨0, by omega, rfl, (fun j h => absurd h (Nat.not_lt_zero j)), n0, rfl⟩
        case round =>
          obtain ⟨k, hk, rfl, hE, n1, rfl⟩ := hrel
          by_cases hlt : k < A.length
          · have hk1 : (k : Int) < A.length := by omega
            have kY : k < y.length := by rw [HYl.out, ← HAl.out]; exact hlt
            have kY1 : (k : Int) < y.length := by omega
            have hk12 : k ≤ 11 := by have := HAl.out; omega
            obtain ⟨bA, oA, rfl, _, cA⟩ := hI.get hlt
            obtain ⟨bY, oY, rfl, _, cY⟩ := hy2.get kY
            by_cases he : iget A k = iget y k
            · have hq2 : (iget A k != iget y k) = false := by simpa using he
              have hE2 : Hid (∀ j, j < k + 1 → iget A j = iget y j) := snoc_all' hE.out he
              clear he
              go_wp2_with fail
              go_quiet (fail)
              go_wp2_with fail
              go_roundw
              case rel => exact ⟨k + 1, by omega, by go_num, hE2, _, rfl⟩
              case measure => simp [intOf]; omega
            · have hq2 : (iget A k != iget y k) = true := by rw [bne_iff_ne]; exact he
              have hlt2 : decide (iget A k < iget y k) = true := by rw [decide_eq_true_iff]; exact hll.out k (by rw [← HAl.out]; exact hlt) hE.out he
              clear he
              go_wp2_with fail
              go_quiet (fail)
              go_wp2_with fail
              go_quiet (fail)
              go_wp2_with fail
              go_ret
              first | exact ⟨rfl, hB.drewN' _⟩ | exact ⟨rfl, (hB.drewN' _).drewN' _⟩ | exact ⟨rfl, ((hB.drewN' _).drewN' _).drewN' _⟩
          · have hk1 : ¬ (k : Int) < A.length := by omega
            go_wp2_with fail
            go_ret
            exact ⟨rfl, hB.drewN' _⟩
      · have hq : (X != Y) = true := by rw [bne_iff_ne]; exact hXY
        have hlt2 : decide (X < Y) = true := by
          rw [decide_eq_true_iff]
          rcases hmin.out with h | ⟨h, _⟩
          · exact h
          · exact absurd h hXY
        clear hmin hXY
        go_wp2_with fail
        go_ret
        exact ⟨rfl, hB.drewN' _⟩
end Go.Proofs.Ytcgaojnfgkfnkaa

/- RotaCheapest: for every input the law returns true, and each argument reads as it read before; no condition. -/
namespace Go.Proofs.Ytcgaojnfgkfnkaa.RotaCheapestTop
open Go.ChangeShapes Go.WideShapes Go.ChangeAt Go.RowKit Go.Deep
set_option linter.unusedVariables false

set_option maxRecDepth 100000 in
theorem lifted (os : Os) (started : os.Started) (H : Type) (enc : TypeId × Value → H) :
    ReturnsInHanded {} Try.checked os 3 .any (Rows.rotaCheapestSpec.pre6 enc Try.prog Try.f3 Rows.rotaCheapestRow.domain false) (Rows.rotaCheapestSpec.post enc Try.prog Try.f3 false true false false) := by
  refine returnsInHanded_of_change (C := Try.checked) own started (by kernel_rfl) Try.func3
    (ChangeSpec.witness6 (enc := enc) (C := Try.checked) false ⟨#[], #[.slice none 0 0, .slice none 0 0], []⟩ 8 (by kernel_rfl) (by kernel_rfl) (by kernel_rfl) (by kernel_rfl)) ?_
  intro W base args ds gs before hval0 hW hcnd _
  have hval : ∀ (j : Nat) t v, Try.f3.params[j]? = some t → args[j]? = some v → Value.okWide Try.prog W .any base t v := hval0
  have hW' := hW
  obtain ⟨p, q, hA0, hV, rfl, hfz, hnd⟩ := hW
  have hA : DataW.TrodAll enc Try.prog W 0 (fun _ => true) true Try.f3.params.toList args.toList ds p := hA0
  rw [Try.params3] at hA hval
  obtain ⟨v0, vs0, d0, ds0, p0, q0, hargs, rfl, rfl, h0, r0⟩ := trodAll_cons hA
  obtain ⟨v1, vs1, d1, ds1, p1, q1, rfl, rfl, rfl, h1, r1⟩ := trodAll_cons r0
  obtain ⟨rfl, rfl, rfl⟩ := trodAll_nil r1
  obtain rfl : args = #[v0, v1] := by cases args; simp_all
  obtain ⟨rfl, rfl⟩ := trodVars_none hV
  have k0 := h0
  have lt0 : ∀ x ∈ p0, x.block < W.heap.size := by obtain ⟨m, hm⟩ := k0; exact DataW.trod_lt m _ _ _ hm
  obtain ⟨a0, c0, x0, rfl, w0⟩ := open_matV (hval 0 22 v0 rfl rfl) h0
  have k1 := h1
  have lt1 : ∀ x ∈ p1, x.block < W.heap.size := by obtain ⟨m, hm⟩ := k1; exact DataW.trod_lt m _ _ _ hm
  obtain ⟨a1, c1, x1, rfl, w1⟩ := open_intsV (hval 1 23 v1 rfl rfl) h1
  clear hA0 hval0
  refine (rotaCheapest_walk a0 c0 x0 a1 c1 x1 W w0 w1).mono fun e W' ⟨he, bel⟩ => ?_
  subst he
  exact ⟨_, rfl, _, _, _, [], _, [], hW', trodAll_mk1 (shut_bool Try.underlying4 _), (trodAll_cons_mk (Below.trod laidOut (by kernel_rfl) (of_decide_eq_true (by kernel_rfl)) k0 bel lt0) (trodAll_cons_mk (Below.trod laidOut (by kernel_rfl) (of_decide_eq_true (by kernel_rfl)) k1 bel lt1) trodAll_mk0)), rfl, bel.frame _, fun h => by cases h⟩

theorem over : Rows.rotaCheapestRow.holds Try.pinned (OpenSpec.ofChange Rows.rotaCheapestSpec) :=
  OpenClaim.holds_of_wide 3 Try.f3 rfl rfl rfl rfl rfl rfl rfl ⟨rfl, rfl, rfl, rfl, rfl⟩ rfl rfl rfl rfl rfl (by kernel_rfl) Try.func3 (by kernel_rfl)
    (of_decide_eq_true (by kernel_rfl)) (by unfold Func.isWrapper; first | (rw [if_pos (by decide +kernel)]; kernel_rfl) | (rw [if_neg (by decide +kernel)]; exact ⟨rfl, rfl⟩))
    (fun os started H enc _ => lifted os started H enc)
end Go.Proofs.Ytcgaojnfgkfnkaa.RotaCheapestTop
namespace Go.Proofs.Ytcgaojnfgkfnkaa
/-- The statement. -/
theorem rotaCheapest_holds : Rows.RotaCheapestSaid := RotaCheapestTop.over
#print axioms rotaCheapest_holds
end Go.Proofs.Ytcgaojnfgkfnkaa
