/- The walks of keepsake.Check and of the reference's Check, for every markers; no condition. -/
import Derived.Test.YtknincjfcicjfaaKeepP
import Derived.Test.YtknincjfcicjfaaOwn
namespace Go.Proofs.Ytknincjfcicjfaa
set_option linter.unusedVariables false
set_option linter.unusedSimpArgs false
open Go.ChangeShapes Go.WideShapes Go.ChangeAt Go.RowKit Go.Deep

/-- What the program's loop holds as the last marker. -/
def lastM (l : List Int) (k : Nat) : Int := if k = 0 then 0 else iget l (k - 1)
theorem lastM_zero (l : List Int) : lastM l 0 = 0 := rfl
theorem lastM_succ (l : List Int) (k : Nat) : lastM l (k + 1) = iget l k := rfl
theorem mkAt_iff {m : Int} {l : List Int} {k : Nat} (h : ∀ j, j < k → MkAt m l j) (hl : k < l.length) : MkAt m l k ↔ lastM l k < iget l k ∧ iget l k ≤ m - 1 := by
  unfold MkAt lastM
  by_cases h0 : k = 0
  · subst h0
    simp
    omega
  · rw [if_neg h0]
    have := (h (k - 1) (by omega)).1
    constructor
    · rintro ⟨h1, h2, h3⟩; exact ⟨h3 (by omega), h2⟩
    · rintro ⟨h1, h2⟩; exact ⟨by omega, h2, fun _ => h1⟩

set_option maxHeartbeats 2000000 in
set_option maxRecDepth 100000 in
theorem keepCheck_any (m : Int) (p : Option Addr) (c : Nat) (v : List (List Int)) (w : World) (hm64 : in64 m) (hx : Mat w p c v) :
    Calls Try.prog 14 #[.int .i64 m, .slice p v.length c] w fun e w' => e = .returned (.int .i64 (chkM m v)) ∧ w' = w := by
  have hl1 := hx.length_le
  obtain ⟨hm1, hm2⟩ := hm64
  by_cases h1 : m < 1
  · have hd : decide (m < 1) = true := by simpa using h1
    have H := Lib.hid (chkM_arg (v := v) (.inl h1))
    clear h1
    go_enter Try.func14, Try.ntmps14
    go_wp2_with fail
    go_ret
    exact ⟨ret_int H.out.symm, rfl⟩
  have hd : decide (m < 1) = false := by simpa using h1
  by_cases h2 : 30 < m
  · have hd2 : decide (30 < m) = true := by simpa using h2
    have H := Lib.hid (chkM_arg (v := v) (.inr h2))
    clear h1 h2
    go_enter Try.func14, Try.ntmps14
    go_wp2_with fail
    go_ret
    exact ⟨ret_int H.out.symm, rfl⟩
  have hd2 : decide (30 < m) = false := by simpa using h2
  have hA : ¬ (m < 1 ∨ 30 < m) := by omega
  by_cases h3 : 6 < v.length
  · have hd3 : decide (6 < (v.length : Int)) = true := by simp; omega
    have H := Lib.hid (chkM_many (v := v) hA h3)
    clear h1 h2 h3 hA
    go_enter Try.func14, Try.ntmps14
    go_wp2_with fail
    go_ret
    exact ⟨ret_int H.out.symm, rfl⟩
  have hd3 : decide (6 < (v.length : Int)) = false := by simp; omega
  by_cases h4 : v.length = 0
  · have hd4 : ((v.length : Int) == 0) = true := by simp [h4]
    have H := Lib.hid (chkM_bad (v := v) hA h3 (fun h => by have := h.2.2.1; omega))
    clear h1 h2 h3 h4 hA
    go_enter Try.func14, Try.ntmps14
    go_wp2_with fail
    go_ret
    exact ⟨ret_int H.out.symm, rfl⟩
  have hd4 : ((v.length : Int) == 0) = false := by rw [beq_eq_false_iff_ne]; omega
  have Hrow := Lib.hid (fun i (hi : i < v.length) => chkM_row (m := m) hA h3 hi)
  have Hok : Hid ((∀ i, i < v.length → MkRow m v.length (rget v i)) → chkM m v = 0) := fun h => chkM_zero.2 ⟨by omega, by omega, by omega, by omega, h⟩
  have g1 : 1 ≤ m := by omega
  have g2 : m ≤ 30 := by omega
  have g3 : v.length ≤ 6 := by omega
  have g4 : 0 < v.length := by omega
  clear h1 h2 h3 h4 hA hm1 hm2
  go_enter Try.func14, Try.ntmps14
  go_wp2_with fail
  go_loop [24] (fun t => ∃ k : Nat, k ≤ v.length ∧ t = .int .i64 k ∧ Hid (∀ i, i < k → MkRow m v.length (rget v i))) (fun t => v.length - (intOf t).toNat)
  case atStart => exact ⟨0, Nat.zero_le _, rfl, fun j hj => absurd hj (Nat.not_lt_zero j)⟩
  case round =>
    obtain ⟨k, hk, rfl, ht⟩ := hrel
    by_cases hlt : k < v.length
    · obtain ⟨b, o, rfl, _, q, d, hc, hi⟩ := hx.get hlt
      have hk1 : (k : Int) < v.length := by omega
      have HRow := Lib.hid (Hrow.out k hlt)
      have HMk : Hid (MkRow m v.length (rget v k) ↔ (rget v k).length + 1 = v.length ∧ ∀ j, j < (rget v k).length → MkAt m (rget v k) j) := Iff.rfl
      obtain ⟨l, hl⟩ : ∃ l, rget v k = l := ⟨_, rfl⟩
      have Hl := Lib.hid hl
      rw [hl] at hc hi HRow HMk
      clear hl
      have hll := hi.length_le
      go_wp2_with fail
      go_loop [7, 30] (fun s t => ∃ j : Nat, j ≤ l.length ∧ t = .int .i64 j ∧ s = .int .i64 (lastM l j) ∧ Hid (∀ i, i < j → MkAt m l i)) (fun _ t => l.length - (intOf t).toNat)
      case atStart => exact ⟨0, Nat.zero_le _, rfl, rfl, fun j hj => absurd hj (Nat.not_lt_zero j)⟩
      case round =>
        obtain ⟨j, hj, rfl, rfl, ht2⟩ := hrel
        by_cases hlt2 : j < l.length
        · have hj1 : (j : Int) < l.length := by omega
          obtain ⟨b2, o2, rfl, _, hc2⟩ := hi.get hlt2
          have HI := Lib.hid (mkAt_iff ht2.out hlt2)
          have HS := Lib.hid (lastM_succ l j)
          obtain ⟨x, ex⟩ : ∃ x, iget l j = x := ⟨_, rfl⟩
          obtain ⟨y, ey⟩ : ∃ y, lastM l j = y := ⟨_, rfl⟩
          rw [ex] at hc2 HI HS
          rw [ey] at HI
          rw [ey]
          clear ex ey
          by_cases c1 : x ≤ y
          · have e1 : decide (x ≤ y) = true := by simpa using c1
            have HF : Hid (chkM m v = 8) := HRow.out (fun h => by have := HI.out.1 ((HMk.out.1 h).2 j hlt2); omega)
            clear c1
            go_wp2_with fail
            go_ret
            exact ⟨ret_int HF.out.symm, rfl⟩
          have e1 : decide (x ≤ y) = false := by simpa using c1
          by_cases c2 : m - 1 < x
          · have e2 : decide (m - 1 < x) = true := by simpa using c2
            have HF : Hid (chkM m v = 8) := HRow.out (fun h => by have := HI.out.1 ((HMk.out.1 h).2 j hlt2); omega)
            clear c1 c2
            go_wp2_with fail
            go_ret
            exact ⟨ret_int HF.out.symm, rfl⟩
          have e2 : decide (m - 1 < x) = false := by simpa using c2
          have HA : Hid (MkAt m l j) := HI.out.2 ⟨by omega, by omega⟩
          clear c1 c2
          go_wp2_with fail
          go_round
          case rel => exact ⟨j + 1, by omega, by go_num, by rw [HS.out], snoc_all' ht2.out HA.out⟩
          case measure => (simp [intOf] <;> omega)
        · have hj1 : ¬ (j : Int) < l.length := by omega
          have HAll : Hid (∀ i, i < l.length → MkAt m l i) := fun i hi => ht2.out i (by omega)
          by_cases hn : l.length + 1 = v.length
          · have hne : ((l.length : Int) != (v.length : Int) - 1) = false := by simp; omega
            have HR : Hid (MkRow m v.length (rget v k)) := by unfold Hid; rw [Hl.out]; exact HMk.out.2 ⟨hn, HAll.out⟩
            clear hn
            go_wp2_with fail
            go_round
            case rel => exact ⟨k + 1, by omega, by go_num, snoc_all' ht.out HR.out⟩
            case measure => (simp [intOf] <;> omega)
          · have hne : ((l.length : Int) != (v.length : Int) - 1) = true := by simp; omega
            have HF : Hid (chkM m v = 8) := HRow.out (fun h => hn (HMk.out.1 h).1)
            clear hn
            go_wp2_with fail
            go_ret
            exact ⟨ret_int HF.out.symm, rfl⟩
    · have hk1 : ¬ (k : Int) < v.length := by omega
      have H := Lib.hid (Hok.out (fun i hi => ht.out i (by omega)))
      go_wp2_with fail
      go_ret
      exact ⟨ret_int H.out.symm, rfl⟩

set_option maxHeartbeats 2000000 in
set_option maxRecDepth 100000 in
theorem ref29Check_any (m : Int) (p : Option Addr) (c : Nat) (v : List (List Int)) (w : World) (hm64 : in64 m) (hx : Mat w p c v) :
    Calls Try.prog 15 #[.int .i64 m, .slice p v.length c] w fun e w' => e = .returned (.int .i64 (chkM m v)) ∧ ∃ n, w' = w.drewN n := by
  have hl1 := hx.length_le
  obtain ⟨hm1, hm2⟩ := hm64
  by_cases h1 : m < 1
  · have hd : decide (m < 1) = true := by simpa using h1
    have H := Lib.hid (chkM_arg (v := v) (.inl h1))
    clear h1
    go_enter Try.func15, Try.ntmps15
    go_wp2_with fail
    go_ret
    exact ⟨ret_int H.out.symm, drew_refl _⟩
  have hd : decide (m < 1) = false := by simpa using h1
  by_cases h2 : 30 < m
  · have hd2 : decide (30 < m) = true := by simpa using h2
    have H := Lib.hid (chkM_arg (v := v) (.inr h2))
    clear h1 h2
    go_enter Try.func15, Try.ntmps15
    go_wp2_with fail
    go_ret
    exact ⟨ret_int H.out.symm, drew_refl _⟩
  have hd2 : decide (30 < m) = false := by simpa using h2
  have hA : ¬ (m < 1 ∨ 30 < m) := by omega
  by_cases h3 : 6 < v.length
  · have hd3 : decide (6 < (v.length : Int)) = true := by simp; omega
    have H := Lib.hid (chkM_many (v := v) hA h3)
    clear h1 h2 h3 hA
    go_enter Try.func15, Try.ntmps15
    go_wp2_with fail
    go_ret
    exact ⟨ret_int H.out.symm, drew_refl _⟩
  have hd3 : decide (6 < (v.length : Int)) = false := by simp; omega
  by_cases h4 : v.length = 0
  · have hd4 : ((v.length : Int) == 0) = true := by simp [h4]
    have H := Lib.hid (chkM_bad (v := v) hA h3 (fun h => by have := h.2.2.1; omega))
    clear h1 h2 h3 h4 hA
    go_enter Try.func15, Try.ntmps15
    go_wp2_with fail
    go_ret
    exact ⟨ret_int H.out.symm, drew_refl _⟩
  have hd4 : ((v.length : Int) == 0) = false := by rw [beq_eq_false_iff_ne]; omega
  have Hrow := Lib.hid (fun i (hi : i < v.length) => chkM_row (m := m) hA h3 hi)
  have Hok : Hid ((∀ i, i < v.length → MkRow m v.length (rget v i)) → chkM m v = 0) := fun h => chkM_zero.2 ⟨by omega, by omega, by omega, by omega, h⟩
  have g1 : 1 ≤ m := by omega
  have g2 : m ≤ 30 := by omega
  have g3 : v.length ≤ 6 := by omega
  have g4 : 0 < v.length := by omega
  clear h1 h2 h3 h4 hA hm1 hm2
  go_enter Try.func15, Try.ntmps15
  go_wp2_with fail
  go_loopw [5] (fun t wr => ∃ k : Nat, k ≤ v.length ∧ t = .int .i64 k ∧ Hid (∀ i, i < k → MkRow m v.length (rget v i)) ∧ ∃ n, wr = w.drewN n) (fun t _ => v.length - (intOf t).toNat)
  case atStart => exact ⟨0, Nat.zero_le _, rfl, (fun j hj => absurd hj (Nat.not_lt_zero j)), drew_refl _⟩
  case round =>
    obtain ⟨k, hk, rfl, ht, hw⟩ := hrel
    obtain ⟨wo, rfl⟩ : ∃ wo : World, wo = wr := ⟨_, rfl⟩
    have Hw := Lib.hid hw
    clear hw
    by_cases hlt : k < v.length
    · obtain ⟨b, o, rfl, _, q, d, hc, hi⟩ := (hx.drew Hw.out).get hlt
      have hk1 : (k : Int) < v.length := by omega
      have HRow := Lib.hid (Hrow.out k hlt)
      have HMk : Hid (MkRow m v.length (rget v k) ↔ (rget v k).length + 1 = v.length ∧ ∀ j, j < (rget v k).length → MkAt m (rget v k) j) := Iff.rfl
      obtain ⟨l, hl⟩ : ∃ l, rget v k = l := ⟨_, rfl⟩
      have Hl := Lib.hid hl
      rw [hl] at hc hi HRow HMk
      clear hl
      have hll := hi.length_le
      by_cases hn : l.length + 1 = v.length
      · have hne : ((l.length : Int) != (v.length : Int) - 1) = false := by simp; omega
        have Hn := Lib.hid hn
        clear hn
        go_wp2_with fail
        go_loopw [6] (fun t wr => ∃ j : Nat, j ≤ l.length ∧ t = .int .i64 j ∧ Hid (∀ i, i < j → MkAt m l i) ∧ ∃ n, wr = wo.drewN n) (fun t _ => l.length - (intOf t).toNat)
        case atStart => exact ⟨0, Nat.zero_le _, rfl, (fun j hj => absurd hj (Nat.not_lt_zero j)), drew_refl _⟩
        case round =>
          obtain ⟨j, hj, rfl, ht2, n2, rfl⟩ := hrel
          by_cases hlt2 : j < l.length
          · have hj1 : (j : Int) < l.length := by omega
            obtain ⟨b2, o2, rfl, _, hc2⟩ := hi.get hlt2
            have HI : Hid (MkAt m l j ↔ 1 ≤ iget l j ∧ iget l j ≤ m - 1 ∧ (0 < j → iget l (j - 1) < iget l j)) := Iff.rfl
            obtain ⟨x, ex⟩ : ∃ x, iget l j = x := ⟨_, rfl⟩
            rw [ex] at hc2 HI
            by_cases c1 : x < 1
            · have e1 : decide (x < 1) = true := by simpa using c1
              have HF : Hid (chkM m v = 8) := HRow.out (fun h => by have := HI.out.1 ((HMk.out.1 h).2 j hlt2); omega)
              clear c1 ex
              go_wp2_with fail
              go_quiet (fail)
              go_wp2_with fail
              go_ret
              exact ⟨ret_int HF.out.symm, drew_trans Hw.out (drew_drewN _ ⟨_, rfl⟩)⟩
            have e1 : decide (x < 1) = false := by simpa using c1
            by_cases c2 : m - 1 < x
            · have e2 : decide (m - 1 < x) = true := by simpa using c2
              have HF : Hid (chkM m v = 8) := HRow.out (fun h => by have := HI.out.1 ((HMk.out.1 h).2 j hlt2); omega)
              clear c1 c2 ex
              go_wp2_with fail
              go_quiet (fail)
              go_wp2_with fail
              go_ret
              exact ⟨ret_int HF.out.symm, drew_trans Hw.out (drew_drewN _ ⟨_, rfl⟩)⟩
            have e2 : decide (m - 1 < x) = false := by simpa using c2
            by_cases c3 : j = 0
            · subst c3
              have HA : Hid (MkAt m l 0) := HI.out.2 ⟨by omega, by omega, fun h => absurd h (by omega)⟩
              rw [Nat.add_zero] at hc2
              clear c1 c2 ex
              go_wp2_with fail
              go_quiet (fail)
              go_wp2_with fail
              go_roundw
              case rel => exact ⟨1, by omega, by go_num, snoc_all' ht2.out HA.out, ⟨_, rfl⟩⟩
              case measure => (simp [intOf] <;> omega)
            · obtain ⟨i, rfl⟩ : ∃ i, j = i + 1 := ⟨j - 1, by omega⟩
              have e3 : decide (0 < ((i + 1 : Nat) : Int)) = true := by rw [decide_eq_true_iff]; omega
              have hc3 := hi.at (j := i) (by omega)
              rw [Nat.add_sub_cancel] at HI
              obtain ⟨y, ey⟩ : ∃ y, iget l i = y := ⟨_, rfl⟩
              rw [ey] at hc3 HI
              clear ex ey
              by_cases c4 : x ≤ y
              · have e4 : decide (x ≤ y) = true := by simpa using c4
                have HF : Hid (chkM m v = 8) := HRow.out (fun h => by have := (HI.out.1 ((HMk.out.1 h).2 (i + 1) hlt2)).2.2 (by omega); omega)
                clear c1 c2 c4
                go_wp2_with fail
                go_quiet (fail)
                go_wp2_with fail
                go_ret
                exact ⟨ret_int HF.out.symm, drew_trans Hw.out (drew_drewN _ ⟨_, rfl⟩)⟩
              · have e4 : decide (x ≤ y) = false := by simpa using c4
                have HA : Hid (MkAt m l (i + 1)) := HI.out.2 ⟨by omega, by omega, fun _ => by omega⟩
                clear c1 c2 c4
                go_wp2_with fail
                go_quiet (fail)
                go_wp2_with fail
                go_roundw
                case rel => exact ⟨i + 1 + 1, by omega, by go_num, snoc_all' ht2.out HA.out, ⟨_, rfl⟩⟩
                case measure => (simp [intOf] <;> omega)
          · have hj1 : ¬ (j : Int) < l.length := by omega
            have HR : Hid (MkRow m v.length (rget v k)) := by unfold Hid; rw [Hl.out]; exact HMk.out.2 ⟨Hn.out, fun i hi => ht2.out i (by omega)⟩
            go_wp2_with fail
            go_roundw
            case rel => exact ⟨k + 1, by omega, by go_num, snoc_all' ht.out HR.out, drew_trans Hw.out ⟨_, rfl⟩⟩
            case measure => (simp [intOf] <;> omega)
      · have hne : ((l.length : Int) != (v.length : Int) - 1) = true := by simp; omega
        have HF : Hid (chkM m v = 8) := HRow.out (fun h => hn (HMk.out.1 h).1)
        clear hn
        go_wp2_with fail
        go_ret
        exact ⟨ret_int HF.out.symm, Hw.out⟩
    · have hk1 : ¬ (k : Int) < v.length := by omega
      have H := Lib.hid (Hok.out (fun i hi => ht.out i (by omega)))
      go_wp2_with fail
      go_ret
      exact ⟨ret_int H.out.symm, Hw.out⟩
end Go.Proofs.Ytknincjfcicjfaa
