/- The walk of the reference's first, at rankings and an allocation.  (Printed by wip/gentrade.py.) -/
import Derived.Test.YtknincjfcicjfaaKeepV
import Derived.BigQuiet
namespace Go.Proofs.Ytknincjfcicjfaa
set_option linter.unusedVariables false
set_option linter.unusedSimpArgs false
open Go.ChangeShapes Go.WideShapes Go.ChangeAt Go.RowKit Go.Deep

/-- A call in a region that follows other draws: it draws nothing itself. -/
theorem callDrew {P : Program} {f : FuncId} {args : Array Value} {W : World} {d k : Nat} {r : Value}
    (c : Calls P f args (W.drewN (d + k)) fun e w' => e = .returned r ∧ w' = W.drewN (d + k)) :
    Calls P f args (W.drewN (d + k)) fun e w' => e = .returned r ∧ ∃ m, w' = W.drewN (d + m) := c.mono fun _ _ h => ⟨h.1, k, h.2⟩

set_option maxHeartbeats 8000000 in
set_option maxRecDepth 100000 in
theorem first29_any (pa : Option Addr) (ca : Nat) (a : List Int) (p : Option Addr) (c : Nat) (v : List (List Int)) (w : World) (ha : Ints w pa ca a) (hx : Mat w p c v) (hrl : Hid (∀ i, i < v.length → (rget v i).length ≤ 1000)) :
    Calls Try.prog 42 #[.slice pa a.length ca, .slice p v.length c] w (GivesX w (exT a v)) := by
  have hla := ha.length_le
  have hlv := hx.length_le
  have HB : Hid (Below w.heap.size w (w.alloc (.cells #[.int .i64 0, .int .i64 0, .int .i64 0, .int .i64 0] 37))) := (Below.refl _ _).alloc (Nat.le_refl _) _
  go_enter Try.func42, Try.ntmps42
  go_wp2_with fail
  go_loopw [6] (fun t wr => ∃ i : Nat, i ≤ v.length ∧ t = .int .i64 i ∧ Hid (∀ i', i' < i → ex1 a v i' = none) ∧ ∃ N, wr = (w.alloc (.cells #[.int .i64 0, .int .i64 0, .int .i64 0, .int .i64 0] 37)).drewN N) (fun t _ => v.length - (intOf t).toNat)
  case atStart => exact ⟨0, Nat.zero_le _, rfl, (fun j hj => absurd hj (Nat.not_lt_zero j)), drew_refl _⟩
  case round =>
    obtain ⟨i, hi, rfl, h1, n1, rfl⟩ := hrel
    by_cases hlt1 : i < v.length
    · have hi1 : (i : Int) < v.length := by omega
      go_wp2_with fail
      go_loopw [7] (fun t wr => ∃ j : Nat, i + 1 ≤ j ∧ j ≤ v.length ∧ t = .int .i64 j ∧ Hid (∀ j', j' < j → ex2 a v i j' = none) ∧ ∃ N, wr = (w.alloc (.cells #[.int .i64 0, .int .i64 0, .int .i64 0, .int .i64 0] 37)).drewN N) (fun t _ => v.length - (intOf t).toNat)
      case atStart => exact ⟨i + 1, Nat.le_refl _, by omega, by go_num, (fun j hj => ex2_ge (by omega)), ⟨_, rfl⟩⟩
      case round =>
        obtain ⟨j, hij, hj, rfl, h2, n2, rfl⟩ := hrel
        by_cases hlt2 : j < v.length
        · have hj1 : (j : Int) < v.length := by omega
          go_wp2_with fail
          go_loopw [8] (fun t wr => ∃ x : Nat, x ≤ a.length ∧ t = .int .i64 x ∧ Hid (∀ x', x' < x → ex3 a v i j x' = none) ∧ ∃ N, wr = (w.alloc (.cells #[.int .i64 0, .int .i64 0, .int .i64 0, .int .i64 0] 37)).drewN N) (fun t _ => a.length - (intOf t).toNat)
          case atStart => exact ⟨0, Nat.zero_le _, rfl, (fun j hj => absurd hj (Nat.not_lt_zero j)), ⟨_, rfl⟩⟩
          case round =>
            obtain ⟨x, hx', rfl, h3, n3, rfl⟩ := hrel
            by_cases hlt3 : x < a.length
            · have hx1 : (x : Int) < a.length := by omega
              obtain ⟨ba, oa, rfl, hbl, hcx0⟩ := ha.get hlt3
              have hcx := (HB.out.cell (p := ⟨ba, oa + x, none⟩) hbl).trans hcx0
              have HE : Hid (∀ y, ExP a v i j x y ↔ iget a x = i ∧ iget a y = j ∧ placeI (rget v i) (y : Int) < placeI (rget v i) (x : Int) ∧ placeI (rget v j) (x : Int) < placeI (rget v j) (y : Int)) := fun y => exP_iff
              obtain ⟨z, hz⟩ : ∃ z, iget a x = z := ⟨_, rfl⟩
              rw [hz] at hcx HE
              clear hz hcx0
              go_wp2_with fail
              go_loopw [9] (fun t wr => ∃ y : Nat, y ≤ a.length ∧ t = .int .i64 y ∧ Hid (∀ y', y' < y → ex4 a v i j x y' = none) ∧ ∃ N, wr = (w.alloc (.cells #[.int .i64 0, .int .i64 0, .int .i64 0, .int .i64 0] 37)).drewN N) (fun t _ => a.length - (intOf t).toNat)
              case atStart => exact ⟨0, Nat.zero_le _, rfl, (fun j hj => absurd hj (Nat.not_lt_zero j)), ⟨_, rfl⟩⟩
              case round =>
                obtain ⟨y, hy', rfl, h4, n4, rfl⟩ := hrel
                by_cases hlt4 : y < a.length
                · have hy1 : (y : Int) < a.length := by omega
                  have hcy := (HB.out.cell (p := ⟨ba, oa + y, none⟩) hbl).trans (ha.at hlt4)
                  have HE2 := Lib.hid (HE.out y)
                  obtain ⟨z2, hz2⟩ : ∃ z, iget a y = z := ⟨_, rfl⟩
                  rw [hz2] at hcy HE2
                  clear hz2
                  by_cases c1 : ¬ z = i
                  · have e1 : (z == (i : Int)) = false := by rw [beq_eq_false_iff_ne]; exact c1
                    have H4 : Hid (ex4 a v i j x y = none) := ex4_no (fun h => c1 (HE2.out.1 h).1)
                    clear c1
                    go_wp2_with fail
                    go_quiet (fail)
                    go_wp2_with fail
                    go_roundw
                    case rel => exact ⟨y + 1, by omega, by go_num, snoc_all' h4.out H4.out, ⟨_, rfl⟩⟩
                    case measure => (simp [intOf] <;> omega)
                  have c1 := Classical.not_not.1 c1
                  have e1 : (z == (i : Int)) = true := by rw [beq_iff_eq]; exact c1
                  by_cases c2 : ¬ z2 = j
                  · have e2 : (z2 == (j : Int)) = false := by rw [beq_eq_false_iff_ne]; exact c2
                    have H4 : Hid (ex4 a v i j x y = none) := ex4_no (fun h => c2 (HE2.out.1 h).2.1)
                    clear c1 c2
                    go_wp2_with fail
                    go_quiet (fail)
                    go_wp2_with fail
                    go_roundw
                    case rel => exact ⟨y + 1, by omega, by go_num, snoc_all' h4.out H4.out, ⟨_, rfl⟩⟩
                    case measure => (simp [intOf] <;> omega)
                  have c2 := Classical.not_not.1 c2
                  have e2 : (z2 == (j : Int)) = true := by rw [beq_iff_eq]; exact c2
                  have C1 := Lib.hid c1
                  have C2 := Lib.hid c2
                  clear c1 c2
                  obtain ⟨bv, ov, rfl, hbv, qi, di, hci0, hIi0⟩ := hx.get hlt1
                  obtain ⟨qj, dj, hcj0, hIj0⟩ := hx.at hlt2
                  have hci := (HB.out.cell (p := ⟨bv, ov + i, none⟩) hbv).trans hci0
                  have hcj := (HB.out.cell (p := ⟨bv, ov + j, none⟩) hbv).trans hcj0
                  have hIi := Lib.hid (fun N => (hIi0.below HB.out (Nat.le_refl _)).drewN N)
                  have hIj := Lib.hid (fun N => (hIj0.below HB.out (Nat.le_refl _)).drewN N)
                  clear hci0 hcj0 hIi0 hIj0
                  by_cases c3 : ¬ placeI (rget v i) (y : Int) < placeI (rget v i) (x : Int)
                  · have e3 : decide (placeI (rget v i) (y : Int) < placeI (rget v i) (x : Int)) = false := by rw [decide_eq_false_iff_not]; exact c3
                    have H4 : Hid (ex4 a v i j x y = none) := ex4_no (fun h => c3 (HE2.out.1 h).2.2.1)
                    clear c3
                    go_wp2_with fail
                    go_quiet ((go_at_call 28; exact callDrew (place29_any _ _ _ _ _ (by first | exact hIi.out _ | exact hIj.out _))))
                    go_wp2_with fail
                    go_roundw
                    case rel => exact ⟨y + 1, by omega, by go_num, snoc_all' h4.out H4.out, ⟨_, rfl⟩⟩
                    case measure => (simp [intOf] <;> omega)
                  have c3 := Classical.not_not.1 c3
                  have e3 : decide (placeI (rget v i) (y : Int) < placeI (rget v i) (x : Int)) = true := by rw [decide_eq_true_iff]; exact c3
                  by_cases c4 : ¬ placeI (rget v j) (x : Int) < placeI (rget v j) (y : Int)
                  · have e4 : decide (placeI (rget v j) (x : Int) < placeI (rget v j) (y : Int)) = false := by rw [decide_eq_false_iff_not]; exact c4
                    have H4 : Hid (ex4 a v i j x y = none) := ex4_no (fun h => c4 (HE2.out.1 h).2.2.2)
                    clear c3 c4
                    go_wp2_with fail
                    go_quiet ((go_at_call 28; exact callDrew (place29_any _ _ _ _ _ (by first | exact hIi.out _ | exact hIj.out _))))
                    go_wp2_with fail
                    go_roundw
                    case rel => exact ⟨y + 1, by omega, by go_num, snoc_all' h4.out H4.out, ⟨_, rfl⟩⟩
                    case measure => (simp [intOf] <;> omega)
                  have c4 := Classical.not_not.1 c4
                  have e4 : decide (placeI (rget v j) (x : Int) < placeI (rget v j) (y : Int)) = true := by rw [decide_eq_true_iff]; exact c4
                  have H : Hid (exT a v = some (i, j, x, y)) := exT_hit h1.out h2.out h3.out h4.out hlt1 (by omega) hlt2 hlt3 hlt4 (HE2.out.2 ⟨C1.out, C2.out, c3, c4⟩)
                  clear c3 c4
                  go_wp2_with fail
                  go_quiet ((go_at_call 28; exact callDrew (place29_any _ _ _ _ _ (by first | exact hIi.out _ | exact hIj.out _))))
                  go_wp2_with fail
                  refine bodyPost_ret (v := .tuple #[.agg #[.int .i64 (i : Int), .int .i64 (j : Int), .int .i64 (x : Int), .int .i64 (y : Int)], .bool true]) (by simp [results, Try.results42, go_sem]) rfl ?_
                  unfold GivesX
                  rw [H.out]
                  exact ⟨rfl, ((((HB.out.drewN' _).setCell (p := ⟨w.heap.size, 0, none⟩) (Nat.le_refl _) _).setCell (p := ⟨w.heap.size, 1, none⟩) (Nat.le_refl _) _).setCell (p := ⟨w.heap.size, 2, none⟩) (Nat.le_refl _) _).setCell (p := ⟨w.heap.size, 3, none⟩) (Nat.le_refl _) _⟩
                · have hy1 : ¬ (y : Int) < a.length := by omega
                  have H3 : Hid (ex3 a v i j x = none) := ex3_no (fun y' h => h4.out y' (by omega))
                  go_wp2_with fail
                  go_roundw
                  case rel => exact ⟨x + 1, by omega, by go_num, snoc_all' h3.out H3.out, ⟨_, rfl⟩⟩
                  case measure => (simp [intOf] <;> omega)
            · have hx1 : ¬ (x : Int) < a.length := by omega
              have H2 : Hid (ex2 a v i j = none) := ex2_no (fun x' h => h3.out x' (by omega))
              go_wp2_with fail
              go_roundw
              case rel => exact ⟨j + 1, by omega, by omega, by go_num, snoc_all' h2.out H2.out, ⟨_, rfl⟩⟩
              case measure => (simp [intOf] <;> omega)
        · have hj1 : ¬ (j : Int) < v.length := by omega
          have H1 : Hid (ex1 a v i = none) := ex1_no (fun j' h => h2.out j' (by omega))
          go_wp2_with fail
          go_roundw
          case rel => exact ⟨i + 1, by omega, by go_num, snoc_all' h1.out H1.out, ⟨_, rfl⟩⟩
          case measure => (simp [intOf] <;> omega)
    · have hi1 : ¬ (i : Int) < v.length := by omega
      have H : Hid (exT a v = none) := exT_no (fun i' h => h1.out i' (by omega))
      go_wp2_with fail
      refine bodyPost_ret (v := .tuple #[.agg #[.int .i64 0, .int .i64 0, .int .i64 0, .int .i64 0], .bool false]) (by simp [results, Try.results42, go_sem]) rfl ?_
      unfold GivesX
      rw [H.out]
      exact ⟨rfl, ((((HB.out.drewN' _).setCell (p := ⟨w.heap.size, 0, none⟩) (Nat.le_refl _) _).setCell (p := ⟨w.heap.size, 1, none⟩) (Nat.le_refl _) _).setCell (p := ⟨w.heap.size, 2, none⟩) (Nat.le_refl _) _).setCell (p := ⟨w.heap.size, 3, none⟩) (Nat.le_refl _) _⟩
end Go.Proofs.Ytknincjfcicjfaa
