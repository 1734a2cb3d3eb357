/- The walk of keepsake.trade, at rankings and an allocation.  (Printed by wip/gentrade.py.) -/
import Derived.Test.YtknincjfcicjfaaKeepV
import Derived.BigQuiet
namespace Go.Proofs.Ytknincjfcicjfaa
set_option linter.unusedVariables false
set_option linter.unusedSimpArgs false
open Go.ChangeShapes Go.WideShapes Go.ChangeAt Go.RowKit Go.Deep

/-- The table of places. -/
structure PlcOk (u v : List (List Int)) (m : Nat) : Prop where
  len : u.length = v.length
  row : ∀ i, i < v.length → (rget u i).length = m
  at' : ∀ i, i < v.length → ∀ y, y < m → iget (rget u i) y = placeI (rget v i) (y : Int)
theorem placeI_bd (l : List Int) (x : Int) (hl : l.length ≤ 1000) : in64 (placeI l x) := by
  unfold placeI firstN
  cases h : (List.range l.length).find? (fun k => decide (iget l k = x)) with
  | none => exact ⟨by decide, by decide⟩
  | some k =>
    have := List.mem_range.1 (List.mem_of_find?_eq_some h)
    exact ⟨by show (-9223372036854775808 : Int) ≤ (k : Int); omega, by show (k : Int) ≤ 9223372036854775807; omega⟩

set_option maxHeartbeats 8000000 in
set_option maxRecDepth 100000 in
theorem trade_any (pa : Option Addr) (ca : Nat) (a : List Int) (p : Option Addr) (c : Nat) (u v : List (List Int)) (w : World) (ha : Ints w pa ca a) (hx : Mat w p c u) (hu : Hid (PlcOk u v a.length)) (hrl : Hid (∀ i, i < v.length → (rget v i).length ≤ 1000)) :
    Calls Try.prog 40 #[.slice pa a.length ca, .slice p v.length c] w (GivesX w (exT a v)) := by
  have hla := ha.length_le
  have hlu := hx.length_le
  have hlv : v.length ≤ 9223372036854775807 := by rw [← hu.out.len]; exact hlu
  have hx : Mat w p c u := hx
  have HB : Hid (Below w.heap.size w (w.alloc (.cells #[.int .i64 0, .int .i64 0, .int .i64 0, .int .i64 0] 37))) := (Below.refl _ _).alloc (Nat.le_refl _) _
  go_enter Try.func40, Try.ntmps40
  go_wp2_with fail
  go_loopw [14] (fun t wr => ∃ i : Nat, i ≤ v.length ∧ t = .int .i64 i ∧ Hid (∀ i', i' < i → ex1 a v i' = none) ∧ ∃ N, wr = (w.alloc (.cells #[.int .i64 0, .int .i64 0, .int .i64 0, .int .i64 0] 37)).drewN N) (fun t _ => v.length - (intOf t).toNat)
  case atStart => exact ⟨0, Nat.zero_le _, rfl, (fun j hj => absurd hj (Nat.not_lt_zero j)), drew_refl _⟩
  case round =>
    obtain ⟨i, hi, rfl, h1, n1, rfl⟩ := hrel
    by_cases hlt1 : i < v.length
    · have hi1 : (i : Int) < v.length := by omega
      go_wp2_with fail
      go_loopw [7] (fun t wr => ∃ j : Nat, i + 1 ≤ j ∧ j ≤ v.length ∧ t = .int .i64 j ∧ Hid (∀ j', j' < j → ex2 a v i j' = none) ∧ ∃ N, wr = (w.alloc (.cells #[.int .i64 0, .int .i64 0, .int .i64 0, .int .i64 0] 37)).drewN N) (fun t _ => v.length - (intOf t).toNat)
      case atStart => exact ⟨i + 1, Nat.le_refl _, by omega, by go_num, (fun j hj => ex2_ge (by omega)), ⟨_, rfl⟩⟩
      case round =>
        obtain ⟨j, hij, hj, rfl, h2, n2, rfl⟩ := hrel
        by_cases hlt2 : j < v.length
        · have hj1 : (j : Int) < v.length := by omega
          go_wp2_with fail
          go_loopw [27] (fun t wr => ∃ x : Nat, x ≤ a.length ∧ t = .int .i64 x ∧ Hid (∀ x', x' < x → ex3 a v i j x' = none) ∧ ∃ N, wr = (w.alloc (.cells #[.int .i64 0, .int .i64 0, .int .i64 0, .int .i64 0] 37)).drewN N) (fun t _ => a.length - (intOf t).toNat)
          case atStart => exact ⟨0, Nat.zero_le _, rfl, (fun j hj => absurd hj (Nat.not_lt_zero j)), ⟨_, rfl⟩⟩
          case round =>
            obtain ⟨x, hx', rfl, h3, n3, rfl⟩ := hrel
            by_cases hlt3 : x < a.length
            · have hx1 : (x : Int) < a.length := by omega
              obtain ⟨ba, oa, rfl, hbl, hcx0⟩ := ha.get hlt3
              have hcx := (HB.out.cell (p := ⟨ba, oa + x, none⟩) hbl).trans hcx0
              have HE : Hid (∀ y, ExP a v i j x y ↔ iget a x = i ∧ iget a y = j ∧ placeI (rget v i) (y : Int) < placeI (rget v i) (x : Int) ∧ placeI (rget v j) (x : Int) < placeI (rget v j) (y : Int)) := fun y => exP_iff
              obtain ⟨z, hz⟩ : ∃ z, iget a x = z := ⟨_, rfl⟩
              rw [hz] at hcx HE
              clear hz hcx0
              go_wp2_with fail
              go_loopw [34] (fun t wr => ∃ y : Nat, y ≤ a.length ∧ t = .int .i64 y ∧ Hid (∀ y', y' < y → ex4 a v i j x y' = none) ∧ ∃ N, wr = (w.alloc (.cells #[.int .i64 0, .int .i64 0, .int .i64 0, .int .i64 0] 37)).drewN N) (fun t _ => a.length - (intOf t).toNat)
              case atStart => exact ⟨0, Nat.zero_le _, rfl, (fun j hj => absurd hj (Nat.not_lt_zero j)), ⟨_, rfl⟩⟩
              case round =>
                obtain ⟨y, hy', rfl, h4, n4, rfl⟩ := hrel
                by_cases hlt4 : y < a.length
                · have hy1 : (y : Int) < a.length := by omega
                  have hcy := (HB.out.cell (p := ⟨ba, oa + y, none⟩) hbl).trans (ha.at hlt4)
                  have HE2 := Lib.hid (HE.out y)
                  obtain ⟨z2, hz2⟩ : ∃ z, iget a y = z := ⟨_, rfl⟩
                  rw [hz2] at hcy HE2
                  clear hz2
                  by_cases c1 : ¬ z = i
                  · have e1 : (z == (i : Int)) = false := by rw [beq_eq_false_iff_ne]; exact c1
                    have H4 : Hid (ex4 a v i j x y = none) := ex4_no (fun h => c1 (HE2.out.1 h).1)
                    clear c1
                    go_wp2_with fail
                    go_quiet (fail)
                    go_wp2_with fail
                    go_roundw
                    case rel => exact ⟨y + 1, by omega, by go_num, snoc_all' h4.out H4.out, ⟨_, rfl⟩⟩
                    case measure => (simp [intOf] <;> omega)
                  have c1 := Classical.not_not.1 c1
                  have e1 : (z == (i : Int)) = true := by rw [beq_iff_eq]; exact c1
                  by_cases c2 : ¬ z2 = j
                  · have e2 : (z2 == (j : Int)) = false := by rw [beq_eq_false_iff_ne]; exact c2
                    have H4 : Hid (ex4 a v i j x y = none) := ex4_no (fun h => c2 (HE2.out.1 h).2.1)
                    clear c1 c2
                    go_wp2_with fail
                    go_quiet (fail)
                    go_wp2_with fail
                    go_roundw
                    case rel => exact ⟨y + 1, by omega, by go_num, snoc_all' h4.out H4.out, ⟨_, rfl⟩⟩
                    case measure => (simp [intOf] <;> omega)
                  have c2 := Classical.not_not.1 c2
                  have e2 : (z2 == (j : Int)) = true := by rw [beq_iff_eq]; exact c2
                  have C1 := Lib.hid c1
                  have C2 := Lib.hid c2
                  clear c1 c2
                  have hiu : i < u.length := by rw [hu.out.len]; exact hlt1
                  have hju : j < u.length := by rw [hu.out.len]; exact hlt2
                  obtain ⟨bv, ov, rfl, hbv, qi, di, hci0, hIi0⟩ := hx.get hiu
                  obtain ⟨qj, dj, hcj0, hIj0⟩ := hx.at hju
                  have hri := hu.out.row i hlt1
                  have hrj := hu.out.row j hlt2
                  obtain ⟨bi, oi, rfl, hbi, hiy0⟩ := hIi0.get (j := y) (by rw [hri]; exact hlt4)
                  have hix0 := hIi0.at (j := x) (by rw [hri]; exact hlt3)
                  obtain ⟨bj, oj, rfl, hbj, hjy0⟩ := hIj0.get (j := y) (by rw [hrj]; exact hlt4)
                  have hjx0 := hIj0.at (j := x) (by rw [hrj]; exact hlt3)
                  rw [hu.out.at' i hlt1 y hlt4] at hiy0
                  rw [hu.out.at' i hlt1 x hlt3] at hix0
                  rw [hu.out.at' j hlt2 y hlt4] at hjy0
                  rw [hu.out.at' j hlt2 x hlt3] at hjx0
                  rw [hri] at hci0
                  rw [hrj] at hcj0
                  have hci := (HB.out.cell (p := ⟨bv, ov + i, none⟩) hbv).trans hci0
                  have hcj := (HB.out.cell (p := ⟨bv, ov + j, none⟩) hbv).trans hcj0
                  have hiy := (HB.out.cell (p := ⟨bi, oi + y, none⟩) hbi).trans hiy0
                  have hix := (HB.out.cell (p := ⟨bi, oi + x, none⟩) hbi).trans hix0
                  have hjy := (HB.out.cell (p := ⟨bj, oj + y, none⟩) hbj).trans hjy0
                  have hjx := (HB.out.cell (p := ⟨bj, oj + x, none⟩) hbj).trans hjx0
                  obtain ⟨p1, hp1⟩ : ∃ z, placeI (rget v i) (y : Int) = z := ⟨_, rfl⟩
                  obtain ⟨p2, hp2⟩ : ∃ z, placeI (rget v i) (x : Int) = z := ⟨_, rfl⟩
                  obtain ⟨p3, hp3⟩ : ∃ z, placeI (rget v j) (x : Int) = z := ⟨_, rfl⟩
                  obtain ⟨p4, hp4⟩ : ∃ z, placeI (rget v j) (y : Int) = z := ⟨_, rfl⟩
                  rw [hp1] at hiy HE2
                  rw [hp2] at hix HE2
                  rw [hp3] at hjx HE2
                  rw [hp4] at hjy HE2
                  clear hci0 hcj0 hiy0 hix0 hjy0 hjx0 hIi0 hIj0 hri hrj hp1 hp2 hp3 hp4
                  by_cases c3 : ¬ p1 < p2
                  · have e3 : decide (p1 < p2) = false := by rw [decide_eq_false_iff_not]; exact c3
                    have H4 : Hid (ex4 a v i j x y = none) := ex4_no (fun h => c3 (HE2.out.1 h).2.2.1)
                    clear c3
                    go_wp2_with fail
                    go_quiet (fail)
                    go_wp2_with fail
                    go_roundw
                    case rel => exact ⟨y + 1, by omega, by go_num, snoc_all' h4.out H4.out, ⟨_, rfl⟩⟩
                    case measure => (simp [intOf] <;> omega)
                  have c3 := Classical.not_not.1 c3
                  have e3 : decide (p1 < p2) = true := by rw [decide_eq_true_iff]; exact c3
                  by_cases c4 : ¬ p3 < p4
                  · have e4 : decide (p3 < p4) = false := by rw [decide_eq_false_iff_not]; exact c4
                    have H4 : Hid (ex4 a v i j x y = none) := ex4_no (fun h => c4 (HE2.out.1 h).2.2.2)
                    clear c3 c4
                    go_wp2_with fail
                    go_quiet (fail)
                    go_wp2_with fail
                    go_roundw
                    case rel => exact ⟨y + 1, by omega, by go_num, snoc_all' h4.out H4.out, ⟨_, rfl⟩⟩
                    case measure => (simp [intOf] <;> omega)
                  have c4 := Classical.not_not.1 c4
                  have e4 : decide (p3 < p4) = true := by rw [decide_eq_true_iff]; exact c4
                  have H : Hid (exT a v = some (i, j, x, y)) := exT_hit h1.out h2.out h3.out h4.out hlt1 (by omega) hlt2 hlt3 hlt4 (HE2.out.2 ⟨C1.out, C2.out, c3, c4⟩)
                  clear c3 c4
                  go_wp2_with fail
                  go_quiet (fail)
                  go_wp2_with fail
                  refine bodyPost_ret (v := .tuple #[.agg #[.int .i64 (i : Int), .int .i64 (j : Int), .int .i64 (x : Int), .int .i64 (y : Int)], .bool true]) (by simp [results, Try.results40, go_sem]) rfl ?_
                  unfold GivesX
                  rw [H.out]
                  exact ⟨rfl, ((((HB.out.drewN' _).setCell (p := ⟨w.heap.size, 0, none⟩) (Nat.le_refl _) _).setCell (p := ⟨w.heap.size, 1, none⟩) (Nat.le_refl _) _).setCell (p := ⟨w.heap.size, 2, none⟩) (Nat.le_refl _) _).setCell (p := ⟨w.heap.size, 3, none⟩) (Nat.le_refl _) _⟩
                · have hy1 : ¬ (y : Int) < a.length := by omega
                  have H3 : Hid (ex3 a v i j x = none) := ex3_no (fun y' h => h4.out y' (by omega))
                  go_wp2_with fail
                  go_roundw
                  case rel => exact ⟨x + 1, by omega, by go_num, snoc_all' h3.out H3.out, ⟨_, rfl⟩⟩
                  case measure => (simp [intOf] <;> omega)
            · have hx1 : ¬ (x : Int) < a.length := by omega
              have H2 : Hid (ex2 a v i j = none) := ex2_no (fun x' h => h3.out x' (by omega))
              go_wp2_with fail
              go_roundw
              case rel => exact ⟨j + 1, by omega, by omega, by go_num, snoc_all' h2.out H2.out, ⟨_, rfl⟩⟩
              case measure => (simp [intOf] <;> omega)
        · have hj1 : ¬ (j : Int) < v.length := by omega
          have H1 : Hid (ex1 a v i = none) := ex1_no (fun j' h => h2.out j' (by omega))
          go_wp2_with fail
          go_roundw
          case rel => exact ⟨i + 1, by omega, by go_num, snoc_all' h1.out H1.out, ⟨_, rfl⟩⟩
          case measure => (simp [intOf] <;> omega)
    · have hi1 : ¬ (i : Int) < v.length := by omega
      have H : Hid (exT a v = none) := exT_no (fun i' h => h1.out i' (by omega))
      go_wp2_with fail
      refine bodyPost_ret (v := .tuple #[.agg #[.int .i64 0, .int .i64 0, .int .i64 0, .int .i64 0], .bool false]) (by simp [results, Try.results40, go_sem]) rfl ?_
      unfold GivesX
      rw [H.out]
      exact ⟨rfl, ((((HB.out.drewN' _).setCell (p := ⟨w.heap.size, 0, none⟩) (Nat.le_refl _) _).setCell (p := ⟨w.heap.size, 1, none⟩) (Nat.le_refl _) _).setCell (p := ⟨w.heap.size, 2, none⟩) (Nat.le_refl _) _).setCell (p := ⟨w.heap.size, 3, none⟩) (Nat.le_refl _) _⟩
end Go.Proofs.Ytknincjfcicjfaa
