/- 'make([]int, n)' at a numeral, run wherever it stands; no condition but the size. -/
import Derived.Test.YtknincjfcicjfaaSt
namespace Go.Proofs.Ytknincjfcicjfaa
set_option linter.unusedVariables false
set_option linter.unusedSimpArgs false
open Go.ChangeShapes Go.WideShapes Go.ChangeAt Go.RowKit Go.Deep
/-- The cells of a new row of numbers; the walk does not look behind the name. -/
def intCells (n : Nat) : Array Value := madeCells (Value.int .i64 0).cells (n * 1)
theorem run_mkI (n : Nat) (hn : n ≤ 1000000) (W : World) : (Instr.makeSlice 23 (.int .i64 (n : Int)) (.int .i64 (n : Int))).run Try.prog W = .ok (.slice (some ⟨W.heap.size, 0, none⟩) n n) (W.alloc (.cells (intCells n) 3)) := by
  obtain ⟨i, hi, hz0, hz1, hz2⟩ := info_parts infoInt
  have hrun := run_make (P := Try.prog) W 23 3 i (.int .i64 0) Try.underlying23 hi hz0 .i64 .i64 (n : Int) (n : Int) (by omega) (by omega) (by rw [hz2]; omega) (by omega)
  rw [hz1] at hrun
  simp only [Int.toNat_natCast] at hrun
  exact hrun
theorem ints_cells (W : World) (n : Nat) (hn : n ≤ 1000000) : Ints (W.alloc (.cells (intCells n) 3)) (some ⟨W.heap.size, 0, none⟩) n (List.replicate n 0) := by
  have hcs : intCells n = ((List.replicate n (0 : Int)).map (Value.int .i64)).toArray := by
    apply Array.toList_inj.1
    unfold intCells; rw [Nat.mul_one]
    exact (toList_madeCells_one _ _).trans (by simp)
  rw [hcs]
  have := ints_lit W (List.replicate n (0 : Int)) (by simp; omega) (fun x hx => by rw [List.eq_of_mem_replicate hx]; exact in64_zero)
  rwa [List.length_replicate] at this
theorem St.mkI {w0 w : World} {B : Nat} {l : List Item} (h : St w0 w B l) (n : Nat) (hn : n ≤ 1000000 := by decide) :
    St w0 (w.alloc (.cells (intCells n) 3)) (B + 1) (.ints (some ⟨B, 0, none⟩) n n (List.replicate n 0) :: l) :=
  (h.bump _).add _ ⟨by simp, by rw [← h.size]; exact ints_cells w n hn⟩
end Go.Proofs.Ytknincjfcicjfaa
