/- Rows of bools that a call itself makes; no condition but sizes. -/
import Derived.Test.YtiohehofnlmenaaTopChoresRunsm1
/- Rows of bools that a call itself makes; no condition but sizes. -/
namespace Go.Proofs.Ytiohehofnlmenaa
set_option linter.unusedVariables false
set_option linter.unusedSimpArgs false
open Go.ChangeShapes Go.WideShapes Go.ChangeAt Go.RowKit Go.Deep

theorem infoBool : (Try.prog.info? 4).map (fun i => (i.zero, i.size, i.bytes)) = some (some (.bool false), 1, 1) := by kernel_rfl
def bget (bs : List Bool) (k : Nat) : Bool := bs.getD k false
theorem bget_set {xs : List Bool} {j k : Nat} {x : Bool} (hj : j < xs.length) : bget (xs.set j x) k = if j = k then x else bget xs k := by
  simp only [bget, List.getD, List.getElem?_set]
  split
  · rename_i h; subst h; simp [hj]
  · rfl
/-- The slice (p, bs.length, c) is a row of bools of the call's own. -/
def OwnB (w : World) (base : Nat) (p : Option Addr) (c : Nat) (bs : List Bool) : Prop := w.ownsRow base 4 1 (.slice p bs.length c) bs.length (bs.map Value.bool)
theorem OwnB.get {w : World} {base : Nat} {p : Option Addr} {c : Nat} {bs : List Bool} (h : OwnB w base p c bs) {j : Nat} (hj : j < bs.length) :
    ∃ g, p = some ⟨g, 0, none⟩ ∧ base ≤ g ∧ g < w.heap.size ∧ w.cell? ⟨g, j, none⟩ = some (.bool (bget bs j)) ∧ w.frozen? ⟨g, j, none⟩ = false := by
  have h' := h
  unfold OwnB at h'
  rcases h.2 with ⟨h1, h2⟩ | ⟨g, cap, cur, h1, h2, h3, h4, h5, _, _⟩
  · omega
  · simp only [Value.slice.injEq] at h1
    obtain ⟨rfl, _, rfl⟩ := h1
    refine ⟨g, rfl, h2, (Array.getElem?_eq_some_iff.1 h3).1, ?_, h'.frozenAt j⟩
    rw [h'.cellAt j (by omega)]
    simp [bget, hj]
theorem OwnB.at {w : World} {base g : Nat} {c : Nat} {bs : List Bool} (h : OwnB w base (some ⟨g, 0, none⟩) c bs) {j : Nat} (hj : j < bs.length) : w.cell? ⟨g, j, none⟩ = some (.bool (bget bs j)) := by
  have h' := h
  unfold OwnB at h'
  rw [h'.cellAt j (by omega)]
  simp [bget, hj]
theorem OwnB.free {w : World} {base g : Nat} {c : Nat} {bs : List Bool} (h : OwnB w base (some ⟨g, 0, none⟩) c bs) (j : Nat) : w.frozen? ⟨g, j, none⟩ = false := World.ownsRow.frozenAt h j
theorem OwnB.set {w : World} {base g : Nat} {c : Nat} {bs : List Bool} (h : OwnB w base (some ⟨g, 0, none⟩) c bs) (j : Nat) (x : Bool) :
    OwnB (w.setCell ⟨g, j, none⟩ (.bool x)) base (some ⟨g, 0, none⟩) c (bs.set j x) ∧ w.grownBy (w.setCell ⟨g, j, none⟩ (.bool x)) (some g) := by
  obtain ⟨h1, h2⟩ := World.ownsRow.stored h j (.bool x)
  exact ⟨by unfold OwnB; rw [List.length_set, List.map_set]; exact h1, h2⟩
theorem OwnB.drewN {w : World} {base : Nat} {p : Option Addr} {c : Nat} {bs : List Bool} (h : OwnB w base p c bs) (n : Nat) : OwnB (w.drewN n) base p c bs :=
  World.ownsRow.kept h (grownBy_of_below (below_drewN w.heap.size w n) (Nat.le_refl _) none) (by cases (Value.slice p bs.length c).ownBlock <;> simp)
theorem OwnB.drew {w w' : World} {base : Nat} {p : Option Addr} {c : Nat} {bs : List Bool} (h : OwnB w base p c bs) (hw : ∃ n, w' = w.drewN n) : OwnB w' base p c bs := by obtain ⟨n, rfl⟩ := hw; exact h.drewN n
theorem setCell_back {w : World} {g j : Nat} {u old : Value} (h : w.cell? ⟨g, j, none⟩ = some old) : (w.setCell ⟨g, j, none⟩ u).setCell ⟨g, j, none⟩ old = w := by
  have hb := World.block_lt_of_cell? _ _ h
  simp only [World.setCell]
  cases w with
  | mk heap tape drawn os output =>
    simp only [World.mk.injEq, and_true, true_and]
    apply Array.ext
    · simp
    · intro i h1 h2
      simp only [Array.getElem_modify]
      by_cases e : g = i
      · subst e
        simp only [if_true]
        simp only [World.cell?] at h
        rw [Array.getElem?_eq_getElem h2] at h
        cases ho : heap[g] with
        | cells c elem frozen =>
          rw [ho] at h
          simp at h
          simp only [Obj.cells.injEq, and_true]
          apply Array.ext
          · simp
          · intro k k1 k2
            simp only [Option.isSome_none, Bool.false_eq_true, if_false, Array.getElem_setIfInBounds]
            simp at k1
            by_cases e : j = k
            · subst e
              simp
              have := (Array.getElem?_eq_some_iff.1 h).2
              exact this.symm
            · simp [e]
              rw [Array.getElem_setIfInBounds, if_neg e]
        | _ => rfl
      · simp [e]

/-- 'make([]bool, n)', n a variable. -/
theorem wpList_mkB {w : World} {ops : Array Oper} {rest : List Oper} {o : Oper} {a : Act} {Q : Exit → Act → World → Prop} (hg : o.guard = none) (l c : Operand) (hop : o.op = Op.makeSlice 62 l c)
    (base n : Nat) (hl : a.eval l = .int .i64 (n : Int)) (hc : a.eval c = .int .i64 (n : Int)) (hn : n ≤ 1000000) (hb : base ≤ w.heap.size)
    (hK : ∀ w', OwnB w' base (some ⟨w.heap.size, 0, none⟩) n (List.replicate n false) → w.grownBy w' none → w'.heap.size = w.heap.size + 1 → wpList Try.prog ops Q rest (a.put o.dst (.slice (some ⟨w.heap.size, 0, none⟩) n n)) w') : wpList Try.prog ops Q (o :: rest) a w := by
  obtain ⟨i, hi, hz0, hz1, hz2⟩ := info_parts infoBool
  refine wpList_plain hg fun K hK' => ?_
  have hrun := run_make (P := Try.prog) w 62 4 i (.bool false) Try.underlying62 hi hz0 .i64 .i64 (n : Int) (n : Int) (by omega) (by omega) (by rw [hz2]; omega) (by omega)
  have hcs : (madeCells (Value.bool false).cells (n * 1)).toList = List.replicate n (.bool false) := by
    rw [Nat.mul_one]; exact toList_madeCells_one _ _
  unfold Oper.wp
  rw [hz1] at hrun
  simp only [Int.toNat_natCast] at hrun
  simp [execOp, hop, hl, hc, hrun, Result.andThen]
  refine hK' _ _ (hK _ ?_ (World.grownBy_alloc _ _ _) (by simp))
  have := World.ownsRow_lit (e := 4) (size := 1) (base := base) w (madeCells (Value.bool false).cells (n * 1)) n hb (by simp [maxLen]; omega) (by rw [size_madeCells])
  rw [hcs] at this
  unfold OwnB
  simpa using this
/-- The cells of a new row of bools; the walk does not look behind the name. -/
def boolCells (n : Nat) : Array Value := madeCells (Value.bool false).cells (n * 1)
theorem run_mkB (n : Nat) (hn : n ≤ 1000000) (W : World) : (Instr.makeSlice 62 (.int .i64 (n : Int)) (.int .i64 (n : Int))).run Try.prog W = .ok (.slice (some ⟨W.heap.size, 0, none⟩) n n) (W.alloc (.cells (boolCells n) 4)) := by
  obtain ⟨i, hi, hz0, hz1, hz2⟩ := info_parts infoBool
  have hrun := run_make (P := Try.prog) W 62 4 i (.bool false) Try.underlying62 hi hz0 .i64 .i64 (n : Int) (n : Int) (by omega) (by omega) (by rw [hz2]; omega) (by omega)
  rw [hz1] at hrun
  simp only [Int.toNat_natCast] at hrun
  exact hrun
theorem ownB_cells (W : World) (base n : Nat) (hn : n ≤ 1000000) (hb : base ≤ W.heap.size) : OwnB (W.alloc (.cells (boolCells n) 4)) base (some ⟨W.heap.size, 0, none⟩) n (List.replicate n false) := by
  have hcs : (boolCells n).toList = List.replicate n (.bool false) := by
    unfold boolCells; rw [Nat.mul_one]; exact toList_madeCells_one _ _
  have := World.ownsRow_lit (e := 4) (size := 1) (base := base) W (boolCells n) n hb (by simp [maxLen]; omega) (by unfold boolCells; rw [size_madeCells])
  rw [hcs] at this
  unfold OwnB
  simpa using this
end Go.Proofs.Ytiohehofnlmenaa
