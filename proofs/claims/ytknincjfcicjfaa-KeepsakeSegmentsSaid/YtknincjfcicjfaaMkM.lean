/- 'make([][]int, n)', and a row laid into it; no condition but sizes. -/
import Derived.Test.YtknincjfcicjfaaMove
import Derived.Maps.RangeWalk
import Derived.RangeFuncOwn
namespace Go.Proofs.Ytknincjfcicjfaa
open Go.ChangeShapes Go.WideShapes Go.ChangeAt Go.RowKit Go.Deep
set_option linter.unusedVariables false
set_option linter.unusedSimpArgs false
def nilRows (n : Nat) : Array Value := (List.replicate n (Value.slice none 0 0)).toArray
theorem run_mkMk (n : Nat) (hn : n ≤ 100000) (W : World) : (Instr.makeSlice 22 (.int .i64 (n : Int)) (.int .i64 (n : Int))).run Try.prog W = .ok (.slice (some ⟨W.heap.size, 0, none⟩) n n) (W.alloc (.cells (nilRows n) 23)) := by
  obtain ⟨i, hi, hz0, hz1, hz2⟩ := info_parts infoRow
  have hrun := run_make (P := Try.prog) W 22 23 i (.slice none 0 0) Try.underlying22 hi hz0 .i64 .i64 (n : Int) (n : Int) (by omega) (by omega) (by rw [hz2]; omega) (by omega)
  rw [hz1] at hrun
  simp only [Int.toNat_natCast] at hrun
  have hcs : madeCells (Value.slice none 0 0).cells (n * 1) = nilRows n := by
    unfold nilRows
    apply Array.toList_inj.1
    rw [Nat.mul_one]
    exact (toList_madeCells_one _ _).trans (by simp)
  rw [hcs] at hrun
  exact hrun
theorem dmat_made (w : World) (n base : Nat) (hb : base ≤ w.heap.size) (hn : n ≤ 100000) : DMat (w.alloc (.cells (nilRows n) 23)) base (some ⟨w.heap.size, 0, none⟩) n (List.replicate n []) (fun _ => none) (fun _ => 0) := by
  have hr : ∀ j, j < n → rget (List.replicate n []) j = [] := fun j hj => by simp [rget, hj]
  refine ⟨?_, fun j hj => ?_, fun i j _ _ _ k hk => by simp [blk] at hk⟩
  · have := World.ownsRow_lit (e := 23) (size := 1) (base := base) w (nilRows n) n hb (by simp [maxLen]; omega) (by simp [nilRows])
    have e : rowsV (fun _ => none) (fun _ => 0) (List.replicate n []) = (nilRows n).toList := by
      unfold rowsV nilRows
      apply List.ext_getElem
      · simp
      · intro i h1 h2
        simp at h1
        simp [hr i h1]
    rw [e]
    simpa using this
  · simp at hj
    rw [hr j hj]
    exact Own.ofNil _ _
theorem DMat.setRow {w : World} {base g c : Nat} {v : List (List Int)} {Q : Nat → Option Addr} {D : Nat → Nat} (h : DMat w base (some ⟨g, 0, none⟩) c v Q D) {i : Nat} (hi : i < v.length) {q : Option Addr} {d : Nat} {r : List Int} (hr : Own w base q d r)
    (hnew : ∀ j, j < v.length → ∀ k, blk (Q j) = some k → blk q ≠ some k) :
    DMat (w.setCell ⟨g, i, none⟩ (.slice q r.length d)) base (some ⟨g, 0, none⟩) c (v.set i r) (fun j => if j = i then q else Q j) (fun j => if j = i then d else D j) := by
  obtain ⟨h1, h2⟩ := h.top.stored i (.slice q r.length d)
  refine ⟨by rw [List.length_set, rowsV_set hi]; exact h1, fun j hj => ?_, fun a b ha hb hne k hk => ?_⟩
  · rw [List.length_set] at hj
    rw [rget_set hi]
    by_cases e : j = i
    · subst e; simp only [if_true]
      exact hr.keptBy h2 (fun k hk e => top_not_row h.top hr (by rw [hk]; exact e.symm))
    · simp only [if_neg e, if_neg (fun h : i = j => e h.symm)]
      exact (h.rows j hj).keptBy h2 (fun k hk e => top_not_row h.top (h.rows j hj) (by rw [hk]; exact e.symm))
  · rw [List.length_set] at ha hb
    by_cases ea : a = i
    · by_cases eb : b = i
      · exact absurd (ea.trans eb.symm) hne
      · simp only [ea, eb, if_true, if_false] at hk ⊢
        exact fun e => hnew b hb k e hk
    · by_cases eb : b = i
      · simp only [ea, eb, if_true, if_false] at hk ⊢
        exact hnew a ha k hk
      · simp only [ea, eb, if_false] at hk ⊢
        exact h.apart a b ha hb hne k hk
end Go.Proofs.Ytknincjfcicjfaa
