/- Boxes: blocks whose first cells are known, below what comes later; no condition. -/
import Derived.Test.YtknincjfcicjfaaOwn
namespace Go.Proofs.Ytknincjfcicjfaa
set_option linter.unusedVariables false
set_option linter.unusedSimpArgs false
open Go.ChangeShapes Go.WideShapes Go.ChangeAt Go.RowKit Go.Deep

/-- A block whose first cells are known. -/
structure BoxV (w : World) (S : Nat) (vs : List Value) : Prop where
  lt : S < w.heap.size
  cell : ∀ (k : Nat) (v : Value), vs[k]? = some v → w.cell? ⟨S, k, none⟩ = some v
theorem BoxV.below {w w' : World} {S : Nat} {vs : List Value} (h : BoxV w S vs) (hb : Below w.heap.size w w') : BoxV w' S vs :=
  ⟨Nat.lt_of_lt_of_le h.lt hb.size, fun k v hk => (hb.cell (p := ⟨S, k, none⟩) h.lt).trans (h.cell k v hk)⟩
theorem BoxV.new {w w' : World} {S : Nat} {vs : List Value} {t : TypeId} (hS : w.heap.size = S) (hw : w.alloc (.cells vs.toArray t) = w') : BoxV w' S vs := by
  subst hS hw
  exact ⟨by simp, fun k v hk => (World.cell?_alloc_at _ _ _ _ rfl).trans (by simpa using hk)⟩
theorem below_alloc {w w' : World} {o : Obj} (hw : w.alloc o = w') : Below w.heap.size w w' := by subst hw; exact (Below.refl _ _).alloc (Nat.le_refl _) _
end Go.Proofs.Ytknincjfcicjfaa
