/- Boxes: blocks whose first cells are known, below what comes later; no condition. -/
import Derived.Test.YtojldecldemfaaaRoomA
import Derived.Test.YtojldecldemfaaaRoomG
namespace Go.Proofs.Ytojldecldemfaaa
set_option linter.unusedVariables false
set_option linter.unusedSimpArgs false
open Go.ChangeShapes Go.WideShapes Go.ChangeAt Go.RowKit Go.Deep

/-- A block whose first cells are known. -/
structure BoxV (w : World) (S : Nat) (vs : List Value) : Prop where
  lt : S < w.heap.size
  cell : ∀ (k : Nat) (v : Value), vs[k]? = some v → w.cell? ⟨S, k, none⟩ = some v
theorem BoxV.below {w w' : World} {S : Nat} {vs : List Value} (h : BoxV w S vs) (hb : Below w.heap.size w w') : BoxV w' S vs :=
  ⟨Nat.lt_of_lt_of_le h.lt hb.size, fun k v hk => (hb.cell (p := ⟨S, k, none⟩) h.lt).trans (h.cell k v hk)⟩
theorem BoxV.new {w w' : World} {S : Nat} {vs : List Value} {t : TypeId} (hS : w.heap.size = S) (hw : w.alloc (.cells vs.toArray t) = w') : BoxV w' S vs := by
  subst hS hw
  exact ⟨by simp, fun k v hk => (World.cell?_alloc_at _ _ _ _ rfl).trans (by simpa using hk)⟩
theorem boxV_put {w : World} {S : Nat} {x y u v : Value} (h0 : w.cell? ⟨S, 0, none⟩ = some x) (h1 : w.cell? ⟨S, 1, none⟩ = some y) (hS : S < w.heap.size) : BoxV ((w.setCell ⟨S, 0, none⟩ u).setCell ⟨S, 1, none⟩ v) S [u, v] := by
  obtain ⟨k0, k1⟩ := Two.set (x := u) (y := v) h0 h1
  refine ⟨by simpa [World.setCell] using hS, fun k z hk => ?_⟩
  match k, hk with
  | 0, hk => simp at hk; subst hk; exact k0
  | 1, hk => simp at hk; subst hk; exact k1
theorem DMat.farSet {w : World} {base S j : Nat} {p : Option Addr} {c : Nat} {v : List (List Int)} {Q : Nat → Option Addr} {D : Nat → Nat} {u : Value} (h : DMat w base p c v Q D) (hS : S < base) : DMat (w.setCell ⟨S, j, none⟩ u) base p c v Q D :=
  h.above (fun k hk => Below.heap_setCell w ⟨S, j, none⟩ _ k (fun e => by simp only at e; omega))
theorem below_alloc {w w' : World} {o : Obj} (hw : w.alloc o = w') : Below w.heap.size w w' := by subst hw; exact (Below.refl _ _).alloc (Nat.le_refl _) _
end Go.Proofs.Ytojldecldemfaaa
