/- 's[m:]' of a row of ints, and how parts of a row read; no condition but sizes. -/
import Derived.Test.YtknincjfcicjfaaPre
import Derived.Test.YtknincjfcicjfaaBoxB
namespace Go.Proofs.Ytknincjfcicjfaa
set_option linter.unusedVariables false
set_option linter.unusedSimpArgs false
open Go.ChangeShapes Go.WideShapes Go.ChangeAt Go.RowKit Go.Deep
theorem run_post (g len cap m : Nat) (hm : m < cap) (hl : m ≤ len) (W : World) :
    (Instr.slice 23 (.slice (some ⟨g, 0, none⟩) len cap) (some (.int .i64 (m : Int))) none none).run Try.prog W = .ok (.slice (some ⟨g, m, none⟩) (len - m) (cap - m)) W := by
  have h0 := run_slice_l (P := Try.prog) W 23 (some ⟨g, 0, none⟩) len cap (by kernel_rfl) .i64 (m : Int) (by omega) (by omega)
  rw [h0]
  have hs : ∀ W, (sizeOf (Try.prog.elem 23)).run Try.prog W = .ok 1 W := fun W => by
    have := Try.sizeOf3
    simp [go_sem, this]
  rw [hs]
  simp only [Result.andThen, sliced, Int.toNat_natCast]
  rw [if_neg (by omega)]
  simp [Addr.add]
  omega
theorem iget_drop (xs : List Int) (m j : Nat) : iget (xs.drop m) j = iget xs (m + j) := by simp [iget, List.getElem?_drop]
theorem iget_take {xs : List Int} {m j : Nat} (h : j < m) : iget (xs.take m) j = iget xs j := by
  simp only [iget, List.getD, List.getElem?_take]
  rw [if_pos h]
theorem Ints.cutPre {w : World} {p : Option Addr} {c : Nat} {xs : List Int} (h : Ints w p c xs) (k : Nat) : Ints w p c (xs.take k) := by
  refine ⟨by have := h.le; rw [List.length_take]; omega, h.max, h.nil, h.plain, fun b o e j hj => ?_, fun j hj => ?_⟩
  · rw [List.length_take] at hj
    rw [iget_take (by omega)]; exact h.cell b o e j (by omega)
  · rw [List.length_take] at hj
    rw [iget_take (by omega)]; exact h.rng j (by omega)
theorem Ints.cutPost {w : World} {b o c : Nat} {xs : List Int} (h : Ints w (some ⟨b, o, none⟩) c xs) (m : Nat) (hm : m < c) : Ints w (some ⟨b, o + m, none⟩) (c - m) (xs.drop m) := by
  have hle := h.le
  refine ⟨by rw [List.length_drop]; omega, by have := h.max; omega, fun h => (by cases h), ?_, ?_, ?_⟩
  · rintro a ⟨⟩ _
    exact ⟨rfl, (h.plain _ rfl (by omega)).2⟩
  · rintro b' o' ⟨⟩ j hj
    rw [List.length_drop] at hj
    rw [iget_drop, Nat.add_assoc]
    exact h.at (by omega)
  · intro j hj
    rw [List.length_drop] at hj
    rw [iget_drop]; exact h.rng _ (by omega)
/-- Two rows in a new block. -/
theorem mat_two (w : World) (p q : Option Addr) (c d : Nat) (xs ys : List Int) (hx : Ints w p c xs) (hy : Ints w q d ys) :
    Mat (w.alloc (.cells #[.slice p xs.length c, .slice q ys.length d] 23)) (some ⟨w.heap.size, 0, none⟩) 2 [xs, ys] := by
  have hb : Below w.heap.size w (w.alloc (.cells #[.slice p xs.length c, .slice q ys.length d] 23)) := (Below.refl _ w).alloc (Nat.le_refl _) _
  refine ⟨Nat.le_refl _, by omega, fun h => (by cases h), ?_, ?_⟩
  · rintro a ⟨⟩ _
    exact ⟨rfl, by simp⟩
  · rintro b o ⟨⟩ j hj
    rw [Nat.zero_add]
    match j, hj with
    | 0, _ => exact ⟨p, c, by rw [World.cell?_alloc_at _ _ _ _ rfl]; rfl, hx.below hb (Nat.le_refl _)⟩
    | 1, _ => exact ⟨q, d, by rw [World.cell?_alloc_at _ _ _ _ rfl]; rfl, hy.below hb (Nat.le_refl _)⟩
end Go.Proofs.Ytknincjfcicjfaa
