/- Equal lists compared by the reference: true; no condition. -/
import Derived.Test.YtiohehofnlmenaaRefA
namespace Go.Proofs.Ytiohehofnlmenaa
set_option linter.unusedVariables false
open Go.ChangeShapes Go.WideShapes Go.ChangeAt Go.RowKit Go.Deep
theorem drew_below {w w' : World} (h : ∃ n, w' = w.drewN n) : Below w.heap.size w w' := by obtain ⟨n, rfl⟩ := h; exact below_drewN _ _ _
theorem app_below {w w' : World} (hg : (w.alloc (.cells #[] 3)).grownBy w' (some w.heap.size)) : Below w.heap.size w w' :=
  ((Below.refl w.heap.size w).alloc (Nat.le_refl _) _).grown hg (by simp) (fun k e => by cases e; exact Nat.le_refl _)
/-- Equal lists, laid twice. -/
theorem eqI_true {p q : Option Addr} {c d : Nat} {xs : List Int} {w : World} (hx : Ints w p c xs) (hy : Ints w q d xs) :
    Calls Try.prog 16 #[.slice p xs.length c, .slice q xs.length d] w fun e w' => e = .returned (.bool true) ∧ ∃ n, w' = w.drewN n := by
  refine (same_any p q c d xs xs w hx hy).mono ?_
  rintro e w' ⟨he, hw⟩
  exact ⟨by rw [he, sameB_true rfl], hw⟩
theorem eqM_true {p q : Option Addr} {c d : Nat} {v : List (List Int)} {w : World} (hx : Mat w p c v) (hy : Mat w q d v) :
    Calls Try.prog 22 #[.slice p v.length c, .slice q v.length d] w fun e w' => e = .returned (.bool true) ∧ ∃ n, w' = w.drewN n := by
  refine (sameLists_any p q c d v v w hx hy).mono ?_
  rintro e w' ⟨he, hw⟩
  exact ⟨by rw [he]; simp [sameLB], hw⟩
end Go.Proofs.Ytiohehofnlmenaa
