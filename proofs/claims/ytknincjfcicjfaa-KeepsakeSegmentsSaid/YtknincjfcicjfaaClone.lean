/- The walk of slices.Clone at slices of integers; at most 900000 numbers. -/
import Derived.Test.YtknincjfcicjfaaOwnMat
import Derived.WalkSpells
namespace Go.Proofs.Ytknincjfcicjfaa
set_option linter.unusedVariables false
set_option linter.unusedSimpArgs false
open Go.ChangeShapes Go.WideShapes Go.ChangeAt Go.RowKit Go.Deep

theorem Own.some_of {w : World} {base : Nat} {p : Option Addr} {c : Nat} {xs : List Int} (h : Own w base p c xs) (hne : xs ≠ []) : ∃ g, p = some ⟨g, 0, none⟩ := by
  rcases h.shape with ⟨_, _, rfl⟩ | ⟨g, rfl, _⟩
  · exact absurd rfl hne
  · exact ⟨g, rfl⟩

set_option maxHeartbeats 400000 in
theorem clone_any (p : Option Addr) (c : Nat) (xs : List Int) (w : World) (hx : Ints w p c xs) (hlen : xs.length ≤ 900000) :
    Calls Try.prog 35 #[.slice p xs.length c] w (Gives w xs) := by
  cases p with
  | none =>
    have hc := hx.nil rfl
    subst hc
    have hl : xs.length = 0 := by have := hx.le; omega
    obtain rfl : xs = [] := List.eq_nil_of_length_eq_zero hl
    have hq := fun W => Lib.run_eql_slice_nil (P := Try.prog) W 23 3 none 0 0 0 0 Try.underlying23
    go_enter Try.func35, Try.ntmps35
    go_wp2_with fail
    go_ret
    exact ⟨none, 0, rfl, Own.ofNil _ _, Below.refl _ _⟩
  | some a =>
    have hq := fun W => Lib.run_eql_slice_nil (P := Try.prog) W 23 3 (some a) xs.length c 0 0 Try.underlying23
    go_enter Try.func35, Try.ntmps35
    go_wp2_with (at_builtin; refine wpList_app rfl (.tmp 5) (.tmp 6) rfl w.heap.size _ _ _ _ [] xs rfl rfl (Own.made _ _ (Nat.le_refl _)) (hx.below ((Below.refl _ _).alloc (Nat.le_refl _) _) (Nat.le_refl _)) (by simp; omega) (by simp) ?_; intro p2 c2 w2 zs hz hO hg hf)
    obtain rfl : zs = xs := hz.out
    go_ret
    exact ⟨p2, c2, rfl, hO, ((Below.refl w.heap.size w).alloc (Nat.le_refl _) _).grown hg (by simp) (fun k e => by simp [blk] at e; omega)⟩
end Go.Proofs.Ytknincjfcicjfaa
