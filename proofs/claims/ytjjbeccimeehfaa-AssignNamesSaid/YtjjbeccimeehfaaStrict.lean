/- An assignment that is best by strict bids; what the calls hand back at given lists; no condition. -/
import Derived.Test.YtjjbeccimeehfaaAlive
import Derived.Test.YtjjbeccimeehfaaContP
import Derived.Test.YtjjbeccimeehfaaSt
namespace Go.Proofs.Ytjjbeccimeehfaa
open Go.ChangeShapes Go.WideShapes Go.ChangeAt Go.RowKit Go.Deep
set_option linter.unusedVariables false
set_option linter.unusedSimpArgs false

theorem isBest_strict {v : List (List Int)} {a : List Int} (hA : IsA a v.length) (h : ∀ i, i < v.length → ∀ j, j < v.length → j ≠ itm a i → bid v i j < bid v i (itm a i)) : IsBest v a := by
  refine ⟨hA, .inr ⟨hA, fun x hx => ?_⟩⟩
  have hle : ∀ i, i < v.length → bid v i (itm x i) ≤ bid v i (itm a i) := fun i hi => by
    by_cases e : itm x i = itm a i
    · rw [e]; exact Int.le_refl _
    · exact Int.le_of_lt (h i hi _ (isA_lt hx i hi).2 e)
  have hs := sumTo_le (f := fun i => bid v i (itm x i)) (g := fun i => bid v i (itm a i)) (n := v.length) hle
  have hwx : worthI v x = sumTo (fun i => bid v i (itm x i)) v.length := by unfold worthI; rw [hx.1]
  have hwa : worthI v a = sumTo (fun i => bid v i (itm a i)) v.length := by unfold worthI; rw [hA.1]
  by_cases he : worthI v x = worthI v a
  · refine .inr ⟨he, .inl ?_⟩
    have hp := sumTo_eq_parts hle (by rw [← hwx, ← hwa]; exact he)
    apply List.ext_getElem
    · rw [hx.1, hA.1]
    · intro i h1 h2
      have hi : i < v.length := by rw [← hx.1]; exact h1
      have hit : itm x i = itm a i := Classical.byContradiction fun e => by
        have := h i hi _ (isA_lt hx i hi).2 e
        have := hp i hi
        omega
      have g1 := (isA_lt hx i hi).1
      have g2 := (isA_lt hA i hi).1
      rw [← iget_of h1, ← iget_of h2]
      unfold itm at hit
      omega
  · exact .inl (by omega)
theorem strict_chk {v : List (List Int)} {a : List Int} (h1 : isAB a v.length = true) (h2 : (List.range v.length).all (fun i => (List.range v.length).all fun j => decide (j = itm a i) || decide (bid v i j < bid v i (itm a i))) = true) : IsBest v a := by
  refine isBest_strict (by simpa [isAB] using h1) (fun i hi j hj hne => ?_)
  have := List.all_eq_true.1 (List.all_eq_true.1 h2 i (by simpa using hi)) j (by simpa using hj)
  simp only [Bool.or_eq_true, decide_eq_true_iff] at this
  rcases this with e | e
  · exact absurd e hne
  · exact e

theorem check_e {p : Option Addr} {c k : Nat} {v : List (List Int)} {w : World} {y : Int} (hn : v.length = k) (hE : chkI v = y) (hx : Mat w p c v) :
    Calls Try.prog 18 #[.slice p k c] w fun e w' => e = .returned (.int .i64 y) ∧ w' = w := by
  subst hn hE; exact check_any p c v w hx
theorem value_e {p q : Option Addr} {c d k m : Nat} {v : List (List Int)} {a : List Int} {w : World} {x y : Int} (hn : v.length = k) (hm : a.length = m) (hN : valN v a = x) (hE : valE v a = y) (hl : m ≤ 1000000) (hx : Mat w p c v) (hy : Ints w q d a) :
    Calls Try.prog 22 #[.slice p k c, .slice q m d] w fun e w' => e = .returned (.tuple #[.int .i64 x, .int .i64 y]) ∧ Below w.heap.size w w' := by
  subst hn hm hN hE; exact valueTop_any p q c d v a w hx hy hl
theorem proves_e {p q r : Option Addr} {c d f k m j : Nat} {v : List (List Int)} {a pr : List Int} {w : World} {x : Bool} {y : Int} (hn : v.length = k) (hm : a.length = m) (hj : pr.length = j) (hN : prvB v a pr = x) (hE : prvE v a pr = y) (hl : m ≤ 1000000) (hx : Mat w p c v) (hy : Ints w q d a) (hz : Ints w r f pr) :
    Calls Try.prog 24 #[.slice p k c, .slice q m d, .slice r j f] w fun e w' => e = .returned (.tuple #[.bool x, .int .i64 y]) ∧ Below w.heap.size w w' := by
  subst hn hm hj hN hE; exact proves_any p q r c d f v a pr w hx hy hz hl
theorem best_e {p : Option Addr} {c k j : Nat} {v : List (List Int)} {xs : List Int} {w : World} {x y : Int} (hn : v.length = k) (hL : bestL v = xs) (hj : xs.length = j) (hN : bestN v = x) (hE : chkI v = y) (hx : Mat w p c v) :
    Calls Try.prog 12 #[.slice p k c] w fun e w' => ∃ q d, e = .returned (.tuple #[.slice q j d, .int .i64 x, .int .i64 y]) ∧ Ints w' q d xs ∧ Below w.heap.size w w' := by
  subst hn hL hj hN hE
  refine (bestTop_any p c v w hx).mono ?_
  rintro e w' ⟨q, d, rfl, hO, hb⟩
  exact ⟨q, d, rfl, hO.ints, hb⟩
theorem prices_e {p : Option Addr} {c k j : Nat} {v : List (List Int)} {xs : List Int} {w : World} {y : Int} (hn : v.length = k) (hL : priceL v = xs) (hj : xs.length = j) (hE : chkI v = y) (hx : Mat w p c v) :
    Calls Try.prog 14 #[.slice p k c] w fun e w' => ∃ q d, e = .returned (.tuple #[.slice q j d, .int .i64 y]) ∧ Ints w' q d xs ∧ Below w.heap.size w w' := by
  subst hn hL hj hE
  refine (prices_any p c v w hx).mono ?_
  rintro e w' ⟨q, d, rfl, hO, hb⟩
  exact ⟨q, d, rfl, hO.ints, hb⟩
theorem harm_e {p : Option Addr} {c k j : Nat} {v : List (List Int)} {xs : List Int} {w : World} {y : Int} (hn : v.length = k) (hL : harmL v = xs) (hj : xs.length = j) (hE : chkI v = y) (hx : Mat w p c v) :
    Calls Try.prog 16 #[.slice p k c] w fun e w' => ∃ q d, e = .returned (.tuple #[.slice q j d, .int .i64 y]) ∧ Ints w' q d xs ∧ Below w.heap.size w w' := by
  subst hn hL hj hE
  refine (harm_any p c v w hx).mono ?_
  rintro e w' ⟨q, d, rfl, hO, hb⟩
  exact ⟨q, d, rfl, hO.ints, hb⟩
theorem same_e {p q : Option Addr} {c d k m : Nat} {xs ys : List Int} {w : World} (hn : xs.length = k) (hm : ys.length = m) (hxy : xs = ys) (hx : Ints w p c xs) (hy : Ints w q d ys) :
    Calls Try.prog 20 #[.slice p k c, .slice q m d] w fun e w' => e = .returned (.bool true) ∧ ∃ n, w' = w.drewN n := by
  subst hn hm hxy
  refine (same_any p q c d xs xs w hx hy).mono ?_
  rintro e w' ⟨he, hw⟩
  exact ⟨by rw [he, sameB_true rfl], hw⟩
end Go.Proofs.Ytjjbeccimeehfaa
