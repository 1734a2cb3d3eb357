/- The walk of the law AssignAsks: for every input it returns true and changes nothing that was there. -/
import Derived.Test.YtjjbeccimeehfaaAsksB
namespace Go.Proofs.Ytjjbeccimeehfaa
open Go.ChangeShapes Go.WideShapes Go.ChangeAt Go.RowKit Go.Deep
set_option linter.unusedVariables false

set_option maxHeartbeats 4000000 in
set_option maxRecDepth 100000 in
theorem asks_walk (p : Option Addr) (c : Nat) (v : List (List Int)) (q : Option Addr) (d : Nat) (a : List Int) (r : Option Addr) (f : Nat) (pr : List Int) (w : World) (hx : Mat w p c v) (hy : Ints w q d a) (hz : Ints w r f pr) :
    Calls Try.prog 4 #[.slice p v.length c, .slice q a.length d, .slice r pr.length f] w fun e w' => e = .returned (.bool true) ∧ Below w.heap.size w w' := by
  have hl1 := hy.length_le
  have hl2 := hz.length_le
  by_cases hG : GreatP v
  · have hg : greatB v = true := by simp [greatB, hG]
    go_enter Try.func4, Try.ntmps4
    go_wp2_with fail
    refine (great_any p c v w hx).mono ?_
    rintro e w' ⟨rfl, rfl⟩
    rw [hg]
    go_wp2_with fail
    go_ret
    exact ⟨rfl, Below.refl _ _⟩
  · have hg : greatB v = false := by simp [greatB, hG]
    by_cases ha : 50 < (a.length : Int)
    · go_enter Try.func4, Try.ntmps4
      go_wp2_with fail
      refine (great_any p c v w hx).mono ?_
      rintro e w' ⟨rfl, rfl⟩
      rw [hg]
      go_wp2_with fail
      go_ret
      exact ⟨rfl, Below.refl _ _⟩
    · by_cases hp : 50 < (pr.length : Int)
      · go_enter Try.func4, Try.ntmps4
        go_wp2_with fail
        refine (great_any p c v w hx).mono ?_
        rintro e w' ⟨rfl, rfl⟩
        rw [hg]
        go_wp2_with fail
        go_ret
        exact ⟨rfl, Below.refl _ _⟩
      · have hal : a.length ≤ 1000000 := by omega
        go_enter Try.func4, Try.ntmps4
        go_wp2_with fail
        refine (great_any p c v w hx).mono ?_
        rintro e w' ⟨rfl, rfl⟩
        rw [hg]
        go_wp2_with fail
        refine (valueTop_any p q c d v a w' hx hy hal).mono ?_
        rintro e w1 ⟨rfl, hb1⟩
        have hx1 := hx.below hb1 (Nat.le_refl _)
        have hy1 := hy.below hb1 (Nat.le_refl _)
        have hz1 := hz.below hb1 (Nat.le_refl _)
        go_wp2_with fail
        refine (refValue_any p q c d v a w1 hx1 hy1).mono ?_
        rintro e w2 ⟨rfl, hw2⟩
        have hx2 := hx1.drew hw2
        have hy2 := hy1.drew hw2
        have hz2 := hz1.drew hw2
        have hb2 := hb1.drewP hw2
        clear hw2 hb1 hx1 hy1 hz1
        go_wp2_with fail
        refine (proves_any p q r c d f v a pr w2 hx2 hy2 hz2 hal).mono ?_
        rintro e w3 ⟨rfl, hb3⟩
        have hx3 := hx2.below hb3 (Nat.le_refl _)
        have hy3 := hy2.below hb3 (Nat.le_refl _)
        have hz3 := hz2.below hb3 (Nat.le_refl _)
        have hb4 := hb2.trans (hb3.mono hb2.size)
        clear hb3 hb2 hx2 hy2 hz2
        go_wp2_with fail
        refine (refProves_any p q r c d f v a pr w3 hx3 hy3 hz3).mono ?_
        rintro e w4 ⟨rfl, hw4⟩
        have hb5 := hb4.drewP hw4
        clear hw4 hb4 hx3 hy3 hz3
        go_wp2_with fail
        go_ret
        exact ⟨rfl, hb5⟩
end Go.Proofs.Ytjjbeccimeehfaa
