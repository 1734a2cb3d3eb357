/- The walk of the law AssignFinds: for every input it returns true and changes nothing that was there. -/
import Derived.Test.YtjjbeccimeehfaaHarm
namespace Go.Proofs.Ytjjbeccimeehfaa
open Go.ChangeShapes Go.WideShapes Go.ChangeAt Go.RowKit Go.Deep

theorem same_true {p q : Option Addr} {c d : Nat} {xs : List Int} {w : World} (hx : Ints w p c xs) (hy : Ints w q d xs) :
    Calls Try.prog 20 #[.slice p xs.length c, .slice q xs.length d] w fun e w' => e = .returned (.bool true) ∧ ∃ n, w' = w.drewN n := by
  refine (same_any p q c d xs xs w hx hy).mono ?_
  rintro e w' ⟨he, hw⟩
  exact ⟨by rw [he, sameB_true rfl], hw⟩
theorem sameLists_true {p q : Option Addr} {c d : Nat} {v : List (List Int)} {w : World} (hx : Mat w p c v) (hy : Mat w q d v) :
    Calls Try.prog 21 #[.slice p v.length c, .slice q v.length d] w fun e w' => e = .returned (.bool true) ∧ ∃ n, w' = w.drewN n := by
  refine (sameLists_any p q c d v v w hx hy).mono ?_
  rintro e w' ⟨he, hw⟩
  exact ⟨by rw [he]; simp [sameLB], hw⟩

set_option maxHeartbeats 4000000 in
set_option maxRecDepth 100000 in
theorem finds_walk (p : Option Addr) (c : Nat) (v : List (List Int)) (w : World) (hx : Mat w p c v) :
    Calls Try.prog 3 #[.slice p v.length c] w fun e w' => e = .returned (.bool true) ∧ Below w.heap.size w w' := by
  by_cases hG : GreatP v
  · have hg : greatB v = true := by simp [greatB, hG]
    go_enter Try.func3, Try.ntmps3
    go_wp2_with fail
    refine (great_any p c v w hx).mono ?_
    rintro e w' ⟨rfl, rfl⟩
    go_wp2_with fail
    go_ret
    exact ⟨rfl, Below.refl _ _⟩
  · have hg : greatB v = false := by simp [greatB, hG]
    have h20 : v.length ≤ 20 := by
      have : ¬ 20 < v.length := fun h => hG (.inr (.inr h))
      omega
    have hrows : ∀ j, j < v.length → (rget v j).length ≤ 900000 := fun j hj => by
      have : ¬ 50 < (rget v j).length := fun h => hG (.inl ⟨j, hj, by omega, h⟩)
      omega
    have Hrows := Lib.hid hrows
    clear hG hrows
    go_enter Try.func3, Try.ntmps3
    go_wp2_with fail
    refine (great_any p c v w hx).mono ?_
    rintro e w' ⟨rfl, rfl⟩
    go_wp2_with fail
    refine (twin_any p c v w' hx (by omega) Hrows.out).mono ?_
    rintro e w1 ⟨p1, c1, Q, D, rfl, hD, hb1⟩
    have hM := hD.mat
    clear hD
    -- Best
    go_wp2_with fail
    refine (bestTop_any p1 c1 v w1 hM).mono ?_
    rintro e w2 ⟨pa, ca, rfl, hOa, hb2⟩
    have hx2 := (hx.below hb1 (Nat.le_refl _)).below hb2 (Nat.le_refl _)
    have hM2 := hM.below hb2 (Nat.le_refl _)
    have hI1 := hOa.ints
    have hB2 := hb1.trans (hb2.mono hb1.size)
    clear hOa
    go_wp2_with fail
    refine (refBest_any p c v w2 hx2).mono ?_
    rintro e w3 ⟨pb, cb, rfl, hOb, hb3⟩
    have hx3 := hx2.below hb3 (Nat.le_refl _)
    have hM3 := hM2.below hb3 (Nat.le_refl _)
    have hI1 := hI1.below hb3 (Nat.le_refl _)
    have hI2 := hOb.ints
    have hB3 := hB2.trans (hb3.mono hB2.size)
    clear hOb hx2 hM2
    -- Prices
    go_wp2_with fail
    refine (prices_any p1 c1 v w3 hM3).mono ?_
    rintro e w4 ⟨pc, cc, rfl, hOc, hb4⟩
    have hx4 := hx3.below hb4 (Nat.le_refl _)
    have hM4 := hM3.below hb4 (Nat.le_refl _)
    have hI1 := hI1.below hb4 (Nat.le_refl _)
    have hI2 := hI2.below hb4 (Nat.le_refl _)
    have hI3 := hOc.ints
    have hB4 := hB3.trans (hb4.mono hB3.size)
    clear hOc hx3 hM3
    go_wp2_with fail
    refine (refPrices_any p c v w4 hx4).mono ?_
    rintro e w5 ⟨pd, cd, rfl, hOd, hb5⟩
    have hx5 := hx4.below hb5 (Nat.le_refl _)
    have hM5 := hM4.below hb5 (Nat.le_refl _)
    have hI1 := hI1.below hb5 (Nat.le_refl _)
    have hI2 := hI2.below hb5 (Nat.le_refl _)
    have hI3 := hI3.below hb5 (Nat.le_refl _)
    have hI4 := hOd.ints
    have hB5 := hB4.trans (hb5.mono hB4.size)
    clear hOd hx4 hM4
    -- Harm
    go_wp2_with fail
    refine (harm_any p1 c1 v w5 hM5).mono ?_
    rintro e w6 ⟨pe, ce, rfl, hOe, hb6⟩
    have hx6 := hx5.below hb6 (Nat.le_refl _)
    have hM6 := hM5.below hb6 (Nat.le_refl _)
    have hI1 := hI1.below hb6 (Nat.le_refl _)
    have hI2 := hI2.below hb6 (Nat.le_refl _)
    have hI3 := hI3.below hb6 (Nat.le_refl _)
    have hI4 := hI4.below hb6 (Nat.le_refl _)
    have hI5 := hOe.ints
    have hB6 := hB5.trans (hb6.mono hB5.size)
    clear hOe hx5 hM5
    go_wp2_with fail
    refine (refHarm_any p c v w6 hx6).mono ?_
    rintro e w7 ⟨pf, cf, rfl, hOf, hb7⟩
    have hx7 := hx6.below hb7 (Nat.le_refl _)
    have hM7 := hM6.below hb7 (Nat.le_refl _)
    have hI1 := hI1.below hb7 (Nat.le_refl _)
    have hI2 := hI2.below hb7 (Nat.le_refl _)
    have hI3 := hI3.below hb7 (Nat.le_refl _)
    have hI4 := hI4.below hb7 (Nat.le_refl _)
    have hI5 := hI5.below hb7 (Nat.le_refl _)
    have hI6 := hOf.ints
    have hB7 := hB6.trans (hb7.mono hB6.size)
    clear hOf hx6 hM6 hb1 hb2 hb3 hb4 hb5 hb6 hb7 hB2 hB3 hB4 hB5 hB6 hM hx
    -- the comparison
    go_wp2_with fail
    refine (check_any p1 c1 v w7 hM7).mono ?_
    rintro e w8 ⟨rfl, rfl⟩
    go_wp2_with fail
    refine (refCheck_any p c v _ hx7).mono ?_
    rintro e w9 ⟨rfl, rfl⟩
    go_wp2_with fail
    refine (same_true hI1 hI2).mono ?_
    rintro e wa ⟨rfl, hw1⟩
    have hI3 := hI3.drew hw1
    have hI4 := hI4.drew hw1
    go_wp2_with fail
    refine (same_true hI3 hI4).mono ?_
    rintro e wb ⟨rfl, hw2⟩
    have hw3 := drew_trans hw1 hw2
    have hI5 := hI5.drew hw3
    have hI6 := hI6.drew hw3
    go_wp2_with fail
    refine (same_true hI5 hI6).mono ?_
    rintro e wc ⟨rfl, hw4⟩
    have hw5 := drew_trans hw3 hw4
    have hM8 := hM7.drew hw5
    have hx8 := hx7.drew hw5
    go_wp2_with fail
    refine (sameLists_true hM8 hx8).mono ?_
    rintro e wd ⟨rfl, hw6⟩
    have hB8 := hB7.drewP (drew_trans hw5 hw6)
    go_wp2_with fail
    go_ret
    exact ⟨rfl, hB8⟩
end Go.Proofs.Ytjjbeccimeehfaa
