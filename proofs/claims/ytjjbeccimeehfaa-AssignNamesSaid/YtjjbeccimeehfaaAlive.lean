/- The walk of alive: the chapter's examples hold; no condition. -/
import Derived.Test.YtjjbeccimeehfaaLit
import Derived.Test.YtjjbeccimeehfaaAsksB
import Derived.Test.YtjjbeccimeehfaaHarm
namespace Go.Proofs.Ytjjbeccimeehfaa
open Go.ChangeShapes Go.WideShapes Go.ChangeAt Go.RowKit Go.Deep
set_option linter.unusedVariables false
set_option linter.unusedSimpArgs false

def GV : List (List Int) := [[5, 3], [4, 1]]
def EV : List (List Int) := [[1, 1], [1, 1]]
theorem gv_bids : Bids GV := by decide +kernel
theorem ev_bids : Bids EV := by decide +kernel
theorem gv_best : IsBest GV [1, 0] := isBest_of_chk (by decide +kernel)
theorem ev_best : IsBest EV [0, 1] := isBest_of_chk (by decide +kernel)
theorem gv_bestL : bestL GV = [1, 0] := by unfold bestL; rw [if_pos gv_bids, bestA_eq gv_best]
theorem ev_bestL : bestL EV = [0, 1] := by unfold bestL; rw [if_pos ev_bids, bestA_eq ev_best]
theorem gv_bestN : bestN GV = 7 := by unfold bestN; rw [if_pos gv_bids, bestA_eq gv_best]; decide +kernel
theorem ev_bestN : bestN EV = 2 := by unfold bestN; rw [if_pos ev_bids, bestA_eq ev_best]; decide +kernel
theorem gv_priceL : priceL GV = [2, 0] := by unfold priceL; rw [if_pos gv_bids, bestA_eq gv_best, ← bfR_least gv_best gv_bids.1]; decide +kernel
theorem ev_priceL : priceL EV = [0, 0] := by unfold priceL; rw [if_pos ev_bids, bestA_eq ev_best, ← bfR_least ev_best ev_bids.1]; decide +kernel
theorem gv_harmL : harmL GV = [0, 2] := by
  have h0 : IsBest (zeroed GV 0) [1, 0] := isBest_of_chk (by decide +kernel)
  have h1 : IsBest (zeroed GV 1) [0, 1] := isBest_of_chk (by decide +kernel)
  unfold harmL
  rw [if_pos gv_bids]
  show [harmN GV (bestA GV) 0, harmN GV (bestA GV) 1] = _
  unfold harmN
  rw [bestA_eq h0, bestA_eq h1, bestA_eq gv_best]
  decide +kernel
theorem gv_chk : chkI GV = 0 := by decide +kernel
theorem ev_chk : chkI EV = 0 := by decide +kernel

theorem two_in64 {a b : Int} (ha : 0 ≤ a ∧ a ≤ 100) (hb : 0 ≤ b ∧ b ≤ 100) : ∀ x ∈ [a, b], in64 x := by
  intro x hx
  simp at hx
  rcases hx with rfl | rfl
  · exact ⟨by omega, by omega⟩
  · exact ⟨by omega, by omega⟩
theorem ints2 (w : World) (a b : Int) (ha : 0 ≤ a ∧ a ≤ 100) (hb : 0 ≤ b ∧ b ≤ 100) : Ints (w.alloc (.cells #[.int .i64 a, .int .i64 b] 3)) (some ⟨w.heap.size, 0, none⟩) 2 [a, b] :=
  Ints.lit w [a, b] (by simp) (two_in64 ha hb)
theorem mat2 (w : World) (p q : Option Addr) (c d : Nat) (xs ys : List Int) (hx : Ints w p c xs) (hy : Ints w q d ys) :
    Mat (w.alloc (.cells #[.slice p xs.length c, .slice q ys.length d] 25)) (some ⟨w.heap.size, 0, none⟩) 2 [xs, ys] :=
  Mat.lit w [(p, c, xs), (q, d, ys)] (by simp) (fun r hr => by
    simp at hr
    rcases hr with rfl | rfl
    · exact hx
    · exact hy)
/-- Two rows of two numbers, laid one after the other. -/
theorem mat22 (w : World) (a b c d : Int) (ha : 0 ≤ a ∧ a ≤ 100) (hb : 0 ≤ b ∧ b ≤ 100) (hc : 0 ≤ c ∧ c ≤ 100) (hd : 0 ≤ d ∧ d ≤ 100) :
    Mat (((w.alloc (.cells #[.int .i64 a, .int .i64 b] 3)).alloc (.cells #[.int .i64 c, .int .i64 d] 3)).alloc (.cells #[.slice (some ⟨w.heap.size, 0, none⟩) 2 2, .slice (some ⟨w.heap.size + 1, 0, none⟩) 2 2] 25))
      (some ⟨w.heap.size + 2, 0, none⟩) 2 [[a, b], [c, d]] := by
  have h1 := ints2 w a b ha hb
  have h2 := ints2 (w.alloc (.cells #[.int .i64 a, .int .i64 b] 3)) c d hc hd
  have hB : Below (w.heap.size + 1) (w.alloc (.cells #[.int .i64 a, .int .i64 b] 3)) ((w.alloc (.cells #[.int .i64 a, .int .i64 b] 3)).alloc (.cells #[.int .i64 c, .int .i64 d] 3)) := (Below.refl _ _).alloc (by simp) _
  have h3 := mat2 _ _ _ 2 2 [a, b] [c, d] (h1.below hB (by simp)) h2
  simpa using h3

theorem given_any (w : World) : Calls Try.prog 31 #[] w fun e w' => ∃ p c, e = .returned (.slice p 2 c) ∧ Mat w' p c GV ∧ Below w.heap.size w w' := by
  go_enter Try.func31, Try.ntmps31
  go_wp2
  go_ret
  exact ⟨_, _, rfl, mat22 w 5 3 4 1 (by omega) (by omega) (by omega) (by omega), (((Below.refl _ w).alloc (by simp) _).alloc (by simp) _).alloc (by simp; omega) _⟩
theorem equal_any (w : World) : Calls Try.prog 41 #[] w fun e w' => ∃ p c, e = .returned (.slice p 2 c) ∧ Mat w' p c EV ∧ Below w.heap.size w w' := by
  go_enter Try.func41, Try.ntmps41
  go_wp2
  go_ret
  exact ⟨_, _, rfl, mat22 w 1 1 1 1 (by omega) (by omega) (by omega) (by omega), (((Below.refl _ w).alloc (by simp) _).alloc (by simp) _).alloc (by simp; omega) _⟩

/-- What the examples' calls hand back: a list, two numbers. -/
def Out3 (w : World) (xs : List Int) (k m : Int) (e : Ending) (w' : World) : Prop := ∃ p c, e = .returned (.tuple #[.slice p 2 c, .int .i64 k, .int .i64 m]) ∧ Ints w' p c xs ∧ Below w.heap.size w w'
def Out2 (w : World) (xs : List Int) (m : Int) (e : Ending) (w' : World) : Prop := ∃ p c, e = .returned (.tuple #[.slice p 2 c, .int .i64 m]) ∧ Ints w' p c xs ∧ Below w.heap.size w w'

theorem best_gv (p : Option Addr) (c : Nat) (w : World) (hx : Mat w p c GV) : Calls Try.prog 12 #[.slice p 2 c] w (Out3 w [1, 0] 7 0) := by
  refine (bestTop_any p c GV w hx).mono ?_
  rintro e w' ⟨q, d, rfl, hO, hb⟩
  rw [gv_bestL] at hO
  exact ⟨q, d, by rw [gv_bestL, gv_bestN, gv_chk]; rfl, hO.ints, hb⟩
theorem best_ev (p : Option Addr) (c : Nat) (w : World) (hx : Mat w p c EV) : Calls Try.prog 12 #[.slice p 2 c] w (Out3 w [0, 1] 2 0) := by
  refine (bestTop_any p c EV w hx).mono ?_
  rintro e w' ⟨q, d, rfl, hO, hb⟩
  rw [ev_bestL] at hO
  exact ⟨q, d, by rw [ev_bestL, ev_bestN, ev_chk]; rfl, hO.ints, hb⟩
theorem prices_gv (p : Option Addr) (c : Nat) (w : World) (hx : Mat w p c GV) : Calls Try.prog 14 #[.slice p 2 c] w (Out2 w [2, 0] 0) := by
  refine (prices_any p c GV w hx).mono ?_
  rintro e w' ⟨q, d, rfl, hO, hb⟩
  rw [gv_priceL] at hO
  exact ⟨q, d, by rw [gv_priceL, gv_chk]; rfl, hO.ints, hb⟩
theorem prices_ev (p : Option Addr) (c : Nat) (w : World) (hx : Mat w p c EV) : Calls Try.prog 14 #[.slice p 2 c] w (Out2 w [0, 0] 0) := by
  refine (prices_any p c EV w hx).mono ?_
  rintro e w' ⟨q, d, rfl, hO, hb⟩
  rw [ev_priceL] at hO
  exact ⟨q, d, by rw [ev_priceL, ev_chk]; rfl, hO.ints, hb⟩
theorem harm_gv (p : Option Addr) (c : Nat) (w : World) (hx : Mat w p c GV) : Calls Try.prog 16 #[.slice p 2 c] w (Out2 w [0, 2] 0) := by
  refine (harm_any p c GV w hx).mono ?_
  rintro e w' ⟨q, d, rfl, hO, hb⟩
  rw [gv_harmL] at hO
  exact ⟨q, d, by rw [gv_harmL, gv_chk]; rfl, hO.ints, hb⟩
theorem proves_gv (p q r : Option Addr) (c d f : Nat) (x : Int) (b : Bool) (hb : prvB GV [1, 0] [x, 0] = b) (he : prvE GV [1, 0] [x, 0] = 0) (w : World) (hx : Mat w p c GV) (hy : Ints w q d [1, 0]) (hz : Ints w r f [x, 0]) :
    Calls Try.prog 24 #[.slice p 2 c, .slice q 2 d, .slice r 2 f] w fun e w' => e = .returned (.tuple #[.bool b, .int .i64 0]) ∧ Below w.heap.size w w' := by
  refine (proves_any p q r c d f GV [1, 0] [x, 0] w hx hy hz (by simp)).mono ?_
  rintro e w' ⟨rfl, hb'⟩
  exact ⟨by rw [hb, he], hb'⟩
theorem same2 (p q : Option Addr) (c d : Nat) (xs ys : List Int) (h1 : xs.length = 2) (hxy : xs = ys) (w : World) (hx : Ints w p c xs) (hy : Ints w q d ys) :
    Calls Try.prog 20 #[.slice p 2 c, .slice q 2 d] w fun e w' => e = .returned (.bool true) ∧ ∃ n, w' = w.drewN n := by
  subst hxy
  have := same_any p q c d xs xs w hx hy
  rw [h1] at this
  refine this.mono ?_
  rintro e w' ⟨he, hw⟩
  exact ⟨by rw [he, sameB_true rfl], hw⟩

set_option maxHeartbeats 4000000 in
set_option maxRecDepth 100000 in
theorem alive_any (w : World) : Calls Try.prog 26 #[] w fun e w' => e = .returned (.bool true) ∧ Below w.heap.size w w' := by
  go_enter Try.func26, Try.ntmps26
  go_wp2_with fail
  refine (given_any w).mono ?_
  rintro e w1 ⟨p1, c1, rfl, hM, hB1⟩
  go_wp2_with fail
  refine (best_gv _ _ w1 hM).mono ?_
  rintro e w2 ⟨pa, ca, rfl, hA, hb⟩
  have hB2 := hB1.trans (hb.mono hB1.size)
  clear hM hb
  go_wp2_with fail
  refine (given_any w2).mono ?_
  rintro e w3 ⟨p3, c3, rfl, hM, hb⟩
  have hA3 := hA.below hb (Nat.le_refl _)
  have hB3 := hB2.trans (hb.mono hB2.size)
  clear hb hA hB1 hB2
  go_wp2_with fail
  refine (prices_gv _ _ w3 hM).mono ?_
  rintro e w4 ⟨pp, cp, rfl, hP, hb⟩
  have hA4 := hA3.below hb (Nat.le_refl _)
  have hB4 := hB3.trans (hb.mono hB3.size)
  clear hb hA3 hB3 hM
  go_wp2_with fail
  refine (given_any w4).mono ?_
  rintro e w5 ⟨p5, c5, rfl, hM, hb⟩
  have hA5 := hA4.below hb (Nat.le_refl _)
  have hP5 := hP.below hb (Nat.le_refl _)
  have hB5 := hB4.trans (hb.mono hB4.size)
  clear hb hA4 hP hB4
  go_wp2_with fail
  refine (harm_gv _ _ w5 hM).mono ?_
  rintro e w6 ⟨ph, ch, rfl, hH, hb⟩
  have hA6 := hA5.below hb (Nat.le_refl _)
  have hP6 := hP5.below hb (Nat.le_refl _)
  have hB6 := hB5.trans (hb.mono hB5.size)
  clear hb hA5 hP5 hB5 hM
  go_wp2_with fail
  refine (given_any w6).mono ?_
  rintro e w7 ⟨p7, c7, rfl, hM, hb⟩
  have hA7 := hA6.below hb (Nat.le_refl _)
  have hP7 := hP6.below hb (Nat.le_refl _)
  have hH7 := hH.below hb (Nat.le_refl _)
  have hB7 := hB6.trans (hb.mono hB6.size)
  clear hb hA6 hP6 hH hB6
  have hs1 : Below w7.heap.size w7 (w7.alloc (.cells #[.int .i64 1, .int .i64 0] 3)) := (Below.refl _ w7).alloc (Nat.le_refl _) _
  have hs2 : Below w7.heap.size w7 ((w7.alloc (.cells #[.int .i64 1, .int .i64 0] 3)).alloc (.cells #[.int .i64 3, .int .i64 0] 3)) := hs1.alloc (by simp) _
  have hI1 := (ints2 w7 1 0 (by omega) (by omega)).below (w' := (w7.alloc (.cells #[.int .i64 1, .int .i64 0] 3)).alloc (.cells #[.int .i64 3, .int .i64 0] 3)) ((Below.refl _ _).alloc (Nat.le_refl _) _) (Nat.le_refl _)
  have hI2 := ints2 (w7.alloc (.cells #[.int .i64 1, .int .i64 0] 3)) 3 0 (by omega) (by omega)
  have hM2 := hM.below hs2 (Nat.le_refl _)
  simp only [World.size_alloc] at hI2
  go_wp2_with fail
  refine (proves_gv _ _ _ _ _ _ 3 true (by decide +kernel) (by decide +kernel) _ hM2 hI1 hI2).mono ?_
  rintro e w8 ⟨rfl, hb'⟩
  have hb := hs2.trans (hb'.mono hs2.size)
  clear hs1 hs2 hI1 hI2 hM2 hb' hM
  have hA8 := hA7.below hb (Nat.le_refl _)
  have hP8 := hP7.below hb (Nat.le_refl _)
  have hH8 := hH7.below hb (Nat.le_refl _)
  have hB8 := hB7.trans (hb.mono hB7.size)
  clear hb hA7 hP7 hH7 hB7
  go_wp2_with fail
  refine (given_any w8).mono ?_
  rintro e w9 ⟨p9, c9, rfl, hM, hb⟩
  have hA9 := hA8.below hb (Nat.le_refl _)
  have hP9 := hP8.below hb (Nat.le_refl _)
  have hH9 := hH8.below hb (Nat.le_refl _)
  have hB9 := hB8.trans (hb.mono hB8.size)
  clear hb hA8 hP8 hH8 hB8
  have hs1 : Below w9.heap.size w9 (w9.alloc (.cells #[.int .i64 1, .int .i64 0] 3)) := (Below.refl _ w9).alloc (Nat.le_refl _) _
  have hs2 : Below w9.heap.size w9 ((w9.alloc (.cells #[.int .i64 1, .int .i64 0] 3)).alloc (.cells #[.int .i64 4, .int .i64 0] 3)) := hs1.alloc (by simp) _
  have hI1 := (ints2 w9 1 0 (by omega) (by omega)).below (w' := (w9.alloc (.cells #[.int .i64 1, .int .i64 0] 3)).alloc (.cells #[.int .i64 4, .int .i64 0] 3)) ((Below.refl _ _).alloc (Nat.le_refl _) _) (Nat.le_refl _)
  have hI2 := ints2 (w9.alloc (.cells #[.int .i64 1, .int .i64 0] 3)) 4 0 (by omega) (by omega)
  have hM2 := hM.below hs2 (Nat.le_refl _)
  simp only [World.size_alloc] at hI2
  go_wp2_with fail
  refine (proves_gv _ _ _ _ _ _ 4 false (by decide +kernel) (by decide +kernel) _ hM2 hI1 hI2).mono ?_
  rintro e wa ⟨rfl, hb'⟩
  have hb := hs2.trans (hb'.mono hs2.size)
  clear hs1 hs2 hI1 hI2 hM2 hb' hM
  have hA10 := hA9.below hb (Nat.le_refl _)
  have hP10 := hP9.below hb (Nat.le_refl _)
  have hH10 := hH9.below hb (Nat.le_refl _)
  have hB10 := hB9.trans (hb.mono hB9.size)
  clear hb hA9 hP9 hH9 hB9
  go_wp2_with fail
  refine (equal_any wa).mono ?_
  rintro e wb ⟨p11, c11, rfl, hM, hb⟩
  have hA11 := hA10.below hb (Nat.le_refl _)
  have hP11 := hP10.below hb (Nat.le_refl _)
  have hH11 := hH10.below hb (Nat.le_refl _)
  have hB11 := hB10.trans (hb.mono hB10.size)
  clear hb hA10 hP10 hH10 hB10
  go_wp2_with fail
  refine (best_ev _ _ wb hM).mono ?_
  rintro e wc ⟨pe, ce, rfl, hE, hb⟩
  have hA12 := hA11.below hb (Nat.le_refl _)
  have hP12 := hP11.below hb (Nat.le_refl _)
  have hH12 := hH11.below hb (Nat.le_refl _)
  have hB12 := hB11.trans (hb.mono hB11.size)
  clear hb hA11 hP11 hH11 hB11 hM
  go_wp2_with fail
  refine (equal_any wc).mono ?_
  rintro e wd ⟨p13, c13, rfl, hM, hb⟩
  have hA13 := hA12.below hb (Nat.le_refl _)
  have hP13 := hP12.below hb (Nat.le_refl _)
  have hH13 := hH12.below hb (Nat.le_refl _)
  have hE13 := hE.below hb (Nat.le_refl _)
  have hB13 := hB12.trans (hb.mono hB12.size)
  clear hb hA12 hP12 hH12 hB12 hE
  go_wp2_with fail
  refine (prices_ev _ _ wd hM).mono ?_
  rintro e we ⟨pq, cq, rfl, hQ, hb⟩
  have hA := hA13.below hb (Nat.le_refl _)
  have hP := hP13.below hb (Nat.le_refl _)
  have hH := hH13.below hb (Nat.le_refl _)
  have hE := hE13.below hb (Nat.le_refl _)
  have hB := hB13.trans (hb.mono hB13.size)
  clear hb hA13 hP13 hH13 hB13 hE13 hM
  have hs1 : Below we.heap.size we (we.alloc (.cells #[.int .i64 1, .int .i64 0] 3)) := (Below.refl _ we).alloc (Nat.le_refl _) _
  have hI1 := ints2 we 1 0 (by omega) (by omega)
  have hI2 := hA.below hs1 (Nat.le_refl _)
  go_wp2_with fail
  refine (same2 _ _ _ _ _ _ rfl rfl _ hI2 hI1).mono ?_
  rintro e x1 ⟨rfl, hw⟩
  have hb := hs1.drewP hw
  have hP := hP.below hb (Nat.le_refl _)
  have hH := hH.below hb (Nat.le_refl _)
  have hE := hE.below hb (Nat.le_refl _)
  have hQ := hQ.below hb (Nat.le_refl _)
  have hB := hB.trans (hb.mono hB.size)
  clear hs1 hI1 hI2 hb hw
  have hs1 : Below x1.heap.size x1 (x1.alloc (.cells #[.int .i64 2, .int .i64 0] 3)) := (Below.refl _ x1).alloc (Nat.le_refl _) _
  have hI1 := ints2 x1 2 0 (by omega) (by omega)
  have hI2 := hP.below hs1 (Nat.le_refl _)
  go_wp2_with fail
  refine (same2 _ _ _ _ _ _ rfl rfl _ hI2 hI1).mono ?_
  rintro e x2 ⟨rfl, hw⟩
  have hb := hs1.drewP hw
  have hH := hH.below hb (Nat.le_refl _)
  have hE := hE.below hb (Nat.le_refl _)
  have hQ := hQ.below hb (Nat.le_refl _)
  have hB := hB.trans (hb.mono hB.size)
  clear hs1 hI1 hI2 hb hw
  have hs1 : Below x2.heap.size x2 (x2.alloc (.cells #[.int .i64 0, .int .i64 2] 3)) := (Below.refl _ x2).alloc (Nat.le_refl _) _
  have hI1 := ints2 x2 0 2 (by omega) (by omega)
  have hI2 := hH.below hs1 (Nat.le_refl _)
  go_wp2_with fail
  refine (same2 _ _ _ _ _ _ rfl rfl _ hI2 hI1).mono ?_
  rintro e x3 ⟨rfl, hw⟩
  have hb := hs1.drewP hw
  have hE := hE.below hb (Nat.le_refl _)
  have hQ := hQ.below hb (Nat.le_refl _)
  have hB := hB.trans (hb.mono hB.size)
  clear hs1 hI1 hI2 hb hw
  have hs1 : Below x3.heap.size x3 (x3.alloc (.cells #[.int .i64 0, .int .i64 1] 3)) := (Below.refl _ x3).alloc (Nat.le_refl _) _
  have hI1 := ints2 x3 0 1 (by omega) (by omega)
  have hI2 := hE.below hs1 (Nat.le_refl _)
  go_wp2_with fail
  refine (same2 _ _ _ _ _ _ rfl rfl _ hI2 hI1).mono ?_
  rintro e x4 ⟨rfl, hw⟩
  have hb := hs1.drewP hw
  have hQ := hQ.below hb (Nat.le_refl _)
  have hB := hB.trans (hb.mono hB.size)
  clear hs1 hI1 hI2 hb hw
  have hs1 : Below x4.heap.size x4 (x4.alloc (.cells #[.int .i64 0, .int .i64 0] 3)) := (Below.refl _ x4).alloc (Nat.le_refl _) _
  have hI1 := ints2 x4 0 0 (by omega) (by omega)
  have hI2 := hQ.below hs1 (Nat.le_refl _)
  go_wp2_with fail
  refine (same2 _ _ _ _ _ _ rfl rfl _ hI2 hI1).mono ?_
  rintro e x5 ⟨rfl, hw⟩
  have hb := hs1.drewP hw
  have hB := hB.trans (hb.mono hB.size)
  clear hs1 hI1 hI2 hb hw
  go_wp2_with fail
  go_ret
  exact ⟨rfl, hB⟩
end Go.Proofs.Ytjjbeccimeehfaa
