/- The walk of the reference's Favourite, for valid chores and allocations. -/
import Derived.Test.YtiohehofnlmenaaLeast
import Derived.Test.YtiohehofnlmenaaGoodsX
import Derived.Deep.RegionHeld3
namespace Go.Proofs.Ytiohehofnlmenaa
set_option linter.unusedVariables false
set_option linter.unusedSimpArgs false
open Go.ChangeShapes Go.WideShapes Go.ChangeAt Go.RowKit Go.Deep

def allP (_ : Nat) : Bool := true
/-- Whose bundle is best for i, the first of several. -/
def favI (v : List (List Int)) (a : List Int) (i : Nat) : Int := leastTo (worthRow v a i) allP v.length
theorem leastTo_one {xs : List Int} : leastTo xs allP 1 = 0 := by simp [leastTo, allP]
theorem leastTo_nonneg {xs : List Int} : ∀ k, 1 ≤ k → 0 ≤ leastTo xs allP k
  | k + 1, _ => by
    by_cases h : k = 0
    · subst h; rw [leastTo_one]; omega
    · have := leastTo_nonneg (xs := xs) k (by omega)
      rw [leastTo]; split <;> omega
theorem leastTo_step {xs : List Int} {k m : Nat} (hm : leastTo xs allP k = (m : Int)) : leastTo xs allP (k + 1) = if iget xs k < iget xs m then (k : Int) else (m : Int) := by
  rw [leastTo, hm, Int.toNat_natCast]
  by_cases h : iget xs k < iget xs m
  · rw [if_pos ⟨rfl, .inr h⟩, if_pos h]
  · rw [if_neg (by rintro ⟨_, h1 | h1⟩; omega; exact h h1), if_neg h]

set_option maxHeartbeats 4000000 in
set_option maxRecDepth 100000 in
theorem favourite_any (p : Option Addr) (c : Nat) (v : List (List Int)) (q : Option Addr) (d : Nat) (a : List Int) (i : Nat) (w : World) (hx : Mat w p c v) (hi : Ints w q d a) (hg : Gds v) (ha : AlcOk v a) (hiv : i < v.length) :
    Calls Try.prog 65 #[.agg #[.slice p v.length c], .slice q a.length d, .int .i64 i] w fun e w' => e = .returned (.int .i64 (favI v a i)) ∧ Below w.heap.size w w' := by
  obtain ⟨W0, hW0⟩ : ∃ W0, w.alloc (.cells #[.slice p v.length c] 24) = W0 := ⟨_, rfl⟩
  have hB : Below w.heap.size w W0 := below_alloc hW0
  have bX : BoxV W0 w.heap.size [.slice p v.length c] := BoxV.new rfl hW0
  have hx := hx.below hB (Nat.le_refl _)
  have hi := hi.below hB (Nat.le_refl _)
  have x0 := bX.cell 0 _ rfl
  have HW0 := Lib.hid hW0
  clear hW0
  have hl1 := hx.length_le
  have hl2 := hi.length_le
  have hn1 := hg.1
  have CW := Lib.hid (fun (y : Int) W hX hI => worth_any p c v q d a i y W hX hI hg ha hiv)
  have Hrow := Lib.hid (fun k (h : k < v.length) => (worthRow_get (v := v) (a := a) (i := i) h))
  have H1 := Lib.hid (leastTo_one (xs := worthRow v a i))
  have Hst := Lib.hid (fun k m h => leastTo_step (xs := worthRow v a i) (k := k) (m := m) h)
  have Hnn := Lib.hid (fun k h => leastTo_nonneg (xs := worthRow v a i) k h)
  have Hrg := Lib.hid (fun k => leastTo_range (worthRow v a i) allP k)
  have HF : Hid (favI v a i = leastTo (worthRow v a i) allP v.length) := rfl
  clear hg ha
  go_enter Try.func65, Try.ntmps65
  go_wp2_with fail
  rw [HW0.out]
  go_loopw [7, 8] (fun s t wr => ∃ k : Nat, 1 ≤ k ∧ k ≤ v.length ∧ t = .int .i64 k ∧ s = .int .i64 (leastTo (worthRow v a i) allP k) ∧ Below W0.heap.size W0 wr) (fun _ t _ => v.length - (intOf t).toNat)
  case atStart => exact ⟨1, Nat.le_refl _, hn1, rfl, by rw [H1.out], Below.refl _ _⟩
  case round =>
    clear x0
    obtain ⟨k, hk0, hk, rfl, rfl, hbr⟩ := hrel
    have bXr := bX.below hbr
    have x0 := bXr.cell 0 _ rfl
    by_cases hlt : k < v.length
    · have hk1 : (k : Int) < v.length := by omega
      have hxr := hx.below hbr (Nat.le_refl _)
      have hir := hi.below hbr (Nat.le_refl _)
      obtain ⟨m, em⟩ : ∃ m : Nat, leastTo (worthRow v a i) allP k = m := ⟨(leastTo (worthRow v a i) allP k).toNat, by have := Hnn.out k hk0; omega⟩
      have hmv : m < v.length := by have := (Hrg.out k).2; omega
      have hS := Hst.out k m em
      rw [Hrow.out k hlt, Hrow.out m hmv] at hS
      rw [em]
      have C1 := Lib.hid (fun W (h : Below wr.heap.size wr W) => CW.out (k : Int) W (hxr.below h (Nat.le_refl _)) (hir.below h (Nat.le_refl _)))
      have C2 := Lib.hid (fun W (h : Below wr.heap.size wr W) => CW.out (m : Int) W (hxr.below h (Nat.le_refl _)) (hir.below h (Nat.le_refl _)))
      have HS := Lib.hid hS
      have hlX := bXr.lt
      have Hmk : Hid (∀ W, Below wr.heap.size wr W → (W.cell? ⟨w.heap.size, 0, none⟩ = some (Value.slice p v.length c) ∧ Below wr.heap.size wr W)) := fun W hG => ⟨(hG.cell (p := ⟨w.heap.size, 0, none⟩) hlX).trans x0, hG⟩
      obtain ⟨Y, eY⟩ : ∃ y, worth v a i (k : Int) = y := ⟨_, rfl⟩
      obtain ⟨Z, eZ⟩ : ∃ y, worth v a i (m : Int) = y := ⟨_, rfl⟩
      rw [eY] at C1 HS
      rw [eZ] at C2 HS
      clear hS em eY eZ hxr hir
      cases hd : decide (Y < Z) with
      | true =>
        have HR : Hid (leastTo (worthRow v a i) allP (k + 1) = k) := by unfold Hid; rw [HS.out, if_pos (of_decide_eq_true hd)]
        go_wp2_with fail
        go_region_held3 (fun W => W.cell? ⟨w.heap.size, 0, none⟩ = some (Value.slice p v.length c) ∧ Below wr.heap.size wr W)
          (first | assumption | exact Hmk.out _ hG | exact Hmk.out _ (below_drewN wr.heap.size wr 1) | exact Hmk.out _ (Below.refl _ _))
          (first
            | (go_at_call_of 42 (Value.int .i64 (k : Int)); refine (C1.out _ (by go_split_ands; assumption)).mono ?_; rintro e wC ⟨rfl, hbC⟩; have hG : Below wr.heap.size wr wC := Below.trans (by go_split_ands; assumption) (hbC.mono (Below.size (B := wr.heap.size) (w := wr) (by go_split_ands; assumption))))
            | (go_at_call_of 42 (Value.int .i64 (m : Int)); refine (C2.out _ (by go_split_ands; assumption)).mono ?_; rintro e wC ⟨rfl, hbC⟩; have hG : Below wr.heap.size wr wC := Below.trans (by go_split_ands; assumption) (hbC.mono (Below.size (B := wr.heap.size) (w := wr) (by go_split_ands; assumption)))))
        go_wp2_with fail
        go_roundw
        case rel => exact ⟨k + 1, by omega, by omega, by go_num, by rw [HR.out], hbr.trans (hG.mono hbr.size)⟩
        case measure => (simp [intOf] <;> omega)
      | false =>
        have HR : Hid (leastTo (worthRow v a i) allP (k + 1) = m) := by unfold Hid; rw [HS.out, if_neg (of_decide_eq_false hd)]
        go_wp2_with fail
        go_region_held3 (fun W => W.cell? ⟨w.heap.size, 0, none⟩ = some (Value.slice p v.length c) ∧ Below wr.heap.size wr W)
          (first | assumption | exact Hmk.out _ hG | exact Hmk.out _ (below_drewN wr.heap.size wr 1) | exact Hmk.out _ (Below.refl _ _))
          (first
            | (go_at_call_of 42 (Value.int .i64 (k : Int)); refine (C1.out _ (by go_split_ands; assumption)).mono ?_; rintro e wC ⟨rfl, hbC⟩; have hG : Below wr.heap.size wr wC := Below.trans (by go_split_ands; assumption) (hbC.mono (Below.size (B := wr.heap.size) (w := wr) (by go_split_ands; assumption))))
            | (go_at_call_of 42 (Value.int .i64 (m : Int)); refine (C2.out _ (by go_split_ands; assumption)).mono ?_; rintro e wC ⟨rfl, hbC⟩; have hG : Below wr.heap.size wr wC := Below.trans (by go_split_ands; assumption) (hbC.mono (Below.size (B := wr.heap.size) (w := wr) (by go_split_ands; assumption)))))
        go_wp2_with fail
        go_roundw
        case rel => exact ⟨k + 1, by omega, by omega, by go_num, by rw [HR.out], hbr.trans (hG.mono hbr.size)⟩
        case measure => (simp [intOf] <;> omega)
    · have hk1 : ¬ (k : Int) < v.length := by omega
      obtain rfl : k = v.length := by omega
      go_wp2_with fail
      go_ret
      exact ⟨ret_int HF.out.symm, hB.trans (hbr.mono hB.size)⟩
end Go.Proofs.Ytiohehofnlmenaa
