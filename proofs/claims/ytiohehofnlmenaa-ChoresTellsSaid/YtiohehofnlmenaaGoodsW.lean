/- Allocations of goods, and what bundles are worth, in plain words; no program. -/
import Derived.Test.YtiohehofnlmenaaGoodsP
import Derived.Test.YtiohehofnlmenaaOwnMat
namespace Go.Proofs.Ytiohehofnlmenaa
set_option linter.unusedVariables false
set_option linter.unusedSimpArgs false

/-- Every good of the allocation goes to an agent, or to nobody (-1). -/
def AllOk (n : Nat) (a : List Int) : Prop := ∀ j, j < a.length → -1 ≤ iget a j ∧ iget a j < n
instance (n : Nat) (a : List Int) : Decidable (AllOk n a) := by unfold AllOk; infer_instance
def AlcOk (v : List (List Int)) (a : List Int) : Prop := a.length = wid v ∧ AllOk v.length a
instance (v : List (List Int)) (a : List Int) : Decidable (AlcOk v a) := by unfold AlcOk; infer_instance
/-- What Valid answers. -/
def chkA (v : List (List Int)) (a : List Int) : Int := if chkG v ≠ 0 then chkG v else if AlcOk v a then 0 else 8
theorem chkA_ok {v : List (List Int)} {a : List Int} (h : Gds v) (ha : AlcOk v a) : chkA v a = 0 := by unfold chkA; rw [chkG_ok h]; simp [ha]
theorem chkA_bad {v : List (List Int)} {a : List Int} (h : chkG v = 0) (ha : ¬ AlcOk v a) : chkA v a = 8 := by unfold chkA; rw [h]; simp [ha]
theorem chkA_err {v : List (List Int)} {a : List Int} (h : chkG v ≠ 0) : chkA v a = chkG v := by unfold chkA; rw [if_pos h]
theorem chkA_zero {v : List (List Int)} {a : List Int} : chkA v a = 0 ↔ Gds v ∧ AlcOk v a := by
  constructor
  · intro h
    by_cases hg : chkG v = 0
    · by_cases ha : AlcOk v a
      · exact ⟨chkG_zero.1 hg, ha⟩
      · rw [chkA_bad hg ha] at h; cases h
    · rw [chkA_err hg] at h; exact absurd h hg
  · rintro ⟨h1, h2⟩; exact chkA_ok h1 h2

def worthUp (v : List (List Int)) (a : List Int) (i : Nat) (k : Int) : Nat → Int
  | 0 => 0
  | m + 1 => worthUp v a i k m + (if iget a m = k then iget (rget v i) m else 0)
/-- What k's bundle is worth for i. -/
def worth (v : List (List Int)) (a : List Int) (i : Nat) (k : Int) : Int := worthUp v a i k a.length
theorem worthUp_eq {v : List (List Int)} {a : List Int} {i m : Nat} {k : Int} (h : iget a m = k) : worthUp v a i k (m + 1) = worthUp v a i k m + iget (rget v i) m := by simp [worthUp, h]
theorem worthUp_ne {v : List (List Int)} {a : List Int} {i m : Nat} {k : Int} (h : ¬ iget a m = k) : worthUp v a i k (m + 1) = worthUp v a i k m := by simp [worthUp, h]
theorem worthUp_in {v : List (List Int)} {a : List Int} (hg : Gds v) {i : Nat} (hi : i < v.length) (k : Int) : ∀ m, m ≤ wid v → 0 ≤ worthUp v a i k m ∧ worthUp v a i k m ≤ 1000 * m
  | 0, _ => by simp [worthUp]
  | m + 1, hm => by
    have h1 := worthUp_in hg hi k m (by omega) (a := a)
    have h2 := gds_bid hg hi (j := m) (by omega)
    by_cases h : iget a m = k
    · rw [worthUp_eq h]; omega
    · rw [worthUp_ne h]; omega
theorem worth_in {v : List (List Int)} {a : List Int} (hg : Gds v) (ha : AlcOk v a) {i : Nat} (hi : i < v.length) (k : Int) : 0 ≤ worth v a i k ∧ worth v a i k ≤ 10000 := by
  have h1 := worthUp_in hg hi k a.length (by have := ha.1; omega) (a := a)
  have h2 := hg.2.2.1
  have h3 := ha.1
  unfold worth
  omega
/-- After m goods: what the bundles are worth for i. -/
def rowUp (v : List (List Int)) (a : List Int) (i m : Nat) : List Int := (List.range v.length).map fun (k : Nat) => worthUp v a i (Int.ofNat k) m
theorem rowUp_len (v : List (List Int)) (a : List Int) (i m : Nat) : (rowUp v a i m).length = v.length := by simp [rowUp]
theorem rowUp_get {v : List (List Int)} {a : List Int} {i m k : Nat} (hk : k < v.length) : iget (rowUp v a i m) k = worthUp v a i (k : Int) m := by simp [rowUp, iget, hk]
theorem rowUp_zero (v : List (List Int)) (a : List Int) (i : Nat) : rowUp v a i 0 = List.replicate v.length 0 := by
  apply List.ext_getElem
  · simp [rowUp]
  · intro k h1 h2; simp [rowUp, worthUp]
theorem ext_iget {xs ys : List Int} (hl : xs.length = ys.length) (h : ∀ k, k < xs.length → iget xs k = iget ys k) : xs = ys := by
  apply List.ext_getElem hl
  intro k h1 h2
  have := h k h1
  rwa [iget_of h1, iget_of h2] at this
theorem ext_rget {xs ys : List (List Int)} (hl : xs.length = ys.length) (h : ∀ k, k < xs.length → rget xs k = rget ys k) : xs = ys := by
  apply List.ext_getElem hl
  intro k h1 h2
  have := h k h1
  rwa [rget_of h1, rget_of h2] at this
theorem rowUp_set {v : List (List Int)} {a : List Int} {i m x : Nat} (hx : iget a m = (x : Int)) (hxl : x < v.length) :
    rowUp v a i (m + 1) = (rowUp v a i m).set x (iget (rowUp v a i m) x + iget (rget v i) m) := by
  apply ext_iget
  · simp [rowUp]
  · intro k hk
    rw [rowUp_len] at hk
    rw [iget_set (by rw [rowUp_len]; exact hxl), rowUp_get hk, rowUp_get hxl]
    split
    · rename_i h; subst h; exact worthUp_eq hx
    · rename_i h; rw [worthUp_ne (by rw [hx]; omega), rowUp_get hk]
theorem rowUp_none {v : List (List Int)} {a : List Int} {i m : Nat} (hx : iget a m < 0) : rowUp v a i (m + 1) = rowUp v a i m := by
  apply ext_iget
  · simp [rowUp]
  · intro k hk
    rw [rowUp_len] at hk
    rw [rowUp_get hk, rowUp_get hk, worthUp_ne (by omega)]
def worthRow (v : List (List Int)) (a : List Int) (i : Nat) : List Int := rowUp v a i a.length
/-- What Values answers of valid ones. -/
def valsG (v : List (List Int)) (a : List Int) : List (List Int) := (List.range v.length).map (worthRow v a)
theorem valsG_len (v : List (List Int)) (a : List Int) : (valsG v a).length = v.length := by simp [valsG]
theorem valsG_row {v : List (List Int)} {a : List Int} {i : Nat} (hi : i < v.length) : rget (valsG v a) i = worthRow v a i := by simp [valsG, rget, hi]
theorem worthRow_len (v : List (List Int)) (a : List Int) (i : Nat) : (worthRow v a i).length = v.length := rowUp_len ..
theorem worthRow_get {v : List (List Int)} {a : List Int} {i k : Nat} (hk : k < v.length) : iget (worthRow v a i) k = worth v a i (k : Int) := rowUp_get hk
theorem valsG_take {v : List (List Int)} {a : List Int} {i : Nat} (hi : i < v.length) : (valsG v a).take (i + 1) = (valsG v a).take i ++ [worthRow v a i] := by
  rw [List.take_add_one]
  simp [valsG, hi]
/-- What Values answers. -/
def valsL (v : List (List Int)) (a : List Int) : List (List Int) := if chkA v a = 0 then valsG v a else []
theorem valsL_ok {v : List (List Int)} {a : List Int} (h : chkA v a = 0) : valsL v a = valsG v a := by simp [valsL, h]
theorem valsL_err {v : List (List Int)} {a : List Int} (h : chkA v a ≠ 0) : valsL v a = [] := by simp [valsL, h]

/-- The pairs (i, k) of which P tells, in order: the first i rows, and k of the next. -/
def pairsUp (n : Nat) (P : Nat → Nat → Bool) : List (List Int) := (List.range n).flatMap fun (i : Nat) => ((List.range n).filter (P i)).map fun (k : Nat) => [Int.ofNat i, Int.ofNat k]
end Go.Proofs.Ytiohehofnlmenaa
