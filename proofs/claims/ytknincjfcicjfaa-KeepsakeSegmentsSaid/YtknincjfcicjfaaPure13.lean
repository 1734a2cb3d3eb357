/- The plain words of chapter 13: valid bids, assignments, their worth, prices; no program in sight. -/
import Derived.Test.YtknincjfcicjfaaBase
namespace Go.Proofs.Ytknincjfcicjfaa
set_option linter.unusedVariables false
set_option linter.unusedSimpArgs false

theorem dec_congr {p q : Prop} [Decidable p] [Decidable q] (h : p ↔ q) : decide p = decide q := by rw [Bool.eq_iff_iff, decide_eq_true_iff, decide_eq_true_iff]; exact h

def Bids (v : List (List Int)) : Prop := 0 < v.length ∧ v.length ≤ 6 ∧ ∀ i, i < v.length → (rget v i).length = v.length ∧ ∀ j, j < v.length → 0 ≤ iget (rget v i) j ∧ iget (rget v i) j ≤ 1000000
instance (v : List (List Int)) : Decidable (Bids v) := by unfold Bids; infer_instance
/-- What Check answers. -/
def chkI (v : List (List Int)) : Int := if 6 < v.length then 4 else if Bids v then 0 else 8
theorem chkI_bids {v : List (List Int)} (h : Bids v) : chkI v = 0 := by unfold chkI; rw [if_neg (by have := h.2.1; omega), if_pos h]
theorem chkI_zero {v : List (List Int)} : chkI v = 0 ↔ Bids v := by
  constructor
  · intro h
    unfold chkI at h
    by_cases h6 : 6 < v.length
    · simp [h6] at h
    · by_cases hb : Bids v
      · exact hb
      · simp [h6, hb] at h
  · exact chkI_bids
theorem chkI_many {v : List (List Int)} (h : 6 < v.length) : chkI v = 4 := by simp [chkI, h]
theorem chkI_bad {v : List (List Int)} (h : ¬ 6 < v.length) (hb : ¬ Bids v) : chkI v = 8 := by simp [chkI, h, hb]

def GreatP (v : List (List Int)) : Prop := (∃ i, i < v.length ∧ i < 20 ∧ 50 < (rget v i).length) ∨ v.length = 6 ∨ 20 < v.length
instance (v : List (List Int)) : Decidable (GreatP v) := by
  have : Decidable (∃ i, i < v.length ∧ i < 20 ∧ 50 < (rget v i).length) := decidable_of_iff (∃ i, ∃ _ : i < v.length, i < 20 ∧ 50 < (rget v i).length) ⟨fun ⟨i, h, h'⟩ => ⟨i, h, h'⟩, fun ⟨i, h, h'⟩ => ⟨i, h, h'⟩⟩
  unfold GreatP; infer_instance
def greatB (v : List (List Int)) : Bool := decide (GreatP v)

/-- A list that has each number below n once. -/
def IsA (a : List Int) (n : Nat) : Prop := a.length = n ∧ ∀ j, j < n → a.count (j : Int) = 1
instance (a : List Int) (n : Nat) : Decidable (IsA a n) := by unfold IsA; infer_instance
def isAB (a : List Int) (n : Nat) : Bool := decide (IsA a n)

theorem count_take_succ (a : List Int) (k : Nat) (j : Int) (h : k < a.length) : (a.take (k + 1)).count j = (a.take k).count j + if iget a k = j then 1 else 0 := by
  rw [List.take_succ_eq_append_getElem h, List.count_append, iget_of h]
  simp [List.count_singleton]

/-- The sum of f 0 .. f (n - 1). -/
def sumTo (f : Nat → Int) : Nat → Int
  | 0 => 0
  | n + 1 => sumTo f n + f n
/-- What agent i bids for item j. -/
def bid (v : List (List Int)) (i j : Nat) : Int := iget (rget v i) j
/-- The item of agent i. -/
def itm (a : List Int) (i : Nat) : Nat := (iget a i).toNat
def worthI (v : List (List Int)) (a : List Int) : Int := sumTo (fun i => bid v i (itm a i)) a.length

def PricedP (p : List Int) (n : Nat) : Prop := p.length = n ∧ ∀ j, j < p.length → 0 ≤ iget p j ∧ iget p j ≤ 10000000
instance (p : List Int) (n : Nat) : Decidable (PricedP p n) := by unfold PricedP; infer_instance
def pricedB (p : List Int) (n : Nat) : Bool := decide (PricedP p n)
def ContentP (v : List (List Int)) (a p : List Int) : Prop := ∀ i, i < v.length → ∀ j, j < v.length → bid v i j - iget p j ≤ bid v i (itm a i) - iget p (itm a i)
instance (v : List (List Int)) (a p : List Int) : Decidable (ContentP v a p) := by unfold ContentP; infer_instance
def contentB (v : List (List Int)) (a p : List Int) : Bool := decide (ContentP v a p)

theorem sumTo_bound {f : Nat → Int} {m : Int} {n : Nat} (h : ∀ i, i < n → 0 ≤ f i ∧ f i ≤ m) : ∀ k, k ≤ n → 0 ≤ sumTo f k ∧ sumTo f k ≤ m * k := by
  intro k
  induction k with
  | zero => intro _; simp [sumTo]
  | succ k ih =>
    intro hk
    have h1 := ih (by omega)
    have h2 := h k (by omega)
    simp only [sumTo]
    have : m * ((k + 1 : Nat) : Int) = m * k + m := by rw [Int.natCast_succ, Int.mul_add, Int.mul_one]
    omega
end Go.Proofs.Ytknincjfcicjfaa
