/- Lists of the pairs, or numbers, of which a property holds, in order; who envies whom, who is burdened; no program. -/
import Derived.Test.YtiohehofnlmenaaGoodsW
import Derived.Test.YtiohehofnlmenaaPairs
namespace Go.Proofs.Ytiohehofnlmenaa
set_option linter.unusedVariables false
set_option linter.unusedSimpArgs false

def prRow (P : Nat → Nat → Bool) (m : Nat) : Nat → List (Nat × Nat)
  | 0 => []
  | k + 1 => prRow P m k ++ (if P m k then [(m, k)] else [])
def prTo (P : Nat → Nat → Bool) (n : Nat) : Nat → List (Nat × Nat)
  | 0 => []
  | m + 1 => prTo P n m ++ prRow P m n
theorem prRow_yes {P : Nat → Nat → Bool} {m k : Nat} (h : P m k = true) : prRow P m (k + 1) = prRow P m k ++ [(m, k)] := by simp [prRow, h]
theorem prRow_no {P : Nat → Nat → Bool} {m k : Nat} (h : P m k = false) : prRow P m (k + 1) = prRow P m k := by simp [prRow, h]
theorem prTo_succ (P : Nat → Nat → Bool) (n m : Nat) : prTo P n (m + 1) = prTo P n m ++ prRow P m n := rfl
theorem prRow_len (P : Nat → Nat → Bool) (m : Nat) : ∀ k, (prRow P m k).length ≤ k
  | 0 => by simp [prRow]
  | k + 1 => by
    have := prRow_len P m k
    rw [prRow, List.length_append]
    split <;> simp <;> omega
theorem prTo_len (P : Nat → Nat → Bool) (n : Nat) : ∀ m, (prTo P n m).length ≤ m * n
  | 0 => by simp [prTo]
  | m + 1 => by
    have h1 := prTo_len P n m
    have h2 := prRow_len P m n
    rw [prTo, List.length_append, Nat.add_mul]
    omega
theorem prRow_mem {P : Nat → Nat → Bool} {m : Nat} {x : Nat × Nat} : ∀ {k : Nat}, x ∈ prRow P m k ↔ x.1 = m ∧ x.2 < k ∧ P x.1 x.2 = true
  | 0 => by simp [prRow]
  | k + 1 => by
    rw [prRow, List.mem_append, prRow_mem]
    obtain ⟨a, b⟩ := x
    constructor
    · rintro (⟨h1, h2, h3⟩ | h)
      · exact ⟨h1, by omega, h3⟩
      · split at h
        · rename_i hp
          simp at h
          obtain ⟨rfl, rfl⟩ := h
          exact ⟨rfl, by simp, hp⟩
        · simp at h
    · rintro ⟨h1, h2, h3⟩
      simp only at h1 h2 h3
      subst h1
      by_cases hb : b = k
      · subst hb; right; rw [if_pos h3]; simp
      · left; exact ⟨rfl, by simp only; omega, h3⟩
theorem prTo_mem {P : Nat → Nat → Bool} {n : Nat} {x : Nat × Nat} : ∀ {m : Nat}, x ∈ prTo P n m ↔ x.1 < m ∧ x.2 < n ∧ P x.1 x.2 = true
  | 0 => by simp [prTo]
  | m + 1 => by
    rw [prTo, List.mem_append, prTo_mem, prRow_mem]
    constructor
    · rintro (⟨h1, h2, h3⟩ | ⟨h1, h2, h3⟩)
      · exact ⟨by omega, h2, h3⟩
      · exact ⟨by omega, h2, h3⟩
    · rintro ⟨h1, h2, h3⟩
      by_cases h : x.1 = m
      · exact .inr ⟨h, h2, h3⟩
      · exact .inl ⟨by omega, h2, h3⟩
theorem prRow_congr {P P' : Nat → Nat → Bool} {m : Nat} : ∀ {k : Nat}, (∀ j, j < k → P m j = P' m j) → prRow P m k = prRow P' m k
  | 0, _ => rfl
  | k + 1, h => by rw [prRow, prRow, prRow_congr fun j hj => h j (by omega), h k (by omega)]

/-- The numbers below m of which P holds. -/
def fUp (P : Nat → Bool) : Nat → List Int
  | 0 => []
  | m + 1 => fUp P m ++ (if P m then [(m : Int)] else [])
theorem fUp_yes {P : Nat → Bool} {m : Nat} (h : P m = true) : fUp P (m + 1) = fUp P m ++ [(m : Int)] := by simp [fUp, h]
theorem fUp_no {P : Nat → Bool} {m : Nat} (h : P m = false) : fUp P (m + 1) = fUp P m := by simp [fUp, h]
theorem fUp_len (P : Nat → Bool) : ∀ m, (fUp P m).length ≤ m
  | 0 => by simp [fUp]
  | m + 1 => by
    have := fUp_len P m
    rw [fUp, List.length_append]
    split <;> simp <;> omega
theorem fUp_mem {P : Nat → Bool} {x : Int} : ∀ {m : Nat}, x ∈ fUp P m ↔ ∃ i : Nat, x = i ∧ i < m ∧ P i = true
  | 0 => by simp [fUp]
  | m + 1 => by
    rw [fUp, List.mem_append, fUp_mem]
    constructor
    · rintro (⟨i, h1, h2, h3⟩ | h)
      · exact ⟨i, h1, by omega, h3⟩
      · split at h
        · rename_i hp
          simp at h
          exact ⟨m, h, by omega, hp⟩
        · simp at h
    · rintro ⟨i, h1, h2, h3⟩
      by_cases h : i = m
      · subst h; right; rw [if_pos h3]; simp [h1]
      · exact .inl ⟨i, h1, by omega, h3⟩

/-- Goods: i would rather have k's bundle. -/
def gP (v : List (List Int)) (a : List Int) (i k : Nat) : Bool := decide (worth v a i (i : Int) < worth v a i (k : Int))
/-- Chores: i would rather have k's bundle. -/
def cP (v : List (List Int)) (a : List Int) (i k : Nat) : Bool := decide (worth v a i (k : Int) < worth v a i (i : Int))
def envG (P : List (List Int) → List Int → Nat → Nat → Bool) (v : List (List Int)) (a : List Int) : List (Nat × Nat) := if chkA v a = 0 then prTo (P v a) v.length v.length else []
theorem envG_ok {P : List (List Int) → List Int → Nat → Nat → Bool} {v : List (List Int)} {a : List Int} (h : chkA v a = 0) : envG P v a = prTo (P v a) v.length v.length := by simp [envG, h]
theorem envG_err {P : List (List Int) → List Int → Nat → Nat → Bool} {v : List (List Int)} {a : List Int} (h : chkA v a ≠ 0) : envG P v a = [] := by simp [envG, h]

def sumUp (xs : List Int) : Nat → Int
  | 0 => 0
  | m + 1 => sumUp xs m + iget xs m
theorem sumUp_in {v : List (List Int)} (hg : Gds v) {i : Nat} (hi : i < v.length) : ∀ m, m ≤ wid v → 0 ≤ sumUp (rget v i) m ∧ sumUp (rget v i) m ≤ 1000 * m
  | 0, _ => by simp [sumUp]
  | m + 1, hm => by
    have h1 := sumUp_in hg hi m (by omega)
    have h2 := gds_bid hg hi (j := m) (by omega)
    rw [sumUp]; omega
def allG (v : List (List Int)) (i : Nat) : Int := sumUp (rget v i) (rget v i).length
/-- Chores: i bears more than its share. -/
def bP (v : List (List Int)) (a : List Int) (i : Nat) : Bool := decide (allG v i < worth v a i (i : Int) * v.length)
def burdL (v : List (List Int)) (a : List Int) : List Int := if chkA v a = 0 then fUp (bP v a) v.length else []
theorem burdL_ok {v : List (List Int)} {a : List Int} (h : chkA v a = 0) : burdL v a = fUp (bP v a) v.length := by simp [burdL, h]
theorem burdL_err {v : List (List Int)} {a : List Int} (h : chkA v a ≠ 0) : burdL v a = [] := by simp [burdL, h]
/-- Chores: i would not rather have k's bundle, were its own chore x left out. -/
def contB (v : List (List Int)) (a : List Int) (i k : Nat) (x : Int) : Bool :=
  decide (worth v a i (i : Int) - (if 0 ≤ x ∧ iget a x.toNat = (i : Int) then iget (rget v i) x.toNat else 0) ≤ worth v a i (k : Int))
theorem contB_none (v : List (List Int)) (a : List Int) (i k : Nat) : contB v a i k (-1) = !cP v a i k := by
  unfold contB cP
  rw [if_neg (by omega), Bool.eq_iff_iff]
  simp
end Go.Proofs.Ytiohehofnlmenaa
