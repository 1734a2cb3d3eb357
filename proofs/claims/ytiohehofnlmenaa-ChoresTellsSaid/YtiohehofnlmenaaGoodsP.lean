/- Valid goods and turns, in plain words; no program. -/
import Derived.Test.YtiohehofnlmenaaPure13
namespace Go.Proofs.Ytiohehofnlmenaa
set_option linter.unusedVariables false
set_option linter.unusedSimpArgs false

def wid (v : List (List Int)) : Nat := (rget v 0).length
def Gds (v : List (List Int)) : Prop := 1 ≤ v.length ∧ v.length ≤ 6 ∧ wid v ≤ 10 ∧ ∀ i, i < v.length → (rget v i).length = wid v ∧ ∀ j, j < (rget v i).length → 0 ≤ iget (rget v i) j ∧ iget (rget v i) j ≤ 1000
instance (v : List (List Int)) : Decidable (Gds v) := by unfold Gds; infer_instance
def ManyG (v : List (List Int)) : Prop := 6 < v.length ∨ ¬ ∀ i, i < v.length → (rget v i).length ≤ 10
instance (v : List (List Int)) : Decidable (ManyG v) := by unfold ManyG; infer_instance
/-- What Check answers of goods. -/
def chkG (v : List (List Int)) : Int := if ManyG v then 4 else if Gds v then 0 else 8
theorem gds_few {v : List (List Int)} (h : Gds v) : ¬ ManyG v := by
  rintro (h1 | h1)
  · have := h.2.1; omega
  · exact h1 fun i hi => by rw [(h.2.2.2 i hi).1]; exact h.2.2.1
theorem chkG_many {v : List (List Int)} (h : ManyG v) : chkG v = 4 := by simp [chkG, h]
theorem chkG_bad {v : List (List Int)} (h : ¬ ManyG v) (hb : ¬ Gds v) : chkG v = 8 := by simp [chkG, h, hb]
theorem chkG_ok {v : List (List Int)} (h : Gds v) : chkG v = 0 := by simp [chkG, h, gds_few h]
theorem chkG_zero {v : List (List Int)} : chkG v = 0 ↔ Gds v := by
  constructor
  · intro h
    by_cases hm : ManyG v
    · rw [chkG_many hm] at h; cases h
    · by_cases hg : Gds v
      · exact hg
      · rw [chkG_bad hm hg] at h; cases h
  · exact chkG_ok
theorem gds_bid {v : List (List Int)} (h : Gds v) {i j : Nat} (hi : i < v.length) (hj : j < wid v) : 0 ≤ iget (rget v i) j ∧ iget (rget v i) j ≤ 1000 :=
  (h.2.2.2 i hi).2 j (by rw [(h.2.2.2 i hi).1]; exact hj)

/-- Larger than the statements consider. -/
def GreatG (v : List (List Int)) (xs : List Int) : Prop := (¬ ∀ i, i < v.length → i < 20 → (rget v i).length ≤ 50) ∨ 20 < v.length ∨ 50 < xs.length
instance (v : List (List Int)) (xs : List Int) : Decidable (GreatG v xs) := by unfold GreatG; infer_instance
def greatG (v : List (List Int)) (xs : List Int) : Bool := decide (GreatG v xs)

/-- What Check answers of turns of n agents. -/
def TurnsOk (n : Int) (ts : List Int) : Prop := ∀ i, i < ts.length → 0 ≤ iget ts i ∧ iget ts i < n
instance (n : Int) (ts : List Int) : Decidable (TurnsOk n ts) := by unfold TurnsOk; infer_instance
def chkT (n : Int) (ts : List Int) : Int := if n < 1 ∨ 6 < n then 2 else if 60 < ts.length then 4 else if TurnsOk n ts then 0 else 8
theorem chkT_arg {n : Int} {ts : List Int} (h : n < 1 ∨ 6 < n) : chkT n ts = 2 := by simp [chkT, h]
theorem chkT_many {n : Int} {ts : List Int} (h : ¬ (n < 1 ∨ 6 < n)) (h2 : 60 < ts.length) : chkT n ts = 4 := by unfold chkT; rw [if_neg h, if_pos h2]
theorem chkT_bad {n : Int} {ts : List Int} (h : ¬ (n < 1 ∨ 6 < n)) (h2 : ¬ 60 < ts.length) (h3 : ¬ TurnsOk n ts) : chkT n ts = 8 := by unfold chkT; rw [if_neg h, if_neg h2, if_neg h3]
theorem chkT_ok {n : Int} {ts : List Int} (h : ¬ (n < 1 ∨ 6 < n)) (h2 : ¬ 60 < ts.length) (h3 : TurnsOk n ts) : chkT n ts = 0 := by unfold chkT; rw [if_neg h, if_neg h2, if_pos h3]
theorem chkT_zero {n : Int} {ts : List Int} : chkT n ts = 0 ↔ 1 ≤ n ∧ n ≤ 6 ∧ ts.length ≤ 60 ∧ TurnsOk n ts := by
  constructor
  · intro h
    by_cases h1 : n < 1 ∨ 6 < n
    · rw [chkT_arg h1] at h; cases h
    · by_cases h2 : 60 < ts.length
      · rw [chkT_many h1 h2] at h; cases h
      · by_cases h3 : TurnsOk n ts
        · exact ⟨by omega, by omega, by omega, h3⟩
        · rw [chkT_bad h1 h2 h3] at h; cases h
  · rintro ⟨h1, h2, h3, h4⟩
    exact chkT_ok (by omega) (by omega) h4
end Go.Proofs.Ytiohehofnlmenaa
