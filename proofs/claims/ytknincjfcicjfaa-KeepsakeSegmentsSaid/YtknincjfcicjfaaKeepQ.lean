/- Turns for what is left, in plain words; no program. -/
import Derived.Test.YtknincjfcicjfaaKeepL
namespace Go.Proofs.Ytknincjfcicjfaa
set_option linter.unusedVariables false
set_option linter.unusedSimpArgs false

/-- The item at place k of a ranking is left. -/
def isLeft (out l : List Int) (k : Nat) : Bool := decide (iget out (itm l k) < 0)
/-- The first place of a ranking whose item is left. -/
def favK (out l : List Int) : Nat := (firstN (isLeft out l) l.length).toNat
/-- Agent i takes what it likes most. -/
def takeK (out l : List Int) (i : Int) : List Int := out.set (itm l (favK out l)) i
/-- The allocation after t turns. -/
def trnTo (a o : List Int) (v : List (List Int)) : Nat → List Int
  | 0 => a
  | t + 1 => takeK (trnTo a o v t) (rget v (itm o (t % o.length))) (iget o (t % o.length))
/-- How many items are left. -/
def nLeft (a : List Int) : Nat := a.count (-1)
def trnL (a o : List Int) (v : List (List Int)) : List Int := trnTo a o v (nLeft a)

theorem trnTo_len (a o : List Int) (v : List (List Int)) : ∀ t, (trnTo a o v t).length = a.length
  | 0 => rfl
  | t + 1 => by rw [trnTo, takeK, List.length_set, trnTo_len]
/-- Who takes, is an agent. -/
theorem turn_at {o : List Int} {n : Nat} (ho : IsA o n) (hn : 0 < n) (t : Nat) : ∃ i : Nat, iget o (t % o.length) = i ∧ i < n ∧ t % o.length < o.length := by
  have hl : t % o.length < o.length := Nat.mod_lt _ (by rw [ho.1]; exact hn)
  have := isA_lt ho (t % o.length) (by rw [ho.1] at hl ⊢; exact hl)
  exact ⟨itm o (t % o.length), by unfold itm; omega, this.2, hl⟩
structure GoodK (a out : List Int) (v : List (List Int)) : Prop where
  len : out.length = a.length
  own : ∀ k, k < out.length → -1 ≤ iget out k ∧ iget out k < v.length
theorem goodK_some {a out : List Int} {v : List (List Int)} (hL : Lkd a v) (hG : GoodK a out v) {i : Nat} (hi : i < v.length) (hm : (-1 : Int) ∈ out) :
    ∃ k, firstN (isLeft out (rget v i)) (rget v i).length = (k : Nat) ∧ favK out (rget v i) = k ∧ k < (rget v i).length ∧ itm (rget v i) k < out.length ∧ iget (rget v i) k = (itm (rget v i) k : Nat) ∧ iget out (itm (rget v i) k) = -1 ∧ ∀ j, j < k → isLeft out (rget v i) j = false := by
  have hA := hL.2.2.2.1 i hi
  obtain ⟨x, hx, he⟩ := List.getElem_of_mem hm
  have hx2 : x < a.length := by rw [← hG.len]; exact hx
  obtain ⟨j, hj, hje⟩ := List.getElem_of_mem (isA_mem hA hx2)
  have hany : anyN (isLeft out (rget v i)) (rget v i).length = true := by
    rw [anyN_true]
    refine ⟨j, hj, ?_⟩
    unfold isLeft itm
    rw [iget_of hj, hje, Int.toNat_natCast, iget_of hx, he]
    decide
  obtain ⟨k, h1, h2, h3, h4⟩ := firstN_lt hany
  have hk := isA_lt hA k (by rw [← hA.1]; exact h2)
  have hk2 : itm (rget v i) k < out.length := by rw [hG.len]; exact hk.2
  refine ⟨k, h1, by unfold favK; rw [h1]; simp, h2, hk2, by unfold itm; omega, ?_, h4⟩
  have := (hG.own _ hk2).1
  unfold isLeft at h3
  rw [decide_eq_true_iff] at h3
  omega
theorem takeK_good {a out : List Int} {v : List (List Int)} (hG : GoodK a out v) (l : List Int) {i : Nat} (hi : i < v.length) : GoodK a (takeK out l (i : Int)) v := by
  refine ⟨by unfold takeK; rw [List.length_set]; exact hG.len, fun k hk => ?_⟩
  unfold takeK at hk ⊢
  rw [List.length_set] at hk
  by_cases e : itm l (favK out l) < out.length
  · rw [iget_set e]
    by_cases e2 : itm l (favK out l) = k
    · rw [if_pos e2]; omega
    · rw [if_neg e2]; exact hG.own k hk
  · rw [List.set_eq_of_length_le (by omega)]; exact hG.own k hk
theorem trnTo_good {a o : List Int} {v : List (List Int)} (hL : Lkd a v) (ho : IsA o v.length) : ∀ t, GoodK a (trnTo a o v t) v
  | 0 => ⟨rfl, hL.2.2.2.2⟩
  | t + 1 => by
    obtain ⟨i, h1, h2, _⟩ := turn_at ho hL.2.2.1 t
    rw [trnTo, h1]
    exact takeK_good (trnTo_good hL ho t) _ h2
theorem takeK_count {a out : List Int} {v : List (List Int)} (hL : Lkd a v) (hG : GoodK a out v) {i : Nat} (hi : i < v.length) (hm : (-1 : Int) ∈ out) : nLeft (takeK out (rget v i) (i : Int)) + 1 = nLeft out := by
  obtain ⟨k, h1, h2, h3, h4, h5, h6, h7⟩ := goodK_some hL hG hi hm
  unfold takeK nLeft
  rw [h2, List.count_set h4]
  rw [iget_of h4] at h6
  rw [h6]
  have : (((i : Nat) : Int) == -1) = false := by rw [beq_eq_false_iff_ne]; omega
  rw [this]
  have := List.count_pos_iff.2 hm
  simp only [BEq.rfl, if_true, Bool.false_eq_true, if_false]
  omega
theorem trnTo_left {a o : List Int} {v : List (List Int)} (hL : Lkd a v) (ho : IsA o v.length) : ∀ t, t ≤ nLeft a → nLeft (trnTo a o v t) + t = nLeft a
  | 0, _ => rfl
  | t + 1, h => by
    have ih := trnTo_left hL ho t (by omega)
    obtain ⟨i, h1, h2, _⟩ := turn_at ho hL.2.2.1 t
    have h3 : itm o (t % o.length) = i := by unfold itm; rw [h1]; simp
    have := takeK_count hL (trnTo_good hL ho t) h2 (List.count_pos_iff.1 (by unfold nLeft at ih; unfold nLeft at h; omega))
    rw [trnTo, h1, h3]
    omega
theorem trnTo_has {a o : List Int} {v : List (List Int)} (hL : Lkd a v) (ho : IsA o v.length) {t : Nat} (ht : t ≤ nLeft a) : hasB (trnTo a o v t) (-1) = decide (t < nLeft a) := by
  have h1 := trnTo_left hL ho t ht
  unfold hasB
  refine dec_congr ⟨fun h => ?_, fun h => ?_⟩
  · have := List.count_pos_iff.2 h
    unfold nLeft at *; omega
  · exact List.count_pos_iff.1 (by unfold nLeft at *; omega)
theorem nLeft_le (a : List Int) : nLeft a ≤ a.length := List.count_le_length
end Go.Proofs.Ytknincjfcicjfaa
