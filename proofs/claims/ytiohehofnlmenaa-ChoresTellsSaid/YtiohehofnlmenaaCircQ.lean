/- The circle that a map of n numbers into themselves leads to from 0, written from its least number on; plain, no program. -/
import Derived.Test.YtiohehofnlmenaaCircP
import Derived.Test.YtiohehofnlmenaaFav
import Derived.Test.YtiohehofnlmenaaMinL
import Derived.Test.YtiohehofnlmenaaIdx
namespace Go.Proofs.Ytiohehofnlmenaa
set_option linter.unusedVariables false
set_option linter.unusedSimpArgs false
/-- l is the circle (none, if it is of one number alone). -/
def IsTop (f : Nat → Nat) (n : Nat) (l : List Int) : Prop :=
  ∃ m L, Per f m L ∧ (∃ k, n ≤ k ∧ m = itN f k 0) ∧ (∀ k, m ≤ itN f k m) ∧ l = if L = 1 then [] else orb f m L
theorem per_uniq {f : Nat → Nat} {m L L' : Nat} (h : Per f m L) (h' : Per f m L') : L = L' := by
  rcases Nat.lt_trichotomy L L' with e | e | e
  · exact absurd h.2.1 (h'.2.2 L h.1 e)
  · exact e
  · exact absurd h'.2.1 (h.2.2 L' h'.1 e)
theorem per_home {f : Nat → Nat} {z L : Nat} (h : Per f z L) (j : Nat) : ∃ i, itN f i (itN f j z) = z := by
  have h1 := h.1
  refine ⟨L - j % L, ?_⟩
  have hm := Nat.mod_lt j (show 0 < L from h1)
  rw [per_mod h j, ← itN_add, show j % L + (L - j % L) = L by omega, h.2.1]
theorem isTop_le {f : Nat → Nat} {n m m' L k k' : Nat} (hp : Per f m L) (hm : m = itN f k 0) (hm' : m' = itN f k' 0) (h : ∀ k, m ≤ itN f k m) (h' : ∀ k, m' ≤ itN f k m') (hkk : k ≤ k') : m = m' := by
  have e : m' = itN f (k' - k) m := by rw [hm', hm, ← itN_add]; congr 1; omega
  have h1 := h (k' - k)
  rw [← e] at h1
  obtain ⟨i, hi⟩ := per_home hp (k' - k)
  rw [← e] at hi
  have h2 := h' i
  rw [hi] at h2
  omega
theorem isTop_uniq {f : Nat → Nat} {n : Nat} {l l' : List Int} (h : IsTop f n l) (h' : IsTop f n l') : l = l' := by
  obtain ⟨m, L, hp, ⟨k, hk, hm⟩, hle, rfl⟩ := h
  obtain ⟨m', L', hp', ⟨k', hk', hm'⟩, hle', rfl⟩ := h'
  have e : m = m' := by
    rcases Nat.le_total k k' with e | e
    · exact isTop_le (n := n) hp hm hm' hle hle' e
    · exact (isTop_le (n := n) hp' hm' hm hle' hle e).symm
  subst e
  rw [per_uniq hp hp']
open Classical in
/-- The circle. -/
noncomputable def topL (f : Nat → Nat) (n : Nat) : List Int := if h : ∃ l, IsTop f n l then Classical.choose h else []
theorem topL_eq {f : Nat → Nat} {n : Nat} {l : List Int} (h : IsTop f n l) : topL f n = l := by
  have hx : ∃ l, IsTop f n l := ⟨l, h⟩
  unfold topL
  rw [dif_pos hx]
  exact isTop_uniq (Classical.choose_spec hx) h

/-- The favourite, by its row of costs. -/
def bestF (v : List (List Int)) (i : Nat) : Nat := (leastTo (rget v i) allP v.length).toNat
theorem bestF_lt {v : List (List Int)} {i : Nat} (h0 : 0 < v.length) : bestF v i < v.length := by
  have h1 := leastTo_nonneg (xs := rget v i) v.length h0
  have h2 := (leastTo_range (rget v i) allP v.length).2
  unfold bestF; omega
theorem bestF_eq {v : List (List Int)} {i : Nat} (h0 : 0 < v.length) : leastTo (rget v i) allP v.length = (bestF v i : Int) := by
  have h1 := leastTo_nonneg (xs := rget v i) v.length h0
  unfold bestF; omega
theorem orb_succ {f : Nat → Nat} {z k : Nat} : orb f z (k + 1) = orb f z k ++ [(itN f k z : Int)] := by
  unfold orb; rw [List.range_succ, List.map_append]; rfl
theorem orb_in {f : Nat → Nat} {n z : Nat} (hf : ∀ x, x < n → f x < n) (hz : z < n) (hn : n ≤ 6) {L j : Nat} (hj : j < (orb f z L).length) : in64 (iget (orb f z L) j) := by
  rw [orb_len] at hj
  rw [orb_get hj]
  have := itN_lt hf j z hz
  exact ⟨by omega, by omega⟩
theorem orb_has {f : Nat → Nat} {z L k : Nat} (h : Per f z L) (hk : k ≤ L) : hasB (orb f z k) (itN f k z : Int) = decide (k = L) := by
  unfold hasB
  rw [Bool.eq_iff_iff, decide_eq_true_iff, decide_eq_true_iff]
  constructor
  · intro hm
    obtain ⟨j, hj, he⟩ := List.getElem_of_mem hm
    rw [← iget_of hj, orb_get (by rwa [orb_len] at hj)] at he
    rw [orb_len] at hj
    have he' : itN f j z = itN f k z := by omega
    by_cases e : k = L
    · exact e
    · exact absurd he' (per_inj h hj (by omega))
  · rintro rfl
    rw [h.2.1]
    have h1 := h.1
    have : iget (orb f z k) 0 = (itN f 0 z : Int) := orb_get h1
    have hm := iget_mem (xs := orb f z k) (k := 0) (by rw [orb_len]; exact h1)
    rw [this] at hm
    exact hm
/-- Where the least number of the circle stands; from there on. -/
theorem orb_least {f : Nat → Nat} {n z L : Nat} (h : Per f z L) (hz : z = itN f n 0) : ∃ a, a < L ∧ firstN (idxP (orb f z L) (lowTo (orb f z L) (orb f z L).length)) (orb f z L).length = (a : Int) ∧
    topL f n = if L = 1 then [] else (orb f z L).drop a ++ (orb f z L).take a := by
  obtain ⟨j, hj, he⟩ := lowTo_mem (orb f z L) (orb f z L).length (by rw [orb_len]; exact h.1)
  have hany : anyN (idxP (orb f z L) (lowTo (orb f z L) (orb f z L).length)) (orb f z L).length = true := anyN_true.2 ⟨j, hj, by unfold idxP; rw [decide_eq_true_iff]; exact he⟩
  obtain ⟨a, ha, hal, hP, _⟩ := firstN_lt hany
  rw [orb_len] at hal
  refine ⟨a, hal, ha, ?_⟩
  have hlow : lowTo (orb f z L) (orb f z L).length = (itN f a z : Int) := by
    unfold idxP at hP
    rw [decide_eq_true_iff, orb_get hal] at hP
    exact hP
  refine topL_eq ⟨itN f a z, L, per_any h a, ⟨n + a, by omega, by rw [itN_add, hz]⟩, fun k => ?_, ?_⟩
  · rw [← itN_add, per_mod h (a + k)]
    have hm := Nat.mod_lt (a + k) (show 0 < L from h.1)
    have := lowTo_le (orb f z L) (orb f z L).length ((a + k) % L) (by rw [orb_len]; exact hm)
    rw [hlow, orb_get hm] at this
    omega
  · rw [orb_turn h hal]
end Go.Proofs.Ytiohehofnlmenaa
