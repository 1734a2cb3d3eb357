/- Prices with which nobody would rather have another item; the least of them; no program in sight. -/
import Derived.Test.YtjjbeccimeehfaaHarmP
import Derived.Test.YtjjbeccimeehfaaAssignB
import Derived.Test.YtjjbeccimeehfaaAsksB
namespace Go.Proofs.Ytjjbeccimeehfaa
set_option linter.unusedVariables false
set_option linter.unusedSimpArgs false

theorem worth_minus {v : List (List Int)} {a p : List Int} (hA : IsA a v.length) : sumTo (fun i => bid v i (itm a i) - iget p (itm a i)) v.length = worthI v a - sumTo (iget p) v.length := by
  rw [sumTo_sub, (isA_per hA).sum (iget p)]
  unfold worthI
  rw [hA.1]
theorem content_max {v : List (List Int)} {a b p : List Int} (hA : IsA a v.length) (hB : IsA b v.length) (hp : ContentP v a p) : worthI v b ≤ worthI v a := by
  have h := sumTo_le (f := fun i => bid v i (itm b i) - iget p (itm b i)) (g := fun i => bid v i (itm a i) - iget p (itm a i)) (n := v.length) (fun i hi => hp i hi _ (isA_lt hB i hi).2)
  rw [worth_minus hA, worth_minus hB] at h
  omega
/-- Where two sums are equal and each part is at most the other, the parts are equal. -/
theorem sumTo_eq_parts {f g : Nat → Int} : ∀ {n : Nat}, (∀ i, i < n → f i ≤ g i) → sumTo f n = sumTo g n → ∀ i, i < n → f i = g i := by
  intro n
  induction n with
  | zero => intro _ _ i hi; omega
  | succ n ih =>
    intro h e i hi
    have h1 := sumTo_le (f := f) (g := g) (n := n) (fun j hj => h j (by omega))
    have h2 := h n (by omega)
    simp only [sumTo] at e
    by_cases e2 : i = n
    · subst e2; omega
    · exact ih (fun j hj => h j (by omega)) (by omega) i (by omega)
theorem content_swap {v : List (List Int)} {a b p : List Int} (hA : IsA a v.length) (hB : IsA b v.length) (hp : ContentP v a p) (he : worthI v b = worthI v a) : ContentP v b p := by
  have h := sumTo_eq_parts (f := fun i => bid v i (itm b i) - iget p (itm b i)) (g := fun i => bid v i (itm a i) - iget p (itm a i)) (n := v.length) (fun i hi => hp i hi _ (isA_lt hB i hi).2)
    (by rw [worth_minus hA, worth_minus hB, he])
  intro i hi j hj
  have h1 := hp i hi j hj
  have h2 := h i hi
  omega
theorem wl_own {v : List (List Int)} {a : List Int} (hA : IsA a v.length) {i : Nat} (hi : i < v.length) (j : Nat) : wl v a (itm a i) j = bid v i j - bid v i (itm a i) := by
  unfold wl wt
  rw [(isA_per hA).inv_of hi]
theorem content_step {v : List (List Int)} {a p : List Int} (hA : IsA a v.length) (hp : ContentP v a p) : ∀ y z, y < v.length → z < v.length → iget p y + wl v a y z ≤ iget p z := by
  intro y z hy hz
  obtain ⟨i, hi, rfl⟩ := (isA_per hA).surj hy
  rw [wl_own hA hi]
  have := hp i hi z hz
  omega
theorem leastL_length (v : List (List Int)) (a : List Int) : (leastL v a).length = v.length := by simp [leastL]
theorem leastL_get {v : List (List Int)} {a : List Int} {j : Nat} (hj : j < v.length) : iget (leastL v a) j = leastP (wl v a) v.length j := by simp [leastL, iget, hj]
theorem least_priced {v : List (List Int)} (hv : Bids v) : PricedP (leastL v (bestA v)) v.length := by
  have hb := bestA_best hv.1
  refine ⟨leastL_length _ _, fun j hj => ?_⟩
  rw [leastL_length] at hj
  rw [leastL_get hj]
  have := leastP_bound hv hb.1 j
  have := leastP_nonneg (wl v (bestA v)) v.length j
  omega
theorem least_content {v : List (List Int)} (hv : Bids v) : ContentP v (bestA v) (leastL v (bestA v)) := by
  have hb := bestA_best hv.1
  intro i hi j hj
  have hit := (isA_lt hb.1 i hi).2
  rw [leastL_get hj, leastL_get hit]
  have := leastP_step hb hv.1 hit hj
  rw [wl_own hb.1 hi] at this
  omega
theorem least_under {v : List (List Int)} (hv : Bids v) {a p : List Int} (hA : IsA a v.length) (hP : PricedP p v.length) (hC : ContentP v a p) {j : Nat} (hj : j < v.length) : iget (leastL v (bestA v)) j ≤ iget p j := by
  have hb := bestA_best hv.1
  have h1 := content_max hA hb.1 hC
  have h2 := hb.max hA hv.1
  have hC' := content_swap hA hb.1 hC (by omega)
  rw [leastL_get hj]
  exact leastP_le (content_step hb.1 hC') (fun k hk => (hP.2 k (by rw [hP.1]; exact hk)).1) hj
theorem min_of {f : Nat → Int} : ∀ {n : Nat}, 0 < n → ∃ k, k < n ∧ ∀ j, j < n → f k ≤ f j := by
  intro n
  induction n with
  | zero => intro h; omega
  | succ n ih =>
    intro _
    by_cases h0 : n = 0
    · subst h0; exact ⟨0, by omega, fun j hj => by rw [show j = 0 from by omega]; exact Int.le_refl _⟩
    · obtain ⟨k, hk, h⟩ := ih (by omega)
      by_cases hlt : f n < f k
      · refine ⟨n, by omega, fun j hj => ?_⟩
        by_cases e : j = n
        · subst e; exact Int.le_refl _
        · have := h j (by omega); omega
      · refine ⟨k, by omega, fun j hj => ?_⟩
        by_cases e : j = n
        · subst e; omega
        · exact h j (by omega)
theorem least_zero {v : List (List Int)} (hv : Bids v) : ∃ j, j < v.length ∧ iget (leastL v (bestA v)) j = 0 := by
  have hb := bestA_best hv.1
  obtain ⟨k, hk, hmin⟩ := min_of (f := fun j => leastP (wl v (bestA v)) v.length j) hv.1
  refine ⟨k, hk, ?_⟩
  rw [leastL_get hk]
  have h0 := leastP_nonneg (wl v (bestA v)) v.length k
  have := leastP_le (v := v) (a := bestA v) (h := fun j => leastP (wl v (bestA v)) v.length j - leastP (wl v (bestA v)) v.length k)
    (fun y z hy hz => by have := leastP_step hb hv.1 hy hz; omega) (fun j hj => by have := hmin j hj; omega) hk
  omega
theorem harmL_length {v : List (List Int)} (hv : Bids v) : (harmL v).length = v.length := by unfold harmL; rw [if_pos hv]; simp
theorem harm_least {v : List (List Int)} (hv : Bids v) {i : Nat} (hi : i < v.length) : iget (harmL v) i = iget (leastL v (bestA v)) (itm (bestA v) i) := by
  have hb := bestA_best hv.1
  rw [leastL_get (isA_lt hb.1 i hi).2, ← harm_price hv hi]
  unfold harmL
  rw [if_pos hv]
  simp [iget, hi]
end Go.Proofs.Ytjjbeccimeehfaa
