/- Bids with the items in another order, and bids that grow for one item: the greatest value, the best assignment, the least prices; no program in sight. -/
import Derived.Test.YtjjbeccimeehfaaContP
namespace Go.Proofs.Ytjjbeccimeehfaa
set_option linter.unusedVariables false
set_option linter.unusedSimpArgs false

def permC (v : List (List Int)) (o : List Int) : List (List Int) := v.map fun r => (List.range v.length).map fun j => iget r (itm o j)
def growR (r : List Int) (t : Nat) (m : Int) : List Int := r.set t (iget r t + m)
def growC (v : List (List Int)) (t : Nat) (m : Int) : List (List Int) := v.map fun r => growR r t m
theorem permC_length (v : List (List Int)) (o : List Int) : (permC v o).length = v.length := by simp [permC]
theorem growC_length (v : List (List Int)) (t : Nat) (m : Int) : (growC v t m).length = v.length := by simp [growC]
theorem rget_map {v : List (List Int)} (f : List Int → List Int) {i : Nat} (hi : i < v.length) : rget (v.map f) i = f (rget v i) := by
  rw [rget_of (by simpa using hi), rget_of hi]; simp
theorem permC_bid {v : List (List Int)} {o : List Int} {i j : Nat} (hi : i < v.length) (hj : j < v.length) : bid (permC v o) i j = bid v i (itm o j) := by
  unfold bid permC
  rw [rget_map _ hi]
  simp [iget, hj]
theorem growC_bid {v : List (List Int)} {t : Nat} {m : Int} {i j : Nat} (hi : i < v.length) (ht : t < (rget v i).length) : bid (growC v t m) i j = bid v i j + if j = t then m else 0 := by
  unfold bid growC
  rw [rget_map _ hi]
  unfold growR
  rw [iget_set ht]
  by_cases e : j = t
  · subst e; simp
  · rw [if_neg (fun h => e h.symm), if_neg e]; omega
theorem permC_bids {v : List (List Int)} {o : List Int} (hv : Bids v) (ho : IsA o v.length) : Bids (permC v o) := by
  refine ⟨by rw [permC_length]; exact hv.1, by rw [permC_length]; exact hv.2.1, fun i hi => ?_⟩
  rw [permC_length] at hi ⊢
  refine ⟨by unfold permC; rw [rget_map _ hi]; simp, fun j hj => ?_⟩
  have h := permC_bid (o := o) hi hj
  unfold bid at h
  rw [h]
  exact (hv.2.2 i hi).2 _ (isA_lt ho j hj).2
theorem per_inv {n : Nat} {s : Nat → Nat} (h : Per n s) : Per n (inv n s) :=
  ⟨fun j hj => (h.inv_spec hj).1, fun i j hi hj e => by rw [← (h.inv_spec hi).2, ← (h.inv_spec hj).2, e]⟩
theorem worth_sum {v : List (List Int)} {a : List Int} {n : Nat} (h : a.length = n) : worthI v a = sumTo (fun i => bid v i (itm a i)) n := by subst h; rfl
theorem order_worth {v : List (List Int)} {o : List Int} (hv : Bids v) (ho : IsA o v.length) : worthI (permC v o) (bestA (permC v o)) = worthI v (bestA v) := by
  have hw := permC_bids hv ho
  have hB := bestA_best hw.1
  have hA := bestA_best hv.1
  have hpo := isA_per ho
  have hBA : IsA (bestA (permC v o)) v.length := by have := hB.1; rwa [permC_length] at this
  have h1 : worthI (permC v o) (bestA (permC v o)) ≤ worthI v (bestA v) := by
    have hs : Per v.length (fun i => itm o (itm (bestA (permC v o)) i)) := (isA_per hBA).comp hpo
    have hm := hA.max (listOf_isA hs) hv.1
    have he : worthI v (listOf v.length (fun i => itm o (itm (bestA (permC v o)) i))) = worthI (permC v o) (bestA (permC v o)) := by
      rw [worth_sum (listOf_length _ _), worth_sum hBA.1]
      exact sumTo_congr fun i hi => by rw [listOf_itm hi, permC_bid hi (isA_lt hBA i hi).2]
    omega
  have h2 : worthI v (bestA v) ≤ worthI (permC v o) (bestA (permC v o)) := by
    have hs : Per v.length (fun i => inv v.length (itm o) (itm (bestA v) i)) := (isA_per hA.1).comp (per_inv hpo)
    have hl := listOf_isA hs
    have hm := hB.max (b := listOf v.length (fun i => inv v.length (itm o) (itm (bestA v) i))) (by rw [permC_length]; exact hl) hw.1
    have he : worthI (permC v o) (listOf v.length (fun i => inv v.length (itm o) (itm (bestA v) i))) = worthI v (bestA v) := by
      rw [worth_sum (listOf_length _ _), worth_sum hA.1.1]
      exact sumTo_congr fun i hi => by
        have hj := (isA_lt hA.1 i hi).2
        rw [listOf_itm hi, permC_bid hi (hpo.inv_spec hj).1, (hpo.inv_spec hj).2]
    omega
  omega

theorem grow_worth {v : List (List Int)} {t : Nat} {m : Int} (hv : Bids v) (ht : t < v.length) {a : List Int} (hA : IsA a v.length) : worthI (growC v t m) a = worthI v a + m := by
  rw [worth_sum hA.1, worth_sum hA.1]
  have h1 : sumTo (fun i => bid (growC v t m) i (itm a i)) v.length = sumTo (fun i => bid v i (itm a i) + (fun j => if j = t then m else 0) (itm a i)) v.length :=
    sumTo_congr fun i hi => growC_bid hi (by rw [(hv.2.2 i hi).1]; exact ht)
  rw [h1, sumTo_add, (isA_per hA).sum (fun j => if j = t then m else 0), sumTo_update (fun _ => (0 : Int)) t m ht, sumTo_const]
  omega
theorem grow_best {v : List (List Int)} {t : Nat} {m : Int} (hv : Bids v) (ht : t < v.length) : bestA (growC v t m) = bestA v := by
  have hb := bestA_best hv.1
  refine bestA_eq ⟨by rw [growC_length]; exact hb.1, ?_⟩
  rw [growC_length]
  rcases hb.2 with ⟨h0, h1⟩ | ⟨h0, h1⟩
  · exact absurd hb.1 (h1 _)
  · refine .inr ⟨h0, fun x hx => ?_⟩
    rw [grow_worth hv ht hx, grow_worth hv ht hb.1]
    rcases h1 x hx with h2 | ⟨h2, h3⟩
    · exact .inl (by omega)
    · exact .inr ⟨by omega, h3⟩
theorem grow_least {v : List (List Int)} {t : Nat} {m : Int} (hv : Bids v) (ht : t < v.length) (hm : 0 ≤ m) : iget (leastL (growC v t m) (bestA (growC v t m))) t ≤ iget (leastL v (bestA v)) t + m := by
  have hb := bestA_best hv.1
  have htg : t < (growC v t m).length := by rw [growC_length]; exact ht
  rw [grow_best hv ht, leastL_get htg, leastL_get ht]
  have hrow : ∀ i, i < v.length → t < (rget v i).length := fun i hi => by rw [(hv.2.2 i hi).1]; exact ht
  have := leastP_le (v := growC v t m) (a := bestA v) (h := fun j => leastP (wl v (bestA v)) v.length j + if j = t then m else 0) ?_ ?_ htg
  · simpa using this
  · intro y z hy hz
    rw [growC_length] at hy hz
    obtain ⟨i, hi, rfl⟩ := (isA_per hb.1).surj hy
    have hA' : IsA (bestA v) (growC v t m).length := by rw [growC_length]; exact hb.1
    rw [wl_own hA' (by rw [growC_length]; exact hi), growC_bid hi (hrow i hi), growC_bid hi (hrow i hi)]
    have h := leastP_step hb hv.1 hy hz
    rw [wl_own hb.1 hi] at h
    omega
  · intro j _
    have := leastP_nonneg (wl v (bestA v)) v.length j
    by_cases e : j = t
    · simp only [e, if_true]; have := leastP_nonneg (wl v (bestA v)) v.length t; omega
    · simp only [if_neg e]; omega
end Go.Proofs.Ytjjbeccimeehfaa
