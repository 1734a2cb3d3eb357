/- Harm: what the others get without an agent is what they get where it bids nothing; the least price of its item; plain, no program. -/
import Derived.Test.YtjjbeccimeehfaaPricesP
import Derived.Test.YtjjbeccimeehfaaBest
namespace Go.Proofs.Ytjjbeccimeehfaa
set_option linter.unusedVariables false
set_option linter.unusedSimpArgs false

/-- The bids where agent i bids nothing. -/
def zeroed (v : List (List Int)) (i : Nat) : List (List Int) := v.set i (List.replicate v.length 0)
theorem zeroed_length (v : List (List Int)) (i : Nat) : (zeroed v i).length = v.length := by simp [zeroed]
theorem bid_zeroed {v : List (List Int)} {i : Nat} (hi : i < v.length) (k j : Nat) : bid (zeroed v i) k j = if k = i then 0 else bid v k j := by
  unfold bid zeroed
  have : rget (v.set i (List.replicate v.length 0)) k = if i = k then List.replicate v.length 0 else rget v k := by
    simp only [rget, List.getD, List.getElem?_set]
    split
    · rename_i h; subst h; simp [hi]
    · rfl
  rw [this]
  by_cases e : k = i
  · subst e; simp only [if_true]
    simp only [iget, List.getD, List.getElem?_replicate]; split <;> rfl
  · rw [if_neg (fun h => e h.symm), if_neg e]
theorem zeroed_bids {v : List (List Int)} (hv : Bids v) {i : Nat} (hi : i < v.length) : Bids (zeroed v i) := by
  refine ⟨by rw [zeroed_length]; exact hv.1, by rw [zeroed_length]; exact hv.2.1, fun k hk => ?_⟩
  rw [zeroed_length] at hk ⊢
  have hr : rget (zeroed v i) k = if i = k then List.replicate v.length 0 else rget v k := by
    simp only [rget, zeroed, List.getD, List.getElem?_set]
    split
    · rename_i h; subst h; simp [hi]
    · rfl
  refine ⟨?_, fun j hj => ?_⟩
  · rw [hr]; split
    · simp
    · exact (hv.2.2 k hk).1
  · have := bid_zeroed hi k j
    unfold bid at this
    rw [this]
    split
    · omega
    · exact (hv.2.2 k hk).2 j hj
theorem worth_zeroed {v : List (List Int)} {i : Nat} (hi : i < v.length) {a : List Int} (ha : a.length = v.length) : worthI (zeroed v i) a = worthI v a - bid v i (itm a i) := by
  unfold worthI
  rw [ha]
  rw [sumTo_congr (g := fun k => if k = i then 0 else bid v k (itm a k)) (fun k _ => bid_zeroed hi k _), sumTo_update (fun k => bid v k (itm a k)) i 0 hi]
  omega
theorem pv_zeroed {v : List (List Int)} {i : Nat} (hi : i < v.length) {x : List Int} (hx : x.length = v.length) : worthI (zeroed v i) x = pv v (i : Int) x := by
  unfold worthI pv pvTo
  rw [hx]
  exact sumTo_congr fun k _ => by
    rw [bid_zeroed hi k]
    by_cases e : k = i
    · subst e; simp
    · rw [if_neg e, if_neg (by omega)]
theorem worth_set_self {v : List (List Int)} {i : Nat} (hi : i < v.length) {x : List Int} (hx : x.length = v.length) (u : Int) : worthI (zeroed v i) (x.set i u) = worthI (zeroed v i) x := by
  unfold worthI
  rw [List.length_set, hx]
  refine sumTo_congr fun k hk => ?_
  rw [bid_zeroed hi k, bid_zeroed hi k]
  by_cases e : k = i
  · simp [e]
  · rw [if_neg e, if_neg e]
    simp only [itm]
    rw [iget_set (by omega), if_neg (fun h => e h.symm)]
/-- An assignment without agent i's item. -/
theorem part_of_isA {n i : Nat} (hi : i < n) {b : List Int} (hb : IsA b n) : Part n (i : Int) (b.set i (-1)) := by
  refine ⟨by rw [List.length_set]; exact hb.1, fun k hk => ⟨fun e => ?_, fun e => ?_⟩⟩
  · have : k = i := by omega
    subst this; rw [iget_set (by rw [hb.1]; exact hk), if_pos rfl]
  · rw [iget_set (by rw [hb.1]; exact hi), if_neg (fun h => e (by omega))]
    have h1 := isA_lt hb k hk
    refine ⟨h1.1, by simp only [itm] at h1; omega, fun l hl hs => ?_⟩
    rw [iget_set (by rw [hb.1]; exact hi), if_neg (fun h => hs (by omega))]
    intro e2
    have := isA_inj hb (by omega) hk e2
    omega
/-- .. and agent i gets what is left. -/
theorem isA_of_part {n i : Nat} (hi : i < n) {x : List Int} (hx : Part n (i : Int) x) : ∃ u, IsA (x.set i u) n := by
  -- the items of the others, one a place
  have hp : ∀ k, k < n → k ≠ i → 0 ≤ iget x k ∧ iget x k < n := fun k hk e => by
    have := (hx.2 k hk).2 (by omega); exact ⟨this.1, this.2.1⟩
  have hinj : ∀ k l, k < n → l < n → k ≠ i → l ≠ i → iget x k = iget x l → k = l := fun k l hk hl ek el e => by
    rcases Nat.lt_trichotomy k l with h | h | h
    · exact absurd e (((hx.2 l hl).2 (by omega)).2.2 k h (by omega))
    · exact h
    · exact absurd e.symm (((hx.2 k hk).2 (by omega)).2.2 l h (by omega))
  obtain ⟨j, hj, hfree⟩ : ∃ j, j < n ∧ ∀ k, k < n → k ≠ i → itm x k ≠ j := by
    apply Classical.byContradiction
    intro hc
    have hall : ∀ j, j < n → ∃ k, k < n ∧ k ≠ i ∧ itm x k = j := fun j hj => by
      apply Classical.byContradiction
      intro h
      exact hc ⟨j, hj, fun k hk e1 e2 => h ⟨k, hk, e1, e2⟩⟩
    have hsub : ∀ j, j ∈ List.range n → j ∈ (((List.range n).erase i).map (itm x)) := fun j hj => by
      obtain ⟨k, hk, e1, e2⟩ := hall j (List.mem_range.1 hj)
      exact List.mem_map.2 ⟨k, (List.mem_erase_of_ne e1).2 (List.mem_range.2 hk), e2⟩
    have := List.nodup_range.length_le_of_subset hsub
    rw [List.length_map, List.length_erase_of_mem (List.mem_range.2 hi), List.length_range] at this
    omega
  refine ⟨(j : Int), isA_of (by rw [List.length_set]; exact hx.1) (fun k hk => ?_) ⟨fun k hk => ?_, fun k l hk hl e => ?_⟩⟩
  · rw [iget_set (by rw [hx.1]; exact hi)]
    split
    · omega
    · exact (hp k hk (by omega)).1
  · simp only [itm]
    rw [iget_set (by rw [hx.1]; exact hi)]
    split
    · omega
    · have := hp k hk (by omega); omega
  · have hg : ∀ k, itm (x.set i (j : Int)) k = if i = k then j else itm x k := fun k => by
      simp only [itm]
      rw [iget_set (by rw [hx.1]; exact hi)]
      split <;> simp
    rw [hg k, hg l] at e
    by_cases ek : i = k
    · by_cases el : i = l
      · omega
      · rw [if_pos ek, if_neg el] at e
        exact absurd e.symm (hfree l hl (fun h => el h.symm))
    · by_cases el : i = l
      · rw [if_neg ek, if_pos el] at e
        exact absurd e (hfree k hk (fun h => ek h.symm))
      · rw [if_neg ek, if_neg el] at e
        have h1 := hp k hk (fun h => ek h.symm)
        have h2 := hp l hl (fun h => el h.symm)
        exact hinj k l hk hl (fun h => ek h.symm) (fun h => el h.symm) (by simp only [itm] at e; omega)
/-- What the others get without agent i is what all get where it bids nothing. -/
theorem others_eq {v : List (List Int)} (h0 : 0 < v.length) {i : Nat} (hi : i < v.length) {b : List Int} (hP : Part v.length (i : Int) b) (hF : FirstMax (Part v.length (i : Int)) (pv v (i : Int)) b) :
    pv v (i : Int) b = worthI (zeroed v i) (bestA (zeroed v i)) := by
  have hB := bestA_best (v := zeroed v i) (by rw [zeroed_length]; exact h0)
  rw [IsBest, zeroed_length] at hB
  apply Int.le_antisymm
  · obtain ⟨u, hu⟩ := isA_of_part hi hP
    rw [← pv_zeroed hi hP.1, ← worth_set_self hi hP.1 u]
    rcases hB.2 with ⟨_, h⟩ | ⟨_, h⟩
    · exact absurd hu (h _)
    · rcases h _ hu with h2 | ⟨h2, _⟩ <;> omega
  · have hp := part_of_isA hi hB.1
    rw [← worth_set_self hi hB.1.1 (-1), pv_zeroed hi (by rw [List.length_set]; exact hB.1.1)]
    rcases hF with ⟨_, h⟩ | ⟨_, h⟩
    · exact absurd hP (h _)
    · rcases h _ hp with h2 | ⟨h2, _⟩ <;> omega
/-- The harm of agent i. -/
noncomputable def harmN (v : List (List Int)) (a : List Int) (i : Nat) : Int := worthI (zeroed v i) (bestA (zeroed v i)) - (worthI v a - bid v i (itm a i))
noncomputable def harmL (v : List (List Int)) : List Int := if Bids v then (List.range v.length).map (fun i => harmN v (bestA v) i) else []

/-- Harm is the least price of the agent's item. -/
theorem harm_price {v : List (List Int)} (hv : Bids v) {i : Nat} (hi : i < v.length) : harmN v (bestA v) i = leastP (wl v (bestA v)) v.length (itm (bestA v) i) := by
  have hB := bestA_best hv.1
  obtain ⟨a, ha⟩ : ∃ a, bestA v = a := ⟨_, rfl⟩
  rw [ha] at hB ⊢
  have hper := isA_per hB.1
  have hai := hper.lt i hi
  have hN := noGain_best hB hv.1
  have hZ := bestA_best (v := zeroed v i) (by rw [zeroed_length]; exact hv.1)
  rw [IsBest, zeroed_length] at hZ
  unfold harmN
  rw [← worth_zeroed hi hB.1.1]
  have hval : ∀ t : List Int, IsA t v.length → worthI (zeroed v i) t = val (fun k j => if k = i then 0 else bid v k j) v.length (itm t) := fun t ht => by
    unfold worthI val; rw [ht.1]; exact sumTo_congr fun k _ => bid_zeroed hi k _
  apply Int.le_antisymm
  · -- by prices: no assignment of the others gains more
    obtain ⟨t, ht⟩ : ∃ t, bestA (zeroed v i) = t := ⟨_, rfl⟩
    rw [ht] at hZ ⊢
    have hpt := isA_per hZ.1
    rw [hval t hZ.1, hval a hB.1]
    have h1 : val (fun k j => if k = i then 0 else bid v k j) v.length (itm t) - val (fun k j => if k = i then 0 else bid v k j) v.length (itm a) ≤
        sumTo (fun k => if k = i then 0 else leastP (wl v a) v.length (itm t k) - leastP (wl v a) v.length (itm a k)) v.length := by
      unfold val
      rw [← sumTo_sub]
      refine sumTo_le fun k hk => ?_
      by_cases e : k = i
      · simp [e]
      · simp only [e, if_false]
        have h2 := leastP_step hB hv.1 (hper.lt k hk) (hpt.lt k hk)
        rw [wl_of hB.1 hk] at h2
        omega
    have h3 : sumTo (fun k => if k = i then 0 else leastP (wl v a) v.length (itm t k) - leastP (wl v a) v.length (itm a k)) v.length =
        sumTo (fun k => leastP (wl v a) v.length (itm t k) - leastP (wl v a) v.length (itm a k)) v.length - (leastP (wl v a) v.length (itm t i) - leastP (wl v a) v.length (itm a i)) + 0 := sumTo_update _ i 0 hi
    rw [sumTo_sub, hpt.sum (fun j => leastP (wl v a) v.length j), hper.sum (fun j => leastP (wl v a) v.length j)] at h3
    have h4 := leastP_nonneg (wl v a) v.length (itm t i)
    omega
  · -- by a path: its owners move along it
    unfold leastP
    have hmax : ∀ t, Per v.length t → val (fun k j => if k = i then 0 else bid v k j) v.length t ≤ worthI (zeroed v i) (bestA (zeroed v i)) := fun t ht => by
      have h1 := listOf_isA ht
      have h2 : worthI (zeroed v i) (listOf v.length t) ≤ worthI (zeroed v i) (bestA (zeroed v i)) := by
        rcases hZ.2 with ⟨_, h⟩ | ⟨_, h⟩
        · exact absurd h1 (h _)
        · rcases h _ h1 with h2 | ⟨h2, _⟩ <;> omega
      rw [hval _ h1] at h2
      rw [val_congr (t := itm (listOf v.length t)) (fun k hk => (listOf_itm hk).symm)]
      exact h2
    rcases maxTo_eq (fun x => lnkS (wl v a) v.length x (itm a i)) v.length with e | ⟨x, hx, e⟩
    · rw [e]
      have h1 := hmax (itm a) hper
      rw [hval a hB.1]; omega
    · rw [e]
      obtain ⟨L, hL, hlast, hp⟩ := (lnkS_clo (wl v a) v.length).path x (itm a i) hx hai
      rw [← hp]
      obtain ⟨ρ, hρ, _, _, h3⟩ := cycle_perm v.length L x hL
      have h4 := h3 (wt (fun k j => if k = i then 0 else bid v k j) v.length (itm a)) (wt_self _ _ _)
      have h5 := val_comp (c := fun k j => if k = i then 0 else bid v k j) (ρ := ρ) hper
      have h6 := hmax _ (hper.comp hρ)
      have hw : ∀ y, wt (fun k j => if k = i then 0 else bid v k j) v.length (itm a) (itm a i) y = 0 := fun y => by unfold wt; rw [hper.inv_of hi]; simp
      have hw2 : ∀ z y, z < v.length → z ≠ itm a i → wt (fun k j => if k = i then 0 else bid v k j) v.length (itm a) z y = wl v a z y := fun z y hz hne => by
        have := hper.inv_spec hz
        have hni : inv v.length (itm a) z ≠ i := fun e => hne (by rw [← this.2, e])
        unfold wl wt; simp [hni]
      have hps : ∀ (M : List Nat) (z : Nat), Simple v.length z M → lastOf z M = itm a i → psum (wt (fun k j => if k = i then 0 else bid v k j) v.length (itm a)) z M = psum (wl v a) z M := by
        intro M
        induction M with
        | nil => intro z _ _; rfl
        | cons y M ih =>
          intro z hz hl
          simp only [lastOf] at hl
          simp only [psum]
          rw [ih y hz.tail hl, hw2 z y (hz.lt z (by simp)) (fun e => ?_)]
          have hm := lastOf_mem y M
          rw [hl, ← e] at hm
          exact (List.nodup_cons.1 hz.nodup).1 hm
      rw [hps L x hL hlast, hlast, hw] at h4
      rw [hval a hB.1]
      omega
end Go.Proofs.Ytjjbeccimeehfaa
