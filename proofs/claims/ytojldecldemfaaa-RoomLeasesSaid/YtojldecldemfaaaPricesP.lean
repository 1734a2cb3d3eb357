/- Raising prices in rounds comes to the greatest sums along paths, the least prices; harm is price; plain, no program. -/
import Derived.Test.YtojldecldemfaaaLinkP
import Derived.Test.YtojldecldemfaaaRefE
namespace Go.Proofs.Ytojldecldemfaaa
set_option linter.unusedVariables false
set_option linter.unusedSimpArgs false

/-- Item k's price, raised for the owner i. -/
def bfStep (v : List (List Int)) (a : List Int) (q : List Int) (i k : Nat) : List Int := q.set k (max (iget q k) (iget q (itm a i) + bid v i k - bid v i (itm a i)))
def bfJ (v : List (List Int)) (a : List Int) (q : List Int) (i : Nat) : Nat → List Int
  | 0 => q
  | k + 1 => bfStep v a (bfJ v a q i k) i k
def bfI (v : List (List Int)) (a : List Int) (q : List Int) : Nat → List Int
  | 0 => q
  | k + 1 => bfJ v a (bfI v a q k) k v.length
def bfR (v : List (List Int)) (a : List Int) : Nat → List Int
  | 0 => List.replicate v.length 0
  | r + 1 => bfI v a (bfR v a r) v.length
theorem ints_ext' {xs ys : List Int} (h : ∀ j, j < xs.length → iget xs j = iget ys j) (hl : xs.length = ys.length) : xs = ys := take_ext h hl
theorem bfStep_length (v : List (List Int)) (a q : List Int) (i k : Nat) : (bfStep v a q i k).length = q.length := by simp [bfStep]
theorem bfJ_length (v : List (List Int)) (a q : List Int) (i : Nat) : ∀ k, (bfJ v a q i k).length = q.length
  | 0 => rfl
  | k + 1 => by simp only [bfJ]; rw [bfStep_length, bfJ_length v a q i k]
theorem bfI_length (v : List (List Int)) (a q : List Int) : ∀ k, (bfI v a q k).length = q.length
  | 0 => rfl
  | k + 1 => by simp only [bfI]; rw [bfJ_length, bfI_length v a q k]
theorem bfR_length (v : List (List Int)) (a : List Int) : ∀ r, (bfR v a r).length = v.length
  | 0 => by simp [bfR]
  | r + 1 => by simp only [bfR]; rw [bfI_length, bfR_length v a r]

/-- Prices that lie between 0 and h, a solution of what the rounds ask. -/
def Under (n : Nat) (h : Nat → Int) (q : List Int) : Prop := q.length = n ∧ ∀ j, j < n → 0 ≤ iget q j ∧ iget q j ≤ h j
theorem wl_of {v : List (List Int)} {a : List Int} (ha : IsA a v.length) {i : Nat} (hi : i < v.length) (k : Nat) : wl v a (itm a i) k = bid v i k - bid v i (itm a i) := by
  unfold wl wt; rw [(isA_per ha).inv_of hi]
theorem under_step {v : List (List Int)} {a q : List Int} {h : Nat → Int} (ha : IsA a v.length) (hh : ∀ y z, y < v.length → z < v.length → h y + wl v a y z ≤ h z) (hq : Under v.length h q) {i k : Nat} (hi : i < v.length) (hk : k < v.length) : Under v.length h (bfStep v a q i k) := by
  refine ⟨by rw [bfStep_length]; exact hq.1, fun j hj => ?_⟩
  unfold bfStep
  rw [iget_set (by rw [hq.1]; exact hk)]
  have h1 := hq.2 j hj
  split
  · rename_i e
    subst e
    have ho := (isA_lt ha i hi).2
    have h2 := hq.2 _ ho
    have h3 := hh _ k ho hk
    rw [wl_of ha hi] at h3
    omega
  · exact h1
theorem under_J {v : List (List Int)} {a q : List Int} {h : Nat → Int} (ha : IsA a v.length) (hh : ∀ y z, y < v.length → z < v.length → h y + wl v a y z ≤ h z) (hq : Under v.length h q) {i : Nat} (hi : i < v.length) : ∀ k, k ≤ v.length → Under v.length h (bfJ v a q i k)
  | 0, _ => hq
  | k + 1, hk => under_step ha hh (under_J ha hh hq hi k (by omega)) hi (by omega)
theorem under_I {v : List (List Int)} {a q : List Int} {h : Nat → Int} (ha : IsA a v.length) (hh : ∀ y z, y < v.length → z < v.length → h y + wl v a y z ≤ h z) (hq : Under v.length h q) : ∀ k, k ≤ v.length → Under v.length h (bfI v a q k)
  | 0, _ => hq
  | k + 1, hk => under_J ha hh (under_I ha hh hq k (by omega)) (by omega) _ (Nat.le_refl _)
theorem under_R {v : List (List Int)} {a : List Int} {h : Nat → Int} (ha : IsA a v.length) (hh : ∀ y z, y < v.length → z < v.length → h y + wl v a y z ≤ h z) (h0 : ∀ j, j < v.length → 0 ≤ h j) : ∀ r, Under v.length h (bfR v a r)
  | 0 => ⟨by simp [bfR], fun j hj => by simp [bfR, iget, List.getD, hj]; exact h0 j hj⟩
  | r + 1 => under_I ha hh (under_R ha hh h0 r) _ (Nat.le_refl _)

/-- Prices only rise. -/
theorem step_ge {v : List (List Int)} {a q : List Int} {i k : Nat} (hk : k < q.length) (j : Nat) : iget q j ≤ iget (bfStep v a q i k) j := by
  unfold bfStep
  rw [iget_set hk]
  split
  · rename_i e; subst e; omega
  · exact Int.le_refl _
theorem J_ge {v : List (List Int)} {a q : List Int} {i : Nat} (j : Nat) : ∀ k, k ≤ q.length → iget q j ≤ iget (bfJ v a q i k) j
  | 0, _ => Int.le_refl _
  | k + 1, hk => by
    have h1 := J_ge (v := v) (a := a) (q := q) (i := i) j k (by omega)
    have h2 := step_ge (v := v) (a := a) (q := bfJ v a q i k) (i := i) (k := k) (by rw [bfJ_length]; omega) j
    simp only [bfJ]; omega
theorem J_le_J {v : List (List Int)} {a q : List Int} {i : Nat} (j k : Nat) : ∀ m, k + m ≤ q.length → iget (bfJ v a q i k) j ≤ iget (bfJ v a q i (k + m)) j
  | 0, _ => Int.le_refl _
  | m + 1, hk => by
    have h1 := J_le_J (v := v) (a := a) (q := q) (i := i) j k m (by omega)
    have h2 := step_ge (v := v) (a := a) (q := bfJ v a q i (k + m)) (i := i) (k := k + m) (by rw [bfJ_length]; omega) j
    show _ ≤ iget (bfStep v a (bfJ v a q i (k + m)) i (k + m)) j
    omega
theorem I_ge {v : List (List Int)} {a q : List Int} (hq : q.length = v.length) (j : Nat) : ∀ k, iget q j ≤ iget (bfI v a q k) j
  | 0 => Int.le_refl _
  | k + 1 => by
    have h1 := I_ge (v := v) (a := a) hq j k
    have h2 := J_ge (v := v) (a := a) (q := bfI v a q k) (i := k) j v.length (by rw [bfI_length, hq]; exact Nat.le_refl _)
    simp only [bfI]; omega
theorem I_le_I {v : List (List Int)} {a q : List Int} (hq : q.length = v.length) (j k : Nat) : ∀ m, iget (bfI v a q k) j ≤ iget (bfI v a q (k + m)) j
  | 0 => Int.le_refl _
  | m + 1 => by
    have h1 := I_le_I (v := v) (a := a) hq j k m
    have h2 := J_ge (v := v) (a := a) (q := bfI v a q (k + m)) (i := k + m) j v.length (by rw [bfI_length, hq]; exact Nat.le_refl _)
    show _ ≤ iget (bfJ v a (bfI v a q (k + m)) (k + m) v.length) j
    omega
/-- A round raises each price to what an edge asks. -/
theorem round_edge {v : List (List Int)} {a q : List Int} (ha : IsA a v.length) (hq : q.length = v.length) {x j : Nat} (hx : x < v.length) (hj : j < v.length) : iget q x + wl v a x j ≤ iget (bfI v a q v.length) j := by
  obtain ⟨i, hi, rfl⟩ := (isA_per ha).surj hx
  rw [wl_of ha hi]
  have h1 := I_ge (v := v) (a := a) hq (itm a i) i
  have hl : (bfI v a q i).length = v.length := by rw [bfI_length, hq]
  have h2 := J_ge (v := v) (a := a) (q := bfI v a q i) (i := i) (itm a i) j (by omega)
  have h3 := J_le_J (v := v) (a := a) (q := bfI v a q i) (i := i) j (j + 1) (v.length - (j + 1)) (by omega)
  have h4 := I_le_I (v := v) (a := a) hq j (i + 1) (v.length - (i + 1))
  rw [show j + 1 + (v.length - (j + 1)) = v.length by omega] at h3
  rw [show i + 1 + (v.length - (i + 1)) = v.length by omega] at h4
  have h5 : iget (bfJ v a (bfI v a q i) i (j + 1)) j = max (iget (bfJ v a (bfI v a q i) i j) j) (iget (bfJ v a (bfI v a q i) i j) (itm a i) + bid v i j - bid v i (itm a i)) := by
    simp only [bfJ, bfStep]
    rw [iget_set (by rw [bfJ_length, hl]; exact hj), if_pos rfl]
  have h6 : iget (bfJ v a (bfI v a q i) i v.length) j ≤ iget (bfI v a q v.length) j := h4
  omega
theorem path_R {v : List (List Int)} {a : List Int} (ha : IsA a v.length) : ∀ (r : Nat) (L : List Nat) (x : Nat) (s : Nat), L.length + s = r → (∀ y, y ∈ x :: L → y < v.length) → ∀ t, t ≤ iget (bfR v a s) x → t + psum (wl v a) x L ≤ iget (bfR v a r) (lastOf x L)
  | r, [], x, s, hr, hx, t, ht => by
    simp at hr; subst hr
    simp [psum, lastOf]; exact ht
  | r, y :: L, x, s, hr, hx, t, ht => by
    have h1 := round_edge ha (bfR_length v a s) (hx x (by simp)) (hx y (by simp))
    have h2 := path_R ha r L y (s + 1) (by simp at hr; omega) (fun z hz => hx z (List.mem_cons_of_mem _ hz)) (t + wl v a x y) (by simp only [bfR]; omega)
    simp only [psum, lastOf]; omega
theorem R_mono {v : List (List Int)} {a : List Int} (r j : Nat) : ∀ m, iget (bfR v a r) j ≤ iget (bfR v a (r + m)) j
  | 0 => Int.le_refl _
  | m + 1 => by
    have h1 := R_mono (v := v) (a := a) r j m
    have h2 := I_ge (v := v) (a := a) (bfR_length v a (r + m)) j v.length
    show _ ≤ iget (bfI v a (bfR v a (r + m)) v.length) j
    omega

/-- The least prices solve what the rounds ask. -/
theorem noGain_best {v : List (List Int)} {a : List Int} (hb : IsBest v a) (h0 : 0 < v.length) : NoGain (wl v a) v.length := by
  refine noGain_of_best (isA_per hb.1) (fun t ht => ?_)
  have h1 := hb.max (listOf_isA ht) h0
  rw [worth_val (listOf_length _ _), worth_val hb.1.1] at h1
  rw [val_congr (t := t) (fun i hi => listOf_itm hi)] at h1
  exact h1
theorem leastP_step {v : List (List Int)} {a : List Int} (hb : IsBest v a) (h0 : 0 < v.length) {y z : Nat} (hy : y < v.length) (hz : z < v.length) : leastP (wl v a) v.length y + wl v a y z ≤ leastP (wl v a) v.length z := by
  have hN := noGain_best hb h0
  have hC := lnkS_clo (wl v a) v.length
  unfold leastP
  obtain ⟨z0, zge⟩ := maxTo_ge (fun i => lnkS (wl v a) v.length i z) v.length
  rcases maxTo_eq (fun i => lnkS (wl v a) v.length i y) v.length with e | ⟨i, hi, e⟩
  · have h1 := hC.step hN hy hy hz
    rw [hC.self hy] at h1
    have h2 := zge y hy
    rw [e]; omega
  · have h1 := hC.step hN hi hy hz
    have h2 := zge i hi
    rw [e]; omega
theorem leastP_nonneg (w : Nat → Nat → Int) (n j : Nat) : 0 ≤ leastP w n j := (maxTo_ge _ n).1
/-- Every solution from 0 on is at least as great. -/
theorem leastP_le {v : List (List Int)} {a : List Int} {h : Nat → Int} (hh : ∀ y z, y < v.length → z < v.length → h y + wl v a y z ≤ h z) (h0 : ∀ j, j < v.length → 0 ≤ h j) {j : Nat} (hj : j < v.length) : leastP (wl v a) v.length j ≤ h j := by
  unfold leastP
  rcases maxTo_eq (fun i => lnkS (wl v a) v.length i j) v.length with e | ⟨i, hi, e⟩
  · rw [e]; exact h0 j hj
  · have := (lnkS_clo (wl v a) v.length).le hh hi hj
    have := h0 i hi
    rw [e]; omega
/-- The rounds come to the least prices. -/
theorem bfR_least {v : List (List Int)} {a : List Int} (hb : IsBest v a) (h0 : 0 < v.length) : bfR v a v.length = leastL v a := by
  refine ints_ext' (fun j hj => ?_) (by rw [bfR_length]; simp [leastL])
  rw [bfR_length] at hj
  have e : iget (leastL v a) j = leastP (wl v a) v.length j := by simp [leastL, iget, List.getD, hj]
  rw [e]
  have hu := (under_R (h := fun j => leastP (wl v a) v.length j) hb.1 (fun y z hy hz => leastP_step hb h0 hy hz) (fun j _ => leastP_nonneg _ _ j) v.length).2 j hj
  refine Int.le_antisymm hu.2 ?_
  unfold leastP
  rcases maxTo_eq (fun i => lnkS (wl v a) v.length i j) v.length with e | ⟨i, hi, e⟩
  · rw [e]; exact hu.1
  · rw [e]
    obtain ⟨L, hL, rfl, hp⟩ := (lnkS_clo (wl v a) v.length).path i j hi hj
    rw [← hp]
    have hlen : (i :: L).length ≤ (List.range v.length).length := hL.nodup.length_le_of_subset (fun y hy => List.mem_range.2 (hL.lt y hy))
    simp at hlen
    have h1 := path_R hb.1 L.length L i 0 (by omega) hL.lt 0 (by simp [bfR, iget, List.getD, hi])
    have h2 := R_mono (v := v) (a := a) L.length (lastOf i L) (v.length - L.length)
    rw [show L.length + (v.length - L.length) = v.length by omega] at h2
    omega
theorem firstMax_exists (v : List (List Int)) : ∀ k, ∃ b, FirstMax (fun x => IsA x v.length ∧ numA v.length 0 x < k) (worthI v) b
  | 0 => ⟨[], .inl ⟨rfl, fun x hx => by omega⟩⟩
  | k + 1 => by
    obtain ⟨b, hb⟩ := firstMax_exists v k
    by_cases hc : ∃ cur, IsA cur v.length ∧ numA v.length 0 cur = k
    · obtain ⟨cur, h1, h2⟩ := hc
      have hS : ∀ x, (IsA x v.length ∧ numA v.length 0 x < k) → llt x cur := fun x hx => num_llt (by rw [hx.1.1, h1.1]) (isA_digits hx.1) (isA_digits h1) (by omega)
      have hT : ∀ x, ((IsA x v.length ∧ numA v.length 0 x < k) ∨ x = cur) ↔ (IsA x v.length ∧ numA v.length 0 x < k + 1) := fun x => by
        constructor
        · rintro (h | rfl)
          · exact ⟨h.1, by omega⟩
          · exact ⟨h1, by omega⟩
        · rintro ⟨h3, h4⟩
          by_cases e : numA v.length 0 x < k
          · exact .inl ⟨h3, e⟩
          · exact .inr (num_inj (by rw [h3.1, h1.1]) (isA_digits h3) (isA_digits h1) (by omega))
      rcases hb with h3 | ⟨h3, h4⟩
      · exact ⟨cur, (FirstMax.add (.inl h3) hS (.inl h3)).congr hT (fun _ _ => rfl)⟩
      · by_cases e : worthI v b < worthI v cur
        · exact ⟨cur, (FirstMax.add (.inr ⟨h3, h4⟩) hS (.inr ⟨h3, e⟩)).congr hT (fun _ _ => rfl)⟩
        · exact ⟨b, (FirstMax.keep (.inr ⟨h3, h4⟩) hS ⟨h3, by omega⟩).congr hT (fun _ _ => rfl)⟩
    · exact ⟨b, hb.congr (fun x => ⟨fun h => ⟨h.1, by omega⟩, fun h => ⟨h.1, by
        have : numA v.length 0 x ≠ k := fun e => hc ⟨x, h.1, e⟩
        omega⟩⟩) (fun _ _ => rfl)⟩
/-- The best assignment is one. -/
theorem bestA_best {v : List (List Int)} (h0 : 0 < v.length) : IsBest v (bestA v) := by
  obtain ⟨b, hb⟩ := firstMax_exists v (v.length ^ v.length)
  have h1 : FirstMax (fun x => IsA x v.length) (worthI v) b := hb.congr (fun x => ⟨fun h => h.1, fun h => ⟨h, by have := numA_lt x (isA_digits h); rw [h.1] at this; exact this⟩⟩) (fun _ _ => rfl)
  have h2 : IsBest v b := ⟨by
    rcases h1 with ⟨_, h⟩ | ⟨h, _⟩
    · exact absurd (listOf_isA (Per.id v.length)) (h _)
    · exact h, h1⟩
  rw [bestA_eq h2]; exact h2
end Go.Proofs.Ytojldecldemfaaa
