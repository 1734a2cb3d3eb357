/- Raising prices in rounds comes to the greatest sums along paths, the least prices; harm is price; plain, no program. -/
import Derived.Test.YtmcncflieoolmaaTopTopRentm3
import Derived.Test.YtmcncflieoolmaaTopTopRentm6
import Derived.StillTailTactics
/- Raising prices in rounds comes to the greatest sums along paths, the least prices; harm is price; plain, no program. -/
namespace Go.Proofs.Ytmcncflieoolmaa
set_option linter.unusedVariables false
set_option linter.unusedSimpArgs false

/-- Item k's price, raised for the owner i. -/
def bfStep (v : List (List Int)) (a : List Int) (q : List Int) (i k : Nat) : List Int := q.set k (max (iget q k) (iget q (itm a i) + bid v i k - bid v i (itm a i)))
def bfJ (v : List (List Int)) (a : List Int) (q : List Int) (i : Nat) : Nat → List Int
  | 0 => q
  | k + 1 => bfStep v a (bfJ v a q i k) i k
def bfI (v : List (List Int)) (a : List Int) (q : List Int) : Nat → List Int
  | 0 => q
  | k + 1 => bfJ v a (bfI v a q k) k v.length
def bfR (v : List (List Int)) (a : List Int) : Nat → List Int
  | 0 => List.replicate v.length 0
  | r + 1 => bfI v a (bfR v a r) v.length
theorem ints_ext' {xs ys : List Int} (h : ∀ j, j < xs.length → iget xs j = iget ys j) (hl : xs.length = ys.length) : xs = ys := take_ext h hl
theorem bfStep_length (v : List (List Int)) (a q : List Int) (i k : Nat) : (bfStep v a q i k).length = q.length := by simp [bfStep]
theorem bfJ_length (v : List (List Int)) (a q : List Int) (i : Nat) : ∀ k, (bfJ v a q i k).length = q.length
  | 0 => rfl
  | k + 1 => by simp only [bfJ]; rw [bfStep_length, bfJ_length v a q i k]
theorem bfI_length (v : List (List Int)) (a q : List Int) : ∀ k, (bfI v a q k).length = q.length
  | 0 => rfl
  | k + 1 => by simp only [bfI]; rw [bfJ_length, bfI_length v a q k]
theorem bfR_length (v : List (List Int)) (a : List Int) : ∀ r, (bfR v a r).length = v.length
  | 0 => by simp [bfR]
  | r + 1 => by simp only [bfR]; rw [bfI_length, bfR_length v a r]

/-- Prices that lie between 0 and h, a solution of what the rounds ask. -/
def Under (n : Nat) (h : Nat → Int) (q : List Int) : Prop := q.length = n ∧ ∀ j, j < n → 0 ≤ iget q j ∧ iget q j ≤ h j
theorem wl_of {v : List (List Int)} {a : List Int} (ha : IsA a v.length) {i : Nat} (hi : i < v.length) (k : Nat) : wl v a (itm a i) k = bid v i k - bid v i (itm a i) := by
  unfold wl wt; rw [(isA_per ha).inv_of hi]
theorem under_step {v : List (List Int)} {a q : List Int} {h : Nat → Int} (ha : IsA a v.length) (hh : ∀ y z, y < v.length → z < v.length → h y + wl v a y z ≤ h z) (hq : Under v.length h q) {i k : Nat} (hi : i < v.length) (hk : k < v.length) : Under v.length h (bfStep v a q i k) := by
  refine ⟨by rw [bfStep_length]; exact hq.1, fun j hj => ?_⟩
  unfold bfStep
  rw [iget_set (by rw [hq.1]; exact hk)]
  have h1 := hq.2 j hj
  split
  · rename_i e
    subst e
    have ho := (isA_lt ha i hi).2
    have h2 := hq.2 _ ho
    have h3 := hh _ k ho hk
    rw [wl_of ha hi] at h3
    omega
  · exact h1
theorem under_J {v : List (List Int)} {a q : List Int} {h : Nat → Int} (ha : IsA a v.length) (hh : ∀ y z, y < v.length → z < v.length → h y + wl v a y z ≤ h z) (hq : Under v.length h q) {i : Nat} (hi : i < v.length) : ∀ k, k ≤ v.length → Under v.length h (bfJ v a q i k)
  | 0, _ => hq
  | k + 1, hk => under_step ha hh (under_J ha hh hq hi k (by omega)) hi (by omega)
theorem under_I {v : List (List Int)} {a q : List Int} {h : Nat → Int} (ha : IsA a v.length) (hh : ∀ y z, y < v.length → z < v.length → h y + wl v a y z ≤ h z) (hq : Under v.length h q) : ∀ k, k ≤ v.length → Under v.length h (bfI v a q k)
  | 0, _ => hq
  | k + 1, hk => under_J ha hh (under_I ha hh hq k (by omega)) (by omega) _ (Nat.le_refl _)
theorem under_R {v : List (List Int)} {a : List Int} {h : Nat → Int} (ha : IsA a v.length) (hh : ∀ y z, y < v.length → z < v.length → h y + wl v a y z ≤ h z) (h0 : ∀ j, j < v.length → 0 ≤ h j) : ∀ r, Under v.length h (bfR v a r)
  | 0 => ⟨by simp [bfR], fun j hj => by simp [bfR, iget, List.getD, hj]; exact h0 j hj⟩
  | r + 1 => under_I ha hh (under_R ha hh h0 r) _ (Nat.le_refl _)

/-- Prices only rise. -/
theorem step_ge {v : List (List Int)} {a q : List Int} {i k : Nat} (hk : k < q.length) (j : Nat) : iget q j ≤ iget (bfStep v a q i k) j := by
  unfold bfStep
  rw [iget_set hk]
  split
  · rename_i e; subst e; omega
  · exact Int.le_refl _
theorem J_ge {v : List (List Int)} {a q : List Int} {i : Nat} (j : Nat) : ∀ k, k ≤ q.length → iget q j ≤ iget (bfJ v a q i k) j
  | 0, _ => Int.le_refl _
  | k + 1, hk => by
    have h1 := J_ge (v := v) (a := a) (q := q) (i := i) j k (by omega)
    have h2 := step_ge (v := v) (a := a) (q := bfJ v a q i k) (i := i) (k := k) (by rw [bfJ_length]; omega) j
    simp only [bfJ]; omega
theorem J_le_J {v : List (List Int)} {a q : List Int} {i : Nat} (j k : Nat) : ∀ m, k + m ≤ q.length → iget (bfJ v a q i k) j ≤ iget (bfJ v a q i (k + m)) j
  | 0, _ => Int.le_refl _
  | m + 1, hk => by
    have h1 := J_le_J (v := v) (a := a) (q := q) (i := i) j k m (by omega)
    have h2 := step_ge (v := v) (a := a) (q := bfJ v a q i (k + m)) (i := i) (k := k + m) (by rw [bfJ_length]; omega) j
    show _ ≤ iget (bfStep v a (bfJ v a q i (k + m)) i (k + m)) j
    omega
theorem I_ge {v : List (List Int)} {a q : List Int} (hq : q.length = v.length) (j : Nat) : ∀ k, iget q j ≤ iget (bfI v a q k) j
  | 0 => Int.le_refl _
  | k + 1 => by
    have h1 := I_ge (v := v) (a := a) hq j k
    have h2 := J_ge (v := v) (a := a) (q := bfI v a q k) (i := k) j v.length (by rw [bfI_length, hq]; exact Nat.le_refl _)
    simp only [bfI]; omega
theorem I_le_I {v : List (List Int)} {a q : List Int} (hq : q.length = v.length) (j k : Nat) : ∀ m, iget (bfI v a q k) j ≤ iget (bfI v a q (k + m)) j
  | 0 => Int.le_refl _
  | m + 1 => by
    have h1 := I_le_I (v := v) (a := a) hq j k m
    have h2 := J_ge (v := v) (a := a) (q := bfI v a q (k + m)) (i := k + m) j v.length (by rw [bfI_length, hq]; exact Nat.le_refl _)
    show _ ≤ iget (bfJ v a (bfI v a q (k + m)) (k + m) v.length) j
    omega
/-- A round raises each price to what an edge asks. -/
theorem round_edge {v : List (List Int)} {a q : List Int} (ha : IsA a v.length) (hq : q.length = v.length) {x j : Nat} (hx : x < v.length) (hj : j < v.length) : iget q x + wl v a x j ≤ iget (bfI v a q v.length) j := by
  obtain ⟨i, hi, rfl⟩ := (isA_per ha).surj hx
  rw [wl_of ha hi]
  have h1 := I_ge (v := v) (a := a) hq (itm a i) i
  have hl : (bfI v a q i).length = v.length := by rw [bfI_length, hq]
  have h2 := J_ge (v := v) (a := a) (q := bfI v a q i) (i := i) (itm a i) j (by omega)
  have h3 := J_le_J (v := v) (a := a) (q := bfI v a q i) (i := i) j (j + 1) (v.length - (j + 1)) (by omega)
  have h4 := I_le_I (v := v) (a := a) hq j (i + 1) (v.length - (i + 1))
  rw [show j + 1 + (v.length - (j + 1)) = v.length by omega] at h3
  rw [show i + 1 + (v.length - (i + 1)) = v.length by omega] at h4
  have h5 : iget (bfJ v a (bfI v a q i) i (j + 1)) j = max (iget (bfJ v a (bfI v a q i) i j) j) (iget (bfJ v a (bfI v a q i) i j) (itm a i) + bid v i j - bid v i (itm a i)) := by
    simp only [bfJ, bfStep]
    rw [iget_set (by rw [bfJ_length, hl]; exact hj), if_pos rfl]
  have h6 : iget (bfJ v a (bfI v a q i) i v.length) j ≤ iget (bfI v a q v.length) j := h4
  omega
theorem path_R {v : List (List Int)} {a : List Int} (ha : IsA a v.length) : ∀ (r : Nat) (L : List Nat) (x : Nat) (s : Nat), L.length + s = r → (∀ y, y ∈ x :: L → y < v.length) → ∀ t, t ≤ iget (bfR v a s) x → t + psum (wl v a) x L ≤ iget (bfR v a r) (lastOf x L)
  | r, [], x, s, hr, hx, t, ht => by
    simp at hr; subst hr
    simp [psum, lastOf]; exact ht
  | r, y :: L, x, s, hr, hx, t, ht => by
    have h1 := round_edge ha (bfR_length v a s) (hx x (by simp)) (hx y (by simp))
    have h2 := path_R ha r L y (s + 1) (by simp at hr; omega) (fun z hz => hx z (List.mem_cons_of_mem _ hz)) (t + wl v a x y) (by simp only [bfR]; omega)
    simp only [psum, lastOf]; omega
theorem R_mono {v : List (List Int)} {a : List Int} (r j : Nat) : ∀ m, iget (bfR v a r) j ≤ iget (bfR v a (r + m)) j
  | 0 => Int.le_refl _
  | m + 1 => by
    have h1 := R_mono (v := v) (a := a) r j m
    have h2 := I_ge (v := v) (a := a) (bfR_length v a (r + m)) j v.length
    show _ ≤ iget (bfI v a (bfR v a (r + m)) v.length) j
    omega

/-- The least prices solve what the rounds ask. -/
theorem noGain_best {v : List (List Int)} {a : List Int} (hb : IsBest v a) (h0 : 0 < v.length) : NoGain (wl v a) v.length := by
  refine noGain_of_best (isA_per hb.1) (fun t ht => ?_)
  have h1 := hb.max (listOf_isA ht) h0
  rw [worth_val (listOf_length _ _), worth_val hb.1.1] at h1
  rw [val_congr (t := t) (fun i hi => listOf_itm hi)] at h1
  exact h1
theorem leastP_step {v : List (List Int)} {a : List Int} (hb : IsBest v a) (h0 : 0 < v.length) {y z : Nat} (hy : y < v.length) (hz : z < v.length) : leastP (wl v a) v.length y + wl v a y z ≤ leastP (wl v a) v.length z := by
  have hN := noGain_best hb h0
  have hC := lnkS_clo (wl v a) v.length
  unfold leastP
  obtain ⟨z0, zge⟩ := maxTo_ge (fun i => lnkS (wl v a) v.length i z) v.length
  rcases maxTo_eq (fun i => lnkS (wl v a) v.length i y) v.length with e | ⟨i, hi, e⟩
  · have h1 := hC.step hN hy hy hz
    rw [hC.self hy] at h1
    have h2 := zge y hy
    rw [e]; omega
  · have h1 := hC.step hN hi hy hz
    have h2 := zge i hi
    rw [e]; omega
theorem leastP_nonneg (w : Nat → Nat → Int) (n j : Nat) : 0 ≤ leastP w n j := (maxTo_ge _ n).1
/-- Every solution from 0 on is at least as great. -/
theorem leastP_le {v : List (List Int)} {a : List Int} {h : Nat → Int} (hh : ∀ y z, y < v.length → z < v.length → h y + wl v a y z ≤ h z) (h0 : ∀ j, j < v.length → 0 ≤ h j) {j : Nat} (hj : j < v.length) : leastP (wl v a) v.length j ≤ h j := by
  unfold leastP
  rcases maxTo_eq (fun i => lnkS (wl v a) v.length i j) v.length with e | ⟨i, hi, e⟩
  · rw [e]; exact h0 j hj
  · have := (lnkS_clo (wl v a) v.length).le hh hi hj
    have := h0 i hi
    rw [e]; omega
/-- The rounds come to the least prices. -/
theorem bfR_least {v : List (List Int)} {a : List Int} (hb : IsBest v a) (h0 : 0 < v.length) : bfR v a v.length = leastL v a := by
  refine ints_ext' (fun j hj => ?_) (by rw [bfR_length]; simp [leastL])
  rw [bfR_length] at hj
  have e : iget (leastL v a) j = leastP (wl v a) v.length j := by simp [leastL, iget, List.getD, hj]
  rw [e]
  have hu := (under_R (h := fun j => leastP (wl v a) v.length j) hb.1 (fun y z hy hz => leastP_step hb h0 hy hz) (fun j _ => leastP_nonneg _ _ j) v.length).2 j hj
  refine Int.le_antisymm hu.2 ?_
  unfold leastP
  rcases maxTo_eq (fun i => lnkS (wl v a) v.length i j) v.length with e | ⟨i, hi, e⟩
  · rw [e]; exact hu.1
  · rw [e]
    obtain ⟨L, hL, rfl, hp⟩ := (lnkS_clo (wl v a) v.length).path i j hi hj
    rw [← hp]
    have hlen : (i :: L).length ≤ (List.range v.length).length := hL.nodup.length_le_of_subset (fun y hy => List.mem_range.2 (hL.lt y hy))
    simp at hlen
    have h1 := path_R hb.1 L.length L i 0 (by omega) hL.lt 0 (by simp [bfR, iget, List.getD, hi])
    have h2 := R_mono (v := v) (a := a) L.length (lastOf i L) (v.length - L.length)
    rw [show L.length + (v.length - L.length) = v.length by omega] at h2
    omega
theorem firstMax_exists (v : List (List Int)) : ∀ k, ∃ b, FirstMax (fun x => IsA x v.length ∧ numA v.length 0 x < k) (worthI v) b
  | 0 => ⟨[], .inl ⟨rfl, fun x hx => by omega⟩⟩
  | k + 1 => by
    obtain ⟨b, hb⟩ := firstMax_exists v k
    by_cases hc : ∃ cur, IsA cur v.length ∧ numA v.length 0 cur = k
    · obtain ⟨cur, h1, h2⟩ := hc
      have hS : ∀ x, (IsA x v.length ∧ numA v.length 0 x < k) → llt x cur := fun x hx => num_llt (by rw [hx.1.1, h1.1]) (isA_digits hx.1) (isA_digits h1) (by omega)
      have hT : ∀ x, ((IsA x v.length ∧ numA v.length 0 x < k) ∨ x = cur) ↔ (IsA x v.length ∧ numA v.length 0 x < k + 1) := fun x => by
        constructor
        · rintro (h | rfl)
          · exact ⟨h.1, by omega⟩
          · exact ⟨h1, by omega⟩
        · rintro ⟨h3, h4⟩
          by_cases e : numA v.length 0 x < k
          · exact .inl ⟨h3, e⟩
          · exact .inr (num_inj (by rw [h3.1, h1.1]) (isA_digits h3) (isA_digits h1) (by omega))
      rcases hb with h3 | ⟨h3, h4⟩
      · exact ⟨cur, (FirstMax.add (.inl h3) hS (.inl h3)).congr hT (fun _ _ => rfl)⟩
      · by_cases e : worthI v b < worthI v cur
        · exact ⟨cur, (FirstMax.add (.inr ⟨h3, h4⟩) hS (.inr ⟨h3, e⟩)).congr hT (fun _ _ => rfl)⟩
        · exact ⟨b, (FirstMax.keep (.inr ⟨h3, h4⟩) hS ⟨h3, by omega⟩).congr hT (fun _ _ => rfl)⟩
    · exact ⟨b, hb.congr (fun x => ⟨fun h => ⟨h.1, by omega⟩, fun h => ⟨h.1, by
        have : numA v.length 0 x ≠ k := fun e => hc ⟨x, h.1, e⟩
        omega⟩⟩) (fun _ _ => rfl)⟩
/-- The best assignment is one. -/
theorem bestA_best {v : List (List Int)} (h0 : 0 < v.length) : IsBest v (bestA v) := by
  obtain ⟨b, hb⟩ := firstMax_exists v (v.length ^ v.length)
  have h1 : FirstMax (fun x => IsA x v.length) (worthI v) b := hb.congr (fun x => ⟨fun h => h.1, fun h => ⟨h, by have := numA_lt x (isA_digits h); rw [h.1] at this; exact this⟩⟩) (fun _ _ => rfl)
  have h2 : IsBest v b := ⟨by
    rcases h1 with ⟨_, h⟩ | ⟨h, _⟩
    · exact absurd (listOf_isA (Per.id v.length)) (h _)
    · exact h, h1⟩
  rw [bestA_eq h2]; exact h2
end Go.Proofs.Ytmcncflieoolmaa

/- The walk of assign.Prices, for every bids. -/
namespace Go.Proofs.Ytmcncflieoolmaa
set_option linter.unusedVariables false
set_option linter.unusedSimpArgs false
open Go.ChangeShapes Go.WideShapes Go.ChangeAt Go.RowKit Go.Deep

/-- What Prices hands back. -/
noncomputable def priceL (v : List (List Int)) : List Int := if Bids v then leastL v (bestA v) else []

/-- The prices in the rounds lie between 0 and a small number. -/
def Small (n : Nat) (q : List Int) : Prop := q.length = n ∧ ∀ j, j < n → 0 ≤ iget q j ∧ iget q j ≤ 6000000
theorem leastP_bound {v : List (List Int)} {a : List Int} (hv : Bids v) (ha : IsA a v.length) (j : Nat) : leastP (wl v a) v.length j ≤ 6000000 := by
  unfold leastP
  exact (maxTo_bound (f := fun i => lnkS (wl v a) v.length i j) (M := 6000000) (by omega) (fun i hi => (lnkS_bound hv ha j hi).2)).2
theorem small_J {v : List (List Int)} {a : List Int} (hv : Bids v) (hb : IsBest v a) {r i k : Nat} (hi : i < v.length) (hk : k ≤ v.length) : Small v.length (bfJ v a (bfI v a (bfR v a r) i) i k) := by
  have hh : ∀ y z, y < v.length → z < v.length → leastP (wl v a) v.length y + wl v a y z ≤ leastP (wl v a) v.length z := fun y z hy hz => leastP_step hb hv.1 hy hz
  have h := under_J hb.1 hh (under_I hb.1 hh (under_R hb.1 hh (fun j _ => leastP_nonneg _ _ j) r) i (by omega)) hi k hk
  exact ⟨h.1, fun j hj => ⟨(h.2 j hj).1, Int.le_trans (h.2 j hj).2 (leastP_bound hv hb.1 j)⟩⟩

set_option maxHeartbeats 4000000 in
set_option maxRecDepth 100000 in
theorem prices_any (p : Option Addr) (c : Nat) (v : List (List Int)) (w : World) (hx : Mat w p c v) :
    Calls Try.prog 14 #[.slice p v.length c] w (Gives2 w (priceL v) (chkI v)) := by
  by_cases hv : Bids v
  · have h6 := hv.2.1
    have HL : Hid (priceL v = leastL v (bestA v)) := by unfold Hid priceL; rw [if_pos hv]
    have HB : Hid (bestL v = bestA v) := by unfold Hid bestL; rw [if_pos hv]
    have hc := chkI_bids hv
    have Hc := Lib.hid hc
    clear hc
    have hcz : (chkI v != 0) = false := by rw [Hc.out]; rfl
    go_enter Try.func14, Try.ntmps14
    go_wp2_with fail
    refine (bestTop_any p c v w hx).mono ?_
    rintro e w1 ⟨q, d, rfl, hO, hb⟩
    have hBest : IsBest v (bestA v) := bestA_best hv.1
    rw [HB.out] at hO ⊢
    obtain ⟨a, ha⟩ : ∃ a, bestA v = a := ⟨_, rfl⟩
    rw [ha] at hO hBest HL ⊢
    clear ha
    have hal := hBest.1.1
    have Hal := Lib.hid hal
    have hx1 := hx.below hb (Nat.le_refl _)
    have hI := hO.ints
    have hsz := hb.size
    clear hal hO
    go_wp2_with (at_make; refine wpList_mk rfl (.tmp 21) (.tmp 21) rfl w.heap.size v.length rfl rfl (by omega) hsz ?_; intro w2 hO2 hg2 hs2)
    have hz : bfR v a 0 = List.replicate v.length 0 := rfl
    rw [← hz] at hO2
    have hb2 : Below w1.heap.size w1 w2 := (Below.refl _ _).grown hg2 (Nat.le_refl _) (fun _ e => by cases e)
    have HX := Lib.hid hx1
    have HI := Lib.hid hI
    have HO2 := Lib.hid hO2
    have HB2 := Lib.hid hb2
    clear hx1 hI hg2 hs2 hz hO2 hb2
    go_loopw [25] (fun t wr => ∃ r : Nat, r ≤ v.length ∧ t = .int .i64 r ∧ Own wr w.heap.size (some ⟨w1.heap.size, 0, none⟩) v.length (bfR v a r) ∧ Below w1.heap.size w1 wr) (fun t _ => v.length - (intOf t).toNat)
    case atStart => exact ⟨0, Nat.zero_le _, rfl, HO2.out, HB2.out⟩
    case round =>
      obtain ⟨r, hr, rfl, hO, hbr⟩ := hrel
      have HOr := Lib.hid hO
      have HBr := Lib.hid hbr
      clear hO hbr
      by_cases hrn : r < v.length
      · have hr1 : (r : Int) < v.length := by omega
        go_wp2_with fail
        go_loopw [29] (fun t wr => ∃ i : Nat, i ≤ v.length ∧ t = .int .i64 i ∧ Own wr w.heap.size (some ⟨w1.heap.size, 0, none⟩) v.length (bfI v a (bfR v a r) i) ∧ Below w1.heap.size w1 wr) (fun t _ => v.length - (intOf t).toNat)
        case atStart => exact ⟨0, Nat.zero_le _, rfl, HOr.out, HBr.out⟩
        case round =>
          obtain ⟨i, hi, rfl, hO, hbr⟩ := hrel
          have HOi := Lib.hid hO
          have hIi := HI.out.below hbr (Nat.le_refl _)
          have HBi := Lib.hid hbr
          clear hO hbr
          by_cases hin : i < v.length
          · have hal : i < a.length := by rw [Hal.out]; exact hin
            have hal1 : (i : Int) < a.length := by omega
            obtain ⟨b, o, rfl, _, hci⟩ := hIi.get hal
            go_wp2_with fail
            go_loopw [36] (fun t wr => ∃ k : Nat, k ≤ v.length ∧ t = .int .i64 k ∧ Own wr w.heap.size (some ⟨w1.heap.size, 0, none⟩) v.length (bfJ v a (bfI v a (bfR v a r) i) i k) ∧ Below w1.heap.size w1 wr) (fun t _ => v.length - (intOf t).toNat)
            case atStart => exact ⟨0, Nat.zero_le _, rfl, HOi.out, HBi.out⟩
            case round =>
              obtain ⟨k, hk, rfl, hO, hbr⟩ := hrel
              by_cases hkn : k < v.length
              · have hk1 : (k : Int) < v.length := by omega
                have hxr := HX.out.below hbr (Nat.le_refl _)
                obtain ⟨b2, o2, rfl, _, q1, d1, hcr, hir⟩ := hxr.get hin
                obtain ⟨i1, i2⟩ := isA_lt hBest.1 i hin
                have hrl := (hv.2.2 i hin).1
                have hin1 : (i : Int) < v.length := by omega
                obtain ⟨b3, o3, rfl, _, hcik⟩ := hir.get (j := k) (by omega)
                have hcio := hir.at (j := itm a i) (by omega)
                have hsm := small_J (r := r) hv hBest hin hk
                have hqk := hO.at (j := k) (by rw [hsm.1]; exact hkn)
                have hqo := hO.at (j := itm a i) (by rw [hsm.1]; exact i2)
                have hfk := hO.free k
                have s1 := hsm.2 k hkn
                have s2 := hsm.2 _ i2
                have v1 := (hv.2.2 i hin).2 k hkn
                have v2 := (hv.2.2 i hin).2 _ i2
                have Hst : Hid (bfJ v a (bfI v a (bfR v a r) i) i (k + 1) = (bfJ v a (bfI v a (bfR v a r) i) i k).set k (max (iget (bfJ v a (bfI v a (bfR v a r) i) i k) k) (iget (bfJ v a (bfI v a (bfR v a r) i) i k) (itm a i) + iget (rget v i) k - iget (rget v i) (itm a i)))) := rfl
                obtain ⟨x, hxx⟩ : ∃ x : Nat, iget a i = (x : Int) := ⟨(iget a i).toNat, by omega⟩
                have hit : itm a i = x := by simp [itm, hxx]
                rw [hit] at hcio hqo s2 v2 i2 Hst
                rw [hxx] at hci ⊢
                clear hxx hit i1
                have hk2 : (k : Int) < (rget v i).length := by omega
                have hk3 : (x : Int) < (rget v i).length := by omega
                have hk4 : (x : Int) < v.length := by omega
                clear hrl
                generalize bfJ v a (bfI v a (bfR v a r) i) i k = Q at *
                have HOq := Lib.hid hO
                have HBq := Lib.hid hbr
                clear hsm hO hbr
                obtain ⟨y1, e1⟩ : ∃ y, iget Q k = y := ⟨_, rfl⟩
                obtain ⟨y2, e2⟩ : ∃ y, iget Q x = y := ⟨_, rfl⟩
                obtain ⟨y3, e3⟩ : ∃ y, iget (rget v i) k = y := ⟨_, rfl⟩
                obtain ⟨y4, e4⟩ : ∃ y, iget (rget v i) x = y := ⟨_, rfl⟩
                rw [e1] at hqk s1 Hst
                rw [e2] at hqo s2 Hst
                rw [e3] at hcik v1 Hst
                rw [e4] at hcio v2 Hst
                clear e1 e2 e3 e4
                have hin3 : in64 y1 := ⟨by omega, by omega⟩
                have hin4 : in64 (y2 + y3 - y4) := ⟨by omega, by omega⟩
                by_cases hgt : y1 < y2 + y3 - y4
                · have Hm : Hid (max y1 (y2 + y3 - y4) = y2 + y3 - y4) := by unfold Hid; omega
                  go_wp2_with fail
                  go_still_tail 28, (by kernel_rfl)
                  go_wp2_with fail
                  go_roundw
                  case rel => exact ⟨k + 1, by omega, by go_num, by rw [Hst.out, Hm.out]; exact (HOq.out.set k hin4).1.drew1, (HBq.out.setCell (p := ⟨w1.heap.size, k, none⟩) (Nat.le_refl _) _).drew⟩
                  case measure => simp [intOf]; omega
                · have Hm : Hid (max y1 (y2 + y3 - y4) = y1) := by unfold Hid; omega
                  have hle : y2 + y3 - y4 ≤ y1 := by omega
                  go_wp2_with fail
                  go_still_tail 28, (by kernel_rfl)
                  go_wp2_with fail
                  go_roundw
                  case rel => exact ⟨k + 1, by omega, by go_num, by rw [Hst.out, Hm.out]; exact (HOq.out.set k hin3).1.drew1, (HBq.out.setCell (p := ⟨w1.heap.size, k, none⟩) (Nat.le_refl _) _).drew⟩
                  case measure => simp [intOf]; omega
              · have hk1 : ¬ (k : Int) < v.length := by omega
                obtain rfl : k = v.length := by omega
                go_wp2_with fail
                go_roundw
                case rel => exact ⟨i + 1, by omega, by go_num, hO, hbr⟩
                case measure => simp [intOf]; omega
          · have hin1 : ¬ (i : Int) < a.length := by have := Hal.out; omega
            obtain rfl : i = v.length := by omega
            go_wp2_with fail
            go_roundw
            case rel => exact ⟨r + 1, by omega, by go_num, HOi.out, HBi.out⟩
            case measure => simp [intOf]; omega
      · have hr1 : ¬ (r : Int) < v.length := by omega
        obtain rfl : r = v.length := by omega
        have hO := HOr.out
        rw [bfR_least hBest hv.1] at hO
        have hl : (leastL v a).length = v.length := by simp [leastL]
        have Hl := Lib.hid hl
        clear hl
        go_wp2_with fail
        go_ret2
        rw [HL.out, Hc.out]
        exact ⟨some ⟨w1.heap.size, 0, none⟩, v.length, by rw [Hl.out]; rfl, hO, hb.trans (HBr.out.mono hsz)⟩
  · have hc : (chkI v != 0) = true := by rw [bne_iff_ne]; exact fun h => hv (chkI_zero.1 h)
    have HL : Hid (priceL v = []) := by unfold Hid priceL; rw [if_neg hv]
    go_enter Try.func14, Try.ntmps14
    go_wp2_with fail
    refine (bestTop_any p c v w hx).mono ?_
    rintro e w1 ⟨q, d, rfl, hO, hb⟩
    go_wp2_with fail
    go_ret2
    rw [HL.out]
    exact ⟨none, 0, rfl, Own.ofNil _ _, hb⟩
end Go.Proofs.Ytmcncflieoolmaa

/- The walks of room.Check and the reference's Check, of slices.Index and room.gcd, of the reference's Great and Same; no condition but sizes. -/
namespace Go.Proofs.Ytmcncflieoolmaa
set_option linter.unusedVariables false
set_option linter.unusedSimpArgs false
open Go.ChangeShapes Go.WideShapes Go.ChangeAt Go.RowKit Go.Deep

/-- What Check answers of a flat. -/
def chkR (v : List (List Int)) (r : Int) : Int := if Bids v then (if 0 ≤ r ∧ r ≤ 10000000 then 0 else 8) else chkI v
theorem chkR_bad {v : List (List Int)} {r : Int} (hv : ¬ Bids v) : chkR v r = chkI v := by unfold chkR; rw [if_neg hv]
theorem chkR_off {v : List (List Int)} {r : Int} (hv : Bids v) (h : ¬ (0 ≤ r ∧ r ≤ 10000000)) : chkR v r = 8 := by unfold chkR; rw [if_pos hv, if_neg h]
theorem chkR_ok {v : List (List Int)} {r : Int} (hv : Bids v) (h : 0 ≤ r ∧ r ≤ 10000000) : chkR v r = 0 := by unfold chkR; rw [if_pos hv, if_pos h]
theorem chkR_zero {v : List (List Int)} {r : Int} : chkR v r = 0 ↔ Bids v ∧ 0 ≤ r ∧ r ≤ 10000000 := by
  constructor
  · intro h
    by_cases hv : Bids v
    · by_cases hr : 0 ≤ r ∧ r ≤ 10000000
      · exact ⟨hv, hr⟩
      · rw [chkR_off hv hr] at h; cases h
    · rw [chkR_bad hv] at h; exact absurd (chkI_zero.1 h) hv
  · rintro ⟨h1, h2⟩; exact chkR_ok h1 h2

set_option maxHeartbeats 800000 in
theorem roomCheck_any (p : Option Addr) (c : Nat) (v : List (List Int)) (r : Int) (w : World) (hx : Mat w p c v) :
    Calls Try.prog 18 #[.agg #[.slice p v.length c, .int .i64 r]] w fun e w' => e = .returned (.int .i64 (chkR v r)) ∧ Below w.heap.size w w' := by
  have hb : Below w.heap.size w (w.alloc (.cells #[.slice p v.length c, .int .i64 r] 24)) := (Below.refl _ _).alloc (Nat.le_refl _) _
  have hx1 := hx.below hb (Nat.le_refl _)
  by_cases hv : Bids v
  · have hcz : (chkI v != 0) = false := by rw [chkI_bids hv]; rfl
    have Hv := Lib.hid hv
    clear hv
    by_cases hlow : r < 0
    · have hdl : decide (r < 0) = true := by simpa using hlow
      go_enter Try.func18, Try.ntmps18
      go_wp2_with fail
      refine (check_any p c v _ hx1).mono ?_
      rintro e w' ⟨rfl, rfl⟩
      go_wp2_with fail
      go_ret
      exact ⟨ret_int (chkR_off Hv.out (by omega)).symm, hb⟩
    · have hdl : decide (r < 0) = false := by simpa using hlow
      go_enter Try.func18, Try.ntmps18
      go_wp2_with fail
      refine (check_any p c v _ hx1).mono ?_
      rintro e w' ⟨rfl, rfl⟩
      go_wp2_with fail
      · have hgt : 10000000 < r := by assumption
        go_ret
        exact ⟨ret_int (chkR_off Hv.out (by omega)).symm, hb⟩
      · have hgt : r ≤ 10000000 := by assumption
        go_ret
        exact ⟨ret_int (chkR_ok Hv.out ⟨by omega, hgt⟩).symm, hb⟩
  · have hcz : (chkI v != 0) = true := by rw [bne_iff_ne]; exact fun h => hv (chkI_zero.1 h)
    have Hv := Lib.hid hv
    clear hv
    go_enter Try.func18, Try.ntmps18
    go_wp2_with fail
    refine (check_any p c v _ hx1).mono ?_
    rintro e w' ⟨rfl, rfl⟩
    go_wp2_with fail
    go_ret
    exact ⟨ret_int (chkR_bad Hv.out).symm, hb⟩

set_option maxHeartbeats 800000 in
theorem refCheckR_any (p : Option Addr) (c : Nat) (v : List (List Int)) (r : Int) (w : World) (hx : Mat w p c v) :
    Calls Try.prog 5 #[.agg #[.slice p v.length c, .int .i64 r]] w fun e w' => e = .returned (.int .i64 (chkR v r)) ∧ Below w.heap.size w w' := by
  have hb : Below w.heap.size w (w.alloc (.cells #[.slice p v.length c, .int .i64 r] 24)) := (Below.refl _ _).alloc (Nat.le_refl _) _
  have hx1 := hx.below hb (Nat.le_refl _)
  by_cases hv : Bids v
  · have hcz : (chkI v != 0) = false := by rw [chkI_bids hv]; rfl
    have Hv := Lib.hid hv
    clear hv
    by_cases hlow : r < 0
    · have hdl : decide (r < 0) = true := by simpa using hlow
      go_enter Try.func5, Try.ntmps5
      go_wp2_with fail
      refine (refCheck_any p c v _ hx1).mono ?_
      rintro e w' ⟨rfl, rfl⟩
      go_wp2_with fail
      go_ret
      exact ⟨ret_int (chkR_off Hv.out (by omega)).symm, hb⟩
    · have hdl : decide (r < 0) = false := by simpa using hlow
      go_enter Try.func5, Try.ntmps5
      go_wp2_with fail
      refine (refCheck_any p c v _ hx1).mono ?_
      rintro e w' ⟨rfl, rfl⟩
      go_wp2_with fail
      · have hgt : 10000000 < r := by assumption
        go_ret
        exact ⟨ret_int (chkR_off Hv.out (by omega)).symm, hb⟩
      · have hgt : r ≤ 10000000 := by assumption
        go_ret
        exact ⟨ret_int (chkR_ok Hv.out ⟨by omega, hgt⟩).symm, hb⟩
  · have hcz : (chkI v != 0) = true := by rw [bne_iff_ne]; exact fun h => hv (chkI_zero.1 h)
    have Hv := Lib.hid hv
    clear hv
    go_enter Try.func5, Try.ntmps5
    go_wp2_with fail
    refine (refCheck_any p c v _ hx1).mono ?_
    rintro e w' ⟨rfl, rfl⟩
    go_wp2_with fail
    refine (refCheck_any p c v _ hx1).mono ?_
    rintro e w' ⟨rfl, rfl⟩
    go_wp2_with fail
    go_ret
    exact ⟨ret_int (chkR_bad Hv.out).symm, hb⟩

set_option maxHeartbeats 400000 in
/-- slices.Index where the number is there: its first place. -/
theorem index_of (p : Option Addr) (c : Nat) (xs : List Int) (x : Int) (k : Nat) (w : World) (hx : Ints w p c xs) (hk : k < xs.length) (hxk : iget xs k = x) (hne : Hid (∀ j, j ≤ k → j ≠ k → iget xs j ≠ x)) :
    Calls Try.prog 56 #[.slice p xs.length c, .int .i64 x] w fun e w' => e = .returned (.int .i64 k) ∧ w' = w := by
  have hl1 := hx.length_le
  have Hxk := Lib.hid hxk
  clear hxk
  go_enter Try.func56, Try.ntmps56
  go_wp2_with fail
  go_loop [8] (fun t => ∃ m : Nat, m ≤ k ∧ t = .int .i64 m) (fun t => k - (intOf t).toNat)
  case atStart => exact ⟨0, Nat.zero_le _, rfl⟩
  case round =>
    obtain ⟨m, hm, rfl⟩ := hrel
    obtain ⟨b, o, rfl, _, hc⟩ := hx.get (j := m) (by omega)
    have hm1 : (m : Int) < xs.length := by omega
    by_cases e : m = k
    · have he : (x == iget xs m) = true := by rw [e, Hxk.out]; simp
      obtain rfl : m = k := e
      go_wp2_with fail
      go_ret
      exact ⟨rfl, rfl⟩
    · have he : (x == iget xs m) = false := by rw [beq_eq_false_iff_ne]; exact fun h => hne.out m hm e h.symm
      go_wp2_with fail
      go_round
      case rel => exact ⟨m + 1, by omega, by go_num⟩
      case measure => simp [intOf]; omega

set_option maxHeartbeats 400000 in
theorem roomGcd_any (a b : Nat) (w : World) (ha : a ≤ 4611686018427387904) (hb : b ≤ 4611686018427387904) :
    Calls Try.prog 20 #[.int .i64 a, .int .i64 b] w fun e w' => e = .returned (.int .i64 (Nat.gcd a b : Nat)) ∧ ∃ n, w' = w.drewN n := by
  go_enter Try.func20, Try.ntmps20
  go_wp2_with fail
  go_loopw [0, 1] (fun s t wr => ∃ x y : Nat, s = .int .i64 x ∧ t = .int .i64 y ∧ Hid (Nat.gcd x y = Nat.gcd a b) ∧ x ≤ 4611686018427387904 ∧ y ≤ 4611686018427387904 ∧ ∃ n, wr = w.drewN n) (fun _ t _ => (intOf t).toNat)
  case atStart => exact ⟨a, b, rfl, rfl, rfl, ha, hb, drew_refl w⟩
  case round =>
    obtain ⟨x, y, rfl, rfl, hg, hx, hy, hw⟩ := hrel
    have Hw := Lib.hid hw
    clear hw
    by_cases h0 : y = 0
    · have hz : ((y : Int) != 0) = false := by simp [h0]
      have H0 := Lib.hid h0
      clear h0
      go_wp2_with fail
      go_ret
      exact ⟨ret_int (by rw [← hg.out, H0.out, Nat.gcd_zero_right]), Hw.out⟩
    · have hz : ((y : Int) != 0) = true := by rw [bne_iff_ne]; omega
      have hy0 : (0 : Int) < y := by omega
      have hx0 : (0 : Int) ≤ x := by omega
      have hlt := Nat.mod_lt x (by omega : y > 0)
      have hdv : ((x : Int)).tmod y = ((x % y : Nat) : Int) := by rw [Int.tmod_eq_emod_of_nonneg hx0]; omega
      go_wp2_with fail
      go_quiet (fail)
      go_wp2_with fail
      go_roundw
      case rel => exact ⟨y, x % y, rfl, by congr 1, by unfold Hid; rw [Nat.gcd_comm, ← Nat.gcd_rec, Nat.gcd_comm]; exact hg.out, hy, by omega, drew_drewN _ Hw.out⟩
      case measure => simp only [intOf]; omega

/-- Larger than the statements consider. -/
def greatL (v : List (List Int)) (xs ys : List Int) : Bool := decide (GreatP v ∨ 50 < xs.length ∨ 50 < ys.length)
theorem greatL_true {v : List (List Int)} {xs ys : List Int} (h : GreatP v ∨ 50 < xs.length ∨ 50 < ys.length) : greatL v xs ys = true := by simp [greatL, h]
theorem greatL_false {v : List (List Int)} {xs ys : List Int} (h : ¬ (GreatP v ∨ 50 < xs.length ∨ 50 < ys.length)) : greatL v xs ys = false := by unfold greatL; rw [decide_eq_false_iff_not]; exact h

/-- Equal lists, laid twice. -/
theorem sameI_true {p q : Option Addr} {c d n m : Nat} {xs ys : List Int} {w : World} (hn : xs.length = n) (hm : ys.length = m) (e : xs = ys) (hx : Ints w p c xs) (hy : Ints w q d ys) :
    Calls Try.prog 15 #[.slice p n c, .slice q m d] w fun e w' => e = .returned (.bool true) ∧ ∃ n, w' = w.drewN n := by
  subst hn hm e
  refine (same_any p q c d xs xs w hx hy).mono ?_
  rintro e w' ⟨he, hw⟩
  exact ⟨by rw [he, sameB_true rfl], hw⟩
/-- A lease's value. -/
def leaseV (p q : Option Addr) (n c m d : Nat) (z : Int) : Value := .agg #[.slice p n c, .slice q m d, .int .i64 z]
set_option maxHeartbeats 800000 in
theorem sameLease_true {p q p' q' : Option Addr} {c d c' d' n m n' m' : Nat} {xs ys xs' ys' : List Int} {z z' : Int} {w : World} (hn : xs.length = n) (hm : ys.length = m) (hn' : xs'.length = n') (hm' : ys'.length = m') (hz : z = z') (ex : xs = xs') (ey : ys = ys')
    (hx : Ints w p c xs) (hy : Ints w q d ys) (hx' : Ints w p' c' xs') (hy' : Ints w q' d' ys') :
    Calls Try.prog 16 #[.agg #[.slice p n c, .slice q m d, .int .i64 z], .agg #[.slice p' n' c', .slice q' m' d', .int .i64 z']] w fun e w' => e = .returned (.bool true) ∧ Below w.heap.size w w' := by
  have hb : Below w.heap.size w ((w.alloc (.cells #[.slice p n c, .slice q m d, .int .i64 z] 29)).alloc (.cells #[.slice p' n' c', .slice q' m' d', .int .i64 z'] 29)) := ((Below.refl _ _).alloc (Nat.le_refl _) _).alloc (by simp) _
  have h1 := hx.below hb (Nat.le_refl _)
  have h2 := hy.below hb (Nat.le_refl _)
  have h3 := hx'.below hb (Nat.le_refl _)
  have h4 := hy'.below hb (Nat.le_refl _)
  subst hz
  have hzz : (z == z) = true := by simp
  have Hn := Lib.hid hn
  have Hm := Lib.hid hm
  have Hn' := Lib.hid hn'
  have Hm' := Lib.hid hm'
  have Ex := Lib.hid ex
  have Ey := Lib.hid ey
  clear hn hm hn' hm' ex ey
  go_enter Try.func16, Try.ntmps16
  go_wp2_with fail
  refine (sameI_true Hn.out Hn'.out Ex.out h1 h3).mono ?_
  rintro e wa ⟨rfl, hw⟩
  have hc1 := (hb.drewP hw)
  have h2 := h2.drew hw
  have h4 := h4.drew hw
  obtain ⟨N, rfl⟩ := hw
  go_wp2_with fail
  refine (sameI_true Hm.out Hm'.out Ey.out h2 h4).mono ?_
  rintro e wb ⟨rfl, hw2⟩
  go_wp2_with fail
  go_ret
  exact ⟨rfl, hc1.drewP hw2⟩
end Go.Proofs.Ytmcncflieoolmaa
