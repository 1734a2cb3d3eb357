/- Raising prices in rounds comes to the greatest sums along paths, the least prices; harm is price; plain, no program. -/
import Derived.Test.YtllcbcanohdepaaGreatTopRentFindsm3
import Derived.Test.YtllcbcanohdepaaGreatTopRentFindsm7
import Derived.Test.YtllcbcanohdepaaGreatTopRentFindsm6
import Derived.StillTailTactics
/- Raising prices in rounds comes to the greatest sums along paths, the least prices; harm is price; plain, no program. -/
namespace Go.Proofs.YtllcbcanohdepaaGreat
set_option linter.unusedVariables false
set_option linter.unusedSimpArgs false

/-- Item k's price, raised for the owner i. -/
def bfStep (v : List (List Int)) (a : List Int) (q : List Int) (i k : Nat) : List Int := q.set k (max (iget q k) (iget q (itm a i) + bid v i k - bid v i (itm a i)))
def bfJ (v : List (List Int)) (a : List Int) (q : List Int) (i : Nat) : Nat → List Int
  | 0 => q
  | k + 1 => bfStep v a (bfJ v a q i k) i k
def bfI (v : List (List Int)) (a : List Int) (q : List Int) : Nat → List Int
  | 0 => q
  | k + 1 => bfJ v a (bfI v a q k) k v.length
def bfR (v : List (List Int)) (a : List Int) : Nat → List Int
  | 0 => List.replicate v.length 0
  | r + 1 => bfI v a (bfR v a r) v.length
theorem ints_ext' {xs ys : List Int} (h : ∀ j, j < xs.length → iget xs j = iget ys j) (hl : xs.length = ys.length) : xs = ys := take_ext h hl
theorem bfStep_length (v : List (List Int)) (a q : List Int) (i k : Nat) : (bfStep v a q i k).length = q.length := by simp [bfStep]
theorem bfJ_length (v : List (List Int)) (a q : List Int) (i : Nat) : ∀ k, (bfJ v a q i k).length = q.length
  | 0 => rfl
  | k + 1 => by simp only [bfJ]; rw [bfStep_length, bfJ_length v a q i k]
theorem bfI_length (v : List (List Int)) (a q : List Int) : ∀ k, (bfI v a q k).length = q.length
  | 0 => rfl
  | k + 1 => by simp only [bfI]; rw [bfJ_length, bfI_length v a q k]
theorem bfR_length (v : List (List Int)) (a : List Int) : ∀ r, (bfR v a r).length = v.length
  | 0 => by simp [bfR]
  | r + 1 => by simp only [bfR]; rw [bfI_length, bfR_length v a r]

/-- Prices that lie between 0 and h, a solution of what the rounds ask. -/
def Under (n : Nat) (h : Nat → Int) (q : List Int) : Prop := q.length = n ∧ ∀ j, j < n → 0 ≤ iget q j ∧ iget q j ≤ h j
theorem wl_of {v : List (List Int)} {a : List Int} (ha : IsA a v.length) {i : Nat} (hi : i < v.length) (k : Nat) : wl v a (itm a i) k = bid v i k - bid v i (itm a i) := by
  unfold wl wt; rw [(isA_per ha).inv_of hi]
theorem under_step {v : List (List Int)} {a q : List Int} {h : Nat → Int} (ha : IsA a v.length) (hh : ∀ y z, y < v.length → z < v.length → h y + wl v a y z ≤ h z) (hq : Under v.length h q) {i k : Nat} (hi : i < v.length) (hk : k < v.length) : Under v.length h (bfStep v a q i k) := by
  refine ⟨by rw [bfStep_length]; exact hq.1, fun j hj => ?_⟩
  unfold bfStep
  rw [iget_set (by rw [hq.1]; exact hk)]
  have h1 := hq.2 j hj
  split
  · rename_i e
    subst e
    have ho := (isA_lt ha i hi).2
    have h2 := hq.2 _ ho
    have h3 := hh _ k ho hk
    rw [wl_of ha hi] at h3
    omega
  · exact h1
theorem under_J {v : List (List Int)} {a q : List Int} {h : Nat → Int} (ha : IsA a v.length) (hh : ∀ y z, y < v.length → z < v.length → h y + wl v a y z ≤ h z) (hq : Under v.length h q) {i : Nat} (hi : i < v.length) : ∀ k, k ≤ v.length → Under v.length h (bfJ v a q i k)
  | 0, _ => hq
  | k + 1, hk => under_step ha hh (under_J ha hh hq hi k (by omega)) hi (by omega)
theorem under_I {v : List (List Int)} {a q : List Int} {h : Nat → Int} (ha : IsA a v.length) (hh : ∀ y z, y < v.length → z < v.length → h y + wl v a y z ≤ h z) (hq : Under v.length h q) : ∀ k, k ≤ v.length → Under v.length h (bfI v a q k)
  | 0, _ => hq
  | k + 1, hk => under_J ha hh (under_I ha hh hq k (by omega)) (by omega) _ (Nat.le_refl _)
theorem under_R {v : List (List Int)} {a : List Int} {h : Nat → Int} (ha : IsA a v.length) (hh : ∀ y z, y < v.length → z < v.length → h y + wl v a y z ≤ h z) (h0 : ∀ j, j < v.length → 0 ≤ h j) : ∀ r, Under v.length h (bfR v a r)
  | 0 => ⟨by simp [bfR], fun j hj => by simp [bfR, iget, List.getD, hj]; exact h0 j hj⟩
  | r + 1 => under_I ha hh (under_R ha hh h0 r) _ (Nat.le_refl _)

/-- Prices only rise. -/
theorem step_ge {v : List (List Int)} {a q : List Int} {i k : Nat} (hk : k < q.length) (j : Nat) : iget q j ≤ iget (bfStep v a q i k) j := by
  unfold bfStep
  rw [iget_set hk]
  split
  · rename_i e; subst e; omega
  · exact Int.le_refl _
theorem J_ge {v : List (List Int)} {a q : List Int} {i : Nat} (j : Nat) : ∀ k, k ≤ q.length → iget q j ≤ iget (bfJ v a q i k) j
  | 0, _ => Int.le_refl _
  | k + 1, hk => by
    have h1 := J_ge (v := v) (a := a) (q := q) (i := i) j k (by omega)
    have h2 := step_ge (v := v) (a := a) (q := bfJ v a q i k) (i := i) (k := k) (by rw [bfJ_length]; omega) j
    simp only [bfJ]; omega
theorem J_le_J {v : List (List Int)} {a q : List Int} {i : Nat} (j k : Nat) : ∀ m, k + m ≤ q.length → iget (bfJ v a q i k) j ≤ iget (bfJ v a q i (k + m)) j
  | 0, _ => Int.le_refl _
  | m + 1, hk => by
    have h1 := J_le_J (v := v) (a := a) (q := q) (i := i) j k m (by omega)
    have h2 := step_ge (v := v) (a := a) (q := bfJ v a q i (k + m)) (i := i) (k := k + m) (by rw [bfJ_length]; omega) j
    show _ ≤ iget (bfStep v a (bfJ v a q i (k + m)) i (k + m)) j
    omega
theorem I_ge {v : List (List Int)} {a q : List Int} (hq : q.length = v.length) (j : Nat) : ∀ k, iget q j ≤ iget (bfI v a q k) j
  | 0 => Int.le_refl _
  | k + 1 => by
    have h1 := I_ge (v := v) (a := a) hq j k
    have h2 := J_ge (v := v) (a := a) (q := bfI v a q k) (i := k) j v.length (by rw [bfI_length, hq]; exact Nat.le_refl _)
    simp only [bfI]; omega
theorem I_le_I {v : List (List Int)} {a q : List Int} (hq : q.length = v.length) (j k : Nat) : ∀ m, iget (bfI v a q k) j ≤ iget (bfI v a q (k + m)) j
  | 0 => Int.le_refl _
  | m + 1 => by
    have h1 := I_le_I (v := v) (a := a) hq j k m
    have h2 := J_ge (v := v) (a := a) (q := bfI v a q (k + m)) (i := k + m) j v.length (by rw [bfI_length, hq]; exact Nat.le_refl _)
    show _ ≤ iget (bfJ v a (bfI v a q (k + m)) (k + m) v.length) j
    omega
/-- A round raises each price to what an edge asks. -/
theorem round_edge {v : List (List Int)} {a q : List Int} (ha : IsA a v.length) (hq : q.length = v.length) {x j : Nat} (hx : x < v.length) (hj : j < v.length) : iget q x + wl v a x j ≤ iget (bfI v a q v.length) j := by
  obtain ⟨i, hi, rfl⟩ := (isA_per ha).surj hx
  rw [wl_of ha hi]
  have h1 := I_ge (v := v) (a := a) hq (itm a i) i
  have hl : (bfI v a q i).length = v.length := by rw [bfI_length, hq]
  have h2 := J_ge (v := v) (a := a) (q := bfI v a q i) (i := i) (itm a i) j (by omega)
  have h3 := J_le_J (v := v) (a := a) (q := bfI v a q i) (i := i) j (j + 1) (v.length - (j + 1)) (by omega)
  have h4 := I_le_I (v := v) (a := a) hq j (i + 1) (v.length - (i + 1))
  rw [show j + 1 + (v.length - (j + 1)) = v.length by omega] at h3
  rw [show i + 1 + (v.length - (i + 1)) = v.length by omega] at h4
  have h5 : iget (bfJ v a (bfI v a q i) i (j + 1)) j = max (iget (bfJ v a (bfI v a q i) i j) j) (iget (bfJ v a (bfI v a q i) i j) (itm a i) + bid v i j - bid v i (itm a i)) := by
    simp only [bfJ, bfStep]
    rw [iget_set (by rw [bfJ_length, hl]; exact hj), if_pos rfl]
  have h6 : iget (bfJ v a (bfI v a q i) i v.length) j ≤ iget (bfI v a q v.length) j := h4
  omega
theorem path_R {v : List (List Int)} {a : List Int} (ha : IsA a v.length) : ∀ (r : Nat) (L : List Nat) (x : Nat) (s : Nat), L.length + s = r → (∀ y, y ∈ x :: L → y < v.length) → ∀ t, t ≤ iget (bfR v a s) x → t + psum (wl v a) x L ≤ iget (bfR v a r) (lastOf x L)
  | r, [], x, s, hr, hx, t, ht => by
    simp at hr; subst hr
    simp [psum, lastOf]; exact ht
  | r, y :: L, x, s, hr, hx, t, ht => by
    have h1 := round_edge ha (bfR_length v a s) (hx x (by simp)) (hx y (by simp))
    have h2 := path_R ha r L y (s + 1) (by simp at hr; omega) (fun z hz => hx z (List.mem_cons_of_mem _ hz)) (t + wl v a x y) (by simp only [bfR]; omega)
    simp only [psum, lastOf]; omega
theorem R_mono {v : List (List Int)} {a : List Int} (r j : Nat) : ∀ m, iget (bfR v a r) j ≤ iget (bfR v a (r + m)) j
  | 0 => Int.le_refl _
  | m + 1 => by
    have h1 := R_mono (v := v) (a := a) r j m
    have h2 := I_ge (v := v) (a := a) (bfR_length v a (r + m)) j v.length
    show _ ≤ iget (bfI v a (bfR v a (r + m)) v.length) j
    omega

/-- The least prices solve what the rounds ask. -/
theorem noGain_best {v : List (List Int)} {a : List Int} (hb : IsBest v a) (h0 : 0 < v.length) : NoGain (wl v a) v.length := by
  refine noGain_of_best (isA_per hb.1) (fun t ht => ?_)
  have h1 := hb.max (listOf_isA ht) h0
  rw [worth_val (listOf_length _ _), worth_val hb.1.1] at h1
  rw [val_congr (t := t) (fun i hi => listOf_itm hi)] at h1
  exact h1
theorem leastP_step {v : List (List Int)} {a : List Int} (hb : IsBest v a) (h0 : 0 < v.length) {y z : Nat} (hy : y < v.length) (hz : z < v.length) : leastP (wl v a) v.length y + wl v a y z ≤ leastP (wl v a) v.length z := by
  have hN := noGain_best hb h0
  have hC := lnkS_clo (wl v a) v.length
  unfold leastP
  obtain ⟨z0, zge⟩ := maxTo_ge (fun i => lnkS (wl v a) v.length i z) v.length
  rcases maxTo_eq (fun i => lnkS (wl v a) v.length i y) v.length with e | ⟨i, hi, e⟩
  · have h1 := hC.step hN hy hy hz
    rw [hC.self hy] at h1
    have h2 := zge y hy
    rw [e]; omega
  · have h1 := hC.step hN hi hy hz
    have h2 := zge i hi
    rw [e]; omega
theorem leastP_nonneg (w : Nat → Nat → Int) (n j : Nat) : 0 ≤ leastP w n j := (maxTo_ge _ n).1
/-- Every solution from 0 on is at least as great. -/
theorem leastP_le {v : List (List Int)} {a : List Int} {h : Nat → Int} (hh : ∀ y z, y < v.length → z < v.length → h y + wl v a y z ≤ h z) (h0 : ∀ j, j < v.length → 0 ≤ h j) {j : Nat} (hj : j < v.length) : leastP (wl v a) v.length j ≤ h j := by
  unfold leastP
  rcases maxTo_eq (fun i => lnkS (wl v a) v.length i j) v.length with e | ⟨i, hi, e⟩
  · rw [e]; exact h0 j hj
  · have := (lnkS_clo (wl v a) v.length).le hh hi hj
    have := h0 i hi
    rw [e]; omega
/-- The rounds come to the least prices. -/
theorem bfR_least {v : List (List Int)} {a : List Int} (hb : IsBest v a) (h0 : 0 < v.length) : bfR v a v.length = leastL v a := by
  refine ints_ext' (fun j hj => ?_) (by rw [bfR_length]; simp [leastL])
  rw [bfR_length] at hj
  have e : iget (leastL v a) j = leastP (wl v a) v.length j := by simp [leastL, iget, List.getD, hj]
  rw [e]
  have hu := (under_R (h := fun j => leastP (wl v a) v.length j) hb.1 (fun y z hy hz => leastP_step hb h0 hy hz) (fun j _ => leastP_nonneg _ _ j) v.length).2 j hj
  refine Int.le_antisymm hu.2 ?_
  unfold leastP
  rcases maxTo_eq (fun i => lnkS (wl v a) v.length i j) v.length with e | ⟨i, hi, e⟩
  · rw [e]; exact hu.1
  · rw [e]
    obtain ⟨L, hL, rfl, hp⟩ := (lnkS_clo (wl v a) v.length).path i j hi hj
    rw [← hp]
    have hlen : (i :: L).length ≤ (List.range v.length).length := hL.nodup.length_le_of_subset (fun y hy => List.mem_range.2 (hL.lt y hy))
    simp at hlen
    have h1 := path_R hb.1 L.length L i 0 (by omega) hL.lt 0 (by simp [bfR, iget, List.getD, hi])
    have h2 := R_mono (v := v) (a := a) L.length (lastOf i L) (v.length - L.length)
    rw [show L.length + (v.length - L.length) = v.length by omega] at h2
    omega
theorem firstMax_exists (v : List (List Int)) : ∀ k, ∃ b, FirstMax (fun x => IsA x v.length ∧ numA v.length 0 x < k) (worthI v) b
  | 0 => ⟨[], .inl ⟨rfl, fun x hx => by omega⟩⟩
  | k + 1 => by
    obtain ⟨b, hb⟩ := firstMax_exists v k
    by_cases hc : ∃ cur, IsA cur v.length ∧ numA v.length 0 cur = k
    · obtain ⟨cur, h1, h2⟩ := hc
      have hS : ∀ x, (IsA x v.length ∧ numA v.length 0 x < k) → llt x cur := fun x hx => num_llt (by rw [hx.1.1, h1.1]) (isA_digits hx.1) (isA_digits h1) (by omega)
      have hT : ∀ x, ((IsA x v.length ∧ numA v.length 0 x < k) ∨ x = cur) ↔ (IsA x v.length ∧ numA v.length 0 x < k + 1) := fun x => by
        constructor
        · rintro (h | rfl)
          · exact ⟨h.1, by omega⟩
          · exact ⟨h1, by omega⟩
        · rintro ⟨h3, h4⟩
          by_cases e : numA v.length 0 x < k
          · exact .inl ⟨h3, e⟩
          · exact .inr (num_inj (by rw [h3.1, h1.1]) (isA_digits h3) (isA_digits h1) (by omega))
      rcases hb with h3 | ⟨h3, h4⟩
      · exact ⟨cur, (FirstMax.add (.inl h3) hS (.inl h3)).congr hT (fun _ _ => rfl)⟩
      · by_cases e : worthI v b < worthI v cur
        · exact ⟨cur, (FirstMax.add (.inr ⟨h3, h4⟩) hS (.inr ⟨h3, e⟩)).congr hT (fun _ _ => rfl)⟩
        · exact ⟨b, (FirstMax.keep (.inr ⟨h3, h4⟩) hS ⟨h3, by omega⟩).congr hT (fun _ _ => rfl)⟩
    · exact ⟨b, hb.congr (fun x => ⟨fun h => ⟨h.1, by omega⟩, fun h => ⟨h.1, by
        have : numA v.length 0 x ≠ k := fun e => hc ⟨x, h.1, e⟩
        omega⟩⟩) (fun _ _ => rfl)⟩
/-- The best assignment is one. -/
theorem bestA_best {v : List (List Int)} (h0 : 0 < v.length) : IsBest v (bestA v) := by
  obtain ⟨b, hb⟩ := firstMax_exists v (v.length ^ v.length)
  have h1 : FirstMax (fun x => IsA x v.length) (worthI v) b := hb.congr (fun x => ⟨fun h => h.1, fun h => ⟨h, by have := numA_lt x (isA_digits h); rw [h.1] at this; exact this⟩⟩) (fun _ _ => rfl)
  have h2 : IsBest v b := ⟨by
    rcases h1 with ⟨_, h⟩ | ⟨h, _⟩
    · exact absurd (listOf_isA (Per.id v.length)) (h _)
    · exact h, h1⟩
  rw [bestA_eq h2]; exact h2
end Go.Proofs.YtllcbcanohdepaaGreat

/- The walk of assign.Prices, for every bids. -/
namespace Go.Proofs.YtllcbcanohdepaaGreat
set_option linter.unusedVariables false
set_option linter.unusedSimpArgs false
open Go.ChangeShapes Go.WideShapes Go.ChangeAt Go.RowKit Go.Deep

/-- What Prices hands back. -/
noncomputable def priceL (v : List (List Int)) : List Int := if Bids v then leastL v (bestA v) else []

/-- The prices in the rounds lie between 0 and a small number. -/
def Small (n : Nat) (q : List Int) : Prop := q.length = n ∧ ∀ j, j < n → 0 ≤ iget q j ∧ iget q j ≤ 6000000
theorem leastP_bound {v : List (List Int)} {a : List Int} (hv : Bids v) (ha : IsA a v.length) (j : Nat) : leastP (wl v a) v.length j ≤ 6000000 := by
  unfold leastP
  exact (maxTo_bound (f := fun i => lnkS (wl v a) v.length i j) (M := 6000000) (by omega) (fun i hi => (lnkS_bound hv ha j hi).2)).2
theorem small_J {v : List (List Int)} {a : List Int} (hv : Bids v) (hb : IsBest v a) {r i k : Nat} (hi : i < v.length) (hk : k ≤ v.length) : Small v.length (bfJ v a (bfI v a (bfR v a r) i) i k) := by
  have hh : ∀ y z, y < v.length → z < v.length → leastP (wl v a) v.length y + wl v a y z ≤ leastP (wl v a) v.length z := fun y z hy hz => leastP_step hb hv.1 hy hz
  have h := under_J hb.1 hh (under_I hb.1 hh (under_R hb.1 hh (fun j _ => leastP_nonneg _ _ j) r) i (by omega)) hi k hk
  exact ⟨h.1, fun j hj => ⟨(h.2 j hj).1, Int.le_trans (h.2 j hj).2 (leastP_bound hv hb.1 j)⟩⟩

end Go.Proofs.YtllcbcanohdepaaGreat

/- The walks of room.Check and the reference's Check, of slices.Index and room.gcd, of the reference's Great and Same; no condition but sizes. -/
namespace Go.Proofs.YtllcbcanohdepaaGreat
set_option linter.unusedVariables false
set_option linter.unusedSimpArgs false
open Go.ChangeShapes Go.WideShapes Go.ChangeAt Go.RowKit Go.Deep

/-- What Check answers of a flat. -/
def chkR (v : List (List Int)) (r : Int) : Int := if Bids v then (if 0 ≤ r ∧ r ≤ 10000000 then 0 else 8) else chkI v
theorem chkR_bad {v : List (List Int)} {r : Int} (hv : ¬ Bids v) : chkR v r = chkI v := by unfold chkR; rw [if_neg hv]
theorem chkR_off {v : List (List Int)} {r : Int} (hv : Bids v) (h : ¬ (0 ≤ r ∧ r ≤ 10000000)) : chkR v r = 8 := by unfold chkR; rw [if_pos hv, if_neg h]
theorem chkR_ok {v : List (List Int)} {r : Int} (hv : Bids v) (h : 0 ≤ r ∧ r ≤ 10000000) : chkR v r = 0 := by unfold chkR; rw [if_pos hv, if_pos h]
theorem chkR_zero {v : List (List Int)} {r : Int} : chkR v r = 0 ↔ Bids v ∧ 0 ≤ r ∧ r ≤ 10000000 := by
  constructor
  · intro h
    by_cases hv : Bids v
    · by_cases hr : 0 ≤ r ∧ r ≤ 10000000
      · exact ⟨hv, hr⟩
      · rw [chkR_off hv hr] at h; cases h
    · rw [chkR_bad hv] at h; exact absurd (chkI_zero.1 h) hv
  · rintro ⟨h1, h2⟩; exact chkR_ok h1 h2

set_option maxHeartbeats 800000 in
theorem roomCheck_any (p : Option Addr) (c : Nat) (v : List (List Int)) (r : Int) (w : World) (hx : Mat w p c v) :
    Calls Tryz.prog 60 #[.agg #[.slice p v.length c, .int .i64 r]] w fun e w' => e = .returned (.int .i64 (chkR v r)) ∧ Below w.heap.size w w' := by
  have hb : Below w.heap.size w (w.alloc (.cells #[.slice p v.length c, .int .i64 r] 24)) := (Below.refl _ _).alloc (Nat.le_refl _) _
  have hx1 := hx.below hb (Nat.le_refl _)
  by_cases hv : Bids v
  · have hcz : (chkI v != 0) = false := by rw [chkI_bids hv]; rfl
    have Hv := Lib.hid hv
    clear hv
    by_cases hlow : r < 0
    · have hdl : decide (r < 0) = true := by simpa using hlow
      go_enter Tryz.func60, Tryz.ntmps60
      go_wp2_with fail
      refine (check_any p c v _ hx1).mono ?_
      rintro e w' ⟨rfl, rfl⟩
      go_wp2_with fail
      go_ret
      exact ⟨ret_int (chkR_off Hv.out (by omega)).symm, hb⟩
    · have hdl : decide (r < 0) = false := by simpa using hlow
      go_enter Tryz.func60, Tryz.ntmps60
      go_wp2_with fail
      refine (check_any p c v _ hx1).mono ?_
      rintro e w' ⟨rfl, rfl⟩
      go_wp2_with fail
      · have hgt : 10000000 < r := by assumption
        go_ret
        exact ⟨ret_int (chkR_off Hv.out (by omega)).symm, hb⟩
      · have hgt : r ≤ 10000000 := by assumption
        go_ret
        exact ⟨ret_int (chkR_ok Hv.out ⟨by omega, hgt⟩).symm, hb⟩
  · have hcz : (chkI v != 0) = true := by rw [bne_iff_ne]; exact fun h => hv (chkI_zero.1 h)
    have Hv := Lib.hid hv
    clear hv
    go_enter Tryz.func60, Tryz.ntmps60
    go_wp2_with fail
    refine (check_any p c v _ hx1).mono ?_
    rintro e w' ⟨rfl, rfl⟩
    go_wp2_with fail
    go_ret
    exact ⟨ret_int (chkR_bad Hv.out).symm, hb⟩

set_option maxHeartbeats 800000 in
theorem refCheckR_any (p : Option Addr) (c : Nat) (v : List (List Int)) (r : Int) (w : World) (hx : Mat w p c v) :
    Calls Tryz.prog 20 #[.agg #[.slice p v.length c, .int .i64 r]] w fun e w' => e = .returned (.int .i64 (chkR v r)) ∧ Below w.heap.size w w' := by
  have hb : Below w.heap.size w (w.alloc (.cells #[.slice p v.length c, .int .i64 r] 24)) := (Below.refl _ _).alloc (Nat.le_refl _) _
  have hx1 := hx.below hb (Nat.le_refl _)
  by_cases hv : Bids v
  · have hcz : (chkI v != 0) = false := by rw [chkI_bids hv]; rfl
    have Hv := Lib.hid hv
    clear hv
    by_cases hlow : r < 0
    · have hdl : decide (r < 0) = true := by simpa using hlow
      go_enter Tryz.func20, Tryz.ntmps20
      go_wp2_with fail
      refine (refCheck_any p c v _ hx1).mono ?_
      rintro e w' ⟨rfl, rfl⟩
      go_wp2_with fail
      go_ret
      exact ⟨ret_int (chkR_off Hv.out (by omega)).symm, hb⟩
    · have hdl : decide (r < 0) = false := by simpa using hlow
      go_enter Tryz.func20, Tryz.ntmps20
      go_wp2_with fail
      refine (refCheck_any p c v _ hx1).mono ?_
      rintro e w' ⟨rfl, rfl⟩
      go_wp2_with fail
      · have hgt : 10000000 < r := by assumption
        go_ret
        exact ⟨ret_int (chkR_off Hv.out (by omega)).symm, hb⟩
      · have hgt : r ≤ 10000000 := by assumption
        go_ret
        exact ⟨ret_int (chkR_ok Hv.out ⟨by omega, hgt⟩).symm, hb⟩
  · have hcz : (chkI v != 0) = true := by rw [bne_iff_ne]; exact fun h => hv (chkI_zero.1 h)
    have Hv := Lib.hid hv
    clear hv
    go_enter Tryz.func20, Tryz.ntmps20
    go_wp2_with fail
    refine (refCheck_any p c v _ hx1).mono ?_
    rintro e w' ⟨rfl, rfl⟩
    go_wp2_with fail
    refine (refCheck_any p c v _ hx1).mono ?_
    rintro e w' ⟨rfl, rfl⟩
    go_wp2_with fail
    go_ret
    exact ⟨ret_int (chkR_bad Hv.out).symm, hb⟩

set_option maxHeartbeats 400000 in
/-- slices.Index where the number is there: its first place. -/
theorem index_of (p : Option Addr) (c : Nat) (xs : List Int) (x : Int) (k : Nat) (w : World) (hx : Ints w p c xs) (hk : k < xs.length) (hxk : iget xs k = x) (hne : Hid (∀ j, j ≤ k → j ≠ k → iget xs j ≠ x)) :
    Calls Tryz.prog 61 #[.slice p xs.length c, .int .i64 x] w fun e w' => e = .returned (.int .i64 k) ∧ w' = w := by
  have hl1 := hx.length_le
  have Hxk := Lib.hid hxk
  clear hxk
  go_enter Tryz.func61, Tryz.ntmps61
  go_wp2_with fail
  go_loop [8] (fun t => ∃ m : Nat, m ≤ k ∧ t = .int .i64 m) (fun t => k - (intOf t).toNat)
  case atStart => exact ⟨0, Nat.zero_le _, rfl⟩
  case round =>
    obtain ⟨m, hm, rfl⟩ := hrel
    obtain ⟨b, o, rfl, _, hc⟩ := hx.get (j := m) (by omega)
    have hm1 : (m : Int) < xs.length := by omega
    by_cases e : m = k
    · have he : (x == iget xs m) = true := by rw [e, Hxk.out]; simp
      obtain rfl : m = k := e
      go_wp2_with fail
      go_ret
      exact ⟨rfl, rfl⟩
    · have he : (x == iget xs m) = false := by rw [beq_eq_false_iff_ne]; exact fun h => hne.out m hm e h.symm
      go_wp2_with fail
      go_round
      case rel => exact ⟨m + 1, by omega, by go_num⟩
      case measure => simp [intOf]; omega

/-- Larger than the statements consider. -/
def greatL (v : List (List Int)) (xs ys : List Int) : Bool := decide (GreatP v ∨ 50 < xs.length ∨ 50 < ys.length)
theorem greatL_true {v : List (List Int)} {xs ys : List Int} (h : GreatP v ∨ 50 < xs.length ∨ 50 < ys.length) : greatL v xs ys = true := by simp [greatL, h]
theorem greatL_false {v : List (List Int)} {xs ys : List Int} (h : ¬ (GreatP v ∨ 50 < xs.length ∨ 50 < ys.length)) : greatL v xs ys = false := by unfold greatL; rw [decide_eq_false_iff_not]; exact h

set_option maxHeartbeats 800000 in
theorem greatR_any (p q s : Option Addr) (c d f : Nat) (v : List (List Int)) (r : Int) (xs ys : List Int) (z : Int) (w : World) (hx : Mat w p c v) :
    Calls Tryz.prog 4 #[.agg #[.slice p v.length c, .int .i64 r], .agg #[.slice q xs.length d, .slice s ys.length f, .int .i64 z]] w fun e w' => e = .returned (.bool (greatL v xs ys)) ∧ Below w.heap.size w w' := by
  have hb : Below w.heap.size w ((w.alloc (.cells #[.slice p v.length c, .int .i64 r] 24)).alloc (.cells #[.slice q xs.length d, .slice s ys.length f, .int .i64 z] 27)) := ((Below.refl _ _).alloc (Nat.le_refl _) _).alloc (by simp) _
  have hx1 := hx.below hb (Nat.le_refl _)
  by_cases hG : GreatP v
  · have hg : greatB v = true := by simp [greatB, hG]
    have HG := Lib.hid (greatL_true (xs := xs) (ys := ys) (.inl hG))
    clear hG
    go_enter Tryz.func4, Tryz.ntmps4
    go_wp2_with fail
    refine (great_any p c v _ hx1).mono ?_
    rintro e w' ⟨rfl, rfl⟩
    rw [hg]
    go_wp2_with fail
    go_ret
    exact ⟨ret_bool HG.out.symm, hb⟩
  · have hg : greatB v = false := by simp [greatB, hG]
    by_cases hl : 50 < xs.length
    · have hl1 : decide (50 < (xs.length : Int)) = true := by simp; omega
      have HG := Lib.hid (greatL_true (v := v) (ys := ys) (.inr (.inl hl)))
      clear hG hl
      go_enter Tryz.func4, Tryz.ntmps4
      go_wp2_with fail
      refine (great_any p c v _ hx1).mono ?_
      rintro e w' ⟨rfl, rfl⟩
      rw [hg]
      go_wp2_with fail
      go_ret
      exact ⟨ret_bool HG.out.symm, hb⟩
    · have hl1 : decide (50 < (xs.length : Int)) = false := by simp; omega
      have HG : Hid (greatL v xs ys = decide (50 < (ys.length : Int))) := by
        unfold Hid greatL
        refine dec_congr ⟨fun h => ?_, fun h => .inr (.inr (by omega))⟩
        rcases h with h | h | h
        · exact absurd h hG
        · exact absurd h hl
        · omega
      clear hG hl
      go_enter Tryz.func4, Tryz.ntmps4
      go_wp2_with fail
      refine (great_any p c v _ hx1).mono ?_
      rintro e w' ⟨rfl, rfl⟩
      rw [hg]
      go_wp2_with fail
      go_ret
      exact ⟨ret_bool HG.out.symm, hb⟩

/-- Equal lists, laid twice. -/
theorem sameI_true {p q : Option Addr} {c d n m : Nat} {xs ys : List Int} {w : World} (hn : xs.length = n) (hm : ys.length = m) (e : xs = ys) (hx : Ints w p c xs) (hy : Ints w q d ys) :
    Calls Tryz.prog 24 #[.slice p n c, .slice q m d] w fun e w' => e = .returned (.bool true) ∧ ∃ n, w' = w.drewN n := by
  subst hn hm e
  refine (same_any p q c d xs xs w hx hy).mono ?_
  rintro e w' ⟨he, hw⟩
  exact ⟨by rw [he, sameB_true rfl], hw⟩
theorem sameM_true {p q : Option Addr} {c d n m : Nat} {u v : List (List Int)} {w : World} (hn : u.length = n) (hm : v.length = m) (e : u = v) (hx : Mat w p c u) (hy : Mat w q d v) :
    Calls Tryz.prog 15 #[.slice p n c, .slice q m d] w fun e w' => e = .returned (.bool true) ∧ ∃ n, w' = w.drewN n := by
  subst hn hm e
  refine (sameLists_any p q c d u u w hx hy).mono ?_
  rintro e w' ⟨he, hw⟩
  exact ⟨by rw [he]; simp [sameLB], hw⟩
/-- A lease's value. -/
def leaseV (p q : Option Addr) (n c m d : Nat) (z : Int) : Value := .agg #[.slice p n c, .slice q m d, .int .i64 z]
set_option maxHeartbeats 800000 in
theorem sameLease_true {p q p' q' : Option Addr} {c d c' d' n m n' m' : Nat} {xs ys xs' ys' : List Int} {z z' : Int} {w : World} (hn : xs.length = n) (hm : ys.length = m) (hn' : xs'.length = n') (hm' : ys'.length = m') (hz : z = z') (ex : xs = xs') (ey : ys = ys')
    (hx : Ints w p c xs) (hy : Ints w q d ys) (hx' : Ints w p' c' xs') (hy' : Ints w q' d' ys') :
    Calls Tryz.prog 10 #[.agg #[.slice p n c, .slice q m d, .int .i64 z], .agg #[.slice p' n' c', .slice q' m' d', .int .i64 z']] w fun e w' => e = .returned (.bool true) ∧ Below w.heap.size w w' := by
  have hb : Below w.heap.size w ((w.alloc (.cells #[.slice p n c, .slice q m d, .int .i64 z] 27)).alloc (.cells #[.slice p' n' c', .slice q' m' d', .int .i64 z'] 27)) := ((Below.refl _ _).alloc (Nat.le_refl _) _).alloc (by simp) _
  have h1 := hx.below hb (Nat.le_refl _)
  have h2 := hy.below hb (Nat.le_refl _)
  have h3 := hx'.below hb (Nat.le_refl _)
  have h4 := hy'.below hb (Nat.le_refl _)
  subst hz
  have hzz : (z == z) = true := by simp
  have Hn := Lib.hid hn
  have Hm := Lib.hid hm
  have Hn' := Lib.hid hn'
  have Hm' := Lib.hid hm'
  have Ex := Lib.hid ex
  have Ey := Lib.hid ey
  clear hn hm hn' hm' ex ey
  go_enter Tryz.func10, Tryz.ntmps10
  go_wp2_with fail
  refine (sameI_true Hn.out Hn'.out Ex.out h1 h3).mono ?_
  rintro e wa ⟨rfl, hw⟩
  have hc1 := (hb.drewP hw)
  have h2 := h2.drew hw
  have h4 := h4.drew hw
  obtain ⟨N, rfl⟩ := hw
  go_wp2_with fail
  refine (sameI_true Hm.out Hm'.out Ey.out h2 h4).mono ?_
  rintro e wb ⟨rfl, hw2⟩
  go_wp2_with fail
  go_ret
  exact ⟨rfl, hc1.drewP hw2⟩
end Go.Proofs.YtllcbcanohdepaaGreat

/- Links closed over every item in turn come to the greatest sums along paths; plain, no program. -/
namespace Go.Proofs.YtllcbcanohdepaaGreat
set_option linter.unusedVariables false
set_option linter.unusedSimpArgs false

/-- A table of n rows of n numbers. -/
def Sq (n : Nat) (D : List (List Int)) : Prop := D.length = n ∧ ∀ j, j < n → (rget D j).length = n
def fwStep (D : List (List Int)) (b j k : Nat) : List (List Int) := D.set j ((rget D j).set k (max (bid D j k) (bid D j b + bid D b k)))
def fwK (D : List (List Int)) (b j : Nat) : Nat → List (List Int)
  | 0 => D
  | k + 1 => fwStep (fwK D b j k) b j k
def fwJ (n : Nat) (D : List (List Int)) (b : Nat) : Nat → List (List Int)
  | 0 => D
  | j + 1 => fwK (fwJ n D b j) b j n
def fwB (n : Nat) (D : List (List Int)) : Nat → List (List Int)
  | 0 => D
  | b + 1 => fwJ n (fwB n D b) b n
theorem fw_rget_set {v : List (List Int)} {r : List Int} {j k : Nat} (hj : j < v.length) : rget (v.set j r) k = if j = k then r else rget v k := by
  simp only [rget, List.getD, List.getElem?_set]
  split
  · rename_i h; subst h; simp [hj]
  · rfl
theorem fwStep_sq {n : Nat} {D : List (List Int)} (h : Sq n D) (b j k : Nat) : Sq n (fwStep D b j k) := by
  refine ⟨by unfold fwStep; rw [List.length_set]; exact h.1, fun i hi => ?_⟩
  unfold fwStep
  by_cases hj : j < D.length
  · rw [fw_rget_set hj]
    split
    · rw [List.length_set]; rename_i e; subst e; exact h.2 _ hi
    · exact h.2 i hi
  · rw [List.set_eq_of_length_le (by omega)]; exact h.2 i hi
theorem fwStep_bid {n : Nat} {D : List (List Int)} (h : Sq n D) {b j k : Nat} (hj : j < n) (hk : k < n) (x y : Nat) :
    bid (fwStep D b j k) x y = if x = j ∧ y = k then max (bid D j k) (bid D j b + bid D b k) else bid D x y := by
  show iget (rget (fwStep D b j k) x) y = _
  unfold fwStep
  rw [fw_rget_set (by rw [h.1]; exact hj)]
  by_cases e : j = x
  · subst e
    rw [if_pos rfl, iget_set (by rw [h.2 _ hj]; exact hk)]
    by_cases e2 : k = y
    · subst e2; rw [if_pos rfl, if_pos ⟨rfl, rfl⟩]
    · rw [if_neg e2, if_neg (fun h => e2 h.2.symm)]; rfl
  · rw [if_neg e, if_neg (fun h => e h.1.symm)]; rfl
theorem fwK_sq {n : Nat} {D : List (List Int)} (h : Sq n D) (b j : Nat) : ∀ k, Sq n (fwK D b j k)
  | 0 => h
  | k + 1 => fwStep_sq (fwK_sq h b j k) b j k
theorem fwJ_sq {n : Nat} {D : List (List Int)} (h : Sq n D) (b : Nat) : ∀ j, Sq n (fwJ n D b j)
  | 0 => h
  | j + 1 => fwK_sq (fwJ_sq h b j) b j n
theorem fwB_sq {n : Nat} {D : List (List Int)} (h : Sq n D) : ∀ b, Sq n (fwB n D b)
  | 0 => h
  | b + 1 => fwJ_sq (fwB_sq h b) b n

/-- Numbers only rise. -/
theorem fwStep_ge {n : Nat} {D : List (List Int)} (h : Sq n D) {b j k : Nat} (hj : j < n) (hk : k < n) (x y : Nat) : bid D x y ≤ bid (fwStep D b j k) x y := by
  rw [fwStep_bid h hj hk]
  split
  · rename_i e; obtain ⟨rfl, rfl⟩ := e; omega
  · exact Int.le_refl _
theorem fwK_ge {n : Nat} {D : List (List Int)} (h : Sq n D) {b j : Nat} (hj : j < n) (x y : Nat) : ∀ k, k ≤ n → bid D x y ≤ bid (fwK D b j k) x y
  | 0, _ => Int.le_refl _
  | k + 1, hk => Int.le_trans (fwK_ge h hj x y k (by omega)) (fwStep_ge (fwK_sq h b j k) hj (by omega) x y)
theorem fwJ_ge {n : Nat} {D : List (List Int)} (h : Sq n D) {b : Nat} (x y : Nat) : ∀ j, j ≤ n → bid D x y ≤ bid (fwJ n D b j) x y
  | 0, _ => Int.le_refl _
  | j + 1, hj => Int.le_trans (fwJ_ge h x y j (by omega)) (fwK_ge (fwJ_sq h b j) (by omega) x y n (Nat.le_refl _))
theorem fwK_tri {n : Nat} {D : List (List Int)} (h : Sq n D) {b j : Nat} (hj : j < n) (y : Nat) : ∀ k, k ≤ n → y < k → bid D j b + bid D b y ≤ bid (fwK D b j k) j y
  | 0, _, hy => by omega
  | k + 1, hk, hy => by
    show _ ≤ bid (fwStep (fwK D b j k) b j k) j y
    rw [fwStep_bid (fwK_sq h b j k) hj (by omega)]
    by_cases e : y = k
    · subst e
      rw [if_pos ⟨rfl, rfl⟩]
      have h1 := fwK_ge (b := b) h hj j b y (by omega)
      have h2 := fwK_ge (b := b) h hj b y y (by omega)
      omega
    · rw [if_neg (fun h => e h.2)]
      exact fwK_tri h hj y k (by omega) (by omega)
theorem fwJ_tri {n : Nat} {D : List (List Int)} (h : Sq n D) {b : Nat} {x y : Nat} (hy : y < n) : ∀ j, j ≤ n → x < j → bid D x b + bid D b y ≤ bid (fwJ n D b j) x y
  | 0, _, hx => by omega
  | j + 1, hj, hx => by
    show _ ≤ bid (fwK (fwJ n D b j) b j n) x y
    by_cases e : x = j
    · subst e
      have h1 := fwJ_ge (b := b) h x b x (by omega)
      have h2 := fwJ_ge (b := b) h b y x (by omega)
      have h3 := fwK_tri (b := b) (fwJ_sq h b x) (j := x) (by omega) y n (Nat.le_refl _) hy
      omega
    · exact Int.le_trans (fwJ_tri h hy j (by omega) (by omega)) (fwK_ge (fwJ_sq h b j) (by omega) x y n (Nat.le_refl _))

/-- What bounds the table from above goes on to do so. -/
def UnderG (n : Nat) (g : Nat → Nat → Int) (D : List (List Int)) : Prop := ∀ x y, x < n → y < n → bid D x y ≤ g x y
theorem fwStep_under {n : Nat} {D : List (List Int)} {g : Nat → Nat → Int} (h : Sq n D) (ht : ∀ x y z, x < n → y < n → z < n → g x y + g y z ≤ g x z) (hu : UnderG n g D) {b j k : Nat} (hb : b < n) (hj : j < n) (hk : k < n) : UnderG n g (fwStep D b j k) := by
  intro x y hx hy
  rw [fwStep_bid h hj hk]
  split
  · rename_i e
    obtain ⟨rfl, rfl⟩ := e
    have h1 := hu x y hx hy
    have h2 := hu x b hx hb
    have h3 := hu b y hb hy
    have h4 := ht x b y hx hb hy
    omega
  · exact hu x y hx hy
theorem fwK_under {n : Nat} {D : List (List Int)} {g : Nat → Nat → Int} (h : Sq n D) (ht : ∀ x y z, x < n → y < n → z < n → g x y + g y z ≤ g x z) (hu : UnderG n g D) {b j : Nat} (hb : b < n) (hj : j < n) : ∀ k, k ≤ n → UnderG n g (fwK D b j k)
  | 0, _ => hu
  | k + 1, hk => fwStep_under (fwK_sq h b j k) ht (fwK_under h ht hu hb hj k (by omega)) hb hj (by omega)
theorem fwJ_under {n : Nat} {D : List (List Int)} {g : Nat → Nat → Int} (h : Sq n D) (ht : ∀ x y z, x < n → y < n → z < n → g x y + g y z ≤ g x z) (hu : UnderG n g D) {b : Nat} (hb : b < n) : ∀ j, j ≤ n → UnderG n g (fwJ n D b j)
  | 0, _ => hu
  | j + 1, hj => fwK_under (fwJ_sq h b j) ht (fwJ_under h ht hu hb j (by omega)) hb (by omega) n (Nat.le_refl _)
theorem fwB_under {n : Nat} {D : List (List Int)} {g : Nat → Nat → Int} (h : Sq n D) (ht : ∀ x y z, x < n → y < n → z < n → g x y + g y z ≤ g x z) (hu : UnderG n g D) : ∀ b, b ≤ n → UnderG n g (fwB n D b)
  | 0, _ => hu
  | b + 1, hb => fwJ_under (fwB_sq h b) ht (fwB_under h ht hu b (by omega)) (by omega) n (Nat.le_refl _)

/-- The sums along paths whose inner nodes are below m are in the table. -/
def LowG (n m : Nat) (w : Nat → Nat → Int) (D : List (List Int)) : Prop := (∀ x, x < n → 0 ≤ bid D x x) ∧ ∀ x L z, Simple n x (L ++ [z]) → (∀ y, y ∈ L → y < m) → psum w x (L ++ [z]) ≤ bid D x z
theorem low_zero {n : Nat} {w : Nat → Nat → Int} {D : List (List Int)} (h : ∀ x y, x < n → y < n → bid D x y = w x y) (h0 : ∀ x, w x x = 0) : LowG n 0 w D := by
  refine ⟨fun x hx => by rw [h x x hx hx, h0]; exact Int.le_refl _, fun x L z hs hl => ?_⟩
  cases L with
  | nil =>
    have hx := hs.lt x (by simp)
    have hz := hs.lt z (by simp)
    simp only [List.nil_append, psum]
    rw [h x z hx hz]; omega
  | cons y L => have := hl y (by simp); omega
theorem low_step {n m : Nat} {w : Nat → Nat → Int} {D D' : List (List Int)} (h : LowG n m w D) (hge : ∀ x y, bid D x y ≤ bid D' x y) (ht : ∀ x y, x < n → y < n → bid D x m + bid D m y ≤ bid D' x y) : LowG n (m + 1) w D' := by
  refine ⟨fun x hx => Int.le_trans (h.1 x hx) (hge x x), fun x L z hs hl => ?_⟩
  by_cases hm : m ∈ L
  · obtain ⟨A, B, rfl⟩ := List.append_of_mem hm
    have hnd := hs.nodup
    have hx := hs.lt x (by simp)
    have hz := hs.lt z (by simp)
    have hmn := hs.lt m (by simp)
    rw [show A ++ m :: B ++ [z] = (A ++ [m]) ++ (B ++ [z]) by simp] at hnd hs ⊢
    have hs1 : Simple n x (A ++ [m]) := ⟨by
        refine hnd.sublist ?_
        exact List.Sublist.cons_cons _ (List.sublist_append_left _ _), fun y hy => hs.lt y (by
        simp only [List.mem_cons, List.mem_append] at hy ⊢
        rcases hy with h | h
        · exact .inl h
        · exact .inr (.inl h))⟩
    have hs2 : Simple n m (B ++ [z]) := ⟨by
        refine hnd.sublist ?_
        rw [List.append_assoc]
        refine List.Sublist.cons _ ?_
        exact List.sublist_append_right A _, fun y hy => hs.lt y (by
        simp only [List.mem_cons, List.mem_append, List.not_mem_nil, or_false] at hy ⊢
        rcases hy with h | h
        · exact .inr (.inl (.inr h))
        · exact .inr (.inr h))⟩
    have hA : ∀ y, y ∈ A → y < m := fun y hy => by
      have h1 := hl y (by simp [hy])
      have h2 : y ≠ m := fun e => by
        subst e
        have := (List.nodup_cons.1 hs1.nodup).2
        rw [List.nodup_append] at this
        exact this.2.2 y hy y (by simp) rfl
      omega
    have hB : ∀ y, y ∈ B → y < m := fun y hy => by
      have h1 := hl y (by simp [hy])
      have h2 : y ≠ m := fun e => by
        subst e
        exact (List.nodup_cons.1 hs2.nodup).1 (by simp [hy])
      omega
    have h1 := h.2 x A m hs1 hA
    have h2 := h.2 m B z hs2 hB
    have h3 := ht x z hx hz
    rw [psum_append, lastOf_append]
    simp only [lastOf]
    omega
  · exact Int.le_trans (h.2 x L z hs (fun y hy => by
      have h1 := hl y hy
      have h2 : y ≠ m := fun e => hm (e ▸ hy)
      omega)) (hge x z)
theorem fwB_low {n : Nat} {w : Nat → Nat → Int} {D : List (List Int)} (h : Sq n D) (hl : LowG n 0 w D) : ∀ b, b ≤ n → LowG n b w (fwB n D b)
  | 0, _ => hl
  | b + 1, hb => low_step (fwB_low h hl b (by omega)) (fun x y => fwJ_ge (fwB_sq h b) x y n (Nat.le_refl _)) (fun x y hx hy => fwJ_tri (fwB_sq h b) hy n (Nat.le_refl _) hx)

/-- The links of an assignment: by one edge, and by the best path. -/
noncomputable def link0 (v : List (List Int)) (a : List Int) : List (List Int) := (List.range v.length).map fun j => (List.range v.length).map fun k => wl v a j k
noncomputable def linkL (v : List (List Int)) (a : List Int) : List (List Int) := (List.range v.length).map fun j => (List.range v.length).map fun k => lnkS (wl v a) v.length j k
theorem tab_sq (n : Nat) (f : Nat → Nat → Int) : Sq n ((List.range n).map fun j => (List.range n).map fun k => f j k) :=
  ⟨by simp, fun j hj => by simp [rget, hj]⟩
theorem tab_bid {n : Nat} (f : Nat → Nat → Int) {j k : Nat} (hj : j < n) (hk : k < n) : bid ((List.range n).map fun j => (List.range n).map fun k => f j k) j k = f j k := by
  simp [bid, rget, iget, hj, hk]
theorem sq_ext {n : Nat} {D E : List (List Int)} (hD : Sq n D) (hE : Sq n E) (h : ∀ x y, x < n → y < n → bid D x y = bid E x y) : D = E := by
  refine rows_ext (fun j hj => ?_) (by rw [hD.1, hE.1])
  rw [hD.1] at hj
  refine ints_ext' (fun k hk => ?_) (by rw [hD.2 j hj, hE.2 j hj])
  rw [hD.2 j hj] at hk
  exact h j k hj hk
theorem fw_links {v : List (List Int)} {a : List Int} (hb : IsBest v a) (h0 : 0 < v.length) : fwB v.length (link0 v a) v.length = linkL v a := by
  have hN := noGain_best hb h0
  have hC := lnkS_clo (wl v a) v.length
  have hsq : Sq v.length (link0 v a) := tab_sq _ _
  have hww : ∀ x, wl v a x x = 0 := fun x => wt_self _ _ _ x
  refine sq_ext (fwB_sq hsq _) (tab_sq _ _) (fun x y hx hy => ?_)
  have e : bid (linkL v a) x y = lnkS (wl v a) v.length x y := tab_bid _ hx hy
  rw [e]
  have hu : UnderG v.length (lnkS (wl v a) v.length) (link0 v a) := fun x y hx hy => by
    have e : bid (link0 v a) x y = wl v a x y := tab_bid _ hx hy
    rw [e]
    have h1 := hC.step hN hx hx hy
    rw [hC.self hx] at h1
    omega
  have h1 := fwB_under (g := lnkS (wl v a) v.length) hsq (fun x y z hx hy hz => hC.tri hN hx hy hz) hu _ (Nat.le_refl _) x y hx hy
  have h2 := fwB_low hsq (low_zero (fun x y hx hy => tab_bid _ hx hy) hww) _ (Nat.le_refl _)
  refine Int.le_antisymm h1 ?_
  obtain ⟨L, hL, hl, hp⟩ := hC.path x y hx hy
  rcases List.eq_nil_or_concat L with rfl | ⟨L', z, rfl⟩
  · simp only [lastOf] at hl
    subst hl
    simp only [psum] at hp
    have := h2.1 x hx
    omega
  · rw [List.concat_eq_append] at hL hl hp
    rw [lastOf_append] at hl
    simp only [lastOf] at hl
    subst hl
    have := h2.2 x L' z hL (fun u hu => hL.lt u (by simp [hu]))
    omega
end Go.Proofs.YtllcbcanohdepaaGreat
