/- The fair and the calm lease: valid, without envy; none without envy has a greater least, or a smaller greatest, gain; plain, no program. -/
import Derived.Test.YtmcncflieoolmaaTopTopRentm15
import Derived.Test.YtmcncflieoolmaaTopTopRentm18
import Derived.Test.YtmcncflieoolmaaTopTopRentm10
import Derived.Test.YtmcncflieoolmaaTopTopRentm9
import Derived.Test.YtmcncflieoolmaaTopTopRentm13
/- The fair and the calm lease: valid, without envy; none without envy has a greater least, or a smaller greatest, gain; plain, no program. -/
namespace Go.Proofs.Ytmcncflieoolmaa
set_option linter.unusedVariables false
set_option linter.unusedSimpArgs false

/-- What an agent would gain more with the room of another one than that one does. -/
noncomputable def dw (v : List (List Int)) (i k : Nat) : Int := bid v i (itm (bestA v) k) - bid v k (itm (bestA v) k)
theorem ldF_self {v : List (List Int)} (h0 : 0 < v.length) {i : Nat} (hi : i < v.length) : ldF v (bestA v) i i = 0 := by
  have h1 : gLk v (itm (bestA v) i) (itm (bestA v) i) = 0 := gLk_self (isA_lt (bestA_best h0).1 i hi).2
  unfold gLk at h1
  unfold ldF; omega
theorem ldF_tri {v : List (List Int)} (h0 : 0 < v.length) {i k m : Nat} (hi : i < v.length) (hk : k < v.length) (hm : m < v.length) : ldF v (bestA v) i k + ldF v (bestA v) k m ≤ ldF v (bestA v) i m := by
  have hA := (bestA_best h0).1
  have h1 : gLk v _ _ + gLk v _ _ ≤ gLk v _ _ := gLk_tri h0 (isA_lt hA i hi).2 (isA_lt hA k hk).2 (isA_lt hA m hm).2
  unfold gLk at h1
  unfold ldF; omega
/-- Gains (times d) that are apart as far as they must be. -/
def GP (v : List (List Int)) (g : Nat → Int) (d : Int) : Prop := ∀ i, i < v.length → ∀ k, k < v.length → ldF v (bestA v) i k * d ≤ g i - g k
/-- Prices under which agents gain g. -/
noncomputable def prG (v : List (List Int)) (g : Nat → Int) (d : Int) (j : Nat) : Int := bid v (inv v.length (itm (bestA v)) j) j * d - g (inv v.length (itm (bestA v)) j)
theorem prG_at {v : List (List Int)} (h0 : 0 < v.length) (g : Nat → Int) (d : Int) {i : Nat} (hi : i < v.length) : prG v g d (itm (bestA v) i) = bid v i (itm (bestA v) i) * d - g i := by
  unfold prG
  rw [inv_itm (bestA_best h0).1 hi]
theorem gp_ef {v : List (List Int)} (h0 : 0 < v.length) {g : Nat → Int} {d : Int} (hd : 0 ≤ d) : EF v (bestA v) (prG v g d) d ↔ GP v g d := by
  have hA := (bestA_best h0).1
  rw [ef_pot hA, pot_link (lnkS_clo (wl v (bestA v)) v.length) (wl_self v (bestA v)) hd]
  constructor
  · intro h i hi k hk
    have h1 := h _ _ (isA_lt hA i hi).2 (isA_lt hA k hk).2
    rw [prG_at h0 g d hi, prG_at h0 g d hk, ← gLk_eq (isA_lt hA i hi).2 (isA_lt hA k hk).2] at h1
    unfold gLk at h1
    unfold ldF
    rw [Int.add_mul, Int.sub_mul]
    omega
  · intro h j l hj hl
    obtain ⟨i, hi, rfl⟩ := (isA_per hA).surj hj
    obtain ⟨k, hk, rfl⟩ := (isA_per hA).surj hl
    have h1 := h i hi k hk
    rw [prG_at h0 g d hi, prG_at h0 g d hk, ← gLk_eq (isA_lt hA i hi).2 (isA_lt hA k hk).2]
    unfold gLk
    unfold ldF at h1
    rw [Int.add_mul, Int.sub_mul] at h1
    omega
theorem ef_dw {v : List (List Int)} (h0 : 0 < v.length) {g : Nat → Int} {d : Int} : EF v (bestA v) (prG v g d) d ↔ ∀ i, i < v.length → ∀ k, k < v.length → dw v i k * d ≤ g i - g k := by
  have hA := (bestA_best h0).1
  constructor
  · intro h i hi k hk
    have h1 := h i hi _ (isA_lt hA k hk).2
    rw [prG_at h0 g d hi, prG_at h0 g d hk] at h1
    unfold dw
    rw [Int.sub_mul]
    omega
  · intro h i hi j hj
    obtain ⟨k, hk, rfl⟩ := (isA_per hA).surj hj
    have h1 := h i hi k hk
    rw [prG_at h0 g d hi, prG_at h0 g d hk]
    unfold dw at h1
    rw [Int.sub_mul] at h1
    omega
/-- The fair gains. -/
theorem fair_gp {v : List (List Int)} (hv : Bids v) : GP v (iget (fairG v)) 1 := by
  intro i hi k hk
  obtain ⟨_, m, hm, e⟩ := fairG_max hv hk
  have h1 := (fairG_max hv hi).1 m hm
  have h2 := ldF_tri hv.1 hi hk hm
  omega
theorem fair_nonneg {v : List (List Int)} (hv : Bids v) {i : Nat} (hi : i < v.length) : 0 ≤ iget (fairG v) i := by
  have h1 := (fairG_max hv hi).1 i hi
  rw [ldF_self hv.1 hi] at h1
  exact h1
theorem fair_zero {v : List (List Int)} (hv : Bids v) : ∃ k, k < v.length ∧ iget (fairG v) k = 0 := by
  obtain ⟨_, k, hk, e⟩ := fairG_max hv hv.1
  have h1 := fair_gp hv 0 hv.1 k hk
  have h2 := fair_nonneg hv hk
  exact ⟨k, hk, by omega⟩
theorem calmF_le {v : List (List Int)} {k : Nat} : ∀ n i, i < n → calmF v k n ≤ -ldF v (bestA v) i k
  | 0, _, h => by omega
  | n + 1, i, h => by
    simp only [calmF]
    by_cases e : i = n
    · subst e; omega
    · have := calmF_le (v := v) (k := k) n i (by omega); omega
theorem calmF_eq {v : List (List Int)} {k : Nat} : ∀ n, calmF v k n = 0 ∨ ∃ i, i < n ∧ calmF v k n = -ldF v (bestA v) i k
  | 0 => .inl rfl
  | n + 1 => by
    simp only [calmF]
    by_cases h : calmF v k n ≤ -ldF v (bestA v) n k
    · rw [show min (calmF v k n) (-ldF v (bestA v) n k) = calmF v k n by omega]
      rcases calmF_eq (v := v) (k := k) n with e | ⟨i, hi, e⟩
      · exact .inl e
      · exact .inr ⟨i, by omega, e⟩
    · exact .inr ⟨n, by omega, by omega⟩
theorem calmG_min {v : List (List Int)} (hv : Bids v) {k : Nat} (hk : k < v.length) : (∀ i, i < v.length → iget (calmG v) k ≤ -ldF v (bestA v) i k) ∧ ∃ i, i < v.length ∧ iget (calmG v) k = -ldF v (bestA v) i k := by
  rw [calmG_get hk]
  refine ⟨fun i hi => calmF_le _ i hi, ?_⟩
  rcases calmF_eq (v := v) (k := k) v.length with e | h
  · exact ⟨k, hk, by rw [ldF_self hv.1 hk]; exact e⟩
  · exact h
theorem calm_gp {v : List (List Int)} (hv : Bids v) : GP v (iget (calmG v)) 1 := by
  intro i hi k hk
  obtain ⟨_, m, hm, e⟩ := calmG_min hv hi
  have h1 := (calmG_min hv hk).1 m hm
  have h2 := ldF_tri hv.1 hm hi hk
  omega
theorem calm_nonpos {v : List (List Int)} (hv : Bids v) {i : Nat} (hi : i < v.length) : iget (calmG v) i ≤ 0 := by
  have h1 := (calmG_min hv hi).1 i hi
  rw [ldF_self hv.1 hi] at h1
  exact h1
theorem calm_zero {v : List (List Int)} (hv : Bids v) : ∃ k, k < v.length ∧ iget (calmG v) k = 0 := by
  obtain ⟨_, m, hm, e⟩ := calmG_min hv hv.1
  have h1 := calm_gp hv m hm 0 hv.1
  have h2 := calm_nonpos hv hm
  exact ⟨m, hm, by omega⟩
/-- The raw prices of a lease out of gains. -/
theorem leaseL_form {v : List (List Int)} (h0 : 0 < v.length) (r : Int) (g : List Int) {j : Nat} (hj : j < v.length) :
    iget (leaseL v r (bestA v) g) j = v.length * prG v (iget g) 1 j + (r - sumTo (prG v (iget g) 1) v.length) := by
  have hA := (bestA_best h0).1
  obtain ⟨i, hi, rfl⟩ := (isA_per hA).surj hj
  have e : sumTo (gvI v (bestA v) g) v.length = sumTo (prG v (iget g) 1) v.length := by
    rw [← (isA_per hA).sum (prG v (iget g) 1)]
    exact sumTo_congr fun i hi => by rw [prG_at h0 _ _ hi]; unfold gvI; omega
  rw [leaseL_get hA hi, prG_at h0 _ _ hi]
  unfold prI rstI
  rw [e]
  unfold gvI
  rw [Int.mul_one]
  omega
theorem leaseL_sum {v : List (List Int)} (h0 : 0 < v.length) (r : Int) (g : List Int) : sumTo (iget (leaseL v r (bestA v) g)) v.length = v.length * r := by
  rw [sumTo_congr (fun j hj => leaseL_form h0 r g hj), sumTo_add, sumTo_mul, sumTo_const, Int.sub_mul, Int.mul_comm r]
  have e : sumTo (prG v (iget g) 1) v.length * (v.length : Int) = v.length * sumTo (prG v (iget g) 1) v.length := Int.mul_comm _ _
  have e2 : sumTo (fun j => prG v (iget g) 1 j) v.length = sumTo (prG v (iget g) 1) v.length := rfl
  rw [e, e2]
  omega
theorem sum_apart {f : Nat → Int} {x M : Int} : ∀ n, (∀ k, k < n → x - f k ≤ M ∧ f k - x ≤ M) → -(M * n) ≤ n * x - sumTo f n ∧ n * x - sumTo f n ≤ M * n
  | 0, _ => by simp [sumTo]
  | n + 1, h => by
    have h1 := sum_apart n fun k hk => h k (by omega)
    have h2 := h n (by omega)
    simp only [sumTo, Int.natCast_add, Int.natCast_one, Int.add_mul, Int.mul_add, Int.one_mul, Int.mul_one]
    omega
/-- A lease out of gains, in lowest terms. -/
structure LeaseOk (v : List (List Int)) (r : Int) (g : List Int) : Prop where
  vld : VldP v r (bestA v) (lowL v.length (leaseL v r (bestA v) g)) (lowN v.length (leaseL v r (bestA v) g))
  ef : EF v (bestA v) (iget (lowL v.length (leaseL v r (bestA v) g))) (lowN v.length (leaseL v r (bestA v) g))
  raw : ∃ c : Int, 0 < c ∧ (v.length : Int) = c * lowN v.length (leaseL v r (bestA v) g) ∧ ∀ j, j < v.length → iget (leaseL v r (bestA v) g) j = c * iget (lowL v.length (leaseL v r (bestA v) g)) j
theorem leaseOk {v : List (List Int)} {r : Int} {g : List Int} (hc : chkR v r = 0) (hg : GP v (iget g) 1) : LeaseOk v r g := by
  obtain ⟨hv, hr1, hr2⟩ := chkR_zero.1 hc
  have h0 := hv.1
  have h6 := hv.2.1
  have hb := bestA_best h0
  obtain ⟨P, hP⟩ : ∃ P, leaseL v r (bestA v) g = P := ⟨_, rfl⟩
  have hform : ∀ j, j < v.length → iget P j = v.length * prG v (iget g) 1 j + (r - sumTo (prG v (iget g) 1) v.length) := fun j hj => by rw [← hP]; exact leaseL_form h0 r g hj
  have hsum : sumTo (iget P) v.length = v.length * r := by rw [← hP]; exact leaseL_sum h0 r g
  have hlen : P.length = v.length := by rw [← hP]; exact leaseL_len _ _ _ _
  have he1 := (gp_ef h0 (by decide : (0 : Int) ≤ 1)).2 hg
  obtain ⟨g1, g2⟩ := comm_gcd v.length P
  have gp := gcdL_pos (n := v.length) P h0
  have hg0 : (0 : Int) < (gcdL v.length P : Int) := by omega
  have hn : (v.length : Int) = (gcdL v.length P : Int) * lowN v.length P := by
    unfold lowN
    have := Nat.mul_div_cancel' g1
    rw [← Int.natCast_mul, this]
  have hp : ∀ j, j < v.length → iget P j = (gcdL v.length P : Int) * iget (lowL v.length P) j := fun j hj => by
    have e : iget (lowL v.length P) j = (iget P j).tdiv (gcdL v.length P) := by
      have hj2 : j < P.length := by rw [hlen]; exact hj
      unfold lowL
      simp [iget, hj2]
    rw [e]
    exact dvd_tdiv (g2 _ (iget_mem (by rw [hlen]; exact hj)))
  obtain ⟨c, hcc⟩ : ∃ c : Int, (gcdL v.length P : Int) = c := ⟨_, rfl⟩
  rw [hcc] at hg0 hn
  simp only [hcc] at hp
  obtain ⟨d, hd⟩ : ∃ d, lowN v.length P = d := ⟨_, rfl⟩
  have hLl : (lowL v.length P).length = v.length := by rw [lowL_length, hlen]
  obtain ⟨q, hq⟩ : ∃ q, lowL v.length P = q := ⟨_, rfl⟩
  rw [hd] at hn
  rw [hq] at hLl
  simp only [hq] at hp
  have hef1 : EF v (bestA v) (iget P) v.length := (ef_scale (k := v.length) (e := 1) (by omega) (by omega) (fun j hj => hform j hj) hb.1).2 he1
  have hef2 : EF v (bestA v) (iget q) d := (ef_scale (k := c) (c := 0) hg0 hn (fun j hj => by rw [hp j hj]; omega) hb.1).1 hef1
  have hd1 : 1 ≤ d := by
    rcases Int.lt_or_le 0 d with h | h
    · omega
    · have := Int.mul_le_mul_of_nonneg_left h (Int.le_of_lt hg0)
      omega
  have hdn : d ≤ v.length := by
    have := Int.mul_le_mul_of_nonneg_right (show (1 : Int) ≤ c by omega) (show 0 ≤ d by omega)
    omega
  have hdif : ∀ x y, x < v.length → y < v.length → prG v (iget g) 1 x - prG v (iget g) 1 y ≤ 1000000 := fun x y hx hy => by
    obtain ⟨i, hi, rfl⟩ := (isA_per hb.1).surj hx
    have h1 := he1 i hi y hy
    have h2 := (hv.2.2 i hi).2 y hy
    have h3 := (hv.2.2 i hi).2 _ (isA_lt hb.1 i hi).2
    unfold bid at h1
    omega
  have hbd : ∀ j, j < v.length → -(10000000 * (v.length : Int)) ≤ iget P j ∧ iget P j ≤ 10000000 * v.length := fun j hj => by
    have h1 := sum_apart (f := prG v (iget g) 1) (x := prG v (iget g) 1 j) (M := 1000000) v.length fun k hk => ⟨hdif j k hj hk, hdif k j hk hj⟩
    have h2 := hform j hj
    rcases Nat.lt_or_ge v.length 2 with hn2 | hn2
    · have hn1 : v.length = 1 := by omega
      have hj0 : j = 0 := by omega
      subst hj0
      rw [hn1] at h2 ⊢
      have : sumTo (prG v (iget g) 1) 1 = prG v (iget g) 1 0 := by simp [sumTo]
      omega
    · omega
  rw [← hP] at hp hq hd hform hsum
  refine ⟨?_, by rw [hq, hd]; exact hef2, ⟨c, hg0, by rw [hd]; exact hn, fun j hj => by rw [hq]; exact hp j hj⟩⟩
  rw [hq, hd]
  refine ⟨hb.1, hd1, by omega, hLl, fun i hi => ?_, ?_⟩
  · rw [hLl] at hi
    obtain ⟨b1, b2⟩ := hbd i hi
    rw [← hP, hp i hi, hn] at b1 b2
    constructor
    · refine mul_le_cancel hg0 ?_
      rw [Int.mul_left_comm]
      omega
    · refine mul_le_cancel hg0 ?_
      rw [Int.mul_left_comm c]
      omega
  · rw [sumTo_congr hp, sumTo_mul, hn, Int.mul_assoc] at hsum
    rw [hLl]
    have := Int.eq_of_mul_eq_mul_left (by omega) hsum
    rw [this, Int.mul_comm]
/-- The gains of a lease, for the best assignment. -/
noncomputable def gnB (v : List (List Int)) (ps : List Int) (z : Int) (i : Nat) : Int := bid v i (itm (bestA v) i) * z - iget ps (itm (bestA v) i)
/-- Without envy all gain as with the best assignment. -/
theorem gn_best {v : List (List Int)} {r : Int} {al ps : List Int} {z : Int} (hv : vldR v r al ps z = 0) (h : EF v al (iget ps) z) {i : Nat} (hi : i < v.length) : gainI v ps z i (itm al i) = gnB v ps z i := by
  obtain ⟨hc, hA, hz, _⟩ := vld_zero.1 hv
  have h0 := (chkR_zero.1 hc).1.1
  have hb := bestA_best h0
  have h2 := (ef_best hb h0 hA (by omega) h).2
  have h3 := h i hi _ (isA_lt hb.1 i hi).2
  have h4 := h2 i hi _ (isA_lt hA i hi).2
  unfold gainI gnB
  omega
theorem gn_gp {v : List (List Int)} {r : Int} {al ps : List Int} {z : Int} (hv : vldR v r al ps z = 0) (h : EF v al (iget ps) z) : GP v (gnB v ps z) z := by
  obtain ⟨hc, hA, hz, _⟩ := vld_zero.1 hv
  have h0 := (chkR_zero.1 hc).1.1
  have hb := bestA_best h0
  have h2 := (ef_best hb h0 hA (by omega) h).2
  rw [← gp_ef h0 (by omega), ef_dw h0]
  intro i hi k hk
  have h3 := h2 i hi _ (isA_lt hb.1 k hk).2
  unfold dw gnB
  rw [Int.sub_mul]
  omega
theorem gn_sum {v : List (List Int)} {r : Int} {al ps : List Int} {z : Int} (hv : vldR v r al ps z = 0) : sumTo (gnB v ps z) v.length = z * (worthI v (bestA v) - r) := by
  obtain ⟨hc, hA, _, _, hl, _, hs⟩ := vld_zero.1 hv
  have h0 := (chkR_zero.1 hc).1.1
  have hb := bestA_best h0
  have h1 := sum_gain hb.1 (iget ps) z
  rw [hl] at hs
  unfold gnB
  rw [h1, hs, Int.mul_sub, Int.mul_comm r]
/-- What a lease out of gains gives everyone: the gain, all changed by the same. -/
theorem lease_gn {v : List (List Int)} {r : Int} {g : List Int} (hc : chkR v r = 0) {c : Int} (hn : (v.length : Int) = c * lowN v.length (leaseL v r (bestA v) g)) (hp : ∀ j, j < v.length → iget (leaseL v r (bestA v) g) j = c * iget (lowL v.length (leaseL v r (bestA v) g)) j) {i k : Nat} (hi : i < v.length) (hk : k < v.length) :
    c * (bid v i (itm (bestA v) k) * lowN v.length (leaseL v r (bestA v) g) - iget (lowL v.length (leaseL v r (bestA v) g)) (itm (bestA v) k)) = v.length * (dw v i k + iget g k) + (sumTo (prG v (iget g) 1) v.length - r) := by
  have h0 := (chkR_zero.1 hc).1.1
  have hA := (bestA_best h0).1
  have h1 := leaseL_form h0 r g (isA_lt hA k hk).2
  rw [prG_at h0 _ _ hk] at h1
  have h2 := hp _ (isA_lt hA k hk).2
  rw [Int.mul_sub, ← h2, h1, Int.mul_left_comm, ← hn]
  unfold dw
  rw [Int.mul_one, Int.mul_sub, Int.mul_add, Int.mul_sub, Int.mul_comm (bid v i (itm (bestA v) k))]
  omega
/-- The best that everyone gains by a lease out of gains. -/
theorem lease_own {v : List (List Int)} {r : Int} {g : List Int} (hc : chkR v r = 0) {c : Int} (hn : (v.length : Int) = c * lowN v.length (leaseL v r (bestA v) g)) (hp : ∀ j, j < v.length → iget (leaseL v r (bestA v) g) j = c * iget (lowL v.length (leaseL v r (bestA v) g)) j) {i : Nat} (hi : i < v.length) :
    c * gnB v (lowL v.length (leaseL v r (bestA v) g)) (lowN v.length (leaseL v r (bestA v) g)) i = v.length * iget g i + (sumTo (prG v (iget g) 1) v.length - r) := by
  have h := lease_gn hc hn hp hi hi
  unfold dw at h
  unfold gnB
  rw [h, Int.sub_self, Int.zero_add]
theorem lease_const {v : List (List Int)} {r : Int} {g : List Int} (hc : chkR v r = 0) : sumTo (prG v (iget g) 1) v.length = worthI v (bestA v) - sumTo (iget g) v.length := by
  have h0 := (chkR_zero.1 hc).1.1
  have hA := (bestA_best h0).1
  rw [← (isA_per hA).sum (prG v (iget g) 1), sumTo_congr (fun i hi => prG_at h0 (iget g) 1 hi), sumTo_sub]
  have : worthI v (bestA v) = sumTo (fun i => bid v i (itm (bestA v) i)) v.length := by unfold worthI; rw [hA.1]
  rw [this]
  congr 1
  exact sumTo_congr fun i hi => Int.mul_one _
/-- No lease without envy has a greater least gain; and one with the same has the same gains. -/
theorem fair_most {v : List (List Int)} {r : Int} {al ps : List Int} {z : Int} (hv : vldR v r al ps z = 0) (h : EF v al (iget ps) z) {m m' : Int}
    (hm : ∀ i, i < v.length → m ≤ gnB v ps z i) (hm' : ∃ k, k < v.length ∧ iget (fairG v) k = 0 ∧ m' = gnB v (lowL v.length (leaseL v r (bestA v) (fairG v))) (lowN v.length (leaseL v r (bestA v) (fairG v))) k) :
    m * lowN v.length (leaseL v r (bestA v) (fairG v)) ≤ m' * z ∧
    (m * lowN v.length (leaseL v r (bestA v) (fairG v)) = m' * z → ∀ i, i < v.length → gnB v ps z i * lowN v.length (leaseL v r (bestA v) (fairG v)) = gnB v (lowL v.length (leaseL v r (bestA v) (fairG v))) (lowN v.length (leaseL v r (bestA v) (fairG v))) i * z) := by
  obtain ⟨hc, hA, hz, _⟩ := vld_zero.1 hv
  have hbv := (chkR_zero.1 hc).1
  have h0 := hbv.1
  obtain ⟨c, hc0, hn, hp⟩ := (leaseOk hc (fair_gp hbv)).raw
  have hown := fun i (hi : i < v.length) => lease_own hc hn hp hi
  have hK := lease_const (g := fairG v) hc
  obtain ⟨k, hk, hk0, rfl⟩ := hm'
  generalize lowL v.length (leaseL v r (bestA v) (fairG v)) = q at *
  generalize lowN v.length (leaseL v r (bestA v) (fairG v)) = d at *
  have hgp := gn_gp hv h
  have hsum := gn_sum hv
  have hge : ∀ i, i < v.length → m + iget (fairG v) i * z ≤ gnB v ps z i := fun i hi => by
    obtain ⟨_, y, hy, e⟩ := fairG_max hbv hi
    have h1 := hgp i hi y hy
    have h2 := hm y hy
    rw [← e] at h1
    omega
  have hs : sumTo (fun i => m + iget (fairG v) i * z) v.length = v.length * m + z * sumTo (iget (fairG v)) v.length := by
    rw [sumTo_add, sumTo_const, ← sumTo_mul, Int.mul_comm m]
    congr 1
    exact sumTo_congr fun i hi => Int.mul_comm _ _
  have hle := sumTo_le hge
  rw [hs, hsum] at hle
  have hk1 := hown k hk
  rw [hk0, hK, Int.mul_zero, Int.zero_add] at hk1
  have e1 : c * (gnB v q d k * z) = z * (worthI v (bestA v) - sumTo (iget (fairG v)) v.length - r) := by
    rw [← Int.mul_assoc, hk1, Int.mul_comm]
  have e2 : c * (m * d) = v.length * m := by rw [hn, Int.mul_assoc, Int.mul_comm m]
  have e3 : z * (worthI v (bestA v) - sumTo (iget (fairG v)) v.length - r) = z * (worthI v (bestA v) - r) - z * sumTo (iget (fairG v)) v.length := by
    rw [← Int.mul_sub]; congr 1; omega
  refine ⟨mul_le_cancel hc0 (by rw [e1, e2, e3]; omega), fun heq i hi => ?_⟩
  have e4 : v.length * m = z * (worthI v (bestA v) - r) - z * sumTo (iget (fairG v)) v.length := by rw [← e2, heq, e1, e3]
  have hz0 := sum_zero (f := fun i => gnB v ps z i - (m + iget (fairG v) i * z)) (n := v.length) (fun i hi => by have := hge i hi; omega) (by rw [sumTo_sub, hs, hsum]; omega) i hi
  have hi1 : gnB v ps z i = m + iget (fairG v) i * z := by
    have : gnB v ps z i - (m + iget (fairG v) i * z) = 0 := hz0
    omega
  have hi2 := hown i hi
  rw [hK] at hi2
  refine Int.eq_of_mul_eq_mul_left (show c ≠ 0 by omega) ?_
  have e5 : c * (gnB v ps z i * d) = v.length * m + v.length * (iget (fairG v) i * z) := by
    rw [hi1, ← Int.mul_add, hn, Int.mul_comm _ d, Int.mul_assoc]
  have e6 : c * (gnB v q d i * z) = (v.length * iget (fairG v) i + (worthI v (bestA v) - sumTo (iget (fairG v)) v.length - r)) * z := by rw [← hi2, Int.mul_assoc]
  rw [e5, e6, e4, Int.add_mul, Int.mul_assoc, Int.mul_comm (worthI v (bestA v) - sumTo (iget (fairG v)) v.length - r), e3]
  omega
/-- No lease without envy has a smaller greatest gain than the calm one. -/
theorem calm_least {v : List (List Int)} {r : Int} {al ps : List Int} {z : Int} (hv : vldR v r al ps z = 0) (h : EF v al (iget ps) z) {m m' : Int}
    (hm : ∀ i, i < v.length → gnB v ps z i ≤ m) (hm' : ∃ k, k < v.length ∧ iget (calmG v) k = 0 ∧ m' = gnB v (lowL v.length (leaseL v r (bestA v) (calmG v))) (lowN v.length (leaseL v r (bestA v) (calmG v))) k) :
    m' * z ≤ m * lowN v.length (leaseL v r (bestA v) (calmG v)) := by
  obtain ⟨hc, hA, hz, _⟩ := vld_zero.1 hv
  have hbv := (chkR_zero.1 hc).1
  have h0 := hbv.1
  obtain ⟨c, hc0, hn, hp⟩ := (leaseOk hc (calm_gp hbv)).raw
  have hown := fun i (hi : i < v.length) => lease_own hc hn hp hi
  have hK := lease_const (g := calmG v) hc
  obtain ⟨k, hk, hk0, rfl⟩ := hm'
  generalize lowL v.length (leaseL v r (bestA v) (calmG v)) = q at *
  generalize lowN v.length (leaseL v r (bestA v) (calmG v)) = d at *
  have hgp := gn_gp hv h
  have hsum := gn_sum hv
  have hge : ∀ i, i < v.length → gnB v ps z i ≤ m + iget (calmG v) i * z := fun i hi => by
    obtain ⟨_, y, hy, e⟩ := calmG_min hbv hi
    have h1 := hgp y hy i hi
    have h2 := hm y hy
    have h3 : iget (calmG v) i * z = -(ldF v (bestA v) y i * z) := by rw [e, Int.neg_mul]
    omega
  have hs : sumTo (fun i => m + iget (calmG v) i * z) v.length = v.length * m + z * sumTo (iget (calmG v)) v.length := by
    rw [sumTo_add, sumTo_const, ← sumTo_mul, Int.mul_comm m]
    congr 1
    exact sumTo_congr fun i hi => Int.mul_comm _ _
  have hle := sumTo_le hge
  rw [hs, hsum] at hle
  have hk1 := hown k hk
  rw [hk0, hK, Int.mul_zero, Int.zero_add] at hk1
  have e1 : c * (gnB v q d k * z) = z * (worthI v (bestA v) - sumTo (iget (calmG v)) v.length - r) := by
    rw [← Int.mul_assoc, hk1, Int.mul_comm]
  have e2 : c * (m * d) = v.length * m := by rw [hn, Int.mul_assoc, Int.mul_comm m]
  have e3 : z * (worthI v (bestA v) - sumTo (iget (calmG v)) v.length - r) = z * (worthI v (bestA v) - r) - z * sumTo (iget (calmG v)) v.length := by
    rw [← Int.mul_sub]; congr 1; omega
  exact mul_le_cancel hc0 (by rw [e1, e2, e3]; omega)
/-- The least gain of the fair lease, the greatest of the calm one. -/
theorem fair_low {v : List (List Int)} {r : Int} (hc : chkR v r = 0) {k i : Nat} (hk : k < v.length) (hi : i < v.length) :
    (gnB v (lowL v.length (leaseL v r (bestA v) (fairG v))) (lowN v.length (leaseL v r (bestA v) (fairG v))) k ≤ gnB v (lowL v.length (leaseL v r (bestA v) (fairG v))) (lowN v.length (leaseL v r (bestA v) (fairG v))) i ↔ iget (fairG v) k ≤ iget (fairG v) i) := by
  have hbv := (chkR_zero.1 hc).1
  have h0 := hbv.1
  obtain ⟨c, hc0, hn, hp⟩ := (leaseOk hc (fair_gp hbv)).raw
  have h1 := lease_own hc hn hp hk
  have h2 := lease_own hc hn hp hi
  constructor
  · intro h
    have := Int.mul_le_mul_of_nonneg_left h (Int.le_of_lt hc0)
    rw [h1, h2] at this
    exact mul_le_cancel (d := v.length) (by omega) (by omega)
  · intro h
    have := Int.mul_le_mul_of_nonneg_left h (show (0 : Int) ≤ v.length by omega)
    exact mul_le_cancel hc0 (by rw [h1, h2]; omega)
theorem calm_high {v : List (List Int)} {r : Int} (hc : chkR v r = 0) {k i : Nat} (hk : k < v.length) (hi : i < v.length) :
    (gnB v (lowL v.length (leaseL v r (bestA v) (calmG v))) (lowN v.length (leaseL v r (bestA v) (calmG v))) k ≤ gnB v (lowL v.length (leaseL v r (bestA v) (calmG v))) (lowN v.length (leaseL v r (bestA v) (calmG v))) i ↔ iget (calmG v) k ≤ iget (calmG v) i) := by
  have hbv := (chkR_zero.1 hc).1
  have h0 := hbv.1
  obtain ⟨c, hc0, hn, hp⟩ := (leaseOk hc (calm_gp hbv)).raw
  have h1 := lease_own hc hn hp hk
  have h2 := lease_own hc hn hp hi
  constructor
  · intro h
    have := Int.mul_le_mul_of_nonneg_left h (Int.le_of_lt hc0)
    rw [h1, h2] at this
    exact mul_le_cancel (d := v.length) (by omega) (by omega)
  · intro h
    have := Int.mul_le_mul_of_nonneg_left h (show (0 : Int) ≤ v.length by omega)
    exact mul_le_cancel hc0 (by rw [h1, h2]; omega)
/-- Who gains more than the least wants another one's room just as much. -/
theorem fair_tight {v : List (List Int)} (hv : Bids v) {i : Nat} (hi : i < v.length) (hg : 0 < iget (fairG v) i) : ∃ k, k < v.length ∧ k ≠ i ∧ dw v i k + iget (fairG v) k = iget (fairG v) i := by
  apply Classical.byContradiction
  intro hno
  have h0 := hv.1
  have hd := (ef_dw h0).1 ((gp_ef h0 (by decide : (0 : Int) ≤ 1)).2 (fair_gp hv))
  have hlt : ∀ k, k < v.length → k ≠ i → dw v i k + iget (fairG v) k + 1 ≤ iget (fairG v) i := fun k hk hne => by
    have h1 := hd i hi k hk
    have h2 : dw v i k + iget (fairG v) k ≠ iget (fairG v) i := fun e => hno ⟨k, hk, hne, e⟩
    omega
  have hgp : GP v (fun k => if k = i then iget (fairG v) i - 1 else iget (fairG v) k) 1 := by
    rw [← gp_ef h0 (by decide), ef_dw h0]
    intro x hx y hy
    have h1 := hd x hx y hy
    by_cases ex : x = i
    · subst ex
      by_cases ey : y = x
      · subst ey; unfold dw; simp
      · have h2 := hlt y hy ey
        simp only [if_pos rfl, if_neg ey]; omega
    · by_cases ey : y = i
      · subst ey
        simp only [if_pos rfl, if_neg ex]; omega
      · simp only [if_neg ex, if_neg ey]; exact h1
  obtain ⟨_, k, hk, e⟩ := fairG_max hv hi
  have hki : k ≠ i := fun e2 => by subst e2; rw [ldF_self h0 hk] at e; omega
  have h1 := hgp i hi k hk
  simp [hki] at h1
  have h2 := fair_nonneg hv hk
  omega
/-- .. so that its room gives it as much. -/
theorem fair_held {v : List (List Int)} {r : Int} (hc : chkR v r = 0) {i k : Nat} (hi : i < v.length) (hk : k < v.length) :
    (gainI v (lowL v.length (leaseL v r (bestA v) (fairG v))) (lowN v.length (leaseL v r (bestA v) (fairG v))) i (itm (bestA v) k) = gnB v (lowL v.length (leaseL v r (bestA v) (fairG v))) (lowN v.length (leaseL v r (bestA v) (fairG v))) i ↔ dw v i k + iget (fairG v) k = iget (fairG v) i) := by
  have hbv := (chkR_zero.1 hc).1
  have h0 := hbv.1
  obtain ⟨c, hc0, hn, hp⟩ := (leaseOk hc (fair_gp hbv)).raw
  have h1 := lease_own hc hn hp hi
  have h2 : c * gainI v (lowL v.length (leaseL v r (bestA v) (fairG v))) (lowN v.length (leaseL v r (bestA v) (fairG v))) i (itm (bestA v) k) = _ := lease_gn hc hn hp hi hk
  constructor
  · intro h
    rw [h, h1] at h2
    have : (v.length : Int) * iget (fairG v) i = v.length * (dw v i k + iget (fairG v) k) := by omega
    exact (Int.eq_of_mul_eq_mul_left (by omega) this).symm
  · intro h
    refine Int.eq_of_mul_eq_mul_left (show c ≠ 0 by omega) ?_
    rw [h1, h2, h]
/-- The gains without envy are within the stakes. -/
theorem stake_of {v : List (List Int)} {r : Int} {al ps : List Int} {z : Int} (hv : vldR v r al ps z = 0) (h : EF v al (iget ps) z) {i : Nat} (hi : i < v.length) :
    (bid v i (itm (bestA v) i) * v.length - highI v r (itm (bestA v) i) v.length) * z ≤ gnB v ps z i * v.length ∧ gnB v ps z i * v.length ≤ (bid v i (itm (bestA v) i) * v.length - lowI v r (itm (bestA v) i) v.length) * z := by
  obtain ⟨hc, hA, hz, _, hl, _, hs⟩ := vld_zero.1 hv
  have h0 := (chkR_zero.1 hc).1.1
  have hb := bestA_best h0
  rw [hl] at hs
  obtain ⟨r1, r2⟩ := range_of h0 hA (by omega) h hs (isA_lt hb.1 i hi).2
  unfold gnB
  rw [Int.sub_mul, Int.sub_mul, Int.sub_mul, Int.mul_right_comm]
  omega
/-- Another rent moves all raw prices together. -/
theorem lease_move {v : List (List Int)} {r s : Int} {g : List Int} (h0 : 0 < v.length) {j : Nat} (hj : j < v.length) : iget (leaseL v s (bestA v) g) j = iget (leaseL v r (bestA v) g) j + (s - r) := by
  rw [leaseL_form h0 _ _ hj, leaseL_form h0 _ _ hj]; omega
/-- .. and so the prices. -/
theorem lease_rents {v : List (List Int)} {r s : Int} {g : List Int} (hr : chkR v r = 0) (hs : chkR v s = 0) (hg : GP v (iget g) 1) {j : Nat} (hj : j < v.length) :
    (iget (lowL v.length (leaseL v s (bestA v) g)) j * lowN v.length (leaseL v r (bestA v) g) - iget (lowL v.length (leaseL v r (bestA v) g)) j * lowN v.length (leaseL v s (bestA v) g)) * v.length = (s - r) * lowN v.length (leaseL v r (bestA v) g) * lowN v.length (leaseL v s (bestA v) g) := by
  have h0 := (chkR_zero.1 hr).1.1
  obtain ⟨c, hc0, hn, hp⟩ := (leaseOk hr hg).raw
  obtain ⟨e, he0, hm, hq⟩ := (leaseOk hs hg).raw
  have h1 := hp j hj
  have h2 := hq j hj
  have h3 := lease_move (r := r) (s := s) (g := g) h0 hj
  generalize iget (lowL v.length (leaseL v r (bestA v) g)) j = a at *
  generalize iget (lowL v.length (leaseL v s (bestA v) g)) j = b at *
  generalize lowN v.length (leaseL v r (bestA v) g) = x at *
  generalize lowN v.length (leaseL v s (bestA v) g) = y at *
  rw [h1, h2] at h3
  have hx : (v.length : Int) ≠ 0 := by omega
  generalize (v.length : Int) = n at *
  have hce : c * e ≠ 0 := Int.mul_ne_zero (by omega) (by omega)
  refine Int.eq_of_mul_eq_mul_left hce ?_
  have e1 : c * e * ((b * x - a * y) * n) = ((e * b) * (c * x) - (c * a) * (e * y)) * n := by grind
  rw [e1, ← hn, ← hm, h3, show (c * a + (s - r)) * n - c * a * n = (s - r) * n by grind, show c * e * ((s - r) * x * y) = (s - r) * (c * x) * (e * y) by grind, ← hn, ← hm]
theorem dw_self (v : List (List Int)) (i : Nat) : dw v i i = 0 := by unfold dw; omega
end Go.Proofs.Ytmcncflieoolmaa

/- The invariant of a region that reckons two numbers of two words by calls and puts each into a block of its own; no condition. -/
namespace Go.Proofs.Ytmcncflieoolmaa
set_option linter.unusedVariables false
set_option linter.unusedSimpArgs false
open Go.ChangeShapes Go.WideShapes Go.ChangeAt Go.RowKit Go.Deep

def BlockJ (B : World) (W : World) (u : Value) (done : Prop) (x : Int) : Prop := ∃ (g : Nat) (z : Int), u = .pointer (some ⟨g, 0, none⟩) ∧ B.heap.size ≤ g ∧ g < W.heap.size ∧ Two W g (.int .u64 0) (.int .u64 z) ∧ (done → z = x)
theorem BlockJ.below {B W W' : World} {u : Value} {d : Prop} {x : Int} (h : BlockJ B W u d x) (hb : Below W.heap.size W W') : BlockJ B W' u d x := by
  obtain ⟨g, z, h1, h2, h3, h4, h5⟩ := h
  exact ⟨g, z, h1, h2, Nat.lt_of_lt_of_le h3 hb.size, h4.below hb h3, h5⟩
/-- The operations below n are values or calls; n and n + 1 are the blocks, n + 2 and n + 3 the stores. -/
structure PairJ (B : World) (n : Nat) (val : Nat → Value) (x y : Int) (us : Nat → Value) (D : Nat → Prop) (W : World) : Prop where
  val : ∀ k, k < n → D k → us k = val k
  bel : Below B.heap.size B W
  a1 : D n → BlockJ B W (us n) (D (n + 2)) x
  a2 : D (n + 1) → BlockJ B W (us (n + 1)) (D (n + 3)) y
  ne : D n → D (n + 1) → us n ≠ us (n + 1)
  d1 : D (n + 2) → D n
  d2 : D (n + 3) → D (n + 1)
theorem PairJ.start {B : World} {n : Nat} {val : Nat → Value} {x y : Int} (us : Nat → Value) : PairJ B n val x y us (fun _ => False) B.drew :=
  ⟨fun k _ h => h.elim, below_drewN _ _ 1, fun h => h.elim, fun h => h.elim, fun h => h.elim, fun h => h, fun h => h⟩
section
variable {B : World} {n : Nat} {val : Nat → Value} {x y : Int} {us : Nat → Value} {D : Nat → Prop} {W W' : World}
theorem or_ne {i k : Nat} {D : Nat → Prop} (h : k = i ∨ D k) (hne : k ≠ i) : D k := h.resolve_left hne
theorem PairJ.pure (h : PairJ B n val x y us D W) {i : Nat} (hi : i < n) (hb : Below W.heap.size W W') : PairJ B n val x y (upd us i (val i)) (fun k => k = i ∨ D k) W' := by
  have hn : ∀ {k}, n ≤ k → k ≠ i := fun h => by omega
  refine ⟨fun k hk hd => ?_, h.bel.trans (hb.mono h.bel.size), fun hd => ?_, fun hd => ?_, fun hd hd2 => ?_, fun hd => .inr (h.d1 (or_ne hd (hn (by omega)))), fun hd => .inr (h.d2 (or_ne hd (hn (by omega))))⟩
  · by_cases e : k = i
    · subst e; rw [upd_same]
    · rw [upd_ne e]; exact h.val k hk (or_ne hd e)
  · rw [upd_ne (hn (Nat.le_refl n))]
    obtain ⟨g, z, h1, h2, h3, h4, h5⟩ := (h.a1 (or_ne hd (hn (Nat.le_refl n)))).below hb
    exact ⟨g, z, h1, h2, h3, h4, fun hd => h5 (or_ne hd (hn (by omega)))⟩
  · rw [upd_ne (hn (Nat.le_succ n))]
    obtain ⟨g, z, h1, h2, h3, h4, h5⟩ := (h.a2 (or_ne hd (hn (Nat.le_succ n)))).below hb
    exact ⟨g, z, h1, h2, h3, h4, fun hd => h5 (or_ne hd (hn (by omega)))⟩
  · rw [upd_ne (hn (Nat.le_refl n)), upd_ne (hn (Nat.le_succ n))]
    exact h.ne (or_ne hd (hn (Nat.le_refl n))) (or_ne hd2 (hn (Nat.le_succ n)))
theorem ptr_inj {g g' : Nat} (h : Value.pointer (some ⟨g, 0, none⟩) = .pointer (some ⟨g', 0, none⟩)) : g = g' := by simpa using h
theorem PairJ.alloc1 (h : PairJ B n val x y us D W) (hD : ¬ D n) (T : TypeId) : PairJ B n val x y (upd us n (.pointer (some ⟨W.heap.size, 0, none⟩))) (fun k => k = n ∨ D k) (W.alloc (.cells #[.int .u64 0, .int .u64 0] T)) := by
  have hb : Below W.heap.size W (W.alloc (.cells #[.int .u64 0, .int .u64 0] T)) := (Below.refl _ _).alloc (Nat.le_refl _) _
  refine ⟨fun k hk hd => ?_, h.bel.trans (hb.mono h.bel.size), fun hd => ?_, fun hd => ?_, fun hd hd2 => ?_, fun hd => .inl rfl, fun hd => .inr (h.d2 (or_ne hd (by omega)))⟩
  · rw [upd_ne (by omega)]; exact h.val k hk (or_ne hd (by omega))
  · rw [upd_same]
    exact ⟨_, 0, rfl, h.bel.size, by simp, Two.new rfl rfl, fun hd => (hD (h.d1 (or_ne hd (by omega)))).elim⟩
  · rw [upd_ne (by omega)]
    obtain ⟨g, z, h1, h2, h3, h4, h5⟩ := (h.a2 (or_ne hd (by omega))).below hb
    exact ⟨g, z, h1, h2, h3, h4, fun hd => h5 (or_ne hd (by omega))⟩
  · rw [upd_same, upd_ne (by omega)]
    obtain ⟨g, z, h1, h2, h3, h4, h5⟩ := h.a2 (or_ne hd2 (by omega))
    rw [h1]
    intro e
    have := ptr_inj e
    omega
theorem PairJ.alloc2 (h : PairJ B n val x y us D W) (hD : ¬ D (n + 1)) (T : TypeId) : PairJ B n val x y (upd us (n + 1) (.pointer (some ⟨W.heap.size, 0, none⟩))) (fun k => k = n + 1 ∨ D k) (W.alloc (.cells #[.int .u64 0, .int .u64 0] T)) := by
  have hb : Below W.heap.size W (W.alloc (.cells #[.int .u64 0, .int .u64 0] T)) := (Below.refl _ _).alloc (Nat.le_refl _) _
  refine ⟨fun k hk hd => ?_, h.bel.trans (hb.mono h.bel.size), fun hd => ?_, fun hd => ?_, fun hd hd2 => ?_, fun hd => .inr (h.d1 (or_ne hd (by omega))), fun hd => .inl rfl⟩
  · rw [upd_ne (by omega)]; exact h.val k hk (or_ne hd (by omega))
  · rw [upd_ne (by omega)]
    obtain ⟨g, z, h1, h2, h3, h4, h5⟩ := (h.a1 (or_ne hd (by omega))).below hb
    exact ⟨g, z, h1, h2, h3, h4, fun hd => h5 (or_ne hd (by omega))⟩
  · rw [upd_same]
    exact ⟨_, 0, rfl, h.bel.size, by simp, Two.new rfl rfl, fun hd => (hD (h.d2 (or_ne hd (by omega)))).elim⟩
  · rw [upd_same, upd_ne (by omega)]
    obtain ⟨g, z, h1, h2, h3, h4, h5⟩ := h.a1 (or_ne hd (by omega))
    rw [h1]
    intro e
    have := ptr_inj e
    omega
theorem PairJ.store1 (h : PairJ B n val x y us D W) (hD : D n) {g : Nat} (hg : us n = .pointer (some ⟨g, 0, none⟩)) (u : Value) : PairJ B n val x y (upd us (n + 2) u) (fun k => k = n + 2 ∨ D k) ((W.setCell ⟨g, 0, none⟩ (.int .u64 0)).setCell ⟨g, 1, none⟩ (.int .u64 x)) := by
  obtain ⟨g', z, h1, h2, h3, h4, h5⟩ := h.a1 hD
  rw [hg] at h1
  obtain rfl := ptr_inj h1
  refine ⟨fun k hk hd => ?_, (h.bel.setCell (p := ⟨g, 0, none⟩) h2 _).setCell (p := ⟨g, 1, none⟩) h2 _, fun hd => ?_, fun hd => ?_, fun hd hd2 => ?_, fun hd => .inr hD, fun hd => .inr (h.d2 (or_ne hd (by omega)))⟩
  · rw [upd_ne (by omega)]; exact h.val k hk (or_ne hd (by omega))
  · rw [upd_ne (by omega)]
    exact ⟨g, x, hg, h2, by simpa [World.setCell] using h3, h4.put, fun _ => rfl⟩
  · rw [upd_ne (by omega)]
    have hne := h.ne hD (or_ne hd (by omega))
    obtain ⟨g', z', k1, k2, k3, k4, k5⟩ := h.a2 (or_ne hd (by omega))
    have hgg : g ≠ g' := fun e => hne (by rw [hg, k1, e])
    exact ⟨g', z', k1, k2, by simpa [World.setCell] using k3, (k4.far hgg).far hgg, fun hd => k5 (or_ne hd (by omega))⟩
  · rw [upd_ne (by omega), upd_ne (by omega)]
    exact h.ne hD (or_ne hd2 (by omega))
theorem PairJ.store2 (h : PairJ B n val x y us D W) (hD : D (n + 1)) {g : Nat} (hg : us (n + 1) = .pointer (some ⟨g, 0, none⟩)) (u : Value) : PairJ B n val x y (upd us (n + 3) u) (fun k => k = n + 3 ∨ D k) ((W.setCell ⟨g, 0, none⟩ (.int .u64 0)).setCell ⟨g, 1, none⟩ (.int .u64 y)) := by
  obtain ⟨g', z, h1, h2, h3, h4, h5⟩ := h.a2 hD
  rw [hg] at h1
  obtain rfl := ptr_inj h1
  refine ⟨fun k hk hd => ?_, (h.bel.setCell (p := ⟨g, 0, none⟩) h2 _).setCell (p := ⟨g, 1, none⟩) h2 _, fun hd => ?_, fun hd => ?_, fun hd hd2 => ?_, fun hd => .inr (h.d1 (or_ne hd (by omega))), fun hd => .inr hD⟩
  · rw [upd_ne (by omega)]; exact h.val k hk (or_ne hd (by omega))
  · rw [upd_ne (by omega)]
    have hne := h.ne (or_ne hd (by omega)) hD
    obtain ⟨g', z', k1, k2, k3, k4, k5⟩ := h.a1 (or_ne hd (by omega))
    have hgg : g ≠ g' := fun e => hne (by rw [hg, k1, e])
    exact ⟨g', z', k1, k2, by simpa [World.setCell] using k3, (k4.far hgg).far hgg, fun hd => k5 (or_ne hd (by omega))⟩
  · rw [upd_ne (by omega)]
    exact ⟨g, y, hg, h2, by simpa [World.setCell] using h3, h4.put, fun _ => rfl⟩
  · rw [upd_ne (by omega), upd_ne (by omega)]
    exact h.ne (or_ne hd (by omega)) hD
end
end Go.Proofs.Ytmcncflieoolmaa

/- The invariant of a region that reckons a pair by calls and puts it into a block that lies; no condition. -/
namespace Go.Proofs.Ytmcncflieoolmaa
set_option linter.unusedVariables false
set_option linter.unusedSimpArgs false
open Go.ChangeShapes Go.WideShapes Go.ChangeAt Go.RowKit Go.Deep

structure PutJ (b0 : Nat) (B : World) (R si : Nat) (val : Nat → Value) (x y X Y : Value) (us : Nat → Value) (D : Nat → Prop) (W : World) : Prop where
  val : ∀ k, k ≠ si → D k → us k = val k
  bel : Below b0 B W
  pre : ¬ D si → Below B.heap.size B W
  two : ¬ D si → Two W R x y
  put : D si → Two W R X Y
  far : ∀ S k, S < B.heap.size → S ≠ R → W.cell? ⟨S, k, none⟩ = B.cell? ⟨S, k, none⟩
  frz : ∀ S k, S < B.heap.size → W.frozen? ⟨S, k, none⟩ = B.frozen? ⟨S, k, none⟩
section
variable {b0 : Nat} {B : World} {R si : Nat} {val : Nat → Value} {x y X Y : Value} {us : Nat → Value} {D : Nat → Prop} {W W' : World}
theorem PutJ.start (us : Nat → Value) (hR : R < B.heap.size) (h : Two B R x y) : PutJ b0 B R si val x y X Y us (fun _ => False) B.drew :=
  ⟨fun k _ h => h.elim, below_drewN _ _ 1, fun _ => below_drewN _ _ 1, fun _ => h.below (below_drewN B.heap.size B 1) hR, fun h => h.elim, fun S k hS _ => (below_drewN B.heap.size B 1).cell (p := ⟨S, k, none⟩) hS, fun S k hS => (below_drewN B.heap.size B 1).frozen (p := ⟨S, k, none⟩) hS⟩
theorem PutJ.pure (h : PutJ b0 B R si val x y X Y us D W) {i : Nat} (h1 : i ≠ si) (hb0 : b0 ≤ B.heap.size) (hR : R < B.heap.size) (hb : Below W.heap.size W W') : PutJ b0 B R si val x y X Y (upd us i (val i)) (fun k => k = i ∨ D k) W' := by
  have hs := h.bel.size
  refine ⟨fun k k1 hd => ?_, h.bel.trans (hb.mono (by omega)), fun hd => (h.pre fun hd2 => hd (.inr hd2)).trans (hb.mono hs), fun hd => (h.two fun hd2 => hd (.inr hd2)).below hb (by omega), fun hd => (h.put (or_ne hd (Ne.symm h1))).below hb (by omega), fun S k hS hne => (hb.cell (p := ⟨S, k, none⟩) (by simp only; omega)).trans (h.far S k hS hne), fun S k hS => (hb.frozen (p := ⟨S, k, none⟩) (by simp only; omega)).trans (h.frz S k hS)⟩
  by_cases e : k = i
  · subst e; rw [upd_same]
  · rw [upd_ne e]; exact h.val k k1 (or_ne hd e)
theorem PutJ.store (h : PutJ b0 B R si val x y X Y us D W) (hD : ¬ D si) (hR : b0 ≤ R) (u : Value) : PutJ b0 B R si val x y X Y (upd us si u) (fun k => k = si ∨ D k) ((W.setCell ⟨R, 0, none⟩ X).setCell ⟨R, 1, none⟩ Y) := by
  refine ⟨fun k k1 hd => ?_, (h.bel.setCell (p := ⟨R, 0, none⟩) hR _).setCell (p := ⟨R, 1, none⟩) hR _, fun hd => (hd (.inl rfl)).elim, fun hd => (hd (.inl rfl)).elim, fun _ => (h.two hD).put, fun S k hS hne => (World.cell?_setCell_other _ _ _ _ (ne_blk (Ne.symm hne))).trans ((World.cell?_setCell_other _ _ _ _ (ne_blk (Ne.symm hne))).trans (h.far S k hS hne)), fun S k hS => by rw [World.frozen?_setCell, World.frozen?_setCell]; exact h.frz S k hS⟩
  rw [upd_ne k1]; exact h.val k k1 (or_ne hd k1)
/-- Another pair keeps what it holds. -/
theorem PutJ.other (h : PutJ b0 B R si val x y X Y us D W) {S : Nat} {u v : Value} (hT : Two B S u v) (hS : S < B.heap.size) (hne : S ≠ R) : Two W S u v :=
  ⟨(h.far S 0 hS hne).trans hT.c0, (h.far S 1 hS hne).trans hT.c1, (h.frz S 0 hS).trans hT.f0, (h.frz S 1 hS).trans hT.f1⟩
end
end Go.Proofs.Ytmcncflieoolmaa
