/- What the bundles after picking are worth: sums over the turns; who picks first picks no worse; plain, no program. -/
import Derived.Test.YtfagapcihacgkaaRobinQ
namespace Go.Proofs.Ytfagapcihacgkaa
set_option linter.unusedVariables false
set_option linter.unusedSimpArgs false

/-- What turn t takes; what that is worth for i. -/
def tkX (v : List (List Int)) (ts : List Int) (t : Nat) : Int := pick (rget v (iget ts t).toNat) (pkA v ts t)
def tkV (v : List (List Int)) (ts : List Int) (i t : Nat) : Int := if 0 ≤ tkX v ts t then iget (rget v i) (tkX v ts t).toNat else 0
/-- What k takes before turn m, of the first L turns, is worth for i. -/
def tkS (v : List (List Int)) (ts : List Int) (i : Nat) (k : Int) : Nat → Int
  | 0 => 0
  | m + 1 => tkS v ts i k m + (if m < ts.length ∧ iget ts m = k then tkV v ts i m else 0)
structure TurnOk (v : List (List Int)) (ts : List Int) : Prop where
  gds : Gds v
  turn : ∀ t, t < ts.length → 0 ≤ iget ts t ∧ iget ts t < v.length
theorem turnOk_of {v : List (List Int)} {ts : List Int} (hg : chkG v = 0) (ht : chkT v.length ts = 0) : TurnOk v ts := ⟨chkG_zero.1 hg, (chkT_zero.1 ht).2.2.2⟩
section
variable {v : List (List Int)} {ts : List Int}
theorem tkX_range (t : Nat) : -1 ≤ tkX v ts t ∧ tkX v ts t < wid v := by
  have := pickTo_range (rget v (iget ts t).toNat) (pkA v ts t) (pkA v ts t).length
  rw [pkA_len] at this
  unfold tkX pick
  rw [pkA_len]; exact this
theorem tkV_nonneg (h : Gds v) {i : Nat} (hi : i < v.length) (t : Nat) : 0 ≤ tkV v ts i t := by
  unfold tkV
  split
  · have := tkX_range (v := v) (ts := ts) t
    exact (gds_bid h hi (by omega)).1
  · exact Int.le_refl _
theorem tkX_free {t : Nat} (h : 0 ≤ tkX v ts t) : iget (pkA v ts t) (tkX v ts t).toNat < 0 := (pickTo_best (show 0 ≤ pickTo _ (pkA v ts t) (pkA v ts t).length from h)).1
theorem pkA_free {x : Nat} (hx : x < wid v) {s t : Nat} (hst : s ≤ t) (h : iget (pkA v ts t) x < 0) : iget (pkA v ts s) x < 0 := by
  rcases Int.lt_or_le (iget (pkA v ts s) x) 0 with h0 | h0
  · exact h0
  · rw [pkA_keep hx h0 t hst] at h; omega
/-- Who picks first picks no worse. -/
theorem tk_dom (h : TurnOk v ts) {i s t : Nat} (hi : i < v.length) (hs : s < ts.length) (hsi : iget ts s = i) (hst : s ≤ t) : tkV v ts i t ≤ tkV v ts i s := by
  have h0 := tkV_nonneg (ts := ts) h.gds hi s
  unfold tkV at h0 ⊢
  by_cases ht : 0 ≤ tkX v ts t
  · rw [if_pos ht]
    have hr := tkX_range (v := v) (ts := ts) t
    have hf := pkA_free (v := v) (ts := ts) (x := (tkX v ts t).toNat) (by omega) hst (tkX_free ht)
    have hp : 0 ≤ tkX v ts s := by
      rcases Int.lt_or_le (tkX v ts s) 0 with h1 | h1
      · exact absurd hf (pickTo_none.1 (show pickTo _ (pkA v ts s) (pkA v ts s).length < 0 from h1) _ (by rw [pkA_len]; omega))
      · exact h1
    rw [if_pos hp]
    obtain ⟨_, hb⟩ := pickTo_best (show 0 ≤ pickTo _ (pkA v ts s) (pkA v ts s).length from hp)
    by_cases e : (tkX v ts t).toNat = (tkX v ts s).toNat
    · rw [e]; exact Int.le_refl _
    · have hb' := hb (tkX v ts t).toNat (by rw [pkA_len]; omega) hf e
      rw [hsi, Int.toNat_natCast] at hb'
      have e2 : pickTo (rget v i) (pkA v ts s) (pkA v ts s).length = tkX v ts s := by unfold tkX pick; rw [hsi, Int.toNat_natCast]
      rw [e2] at hb'
      rcases hb' with h3 | h3 <;> omega
  · rw [if_neg ht]; exact h0
theorem worthUp_set {a : List Int} {i x : Nat} {j k : Int} (hx : x < a.length) (hf : iget a x < 0) (hk : 0 ≤ k) : ∀ m, worthUp v (a.set x j) i k m = worthUp v a i k m + (if x < m ∧ j = k then iget (rget v i) x else 0)
  | 0 => by simp [worthUp]
  | m + 1 => by
    rw [worthUp, worthUp, worthUp_set hx hf hk m, iget_set hx]
    by_cases e : x = m
    · subst e
      by_cases hj : j = k
      · simp [hj]; omega
      · simp [hj]; omega
    · by_cases hj : j = k
      · by_cases hm : x < m
        · simp [e, hj, hm, Nat.lt_succ_of_lt hm]; omega
        · have : ¬ x < m + 1 := by omega
          simp [e, hm, this]
      · simp [e, hj]
theorem worth_pk (h : TurnOk v ts) {i : Nat} {k : Int} (hk : 0 ≤ k) : ∀ m, m ≤ ts.length → worth v (pkA v ts m) i k = tkS v ts i k m
  | 0, _ => by
    unfold worth
    rw [tkS, pkA]
    have : ∀ m, m ≤ wid v → worthUp v (List.replicate (wid v) (-1)) i k m = 0 := by
      intro m
      induction m with
      | zero => intro _; rfl
      | succ m ih =>
        intro hm
        rw [worthUp_ne, ih (by omega)]
        have : iget (List.replicate (wid v) (-1)) m = -1 := by rw [iget_of (by simp; omega)]; simp
        omega
    exact this _ (by simp)
  | m + 1, hm => by
    have ih := worth_pk h hk m (by omega) (i := i)
    rw [tkS]
    have hr := tkX_range (v := v) (ts := ts) m
    have hti := h.turn m (by omega)
    by_cases h0 : 0 ≤ tkX v ts m
    · have hst : pkA v ts (m + 1) = (pkA v ts m).set (tkX v ts m).toNat (iget ts m) := by unfold tkX at h0 ⊢; rw [pkA, stepA, if_pos h0]
      have hw := worthUp_set (v := v) (a := pkA v ts m) (i := i) (x := (tkX v ts m).toNat) (j := iget ts m) (k := k) (by rw [pkA_len]; omega) (tkX_free h0) hk (pkA v ts m).length
      unfold worth at ih ⊢
      rw [hst, List.length_set, hw, ih]
      congr 1
      by_cases hj : iget ts m = k
      · rw [if_pos ⟨by rw [pkA_len]; omega, hj⟩, if_pos ⟨by omega, hj⟩]
        unfold tkV; rw [if_pos h0]
      · rw [if_neg (fun h => hj h.2), if_neg (fun h => hj h.2)]
    · have hst : pkA v ts (m + 1) = pkA v ts m := by unfold tkX at h0; rw [pkA, stepA, if_neg h0]
      rw [hst, ih]
      have : tkV v ts i m = 0 := by unfold tkV; rw [if_neg h0]
      rw [this]; split <;> omega
theorem tkS_mono (h : Gds v) {i : Nat} (hi : i < v.length) (k : Int) {m n : Nat} (hmn : m ≤ n) : tkS v ts i k m ≤ tkS v ts i k n := by
  induction n with
  | zero => have : m = 0 := by omega
            rw [this]; exact Int.le_refl _
  | succ n ih =>
    by_cases e : m = n + 1
    · rw [e]; exact Int.le_refl _
    · have := ih (by omega)
      have h2 := tkV_nonneg (ts := ts) h hi n
      rw [tkS]; split <;> omega
theorem tkS_past {i : Nat} {k : Int} {m : Nat} (h : ts.length ≤ m) : tkS v ts i k m = tkS v ts i k ts.length := by
  induction m with
  | zero => have : ts.length = 0 := by omega
            rw [this]
  | succ m ih =>
    by_cases e : ts.length = m + 1
    · rw [e]
    · rw [tkS, if_neg (by omega), ih (by omega), Int.add_zero]
/-- At most one turn of k from s on, before s + j: its value bounds what is added. -/
theorem tkS_most {i : Nat} {k : Int} {s : Nat} {M : Int} (hM : 0 ≤ M) : ∀ j, (∀ a, s ≤ a → a < s + j → a < ts.length → iget ts a = k → tkV v ts i a ≤ M) →
    (∀ a b, s ≤ a → a < b → b < s + j → b < ts.length → iget ts a = k → iget ts b ≠ k) → tkS v ts i k (s + j) ≤ tkS v ts i k s + M ∧ ((∀ a, s ≤ a → a < s + j → a < ts.length → iget ts a ≠ k) → tkS v ts i k (s + j) = tkS v ts i k s)
  | 0, _, _ => ⟨by simp only [Nat.add_zero]; omega, fun _ => rfl⟩
  | j + 1, h1, h2 => by
    obtain ⟨i1, i2⟩ := tkS_most (i := i) hM j (fun a h3 h4 => h1 a h3 (by omega)) (fun a b h3 h4 h5 => h2 a b h3 h4 (by omega))
    have e : tkS v ts i k (s + (j + 1)) = tkS v ts i k (s + j) + (if s + j < ts.length ∧ iget ts (s + j) = k then tkV v ts i (s + j) else 0) := rfl
    by_cases hc : s + j < ts.length ∧ iget ts (s + j) = k
    · rw [if_pos hc] at e
      have hz := i2 fun a h3 h4 h5 h6 => h2 a (s + j) h3 h4 (by omega) hc.1 h6 hc.2
      have hm := h1 (s + j) (by omega) (by omega) hc.1 hc.2
      exact ⟨by omega, fun h => absurd hc.2 (h (s + j) (by omega) (by omega) hc.1)⟩
    · rw [if_neg hc, Int.add_zero] at e
      rw [e]
      exact ⟨i1, fun h => i2 fun a h3 h4 h5 => h a h3 (by omega) h5⟩
theorem tkS_least (h : Gds v) {i : Nat} (hi : i < v.length) {k : Int} {s t m : Nat} (h1 : s ≤ t) (h2 : t < m) (ht : t < ts.length) (hk : iget ts t = k) : tkS v ts i k s + tkV v ts i t ≤ tkS v ts i k m := by
  have a := tkS_mono (ts := ts) h hi k h1
  have b := tkS_mono (ts := ts) h hi k (show t + 1 ≤ m from h2)
  rw [tkS, if_pos ⟨ht, hk⟩] at b
  omega
end
/-- As many numbers below m as they are many, and no two alike, take every place. -/
theorem pigeon : ∀ (n m : Nat) (f : Nat → Nat), (∀ j, j < n → f j < m) → (∀ a b, a < b → b < n → f a ≠ f b) → n ≤ m
  | 0, _, _, _, _ => Nat.zero_le _
  | n + 1, m, f, h1, h2 => by
    have hm := h1 n (by omega)
    have := pigeon n (m - 1) (fun j => if f n < f j then f j - 1 else f j) (fun j hj => by
      have a := h1 j (by omega)
      have b := h2 j n hj (by omega)
      split <;> omega) (fun a b hab hb => by
      have c := h2 a b hab (by omega)
      have d := h2 a n (by omega) (by omega)
      have e := h2 b n hb (by omega)
      split <;> split <;> omega)
    omega
theorem pigeon_onto {n : Nat} {f : Nat → Nat} (h1 : ∀ j, j < n → f j < n) (h2 : ∀ a b, a < b → b < n → f a ≠ f b) {k : Nat} (hk : k < n) : ∃ j, j < n ∧ f j = k := by
  apply Classical.byContradiction
  intro hn
  have hne : ∀ j, j < n → f j ≠ k := fun j hj e => hn ⟨j, hj, e⟩
  have := pigeon n (n - 1) (fun j => if k < f j then f j - 1 else f j) (fun j hj => by
    have a := h1 j hj
    have b := hne j hj
    split <;> omega) (fun a b hab hb => by
    have c := h2 a b hab hb
    have d := hne a (by omega)
    have e := hne b hb
    split <;> split <;> omega)
  omega
end Go.Proofs.Ytfagapcihacgkaa
