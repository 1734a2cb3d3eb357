/- A week of the least cost, found agent by agent: how the bounds move, and how shifts are given on; plain, no program. -/
import Derived.Test.YtcgaojnfgkfnkaaTopRotaCheapestm5
import Derived.Test.YtcgaojnfgkfnkaaTopRotaCheapestm1
/- A week of the least cost, found agent by agent: how the bounds move, and how shifts are given on; plain, no program. -/
namespace Go.Proofs.Ytcgaojnfgkfnkaa
set_option linter.unusedVariables false
set_option linter.unusedSimpArgs false

/-- The second inner loop: bounds of the agents seen grow, those of their shifts fall. -/
noncomputable def bumpU (H : Nat → Nat) (D : Nat → Bool) (s : Int) (U : Nat → Int) (k : Nat) : Nat → Int := open Classical in fun r => if ∃ j, j < k ∧ D j = true ∧ H j = r then U r + s else U r
def bumpV (D : Nat → Bool) (s : Int) (V : Nat → Int) (k : Nat) : Nat → Int := fun j => if j < k ∧ D j = true then V j - s else V j
def bumpL (D : Nat → Bool) (s : Int) (L : Nat → Int) (k : Nat) : Nat → Int := fun j => if j < k ∧ D j = false then L j - s else L j
section
variable {n : Nat} {C : Int} {c : Nat → Nat → Int} {i : Nat} {U V : Nat → Int} {H : Nat → Nat} {t : Nat} {D : Nat → Bool} {L : Nat → Int} {P : Nat → Nat} {ρ : Nat → Nat} {m : Nat} {s : Int} {y : Nat}
theorem bump_zero : bumpU H D s U 0 = U ∧ bumpV D s V 0 = V ∧ bumpL D s L 0 = L := by
  refine ⟨funext fun r => ?_, funext fun r => ?_, funext fun r => ?_⟩
  · unfold bumpU; rw [if_neg]; rintro ⟨j, h, _⟩; omega
  · exact if_neg (by omega)
  · exact if_neg (by omega)
theorem bumpV_at {k : Nat} : bumpV D s V k k = V k := if_neg (by omega)
theorem bumpL_at {k : Nat} : bumpL D s L k k = L k := if_neg (by omega)
theorem bump_no {k : Nat} (hD : D k = false) : bumpU H D s U (k + 1) = bumpU H D s U k ∧ bumpV D s V (k + 1) = bumpV D s V k ∧ bumpL D s L (k + 1) = updf (bumpL D s L k) k (L k - s) := by
  refine ⟨funext fun r => ?_, funext fun r => ?_, funext fun r => ?_⟩
  · unfold bumpU
    have e : (∃ j, j < k + 1 ∧ D j = true ∧ H j = r) ↔ ∃ j, j < k ∧ D j = true ∧ H j = r := by
      constructor
      · rintro ⟨j, h1, h2, h3⟩
        by_cases ej : j = k
        · subst ej; rw [hD] at h2; cases h2
        · exact ⟨j, by omega, h2, h3⟩
      · rintro ⟨j, h1, h2, h3⟩; exact ⟨j, by omega, h2, h3⟩
    simp only [e]
  · unfold bumpV
    have e : (r < k + 1 ∧ D r = true) ↔ (r < k ∧ D r = true) := by
      constructor
      · rintro ⟨h1, h2⟩
        by_cases ej : r = k
        · subst ej; rw [hD] at h2; cases h2
        · exact ⟨by omega, h2⟩
      · rintro ⟨h1, h2⟩; exact ⟨by omega, h2⟩
    simp only [e]
  · by_cases ej : r = k
    · subst ej; rw [updf_at]; exact if_pos ⟨by omega, hD⟩
    · rw [updf_ne ej]; unfold bumpL
      have e : (r < k + 1) ↔ (r < k) := ⟨fun h => by omega, fun h => by omega⟩
      simp only [e]
theorem bump_yes {k : Nat} (hD : D k = true) (hi : ∀ j, j < k → D j = true → H j ≠ H k) : bumpU H D s U k (H k) = U (H k) ∧ bumpU H D s U (k + 1) = updf (bumpU H D s U k) (H k) (U (H k) + s) ∧ bumpV D s V (k + 1) = updf (bumpV D s V k) k (V k - s) ∧ bumpL D s L (k + 1) = bumpL D s L k := by
  refine ⟨?_, funext fun r => ?_, funext fun r => ?_, funext fun r => ?_⟩
  · unfold bumpU; rw [if_neg]; rintro ⟨j, h1, h2, h3⟩; exact hi j h1 h2 h3
  · by_cases er : r = H k
    · subst er; rw [updf_at]; unfold bumpU; rw [if_pos ⟨k, by omega, hD, rfl⟩]
    · rw [updf_ne er]; unfold bumpU
      have e : (∃ j, j < k + 1 ∧ D j = true ∧ H j = r) ↔ ∃ j, j < k ∧ D j = true ∧ H j = r := by
        constructor
        · rintro ⟨j, h1, h2, h3⟩
          by_cases ej : j = k
          · subst ej; exact absurd h3.symm er
          · exact ⟨j, by omega, h2, h3⟩
        · rintro ⟨j, h1, h2, h3⟩; exact ⟨j, by omega, h2, h3⟩
      simp only [e]
  · by_cases ej : r = k
    · subst ej; rw [updf_at]; exact if_pos ⟨by omega, hD⟩
    · rw [updf_ne ej]; unfold bumpV
      have e : (r < k + 1) ↔ (r < k) := ⟨fun h => by omega, fun h => by omega⟩
      simp only [e]
  · unfold bumpL
    have e : (r < k + 1 ∧ D r = false) ↔ (r < k ∧ D r = false) := by
      constructor
      · rintro ⟨h1, h2⟩
        by_cases ej : r = k
        · subst ej; rw [hD] at h2; cases h2
        · exact ⟨by omega, h2⟩
      · rintro ⟨h1, h2⟩; exact ⟨by omega, h2⟩
    simp only [e]
theorem Mid.row (h : Mid n C c i U V H D L P ρ m s y) {j : Nat} (hj : j ≤ n) (hH : H j ≠ 0) : H j - 1 < n ∧ H j - 1 + 1 = H j ∧ H j ≤ i + 1 := by
  cases j with
  | zero => have := h.h0; have := h.hi; omega
  | succ j => have := h.rng j (by omega); have := h.hi; omega
theorem Mid.injA (h : Mid n C c i U V H D L P ρ m s y) {j k : Nat} (hj : j ≤ n) (hk : k ≤ n) (hH : H j ≠ 0) (e : H j = H k) : j = k := by
  have h0 := h.h0
  cases j with
  | zero =>
    cases k with
    | zero => rfl
    | succ k => have := h.rng k (by omega); omega
  | succ j =>
    cases k with
    | zero => have := h.rng j (by omega); omega
    | succ k => rw [h.inj j k (by omega) (by omega) hH e]
theorem Mid.slk_nonneg (h : Mid n C c i U V H D L P ρ m s y) {j k : Nat} (hj : j ≤ n) (hH : H j ≠ 0) (hk0 : 1 ≤ k) (hk : k ≤ n) : 0 ≤ slk c U V H j k := by
  obtain ⟨h1, h2, _⟩ := h.row hj hH
  have h3 := h.feas (H j - 1) (k - 1) h1 (by omega)
  have e : k - 1 + 1 = k := by omega
  rw [h2, e] at h3
  unfold slk
  omega
theorem Mid.s_pos (h : Mid n C c i U V H D L P ρ m s y) : 0 ≤ s := by rw [← h.ys]; exact (h.lb y h.yn).1
theorem Mid.s_le (h : Mid n C c i U V H D L P ρ m s y) : s ≤ C := by
  obtain ⟨f, hf, hf0⟩ := h.some_free h.hi
  have hfd : D (f + 1) = false := by
    cases hd : D (f + 1) with
    | false => rfl
    | true => exact absurd hf0 (h.dn _ hd).2
  have h1 := h.ymin (f + 1) (by omega) (by omega) hfd
  have h2 := (h.best (f + 1) (by omega) (by omega) hfd).2.2 0 h.d0
  have hH : H 0 ≠ 0 := by rw [h.h0]; omega
  obtain ⟨r1, r2, _⟩ := h.row (Nat.zero_le _) hH
  have h4 := h.cb (H 0 - 1) f r1 hf
  have h5 := h.uhi (H 0 - 1) r1
  rw [r2] at h5
  have h6 := h.free f hf hf0
  have e : slk c U V H 0 (f + 1) = c (H 0 - 1) f - U (H 0) - V (f + 1) := rfl
  omega
/-- The bounds behind the second inner loop. -/
theorem Mid.bump (h : Mid n C c i U V H D L P ρ m s y) :
    (∀ j, D j = true → bumpU H D s U (n + 1) (H j) = U (H j) + s) ∧ (∀ r, (∀ j, D j = true → H j ≠ r) → bumpU H D s U (n + 1) r = U r) ∧ (∀ k, D k = true → bumpV D s V (n + 1) k = V k - s) ∧ (∀ k, D k = false → bumpV D s V (n + 1) k = V k) ∧ (∀ k, k ≤ n → D k = false → bumpL D s L (n + 1) k = L k - s) ∧ (∀ k, D k = true → bumpL D s L (n + 1) k = L k) := by
  refine ⟨fun j hj => ?_, fun r hr => ?_, fun k hk => ?_, fun k hk => ?_, fun k hk hd => ?_, fun k hk => ?_⟩
  · unfold bumpU; rw [if_pos ⟨j, by have := (h.dn j hj).1; omega, hj, rfl⟩]
  · unfold bumpU; rw [if_neg]; rintro ⟨j, _, h2, h3⟩; exact hr j h2 h3
  · exact if_pos ⟨by have := (h.dn k hk).1; omega, hk⟩
  · exact if_neg (fun e => by rw [hk] at e; exact absurd e.2 (by decide))
  · exact if_pos ⟨by omega, hd⟩
  · exact if_neg (fun e => by rw [hk] at e; exact absurd e.2 (by decide))
theorem Mid.slk_bump (h : Mid n C c i U V H D L P ρ m s y) {j k : Nat} (hj : D j = true) :
    slk c (bumpU H D s U (n + 1)) (bumpV D s V (n + 1)) H j k = if D k = true then slk c U V H j k else slk c U V H j k - s := by
  obtain ⟨b1, b2, b3, b4, _⟩ := h.bump
  unfold slk
  rw [b1 j hj]
  split
  · rename_i e; rw [b3 k e]; omega
  · rename_i e; rw [b4 k (by simpa using e)]; omega
theorem Mid.bas (h : Mid n C c i U V H D L P ρ m s y) : Bas n C c i (bumpU H D s U (n + 1)) (bumpV D s V (n + 1)) H := by
  obtain ⟨b1, b2, b3, b4, _⟩ := h.bump
  have s0 := h.s_pos
  have dec : ∀ r, (∃ j, D j = true ∧ H j = r) ∨ ∀ j, D j = true → H j ≠ r := fun r => by
    by_cases e : ∃ j, D j = true ∧ H j = r
    · exact .inl e
    · exact .inr fun j h1 h2 => e ⟨j, h1, h2⟩
  have hlow : ∀ k, bumpV D s V (n + 1) k ≤ V k := fun k => by
    cases e : D k with
    | true => rw [b3 k e]; omega
    | false => rw [b4 k e]; exact Int.le_refl _
  have hfeas : Feas n c (bumpU H D s U (n + 1)) (bumpV D s V (n + 1)) := fun a k ha hk => by
    have h1 := h.feas a k ha hk
    rcases dec (a + 1) with ⟨j, h2, h3⟩ | h2
    · obtain ⟨j1, j2⟩ := h.dn j h2
      rw [← h3, b1 j h2, h3]
      cases e : D (k + 1) with
      | true => rw [b3 _ e]; omega
      | false =>
        rw [b4 _ e]
        have h4 := h.ymin (k + 1) (by omega) (by omega) e
        have h5 := (h.best (k + 1) (by omega) (by omega) e).2.2 j h2
        have h6 : slk c U V H j (k + 1) = c (H j - 1) k - U (H j) - V (k + 1) := rfl
        rw [h3] at h6
        have e2 : a + 1 - 1 = a := by omega
        rw [e2] at h6
        omega
    · rw [b2 _ h2]
      have := hlow (k + 1)
      omega
  have hfree : ∀ k, k < n → H (k + 1) = 0 → bumpV D s V (n + 1) (k + 1) = 0 := fun k hk e => by
    have hd : D (k + 1) = false := by
      cases hd : D (k + 1) with
      | false => rfl
      | true => exact absurd e (h.dn _ hd).2
    rw [b4 _ hd]; exact h.free k hk e
  have huhi : ∀ r, r < n → 0 ≤ bumpU H D s U (n + 1) (r + 1) ∧ bumpU H D s U (n + 1) (r + 1) ≤ C := fun r hr => by
    obtain ⟨f, hf, hf0⟩ := h.some_free h.hi
    have h1 := hfeas r f hr hf
    rw [hfree f hf hf0] at h1
    have h2 := h.cb r f hr hf
    have h3 := h.uhi r hr
    rcases dec (r + 1) with ⟨j, h4, h5⟩ | h4
    · have h6 := b1 j h4
      rw [h5] at h6
      omega
    · rw [b2 _ h4]; exact h3
  have hsharp : ∀ k, k < n → H (k + 1) ≠ 0 → c (H (k + 1) - 1) k = bumpU H D s U (n + 1) (H (k + 1)) + bumpV D s V (n + 1) (k + 1) := fun k hk hn => by
    have h1 := h.sharp k hk hn
    cases e : D (k + 1) with
    | true => rw [b1 _ e, b3 _ e]; omega
    | false =>
      rw [b4 _ e, b2 _ (fun j h2 h3 => ?_)]
      · exact h1
      · have := h.injA (h.dn j h2).1 (by omega) (h.dn j h2).2 h3
        subst this
        rw [e] at h2; cases h2
  refine ⟨h.cb, hfeas, hsharp, h.rng, h.inj, h.onto, hfree, fun k hk => ?_, huhi⟩
  have h1 := h.vlo k hk
  have h2 := hlow (k + 1)
  refine ⟨?_, by omega⟩
  cases e : D (k + 1) with
  | true =>
    have hn := (h.dn _ e).2
    have h3 := hsharp k hk hn
    obtain ⟨r1, r2, _⟩ := h.row (j := k + 1) (by omega) hn
    have h4 := huhi (H (k + 1) - 1) r1
    have h5 := h.cb (H (k + 1) - 1) k r1 hk
    rw [r2] at h4
    omega
  | false => rw [b4 _ e]; exact h1.1
theorem Mid.late' (h : Mid n C c i U V H D L P ρ m s y) : ∀ r, r < n → i < r → bumpU H D s U (n + 1) (r + 1) = 0 := fun r hr hir => by
  obtain ⟨b1, b2, _⟩ := h.bump
  rw [b2 _ (fun j h1 h2 => ?_)]
  · exact h.late r hr hir
  · have := (h.row (h.dn j h1).1 (h.dn j h1).2).2.2
    omega
theorem Mid.v0' (h : Mid n C c i U V H D L P ρ m s y) : -(C * i) ≤ bumpV D s V (n + 1) 0 + bumpU H D s U (n + 1) (i + 1) ∧ bumpV D s V (n + 1) 0 ≤ 0 := by
  obtain ⟨b1, b2, b3, _⟩ := h.bump
  have h1 := b1 0 h.d0
  rw [h.h0] at h1
  rw [h1, b3 0 h.d0]
  have := h.v0
  have := h.s_pos
  omega
theorem Mid.tree' (h : Mid n C c i U V H D L P ρ m s y) : ∀ k, (D k = true ∨ k = y) → k ≠ 0 → D (P k) = true ∧ slk c (bumpU H D s U (n + 1)) (bumpV D s V (n + 1)) H (P k) k = 0 ∧ updf ρ y (m + 1) (P k) < updf ρ y (m + 1) k := fun k hk h0 => by
  have hy := h.yd
  by_cases e : k = y
  · subst e
    obtain ⟨h1, h2, _⟩ := h.best k h.y1 h.yn hy
    rw [h.slk_bump h1, if_neg (by rw [hy]; decide), updf_at, updf_ne (fun e => by rw [e, hy] at h1; cases h1)]
    have := h.rank _ h1
    have := h.ys
    exact ⟨h1, by omega, by omega⟩
  · have hD : D k = true := hk.elim id fun h => absurd h e
    obtain ⟨h1, h2, h3⟩ := h.tree k hD h0
    rw [h.slk_bump h1, if_pos hD, updf_ne e, updf_ne (fun e => by rw [e, hy] at h1; cases h1)]
    exact ⟨h1, h2, h3⟩
/-- Another round. -/
theorem Mid.next (h : Mid n C c i U V H D L P ρ m s y) (hy : H y ≠ 0) : Fur n C c i (bumpU H D s U (n + 1)) (bumpV D s V (n + 1)) H y D (bumpL D s L (n + 1)) P (updf ρ y (m + 1)) (m + 1) := by
  obtain ⟨b1, b2, b3, b4, b5, b6⟩ := h.bump
  have s0 := h.s_pos
  refine ⟨h.bas, h.hi, h.hC, h.late', h.h0, h.v0', h.yn, hy, h.yd, h.dn, .inr h.d0, fun k hk => ?_, fun k hk1 hkn hkd => .inr ?_, h.tree', fun k hk => ?_⟩
  · have h1 := h.lb k hk
    cases e : D k with
    | true => rw [b6 k e]; exact h1
    | false =>
      rw [b5 k hk e]
      rcases Nat.eq_zero_or_pos k with h2 | h2
      · subst h2; rw [h.d0] at e; cases e
      · have := h.ymin k h2 hk e; omega
  · obtain ⟨h1, h2, h3⟩ := h.best k hk1 hkn hkd
    rw [b5 k hkn hkd, h.slk_bump h1, if_neg (by rw [hkd]; decide)]
    refine ⟨h1, by omega, fun j hj => ?_⟩
    rw [h.slk_bump hj, if_neg (by rw [hkd]; decide)]
    have := h3 j hj
    omega
  · by_cases e : k = y
    · subst e; rw [updf_at]; exact Nat.le_refl _
    · rw [updf_ne e]
      have := h.rank k (hk.elim id fun h => absurd h e)
      omega
/-- The shifts are given on along the way back to the column 0. -/
structure Aug (n : Nat) (C : Int) (c : Nat → Nat → Int) (i : Nat) (U V : Nat → Int) (H0 H : Nat → Nat) (t : Nat) (D : Nat → Bool) (P : Nat → Nat) (ρ : Nat → Nat) : Prop where
  cb : ∀ a k, a < n → k < n → 0 ≤ c a k ∧ c a k ≤ C
  feas : Feas n c U V
  vlo : ∀ k, k < n → -C ≤ V (k + 1) ∧ V (k + 1) ≤ 0
  uhi : ∀ r, r < n → 0 ≤ U (r + 1) ∧ U (r + 1) ≤ C
  hi : i < n
  late : ∀ r, r < n → i < r → U (r + 1) = 0
  v0 : -(C * (i + 1 : Nat)) ≤ V 0 ∧ V 0 ≤ 0
  tn : t ≤ n
  dn : ∀ k, D k = true → k ≤ n
  sharp : ∀ k, k < n → k + 1 ≠ t → H (k + 1) ≠ 0 → c (H (k + 1) - 1) k = U (H (k + 1)) + V (k + 1)
  rng : ∀ k, k ≤ n → H k ≤ i + 1
  inj : ∀ k l, k ≤ n → l ≤ n → k ≠ t → l ≠ t → H k ≠ 0 → H k = H l → k = l
  onto : ∀ r, r < i + 1 → ∃ k, k ≤ n ∧ k ≠ t ∧ H k = r + 1
  free : ∀ k, k < n → k + 1 ≠ t → H (k + 1) = 0 → V (k + 1) = 0
  same : ∀ k, ρ k ≤ ρ t → D k = true → H k = H0 k
  way : ∀ k, (D k = true ∨ k = t) → k ≠ 0 → D (P k) = true ∧ H0 (P k) ≠ 0 ∧ c (H0 (P k) - 1) (k - 1) = U (H0 (P k)) + V k ∧ ρ (P k) < ρ k
theorem Mid.aug (h : Mid n C c i U V H D L P ρ m s y) (hy : H y = 0) : Aug n C c i (bumpU H D s U (n + 1)) (bumpV D s V (n + 1)) H H y D P (updf ρ y (m + 1)) := by
  have hb := h.bas
  have hrow : ∀ j, j ≤ n → H j ≤ i + 1 := fun j hj => by
    by_cases e : H j = 0
    · omega
    · exact (h.row hj e).2.2
  refine ⟨h.cb, hb.feas, hb.vlo, hb.uhi, h.hi, h.late', ?_, h.yn, fun k hk => (h.dn k hk).1, fun k hk _ hn => hb.sharp k hk hn, hrow, fun k l hk hl _ _ hn e => h.injA hk hl hn e, fun r hr => ?_, fun k hk _ e => hb.free k hk e, fun _ _ _ => rfl, fun k hk h0 => ?_⟩
  · have h1 := h.v0'
    have h2 := hb.uhi i h.hi
    have e : C * ((i + 1 : Nat) : Int) = C * i + C := by rw [Int.natCast_succ, Int.mul_add, Int.mul_one]
    omega
  · by_cases e : r = i
    · subst e
      exact ⟨0, Nat.zero_le _, fun e => by rw [← e, h.h0] at hy; omega, h.h0⟩
    · obtain ⟨k, hk, e2⟩ := h.onto r (by omega)
      exact ⟨k + 1, by omega, fun e3 => by rw [e3, hy] at e2; omega, e2⟩
  · obtain ⟨h1, h2, h3⟩ := h.tree' k hk h0
    refine ⟨h1, (h.dn _ h1).2, ?_, h3⟩
    unfold slk at h2
    omega
theorem Aug.step {H0 : Nat → Nat} (h : Aug n C c i U V H0 H t D P ρ) (ht : t ≠ 0) : Aug n C c i U V H0 (updf H t (H (P t))) (P t) D P ρ ∧ P t ≤ n ∧ ρ (P t) < ρ t := by
  obtain ⟨w1, w2, w3, w4⟩ := h.way t (.inr rfl) ht
  have hPn := h.dn _ w1
  have hne : P t ≠ t := fun e => by rw [e] at w4; omega
  have hH : H (P t) = H0 (P t) := h.same _ (by omega) w1
  refine ⟨⟨h.cb, h.feas, h.vlo, h.uhi, h.hi, h.late, h.v0, hPn, h.dn, fun k hk hkt hn => ?_, fun k hk => ?_, fun k l hk hl hkt hlt hn e => ?_, fun r hr => ?_, fun k hk hkt e => ?_, fun k hk hD => ?_, fun k hk h0 => h.way k (.inl (hk.elim id fun e => e ▸ w1)) h0⟩, hPn, w4⟩
  · by_cases e : k + 1 = t
    · rw [e, updf_at, hH]
      have e2 : t - 1 = k := by omega
      rw [e2] at w3
      exact w3
    · rw [updf_ne e] at hn ⊢
      exact h.sharp k hk e hn
  · by_cases e : k = t
    · rw [e, updf_at]; exact h.rng _ hPn
    · rw [updf_ne e]; exact h.rng k hk
  · by_cases e1 : k = t
    · by_cases e2 : l = t
      · omega
      · rw [e1, updf_at, updf_ne e2] at e
        rw [e1, updf_at] at hn
        exact absurd (h.inj _ _ hPn hl hne e2 hn e).symm hlt
    · by_cases e2 : l = t
      · rw [updf_ne e1, e2, updf_at] at e
        rw [updf_ne e1] at hn
        exact absurd (h.inj _ _ hk hPn e1 hne hn e) hkt
      · rw [updf_ne e1, updf_ne e2] at e
        rw [updf_ne e1] at hn
        exact h.inj _ _ hk hl e1 e2 hn e
  · obtain ⟨k, hk, hkt, e⟩ := h.onto r hr
    by_cases ek : k = P t
    · exact ⟨t, h.tn, Ne.symm hne, by rw [updf_at, ← ek]; exact e⟩
    · exact ⟨k, hk, ek, by rw [updf_ne hkt]; exact e⟩
  · by_cases e1 : k + 1 = t
    · rw [e1, updf_at, hH] at e; exact absurd e w2
    · rw [updf_ne e1] at e; exact h.free k hk e1 e
  · have : k ≠ t := fun e => by rw [e] at hk; omega
    rw [updf_ne this]
    exact h.same k (by omega) hD
theorem Aug.stop {H0 : Nat → Nat} (h : Aug n C c i U V H0 H 0 D P ρ) : Stg n C c (i + 1) U V H :=
  ⟨⟨h.cb, h.feas, fun k hk hn => h.sharp k hk (by omega) hn, fun k hk => h.rng _ (by omega), fun k l hk hl hn e => by have := h.inj _ _ (by omega) (by omega) (by omega) (by omega) hn e; omega, fun r hr => by
    obtain ⟨k, hk, h1, h2⟩ := h.onto r hr
    exact ⟨k - 1, by omega, by rw [show k - 1 + 1 = k by omega]; exact h2⟩, fun k hk e => h.free k hk (by omega) e, h.vlo, h.uhi⟩, fun r hr hir => h.late r hr (by omega), h.v0⟩
/-- At the end: the week, along which the bounds are sharp. -/
theorem Stg.stop (h : Stg n C c n U V H) : Per n (fun k => H (k + 1) - 1) ∧ (∀ k, k < n → H (k + 1) ≠ 0 ∧ H (k + 1) ≤ n) ∧ ∀ k, k < n → Sharp c U V (H (k + 1) - 1) k := by
  have hex : ∀ r, ∃ k, r < n → k < n ∧ H (k + 1) = r + 1 := fun r => by
    by_cases hr : r < n
    · obtain ⟨k, h1, h2⟩ := h.onto r hr; exact ⟨k, fun _ => ⟨h1, h2⟩⟩
    · exact ⟨0, fun h => absurd h hr⟩
  have hg := fun r => (hex r).choose_spec
  have hp : Per n (fun r => (hex r).choose) := ⟨fun r hr => (hg r hr).1, fun r q hr hq e => by
    have e : (hex r).choose = (hex q).choose := e
    have h1 := (hg r hr).2
    have h2 := (hg q hq).2
    rw [e, h2] at h1
    omega⟩
  have hne : ∀ k, k < n → H (k + 1) ≠ 0 := fun k hk => by
    obtain ⟨r, hr, e⟩ := hp.surj hk
    have e : (hex r).choose = k := e
    have := (hg r hr).2
    rw [e] at this
    omega
  refine ⟨⟨fun k hk => by have := h.rng k hk; have := hne k hk; show H (k + 1) - 1 < n; omega, fun k l hk hl e => ?_⟩, fun k hk => ⟨hne k hk, h.rng k hk⟩, fun k hk => ?_⟩
  · have e : H (k + 1) - 1 = H (l + 1) - 1 := e
    have := hne k hk
    have := hne l hl
    exact h.inj k l hk hl (hne k hk) (by omega)
  · have h1 := h.sharp k hk (hne k hk)
    have := hne k hk
    unfold Sharp
    rw [show H (k + 1) - 1 + 1 = H (k + 1) by omega]
    exact h1
end
end Go.Proofs.Ytcgaojnfgkfnkaa

/- The blocks that rota.prove writes, under one name; no condition.  (Printed by wip/genproveh.py.) -/
namespace Go.Proofs.Ytcgaojnfgkfnkaa
set_option linter.unusedVariables false
set_option linter.unusedSimpArgs false
open Go.ChangeShapes Go.WideShapes Go.ChangeAt Go.RowKit Go.Deep

def slF (m gu gv : Nat) : Nat → Value := fun k => if k = 0 then .slice (some ⟨gu, 0, none⟩) m m else .slice (some ⟨gv, 0, none⟩) m m
def nilF : Nat → Value := fun _ => .slice none 0 0
/-- Distances, where they come from, what is done; the box of the bounds, the bounds of agents and of shifts; who has each shift; the result's box. -/
def PV8 (w : World) (m gL gP gD gb gu gv gh gr : Nat) (L : Nat → Int) (P : Nat → Nat) (D : Nat → Bool) (U V : Nat → Int) (H : Nat → Nat) : Prop :=
  Hp w [(gL, m, iF L), (gP, m, nF P), (gD, m, bF D), (gb, 2, slF m gu gv), (gu, m, iF U), (gv, m, iF V), (gh, m, nF H), (gr, 2, nilF)]
def PV5 (w : World) (m gb gu gv gh gr : Nat) (U V : Nat → Int) (H : Nat → Nat) : Prop :=
  Hp w [(gb, 2, slF m gu gv), (gu, m, iF U), (gv, m, iF V), (gh, m, nF H), (gr, 2, nilF)]
section
variable {w w' : World} {m gL gP gD gb gu gv gh gr : Nat} {L : Nat → Int} {P : Nat → Nat} {D : Nat → Bool} {U V : Nat → Int} {H : Nat → Nat}
theorem PV8.below (h : PV8 w m gL gP gD gb gu gv gh gr L P D U V H) (hb : Below w.heap.size w w') : PV8 w' m gL gP gD gb gu gv gh gr L P D U V H := Hp.below h hb
theorem PV8.drewN (h : PV8 w m gL gP gD gb gu gv gh gr L P D U V H) (n : Nat) : PV8 (w.drewN n) m gL gP gD gb gu gv gh gr L P D U V H := Hp.drewN h n
theorem PV5.below (h : PV5 w m gb gu gv gh gr U V H) (hb : Below w.heap.size w w') : PV5 w' m gb gu gv gh gr U V H := Hp.below h hb
theorem PV8.out (h : PV8 w m gL gP gD gb gu gv gh gr L P D U V H) : PV5 w m gb gu gv gh gr U V H := Hp.sub h ((((List.Sublist.refl _).cons _).cons _).cons _)
theorem PV8.c0 (h : PV8 w m gL gP gD gb gu gv gh gr L P D U V H) : w.cell? ⟨gb, 0, none⟩ = some (.slice (some ⟨gu, 0, none⟩) m m) := (Hp.at h 3 rfl).cell 0 (by omega)
theorem PV8.c1 (h : PV8 w m gL gP gD gb gu gv gh gr L P D U V H) : w.cell? ⟨gb, 1, none⟩ = some (.slice (some ⟨gv, 0, none⟩) m m) := (Hp.at h 3 rfl).cell 1 (by omega)
theorem PV8.tree (h : PV8 w m gL gP gD gb gu gv gh gr L P D U V H) : RowF w gD m (bF D) := Hp.at h 2 rfl
theorem Hp.fresh {l : List Blk} {g : Nat} (h : Hp w l) (hg : w.heap.size ≤ g) : ∀ x ∈ l, x.1 ≠ g := fun x hx e => by have := (h.row x hx).lt; omega
theorem PV5.more (h : PV5 w m gb gu gv gh gr U V H) (hb : Below w.heap.size w w') (hL : w.heap.size ≤ gL) (hP : w.heap.size ≤ gP) (hD : w.heap.size ≤ gD) (n1 : gL ≠ gP) (n2 : gL ≠ gD) (n3 : gP ≠ gD) (rL : RowF w' gL m (iF L)) (rP : RowF w' gP m (nF P)) (rD : RowF w' gD m (bF D)) : PV8 w' m gL gP gD gb gu gv gh gr L P D U V H := by
  have a := Hp.fresh h hL
  have b := Hp.fresh h hP
  have c := Hp.fresh h hD
  refine Hp.add (Hp.add (Hp.add (Hp.below h hb) rD c) rP ?_) rL ?_
  · intro x hx
    rcases List.mem_cons.1 hx with rfl | hx
    · exact Ne.symm n3
    · exact b x hx
  · intro x hx
    rcases List.mem_cons.1 hx with rfl | hx
    · exact Ne.symm n1
    · rcases List.mem_cons.1 hx with rfl | hx
      · exact Ne.symm n2
      · exact a x hx
theorem PV8.cL (h : PV8 w m gL gP gD gb gu gv gh gr L P D U V H) {j : Nat} (hj : j < m) : w.cell? ⟨gL, j, none⟩ = some (.int .i64 (L j)) := (Hp.at h 0 rfl).cell j hj
theorem PV8.fL (h : PV8 w m gL gP gD gb gu gv gh gr L P D U V H) {j : Nat} (hj : j < m) : w.frozen? ⟨gL, j, none⟩ = false := (Hp.at h 0 rfl).live j hj
theorem PV8.setL (h : PV8 w m gL gP gD gb gu gv gh gr L P D U V H) {j : Nat} (hj : j < m) (x : Int) : PV8 (w.setCell ⟨gL, j, none⟩ (.int .i64 x)) m gL gP gD gb gu gv gh gr (updf L j x) P D U V H := by
  have h2 := Hp.set h 0 rfl (.int .i64 x) hj
  rw [iF_upd] at h2
  exact h2
theorem PV8.cP (h : PV8 w m gL gP gD gb gu gv gh gr L P D U V H) {j : Nat} (hj : j < m) : w.cell? ⟨gP, j, none⟩ = some (.int .i64 ((P j : Nat) : Int)) := (Hp.at h 1 rfl).cell j hj
theorem PV8.fP (h : PV8 w m gL gP gD gb gu gv gh gr L P D U V H) {j : Nat} (hj : j < m) : w.frozen? ⟨gP, j, none⟩ = false := (Hp.at h 1 rfl).live j hj
theorem PV8.setP (h : PV8 w m gL gP gD gb gu gv gh gr L P D U V H) {j : Nat} (hj : j < m) (x : Nat) : PV8 (w.setCell ⟨gP, j, none⟩ (.int .i64 (x : Int))) m gL gP gD gb gu gv gh gr L (updf P j x) D U V H := by
  have h2 := Hp.set h 1 rfl (.int .i64 (x : Int)) hj
  rw [nF_upd] at h2
  exact h2
theorem PV8.cD (h : PV8 w m gL gP gD gb gu gv gh gr L P D U V H) {j : Nat} (hj : j < m) : w.cell? ⟨gD, j, none⟩ = some (.bool (D j)) := (Hp.at h 2 rfl).cell j hj
theorem PV8.fD (h : PV8 w m gL gP gD gb gu gv gh gr L P D U V H) {j : Nat} (hj : j < m) : w.frozen? ⟨gD, j, none⟩ = false := (Hp.at h 2 rfl).live j hj
theorem PV8.setD (h : PV8 w m gL gP gD gb gu gv gh gr L P D U V H) {j : Nat} (hj : j < m) (x : Bool) : PV8 (w.setCell ⟨gD, j, none⟩ (.bool x)) m gL gP gD gb gu gv gh gr L P (updf D j x) U V H := by
  have h2 := Hp.set h 2 rfl (.bool x) hj
  rw [bF_upd] at h2
  exact h2
theorem PV8.cU (h : PV8 w m gL gP gD gb gu gv gh gr L P D U V H) {j : Nat} (hj : j < m) : w.cell? ⟨gu, j, none⟩ = some (.int .i64 (U j)) := (Hp.at h 4 rfl).cell j hj
theorem PV8.fU (h : PV8 w m gL gP gD gb gu gv gh gr L P D U V H) {j : Nat} (hj : j < m) : w.frozen? ⟨gu, j, none⟩ = false := (Hp.at h 4 rfl).live j hj
theorem PV8.setU (h : PV8 w m gL gP gD gb gu gv gh gr L P D U V H) {j : Nat} (hj : j < m) (x : Int) : PV8 (w.setCell ⟨gu, j, none⟩ (.int .i64 x)) m gL gP gD gb gu gv gh gr L P D (updf U j x) V H := by
  have h2 := Hp.set h 4 rfl (.int .i64 x) hj
  rw [iF_upd] at h2
  exact h2
theorem PV8.cV (h : PV8 w m gL gP gD gb gu gv gh gr L P D U V H) {j : Nat} (hj : j < m) : w.cell? ⟨gv, j, none⟩ = some (.int .i64 (V j)) := (Hp.at h 5 rfl).cell j hj
theorem PV8.fV (h : PV8 w m gL gP gD gb gu gv gh gr L P D U V H) {j : Nat} (hj : j < m) : w.frozen? ⟨gv, j, none⟩ = false := (Hp.at h 5 rfl).live j hj
theorem PV8.setV (h : PV8 w m gL gP gD gb gu gv gh gr L P D U V H) {j : Nat} (hj : j < m) (x : Int) : PV8 (w.setCell ⟨gv, j, none⟩ (.int .i64 x)) m gL gP gD gb gu gv gh gr L P D U (updf V j x) H := by
  have h2 := Hp.set h 5 rfl (.int .i64 x) hj
  rw [iF_upd] at h2
  exact h2
theorem PV8.cH (h : PV8 w m gL gP gD gb gu gv gh gr L P D U V H) {j : Nat} (hj : j < m) : w.cell? ⟨gh, j, none⟩ = some (.int .i64 ((H j : Nat) : Int)) := (Hp.at h 6 rfl).cell j hj
theorem PV8.fH (h : PV8 w m gL gP gD gb gu gv gh gr L P D U V H) {j : Nat} (hj : j < m) : w.frozen? ⟨gh, j, none⟩ = false := (Hp.at h 6 rfl).live j hj
theorem PV8.setH (h : PV8 w m gL gP gD gb gu gv gh gr L P D U V H) {j : Nat} (hj : j < m) (x : Nat) : PV8 (w.setCell ⟨gh, j, none⟩ (.int .i64 (x : Int))) m gL gP gD gb gu gv gh gr L P D U V (updf H j x) := by
  have h2 := Hp.set h 6 rfl (.int .i64 (x : Int)) hj
  rw [nF_upd] at h2
  exact h2
theorem PV5.c0 (h : PV5 w m gb gu gv gh gr U V H) : w.cell? ⟨gb, 0, none⟩ = some (.slice (some ⟨gu, 0, none⟩) m m) := (Hp.at h 0 rfl).cell 0 (by omega)
theorem PV5.c1 (h : PV5 w m gb gu gv gh gr U V H) : w.cell? ⟨gb, 1, none⟩ = some (.slice (some ⟨gv, 0, none⟩) m m) := (Hp.at h 0 rfl).cell 1 (by omega)
theorem PV5.r (h : PV5 w m gb gu gv gh gr U V H) : RowF w gr 2 nilF := Hp.at h 4 rfl
theorem PV5.rows (h : PV5 w m gb gu gv gh gr U V H) : Hp w [(gu, m, iF U), (gv, m, iF V), (gh, m, nF H), (gr, 2, nilF)] := Hp.sub h ((List.Sublist.refl _).cons _)
end
/-- How many of a row of bools are false: a measure that reads the memory. -/
noncomputable def undone (w : World) (g m : Nat) : Nat := open Classical in ((List.range m).filter fun k => decide (w.cell? ⟨g, k, none⟩ = some (.bool false))).length
def falses (D : Nat → Bool) (m : Nat) : Nat := ((List.range m).filter fun k => !D k).length
theorem undone_of {w : World} {g m : Nat} {D : Nat → Bool} (h : RowF w g m (bF D)) : undone w g m = falses D m := by
  unfold undone falses
  rw [List.filter_congr]
  intro k hk
  rw [h.cell k (List.mem_range.1 hk)]
  unfold bF
  cases D k <;> simp
theorem falses_less {D : Nat → Bool} : ∀ {m t : Nat}, t < m → D t = false → falses (updf D t true) m + 1 = falses D m
  | 0, _, h, _ => by omega
  | m + 1, t, h, hD => by
    have hm : ∀ E : Nat → Bool, falses E (m + 1) = falses E m + if E m = false then 1 else 0 := fun E => by
      unfold falses; rw [List.range_succ, List.filter_append, List.length_append]
      cases e : E m <;> simp [e]
    rw [hm, hm]
    by_cases e : t = m
    · subst e
      have h2 : falses (updf D t true) t = falses D t := by
        unfold falses
        rw [List.filter_congr]
        intro k hk
        rw [updf_ne (by have := List.mem_range.1 hk; omega)]
      rw [h2, updf_at, hD]; simp
    · have h3 := falses_less (m := m) (t := t) (by omega) hD
      rw [updf_ne (Ne.symm e)]
      omega
/-- The distances while they are laid out. -/
def lowF (j : Nat) : Nat → Int := fun x => if x < j then big40 else 0
theorem lowF_zero : lowF 0 = fun _ => 0 := funext fun x => if_neg (by omega)
theorem lowF_succ (j : Nat) : updf (lowF j) j big40 = lowF (j + 1) := funext fun x => by
  by_cases e : x = j
  · subst e; rw [updf_at]; exact (if_pos (by omega)).symm
  · rw [updf_ne e]; unfold lowF
    have e2 : (x < j + 1) ↔ (x < j) := ⟨fun h => by omega, fun h => by omega⟩
    simp only [e2]
end Go.Proofs.Ytcgaojnfgkfnkaa

/- The walks of slices.IndexFunc and slices.ContainsFunc at slices of integers, for a function that only computes. -/
namespace Go.Proofs.Ytcgaojnfgkfnkaa
set_option linter.unusedVariables false
set_option linter.unusedSimpArgs false
open Go.ChangeShapes Go.WideShapes Go.ChangeAt Go.RowKit Go.Deep

/-- The first index at which P holds, or -1. -/
def firstIdx (P : Int → Bool) (xs : List Int) : Int := match xs.findIdx? P with
  | some k => k
  | none => -1
def anyB (P : Int → Bool) (xs : List Int) : Bool := xs.any P
theorem findIdx?_of {P : Int → Bool} {xs : List Int} {k : Nat} (hk : k < xs.length) (h : P (iget xs k) = true) (hb : ∀ j, j < k → P (iget xs j) = false) : xs.findIdx? P = some k := by
  rw [List.findIdx?_eq_some_iff_getElem]
  refine ⟨hk, by rw [← iget_of hk]; exact h, fun j hj => ?_⟩
  have := hb j hj
  rw [iget_of (by omega)] at this
  simp [this]
theorem findIdx?_none {P : Int → Bool} {xs : List Int} (hb : ∀ j, j < xs.length → P (iget xs j) = false) : xs.findIdx? P = none := by
  rw [List.findIdx?_eq_none_iff]
  intro x hx
  obtain ⟨j, hj, rfl⟩ := List.getElem_of_mem hx
  have := hb j hj
  rwa [iget_of hj] at this
theorem anyB_of {P : Int → Bool} {xs : List Int} {k : Nat} (hk : k < xs.length) (h : P (iget xs k) = true) : anyB P xs = true := List.any_eq_true.2 ⟨_, iget_mem hk, h⟩
theorem anyB_none {P : Int → Bool} {xs : List Int} (hb : ∀ j, j < xs.length → P (iget xs j) = false) : anyB P xs = false := by
  unfold anyB
  rw [List.any_eq_false]
  intro x hx
  obtain ⟨j, hj, rfl⟩ := List.getElem_of_mem hx
  have := hb j hj
  rw [iget_of hj] at this
  simp [this]
theorem firstIdx_any (P : Int → Bool) (xs : List Int) : decide (0 ≤ firstIdx P xs) = anyB P xs := by
  unfold firstIdx anyB
  cases h : xs.findIdx? P with
  | none =>
    rw [List.findIdx?_eq_none_iff] at h
    symm
    simp
    intro x hx; simpa using h x hx
  | some k =>
    rw [List.findIdx?_eq_some_iff_getElem] at h
    obtain ⟨h1, h2, _⟩ := h
    have : (xs.any P) = true := List.any_eq_true.2 ⟨_, List.getElem_mem h1, h2⟩
    simp [this]

def oddBid (x : Int) : Bool := decide (x < 0 ∨ 1000000 < x)
end Go.Proofs.Ytcgaojnfgkfnkaa

/- Searching a list or a table with a predicate: what slices.Index, Contains, IndexFunc, ContainsFunc hand back; no condition but what the predicate asks. -/
namespace Go.Proofs.Ytcgaojnfgkfnkaa
set_option linter.unusedVariables false
set_option linter.unusedSimpArgs false
open Go.ChangeShapes Go.WideShapes Go.ChangeAt Go.RowKit Go.Deep

/-- The first number below n at which P holds, or -1; whether there is one. -/
def firstN (P : Nat → Bool) (n : Nat) : Int := match (List.range n).find? P with
  | some k => k
  | none => -1
def anyN (P : Nat → Bool) (n : Nat) : Bool := (List.range n).any P
theorem anyN_true {P : Nat → Bool} {n : Nat} : anyN P n = true ↔ ∃ j, j < n ∧ P j = true := by simp [anyN]
theorem anyN_false {P : Nat → Bool} {n : Nat} : anyN P n = false ↔ ∀ j, j < n → P j = false := by simp [anyN]
theorem firstN_none {P : Nat → Bool} {n : Nat} (hb : ∀ j, j < n → P j = false) : firstN P n = -1 := by
  have : (List.range n).find? P = none := by
    rw [List.find?_eq_none]; intro x hx; have := hb x (List.mem_range.1 hx); simp [this]
  unfold firstN; rw [this]
theorem firstN_of {P : Nat → Bool} {n k : Nat} (hk : k < n) (h : P k = true) (hb : ∀ j, j < k → P j = false) : firstN P n = k := by
  have : (List.range n).find? P = some k := by
    rw [List.find?_range_eq_some]
    exact ⟨h, by simpa using hk, fun j hj => by simp [hb j hj]⟩
  unfold firstN; rw [this]
theorem firstN_any (P : Nat → Bool) (n : Nat) : decide (0 ≤ firstN P n) = anyN P n := by
  cases h : anyN P n with
  | false => rw [firstN_none (anyN_false.1 h)]; rfl
  | true =>
    unfold firstN
    cases h2 : (List.range n).find? P with
    | none =>
      rw [List.find?_eq_none] at h2
      obtain ⟨j, hj, hp⟩ := anyN_true.1 h
      exact absurd hp (h2 j (List.mem_range.2 hj))
    | some k => simp
theorem firstN_lt {P : Nat → Bool} {n : Nat} (h : anyN P n = true) : ∃ k : Nat, firstN P n = k ∧ k < n ∧ P k = true ∧ ∀ j, j < k → P j = false := by
  cases h2 : (List.range n).find? P with
  | none =>
    rw [List.find?_eq_none] at h2
    obtain ⟨j, hj, hp⟩ := anyN_true.1 h
    exact absurd hp (h2 j (List.mem_range.2 hj))
  | some k =>
    refine ⟨k, by unfold firstN; rw [h2], ?_⟩
    rw [List.find?_range_eq_some] at h2
    exact ⟨by simpa using h2.2.1, h2.1, fun j hj => by simpa using h2.2.2 j hj⟩

/-- Where x is in xs. -/
def idxP (xs : List Int) (x : Int) (j : Nat) : Bool := decide (x = iget xs j)
def hasB (xs : List Int) (x : Int) : Bool := decide (x ∈ xs)
theorem any_idx (xs : List Int) (x : Int) : anyN (idxP xs x) xs.length = hasB xs x := by
  rw [Bool.eq_iff_iff, anyN_true]
  unfold hasB idxP
  simp only [decide_eq_true_iff]
  constructor
  · rintro ⟨j, hj, rfl⟩; exact iget_mem hj
  · intro h
    obtain ⟨j, hj, rfl⟩ := List.getElem_of_mem h
    exact ⟨j, hj, by rw [iget_of hj]⟩
set_option maxHeartbeats 800000 in
theorem sIndex_any (p : Option Addr) (c : Nat) (xs : List Int) (x : Int) (w : World) (hx : Ints w p c xs) :
    Calls Try.prog 56 #[.slice p xs.length c, .int .i64 x] w fun e w' => e = .returned (.int .i64 (firstN (idxP xs x) xs.length)) ∧ w' = w := by
  have hl1 := hx.length_le
  go_enter Try.func56, Try.ntmps56
  go_wp2_with fail
  go_loop [8] (fun t => ∃ k : Nat, k ≤ xs.length ∧ t = .int .i64 k ∧ Hid (∀ j, j < k → idxP xs x j = false)) (fun t => xs.length - (intOf t).toNat)
  case atStart => exact ⟨0, Nat.zero_le _, rfl, fun j hj => absurd hj (Nat.not_lt_zero j)⟩
  case round =>
    obtain ⟨k, hk, rfl, ht⟩ := hrel
    by_cases hlt : k < xs.length
    · obtain ⟨b, o, rfl, _, hc⟩ := hx.get hlt
      have hk1 : (k : Int) < xs.length := by omega
      by_cases he : x = iget xs k
      · have hb : (x == iget xs k) = true := by simpa using he
        have HP : Hid (idxP xs x k = true) := by unfold Hid idxP; simpa using he
        clear he
        go_wp2_with fail
        go_ret
        exact ⟨ret_int (firstN_of hlt HP.out ht.out).symm, rfl⟩
      · have hb : (x == iget xs k) = false := by simpa using he
        have HP : Hid (idxP xs x k = false) := by unfold Hid idxP; simpa using he
        clear he
        go_wp2_with fail
        go_round
        case rel => exact ⟨k + 1, by omega, by go_num, snoc_all' ht.out HP.out⟩
        case measure => simp [intOf]; omega
    · have hk1 : ¬ (k : Int) < xs.length := by omega
      go_wp2_with fail
      go_ret
      exact ⟨ret_int (firstN_none (fun j hj => ht.out j (by omega))).symm, rfl⟩

/-- A predicate that holds one variable of its own, at the numbers of a list: what it answers, whatever world of R it is asked in. -/
def Asks1 (K : Nat) (u : Value) (xs : List Int) (P : Nat → Bool) (R : World → Prop) : Prop :=
  ∀ j W, j < xs.length → R W → Calls Try.prog K #[.int .i64 (iget xs j), u] W fun e w' => e = .returned (.bool (P j)) ∧ R w'
/-- A predicate at the rows of a table. -/
def AsksR (K : Nat) (v : List (List Int)) (P : Nat → Bool) (R : World → Prop) : Prop :=
  ∀ j q d W, j < v.length → R W → Ints W q d (rget v j) → Calls Try.prog K #[.slice q (rget v j).length d] W fun e w' => e = .returned (.bool (P j)) ∧ R w'
set_option maxHeartbeats 800000 in
theorem indexFuncR_any (K : Nat) (P : Nat → Bool) (R : World → Prop) (hcf : ∀ args W, (callFunc K args).run Try.prog W = .ok (.enter K args) W) (p : Option Addr) (c : Nat) (v : List (List Int)) (w : World) (hR : R w) (hI : Hid (∀ W, R W → Mat W p c v)) (hf : AsksR K v P R) :
    Calls Try.prog 51 #[.slice p v.length c, .func (.func K) #[] #[]] w fun e w' => e = .returned (.int .i64 (firstN P v.length)) ∧ R w' := by
  have hl1 := (hI.out _ hR).length_le
  have Hf := Lib.hid hf
  clear hf
  go_enter Try.func51, Try.ntmps51
  go_wp2_with fail
  go_loopw [8] (fun t wr => ∃ k : Nat, k ≤ v.length ∧ t = .int .i64 k ∧ Hid (∀ j, j < k → P j = false) ∧ R wr) (fun t _ => v.length - (intOf t).toNat)
  case atStart => exact ⟨0, Nat.zero_le _, rfl, (fun j hj => absurd hj (Nat.not_lt_zero j)), hR⟩
  case round =>
    obtain ⟨k, hk, rfl, ht, hRr⟩ := hrel
    have hx := hI.out _ hRr
    by_cases hlt : k < v.length
    · obtain ⟨b, o, rfl, _, q, d, hc, hi⟩ := hx.get hlt
      have hk1 : (k : Int) < v.length := by omega
      go_wp2_with fail
      refine (Hf.out k q d _ hlt hRr hi).mono ?_
      rintro e w' ⟨rfl, hR'⟩
      cases hP : P k with
      | true =>
        have HP := Lib.hid hP
        clear hP
        go_wp2_with fail
        go_ret
        exact ⟨ret_int (firstN_of hlt HP.out ht.out).symm, hR'⟩
      | false =>
        have HP := Lib.hid hP
        clear hP
        go_wp2_with fail
        go_roundw
        case rel => exact ⟨k + 1, by omega, by go_num, snoc_all' ht.out HP.out, hR'⟩
        case measure => simp [intOf]; omega
    · have hk1 : ¬ (k : Int) < v.length := by omega
      go_wp2_with fail
      go_ret
      exact ⟨ret_int (firstN_none (fun j hj => ht.out j (by omega))).symm, hRr⟩
set_option maxHeartbeats 400000 in
theorem containsFuncR_any (K : Nat) (P : Nat → Bool) (R : World → Prop) (hcf : ∀ args W, (callFunc K args).run Try.prog W = .ok (.enter K args) W) (p : Option Addr) (c : Nat) (v : List (List Int)) (w : World) (hR : R w) (hI : Hid (∀ W, R W → Mat W p c v)) (hf : AsksR K v P R) :
    Calls Try.prog 38 #[.slice p v.length c, .func (.func K) #[] #[]] w fun e w' => e = .returned (.bool (anyN P v.length)) ∧ R w' := by
  have HA := Lib.hid (firstN_any P v.length)
  have Hf := Lib.hid hf
  clear hf
  go_enter Try.func38, Try.ntmps38
  go_wp2_with fail
  refine (indexFuncR_any K P R hcf p c v w hR hI Hf.out).mono ?_
  rintro e w' ⟨rfl, hR'⟩
  go_wp2_with fail
  go_ret
  exact ⟨ret_bool HA.out, hR'⟩
end Go.Proofs.Ytcgaojnfgkfnkaa
