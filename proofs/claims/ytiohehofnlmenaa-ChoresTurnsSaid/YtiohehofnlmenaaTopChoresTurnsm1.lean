/- Picking chores in rounds: without the last one that it took itself nobody envies anyone; plain, no program. -/
import Derived.Test.YtiohehofnlmenaaTopChoresOnem3
import Derived.Test.YtiohehofnlmenaaTopChoresRunsm13
import Derived.Test.YtiohehofnlmenaaTopChoresRunsm3
import Derived.RangeFuncFrom
import Derived.RangeFuncBox
import Derived.RangeFuncLeaves
import Derived.OwnWalkIn
import Derived.TacticsInMore
import Derived.LoopNIn
import Derived.LoopIn
import Derived.Sort.QuietIn
import Derived.Maps.RangeWalk
import Derived.Shelf.Abstract
import Derived.Test.YtiohehofnlmenaaTopChoresRunsm10
import Derived.Test.YtiohehofnlmenaaTopChoresRunsm11
import Derived.RangeFuncCalls
import Derived.Test.YtiohehofnlmenaaTopChoresRunsm1
namespace Go.Proofs.Ytiohehofnlmenaa
set_option linter.unusedVariables false
set_option linter.unusedSimpArgs false
/-- What turn t takes; what that costs i. -/
def cX (v : List (List Int)) (ts : List Int) (t : Nat) : Int := cpick (rget v (iget ts t).toNat) (cpA v ts t)
def cV (v : List (List Int)) (ts : List Int) (i t : Nat) : Int := if 0 ≤ cX v ts t then iget (rget v i) (cX v ts t).toNat else 0
/-- What k takes before turn m costs i. -/
def cS (v : List (List Int)) (ts : List Int) (i : Nat) (k : Int) : Nat → Int
  | 0 => 0
  | m + 1 => cS v ts i k m + (if iget ts m = k then cV v ts i m else 0)
/-- The last chore that i took before turn m. -/
def lastC (v : List (List Int)) (ts : List Int) (i : Nat) : Nat → Int
  | 0 => -1
  | m + 1 => if iget ts m = (i : Int) ∧ 0 ≤ cX v ts m then cX v ts m else lastC v ts i m
section
variable {v : List (List Int)} {ts : List Int}
theorem cX_range (t : Nat) : -1 ≤ cX v ts t ∧ cX v ts t < wid v := by
  have := cpick_range (rget v (iget ts t).toNat) (cpA v ts t)
  rw [cpA_len] at this
  exact this
theorem cpA_succ (t : Nat) : cpA v ts (t + 1) = if 0 ≤ cX v ts t then (cpA v ts t).set (cX v ts t).toNat (iget ts t) else cpA v ts t := rfl
theorem cX_is (t : Nat) : IsLeast (rget v (iget ts t).toNat) (freeP (cpA v ts t)) 0 (wid v) (cX v ts t) := by
  have := leastTo_is (rget v (iget ts t).toNat) (freeP (cpA v ts t)) (cpA v ts t).length
  rw [cpA_len] at this
  unfold cX cpick
  rw [cpA_len]; exact this
theorem cX_free {t : Nat} (h : 0 ≤ cX v ts t) : iget (cpA v ts t) (cX v ts t).toNat < 0 ∧ ∀ y, y < wid v → iget (cpA v ts t) y < 0 → iget (rget v (iget ts t).toNat) (cX v ts t).toNat ≤ iget (rget v (iget ts t).toNat) y := by
  rcases cX_is (v := v) (ts := ts) t with ⟨h1, _⟩ | ⟨m, h1, h2, h3, h4, h5⟩
  · omega
  · rw [h1, Int.toNat_natCast]
    unfold freeP at h4 h5
    rw [decide_eq_true_iff] at h4
    refine ⟨h4, fun y hy hf => ?_⟩
    have := h5 y (by omega) hy (by rw [decide_eq_true_iff]; exact hf)
    omega
theorem cX_some {t y : Nat} (hy : y < wid v) (hf : iget (cpA v ts t) y < 0) : 0 ≤ cX v ts t := by
  rcases cX_is (v := v) (ts := ts) t with ⟨_, h2⟩ | ⟨m, h1, _⟩
  · have := h2 y (by omega) hy
    unfold freeP at this
    rw [decide_eq_false_iff_not] at this
    exact absurd hf this
  · omega
structure CTurns (v : List (List Int)) (ts : List Int) : Prop where
  gds : Gds v
  turn : ∀ t, t < ts.length → 0 ≤ iget ts t ∧ iget ts t < v.length
theorem cpA_keep (h : CTurns v ts) {x s : Nat} (hx : x < wid v) (hs : 0 ≤ iget (cpA v ts s) x) : ∀ t, s ≤ t → t ≤ ts.length → iget (cpA v ts t) x = iget (cpA v ts s) x := by
  intro t
  induction t with
  | zero => intro h1 _; obtain rfl : s = 0 := by omega
            rfl
  | succ t ih =>
    intro h1 h2
    by_cases e : s = t + 1
    · rw [e]
    · have ih' := ih (by omega) (by omega)
      rw [cpA_succ]
      split
      · rename_i h0
        have hf := (cX_free h0).1
        have hr := cX_range (v := v) (ts := ts) t
        rw [iget_set (by rw [cpA_len]; omega), if_neg (fun e2 => by rw [e2, ih'] at hf; omega)]
        exact ih'
      · exact ih'
theorem cpA_free (h : CTurns v ts) {x s t : Nat} (hx : x < wid v) (hst : s ≤ t) (ht : t ≤ ts.length) (hf : iget (cpA v ts t) x < 0) : iget (cpA v ts s) x < 0 := by
  rcases Int.lt_or_le (iget (cpA v ts s) x) 0 with h0 | h0
  · exact h0
  · rw [cpA_keep h hx h0 t hst ht] at hf; omega
/-- Who picks first picks no worse. -/
theorem c_dom (h : CTurns v ts) {i s t : Nat} (hsi : iget ts s = (i : Int)) (hst : s ≤ t) (ht : t < ts.length) (h0 : 0 ≤ cX v ts t) : 0 ≤ cX v ts s ∧ iget (rget v i) (cX v ts s).toNat ≤ iget (rget v i) (cX v ts t).toNat := by
  have hr := cX_range (v := v) (ts := ts) t
  have hf := cpA_free h (x := (cX v ts t).toNat) (by omega) hst (by omega) (cX_free h0).1
  have hp := cX_some (v := v) (ts := ts) (t := s) (y := (cX v ts t).toNat) (by omega) hf
  refine ⟨hp, ?_⟩
  have := (cX_free hp).2 (cX v ts t).toNat (by omega) hf
  rw [hsi, Int.toNat_natCast] at this
  exact this
theorem cV_nonneg (h : Gds v) {i : Nat} (hi : i < v.length) (t : Nat) : 0 ≤ cV v ts i t := by
  unfold cV
  split
  · have := cX_range (v := v) (ts := ts) t
    exact (gds_bid h hi (by omega)).1
  · exact Int.le_refl _
theorem cS_mono (h : Gds v) {i : Nat} (hi : i < v.length) (k : Int) {m : Nat} : ∀ n, m ≤ n → cS v ts i k m ≤ cS v ts i k n
  | 0, hn => by obtain rfl : m = 0 := by omega
                exact Int.le_refl _
  | n + 1, hn => by
    by_cases e : m = n + 1
    · rw [e]; exact Int.le_refl _
    · have := cS_mono h hi k (m := m) n (by omega)
      have h2 := cV_nonneg (ts := ts) h hi n
      rw [cS]; split <;> omega
theorem cS_none {i : Nat} {k : Int} {m : Nat} : ∀ n, m ≤ n → (∀ a, m ≤ a → a < n → iget ts a ≠ k) → cS v ts i k n = cS v ts i k m
  | 0, hn, _ => by obtain rfl : m = 0 := by omega
                   rfl
  | n + 1, hn, h => by
    by_cases e : m = n + 1
    · rw [e]
    · rw [cS, if_neg (h n (by omega) (by omega)), cS_none n (by omega) (fun a h1 h2 => h a h1 (by omega)), Int.add_zero]
theorem cS_one (h : Gds v) {i : Nat} (hi : i < v.length) {k : Int} {s t m : Nat} (h1 : s ≤ t) (h2 : t < m) (hk : iget ts t = k) : cS v ts i k s + cV v ts i t ≤ cS v ts i k m := by
  have a := cS_mono (ts := ts) h hi k (m := s) t h1
  have b := cS_mono (ts := ts) h hi k (m := t + 1) m h2
  rw [cS, if_pos hk] at b
  omega
/-- What the bundles cost. -/
theorem worth_cp (h : CTurns v ts) {i : Nat} {k : Int} (hk : 0 ≤ k) : ∀ m, m ≤ ts.length → worth v (cpA v ts m) i k = cS v ts i k m ∧ ∀ x, x < wid v → -1 ≤ iget (cpA v ts m) x ∧ iget (cpA v ts m) x < v.length
  | 0, _ => by
    have hr : ∀ j, j < wid v → iget (List.replicate (wid v) (-1 : Int)) j = -1 := fun j hj => by simp [iget, List.getD, hj]
    have hz : ∀ m, m ≤ wid v → worthUp v (List.replicate (wid v) (-1)) i k m = 0 := by
      intro m
      induction m with
      | zero => intro _; rfl
      | succ m ih => intro hm; rw [worthUp, ih (by omega), hr m (by omega), if_neg (by omega)]; rfl
    refine ⟨?_, fun x hx => ?_⟩
    · show worth v (List.replicate (wid v) (-1)) i k = 0
      unfold worth
      rw [List.length_replicate]; exact hz _ (Nat.le_refl _)
    · show -1 ≤ iget (List.replicate (wid v) (-1 : Int)) x ∧ iget (List.replicate (wid v) (-1 : Int)) x < v.length
      rw [hr x hx]; omega
  | m + 1, hm => by
    obtain ⟨ih, ih2⟩ := worth_cp h hk m (by omega) (i := i)
    have ht := h.turn m (by omega)
    have hr := cX_range (v := v) (ts := ts) m
    rw [cpA_succ, cS]
    by_cases h0 : 0 ≤ cX v ts m
    · rw [if_pos h0]
      have hf := (cX_free h0).1
      have hf1 : iget (cpA v ts m) (cX v ts m).toNat = -1 := by have := ih2 (cX v ts m).toNat (by omega); omega
      refine ⟨?_, fun x hx => ?_⟩
      · rw [worth_set (by rw [cpA_len]; omega) hf1 hk, ih]
        unfold cV
        rw [if_pos h0]
      · rw [iget_set (by rw [cpA_len]; omega)]
        split
        · omega
        · exact ih2 x hx
    · rw [if_neg h0]
      refine ⟨?_, ih2⟩
      rw [ih]
      unfold cV
      rw [if_neg h0]
      split <;> simp
theorem cpA_alc (h : CTurns v ts) {m : Nat} (hm : m ≤ ts.length) : AlcOk v (cpA v ts m) :=
  ⟨cpA_len v ts m, fun j hj => (worth_cp h (i := 0) (k := 0) (Int.le_refl _) m hm).2 j (by rw [cpA_len] at hj; exact hj)⟩
end
/-- Rounds of a first round f. -/
structure CRounds (v : List (List Int)) (ts f : List Int) : Prop where
  ok : CTurns v ts
  isA : IsA f v.length
  rnd : ∀ t, t < ts.length → iget ts t = iget f (t % v.length)
section
variable {v : List (List Int)} {ts f : List Int}
theorem rnd_same (h : CRounds v ts f) {s t : Nat} (hs : s < ts.length) (ht : t < ts.length) (e : iget ts s = iget ts t) : s % v.length = t % v.length := by
  have hn : 0 < v.length := h.ok.gds.1
  rw [h.rnd s hs, h.rnd t ht] at e
  exact isA_inj h.isA (Nat.mod_lt _ hn) (Nat.mod_lt _ hn) e
/-- Before its turn one has no more than another one, as one sees it. -/
theorem c_before (h : CRounds v ts f) {i k : Nat} (hi : i < v.length) (hk : k < v.length) (hik : k ≠ i) : ∀ t, t < ts.length → iget ts t = (i : Int) → 0 ≤ cX v ts t → cS v ts i (i : Int) t ≤ cS v ts i (k : Int) t := by
  have hn : 0 < v.length := h.ok.gds.1
  intro t
  induction t using Nat.strongRecOn with
  | ind t ih =>
    intro ht hti h0
    by_cases hlt : t < v.length
    · have : cS v ts i (i : Int) t = 0 := by
        have := cS_none (v := v) (ts := ts) (i := i) (k := (i : Int)) (m := 0) t (by omega) (fun a _ h2 e => by
          have := rnd_same h (s := a) (t := t) (by omega) ht (by rw [e, hti])
          rw [Nat.mod_eq_of_lt (by omega), Nat.mod_eq_of_lt hlt] at this
          omega)
        exact this
      have h2 := cS_mono (ts := ts) h.ok.gds hi (k : Int) (m := 0) t (by omega)
      have e0 : cS v ts i (k : Int) 0 = 0 := rfl
      omega
    · obtain ⟨s, rfl⟩ : ∃ s, t = s + v.length := ⟨t - v.length, by omega⟩
      have hmod : (s + v.length) % v.length = s % v.length := by rw [Nat.add_mod_right]
      have hsi : iget ts s = (i : Int) := by rw [h.rnd s (by omega), ← hmod, ← h.rnd _ ht]; exact hti
      obtain ⟨hs0, _⟩ := c_dom h.ok hsi (by omega : s ≤ s + v.length) ht h0
      have ih' := ih s (by omega) (by omega) hsi hs0
      have e1 : cS v ts i (i : Int) (s + v.length) = cS v ts i (i : Int) s + cV v ts i s := by
        rw [cS_none (m := s + 1) (s + v.length) (by omega) (fun a h1 h2 e => by
          have := rnd_same h (s := a) (t := s) (by omega) (by omega) (by rw [e, hsi])
          have d1 := Nat.div_add_mod a v.length
          have d2 := Nat.div_add_mod s v.length
          rw [this] at d1
          have : v.length * (a / v.length) = v.length * (s / v.length) + (a - s) := by omega
          have h3 : 0 < a - s := by omega
          have h4 : a - s < v.length := by omega
          rcases Nat.lt_or_ge (s / v.length) (a / v.length) with h5 | h5
          · have := Nat.mul_le_mul_left v.length (show s / v.length + 1 ≤ a / v.length from h5)
            rw [Nat.mul_add, Nat.mul_one] at this
            omega
          · have := Nat.mul_le_mul_left v.length h5
            omega), cS, if_pos hsi]
      -- k's turn between
      obtain ⟨j, hj, ej⟩ := (isA_per h.isA).surj hk
      have hj0 := (isA_lt h.isA j hj).1
      have ejk : iget f j = (k : Int) := by simp only [itm] at ej; omega
      obtain ⟨u, hu1, hu2, hum⟩ : ∃ u, s < u ∧ u < s + v.length ∧ u % v.length = j := by
        have hsm := Nat.mod_lt s hn
        have hne : j ≠ s % v.length := fun e => by
          rw [h.rnd s (by omega), ← e, ejk] at hsi
          omega
        have d2 := Nat.div_add_mod s v.length
        by_cases hjs : s % v.length < j
        · refine ⟨s - s % v.length + j, by omega, by omega, ?_⟩
          have : s - s % v.length = v.length * (s / v.length) := by omega
          rw [this, Nat.mul_add_mod, Nat.mod_eq_of_lt hj]
        · refine ⟨s - s % v.length + v.length + j, by omega, by omega, ?_⟩
          have : s - s % v.length + v.length = v.length * (s / v.length + 1) := by rw [Nat.mul_add, Nat.mul_one]; omega
          rw [this, Nat.mul_add_mod, Nat.mod_eq_of_lt hj]
      have huk : iget ts u = (k : Int) := by rw [h.rnd u (by omega), hum, ejk]
      have hu0 : 0 ≤ cX v ts u := by
        have hr := cX_range (v := v) (ts := ts) (s + v.length)
        exact cX_some (y := (cX v ts (s + v.length)).toNat) (by omega) (cpA_free h.ok (by omega) (by omega : u ≤ s + v.length) (by omega) (cX_free h0).1)
      obtain ⟨_, hd⟩ := c_dom h.ok hsi (by omega : s ≤ u) (by omega) hu0
      have h6 := cS_one (ts := ts) h.ok.gds hi (k := (k : Int)) (s := s) (t := u) (m := s + v.length) (by omega) hu2 huk
      have e2 : cV v ts i s = iget (rget v i) (cX v ts s).toNat := by unfold cV; rw [if_pos hs0]
      have e3 : cV v ts i u = iget (rget v i) (cX v ts u).toNat := by unfold cV; rw [if_pos hu0]
      omega
theorem lastC_spec {i : Nat} : ∀ m, (lastC v ts i m = -1 ∧ ∀ t, t < m → iget ts t = (i : Int) → ¬ 0 ≤ cX v ts t) ∨ ∃ t, t < m ∧ iget ts t = (i : Int) ∧ 0 ≤ cX v ts t ∧ lastC v ts i m = cX v ts t ∧ ∀ s, t < s → s < m → iget ts s = (i : Int) → ¬ 0 ≤ cX v ts s
  | 0 => .inl ⟨rfl, fun t h => by omega⟩
  | m + 1 => by
    rw [lastC]
    by_cases hc : iget ts m = (i : Int) ∧ 0 ≤ cX v ts m
    · rw [if_pos hc]
      exact .inr ⟨m, by omega, hc.1, hc.2, rfl, fun s h1 h2 => by omega⟩
    · rw [if_neg hc]
      rcases lastC_spec (i := i) m with ⟨h1, h2⟩ | ⟨t, h1, h2, h3, h4, h5⟩
      · exact .inl ⟨h1, fun t ht e h0 => by
          by_cases et : t = m
          · subst et; exact hc ⟨e, h0⟩
          · exact h2 t (by omega) e h0⟩
      · exact .inr ⟨t, by omega, h2, h3, h4, fun s h6 h7 e h0 => by
          by_cases es : s = m
          · subst es; exact hc ⟨e, h0⟩
          · exact h5 s h6 (by omega) e h0⟩
theorem cS_rest {i : Nat} {m : Nat} : ∀ n, m ≤ n → (∀ a, m ≤ a → a < n → iget ts a = (i : Int) → ¬ 0 ≤ cX v ts a) → cS v ts i (i : Int) n = cS v ts i (i : Int) m
  | 0, hn, _ => by obtain rfl : m = 0 := by omega
                   rfl
  | n + 1, hn, h => by
    by_cases e : m = n + 1
    · rw [e]
    · rw [cS, cS_rest n (by omega) (fun a h1 h2 => h a h1 (by omega))]
      by_cases ei : iget ts n = (i : Int)
      · rw [if_pos ei]
        unfold cV
        rw [if_neg (h n (by omega) (by omega) ei), Int.add_zero]
      · rw [if_neg ei, Int.add_zero]
/-- The last chore of i lies with i; without it i has what it had before. -/
theorem c_last (h : CRounds v ts f) {i : Nat} (hi : i < v.length) : lastC v ts i ts.length < wid v ∧ -1 ≤ lastC v ts i ts.length ∧
    ((lastC v ts i ts.length = -1 ∧ worth v (cpA v ts ts.length) i (i : Int) = 0) ∨ (0 ≤ lastC v ts i ts.length ∧ iget (cpA v ts ts.length) (lastC v ts i ts.length).toNat = (i : Int) ∧
      ∀ k, k < v.length → worth v (cpA v ts ts.length) i (i : Int) - iget (rget v i) (lastC v ts i ts.length).toNat ≤ worth v (cpA v ts ts.length) i (k : Int))) := by
  have hw := fun (k : Nat) => (worth_cp h.ok (i := i) (k := (k : Int)) (by omega) ts.length (Nat.le_refl _)).1
  rcases lastC_spec (v := v) (ts := ts) (i := i) ts.length with ⟨h1, h2⟩ | ⟨t, h1, h2, h3, h4, h5⟩
  · rw [h1]
    refine ⟨by omega, by omega, .inl ⟨rfl, ?_⟩⟩
    rw [hw, cS_rest (m := 0) ts.length (by omega) (fun a _ h4 => h2 a h4)]
    rfl
  · have hr := cX_range (v := v) (ts := ts) t
    rw [h4]
    refine ⟨hr.2, hr.1, .inr ⟨h3, ?_, fun k hk => ?_⟩⟩
    · have e1 : iget (cpA v ts (t + 1)) (cX v ts t).toNat = (i : Int) := by
        rw [cpA_succ, if_pos h3, iget_set (by rw [cpA_len]; omega), if_pos rfl, h2]
      rw [cpA_keep h.ok (x := (cX v ts t).toNat) (s := t + 1) (by omega) (by rw [e1]; omega) ts.length (by omega) (Nat.le_refl _), e1]
    · rw [hw, hw, cS_rest (m := t + 1) ts.length (by omega) (fun a h6 h7 => h5 a (by omega) h7), cS, if_pos h2]
      have e2 : cV v ts i t = iget (rget v i) (cX v ts t).toNat := by unfold cV; rw [if_pos h3]
      have e3 := cS_mono (ts := ts) h.ok.gds hi (k : Int) (m := t) ts.length (by omega)
      by_cases hki : k = i
      · subst hki; omega
      · have := c_before h hi hk hki t h1 h2 h3
        omega
theorem c_content (h : CRounds v ts f) {i k : Nat} (hi : i < v.length) (hk : k < v.length) : contB v (cpA v ts ts.length) i k (lastC v ts i ts.length) = true := by
  have hw0 : 0 ≤ worth v (cpA v ts ts.length) i (k : Int) := (worth_in h.ok.gds (cpA_alc h.ok (Nat.le_refl _)) hi (k : Int)).1
  unfold contB
  rw [decide_eq_true_iff]
  obtain ⟨_, _, ⟨h1, h2⟩ | ⟨h1, h2, h3⟩⟩ := c_last h hi
  · rw [h1, if_neg (by omega)]; omega
  · rw [if_pos ⟨h1, h2⟩]; exact h3 k hk
theorem c_efx (h : CRounds v ts f) : EFX v (cpA v ts ts.length) := by
  intro i k hi hk hc
  rw [cP_true] at hc
  have hw0 : 0 ≤ worth v (cpA v ts ts.length) i (k : Int) := (worth_in h.ok.gds (cpA_alc h.ok (Nat.le_refl _)) hi (k : Int)).1
  obtain ⟨h0, _, ⟨h1, h2⟩ | ⟨h1, h2, h3⟩⟩ := c_last h hi
  · omega
  · refine ⟨(lastC v ts i ts.length).toNat, by rw [cpA_len]; omega, ?_⟩
    rw [oneP_true]
    have := h3 k hk
    exact ⟨h2, by omega⟩
end
end Go.Proofs.Ytiohehofnlmenaa

/- slices.Chunk over a list of ints: the rounds that it gives; no condition but that n is 1 or more. -/
namespace Go.Proofs.Ytiohehofnlmenaa
set_option linter.unusedSimpArgs false
open Go.ChangeShapes Go.WideShapes Go.ChangeAt Go.RowKit Go.Deep
set_option linter.unusedVariables false
attribute [local go_sem] Oper.semAt_some

/-- Where round k begins. -/
def cst (n k : Nat) : Nat := k * n
theorem cst_zero (n : Nat) : cst n 0 = 0 := by simp [cst]
theorem cst_succ (n k : Nat) : cst n (k + 1) = cst n k + n := by simp [cst, Nat.succ_mul]
theorem cst_le {n k L : Nat} (hn : 1 ≤ n) (h : cst n k < L) : k < L := by
  unfold cst at h
  exact Nat.lt_of_le_of_lt (Nat.le_mul_of_pos_right k hn) h
/-- Round k of a list. -/
def ck (ts : List Int) (n k : Nat) : List Int := (ts.drop (cst n k)).take n
theorem ck_len (ts : List Int) (n k : Nat) : (ck ts n k).length = min n (ts.length - cst n k) := by simp [ck]
theorem ck_get {ts : List Int} {n k j : Nat} (hj : j < (ck ts n k).length) : iget (ck ts n k) j = iget ts (cst n k + j) := by
  rw [ck_len] at hj
  simp only [ck, iget, List.getD]
  rw [List.getElem?_take, if_pos (by omega), List.getElem?_drop]
/-- A part of a list that lies in memory. -/
theorem Ints.part {w : World} {b o c : Nat} {xs : List Int} (h : Ints w (some ⟨b, o, none⟩) c xs) (i e : Nat) (hi : i < xs.length) (ys : List Int) (hl : ys.length ≤ e) (he : i + e ≤ c) (h2 : i + ys.length ≤ xs.length) (hy : ∀ j, j < ys.length → iget ys j = iget xs (i + j)) :
    Ints w (some ⟨b, o + i, none⟩) e ys := by
  refine ⟨hl, by have := h.max; omega, fun h => (by cases h), ?_, ?_, ?_⟩
  · rintro a ⟨⟩ _
    exact ⟨rfl, (h.plain _ rfl (by have := h.le; omega)).2⟩
  · rintro b' o' ⟨⟩ j hj
    rw [hy j hj, Nat.add_assoc]
    exact h.at (by omega)
  · intro j hj
    rw [hy j hj]; exact h.rng _ (by omega)

end Go.Proofs.Ytiohehofnlmenaa

/- The walks of robin.Balanced and of the reference's Balanced, for all turns; no condition. -/
namespace Go.Proofs.Ytiohehofnlmenaa
set_option linter.unusedVariables false
set_option linter.unusedSimpArgs false
open Go.ChangeShapes Go.WideShapes Go.ChangeAt Go.RowKit Go.Deep
attribute [local go_sem] Oper.semAt_some

theorem Ints.pre {w : World} {p : Option Addr} {c : Nat} {xs : List Int} (h : Ints w p c xs) (k : Nat) : Ints w p c (xs.take k) := by
  have hg : ∀ j, j < (xs.take k).length → iget (xs.take k) j = iget xs j := fun j hj => by
    rw [List.length_take] at hj
    simp only [iget, List.getD]
    rw [List.getElem?_take, if_pos (by omega)]
  refine ⟨by have := h.le; rw [List.length_take]; omega, h.max, h.nil, h.plain, fun b o e j hj => ?_, fun j hj => ?_⟩
  · rw [hg j hj]; exact h.cell b o e j (by rw [List.length_take] at hj; omega)
  · rw [hg j hj]; exact h.rng j (by rw [List.length_take] at hj; omega)
theorem has_take {xs : List Int} {i : Nat} (hi : i ≤ xs.length) (x : Int) : hasB (xs.take i) x = true ↔ ∃ j, j < i ∧ iget xs j = x := by
  unfold hasB
  rw [decide_eq_true_iff]
  constructor
  · intro h
    obtain ⟨j, hj, rfl⟩ := List.getElem_of_mem h
    rw [List.length_take] at hj
    exact ⟨j, by omega, by rw [iget_of (by omega), List.getElem_take]⟩
  · rintro ⟨j, hj, rfl⟩
    rw [iget_of (by omega)]
    exact List.mem_iff_getElem.2 ⟨j, by rw [List.length_take]; omega, by rw [List.getElem_take]⟩
/-- No number comes twice in round x. -/
def OkTo (ts : List Int) (m x i : Nat) : Prop := ∀ a, a < i → ∀ j, j < a → iget (ck ts m x) j ≠ iget (ck ts m x) a
def ChunkOk (ts : List Int) (m x : Nat) : Prop := OkTo ts m x (ck ts m x).length
theorem cst_div {n k m : Nat} (hm : m < n) : (cst n k + m) / n = k := by
  unfold cst
  rw [Nat.add_comm, Nat.add_mul_div_right _ _ (by omega), Nat.div_eq_of_lt hm, Nat.zero_add]
theorem bal_step {n : Nat} {ts : List Int} {k m : Nat} (hm : m < n) (h : BalTo n ts (cst n k + m)) (hno : ∀ j, j < m → iget ts (cst n k + j) ≠ iget ts (cst n k + m)) : BalTo n ts (cst n k + (m + 1)) := by
  intro s hs t ht
  by_cases e : s < cst n k + m
  · exact h s e t ht
  · have e2 : s = cst n k + m := by omega
    subst e2
    rintro ⟨h1, h2⟩
    rw [cst_div hm] at h2
    have h3 : cst n k ≤ t := by unfold cst; rw [h2]; exact Nat.div_mul_le_self t n
    obtain ⟨j, rfl⟩ : ∃ j, t = cst n k + j := ⟨t - cst n k, by omega⟩
    exact hno j (by omega) h1.symm
theorem bal_dup {n : Nat} {ts : List Int} {k m j L : Nat} (hm : m < n) (hj : j < m) (hL : cst n k + m < L) (he : iget ts (cst n k + j) = iget ts (cst n k + m)) : ¬ BalTo n ts L := fun h =>
  h (cst n k + m) hL (cst n k + j) (by omega) ⟨he.symm, by rw [cst_div hm, cst_div (by omega)]⟩
theorem bal_less {n : Nat} {ts : List Int} {M L : Nat} (h : BalTo n ts M) (hL : L ≤ M) : BalTo n ts L := fun s hs t ht => h s (by omega) t ht
theorem bal_all {m : Nat} {ts : List Int} {k : Nat} (hm : 1 ≤ m) (h : ∀ x, x < k → ChunkOk ts m x) (hk : ts.length ≤ cst m k) : BalTo m ts ts.length := by
  rintro s hs t ht ⟨h1, h2⟩
  obtain ⟨q, hq⟩ : ∃ q, s / m = q := ⟨_, rfl⟩
  have e1 : cst m q + s % m = s := by unfold cst; rw [← hq, Nat.mul_comm]; exact Nat.div_add_mod s m
  have e2 : cst m q + t % m = t := by unfold cst; rw [← hq, h2, Nat.mul_comm]; exact Nat.div_add_mod t m
  have l1 := Nat.mod_lt s (show m > 0 by omega)
  have hqk : q < k := by
    refine Nat.lt_of_not_le fun hkq => ?_
    have : cst m k ≤ cst m q := Nat.mul_le_mul_right m hkq
    omega
  have hlen : s % m < (ck ts m q).length := by rw [ck_len]; omega
  refine h q hqk (s % m) hlen (t % m) (by omega) ?_
  rw [ck_get (by omega), ck_get hlen, e1, e2]
  exact h1.symm
theorem bal_not {m : Nat} {ts : List Int} {x i j : Nat} (hi : i < (ck ts m x).length) (hj : j < i) (he : iget (ck ts m x) j = iget (ck ts m x) i) : ¬ BalTo m ts ts.length := by
  rw [ck_get (by omega), ck_get hi] at he
  rw [ck_len] at hi
  exact bal_dup (by omega) hj (by omega) he
theorem balB_bad {n : Int} {ts : List Int} (h : ¬ chkT n ts = 0) : balB n ts = false := by simp [balB, h]
theorem balB_ok {n : Nat} {ts : List Int} (h : chkT n ts = 0) : balB n ts = decide (BalTo n ts ts.length) := by
  unfold balB; exact dec_congr ⟨fun h => by simpa using h.2, fun h2 => ⟨h, by simpa using h2⟩⟩


end Go.Proofs.Ytiohehofnlmenaa

/- Ranging over an iterator that would go on for ever, where the loop's body leaves the loop within a known number of rounds; no condition but that number. -/
namespace Go.Proofs.Ytiohehofnlmenaa
set_option linter.unusedSimpArgs false
open Go.ChangeShapes Go.WideShapes Go.ChangeAt Go.RowKit Go.Deep
set_option linter.unusedVariables false

/-- All blocks below n but O lie as they lay. -/
structure Keeps (O n : Nat) (A B : World) : Prop where
  bel : Below O A B
  same : ∀ k, O < k → k < n → B.heap[k]? = A.heap[k]?
theorem Keeps.refl (O n : Nat) (A : World) : Keeps O n A A := ⟨Below.refl _ _, fun _ _ _ => rfl⟩
theorem Keeps.trans {O n : Nat} {A B C : World} (h : Keeps O n A B) (k : Keeps O n B C) : Keeps O n A C := ⟨h.bel.trans k.bel, fun i h1 h2 => (k.same i h1 h2).trans (h.same i h1 h2)⟩
theorem Keeps.block {O n : Nat} {A B : World} (h : Keeps O n A B) {k : Nat} (hk : k < n) (hne : k ≠ O) : B.heap[k]? = A.heap[k]? := by
  rcases Nat.lt_or_gt_of_ne hne with h1 | h1
  · exact h.bel.block k h1
  · exact h.same k h1 hk
theorem Keeps.cell {O n : Nat} {A B : World} (h : Keeps O n A B) {b o : Nat} (hk : b < n) (hne : b ≠ O) : B.cell? ⟨b, o, none⟩ = A.cell? ⟨b, o, none⟩ := World.cell?_of_block (w := A) (a := ⟨b, o, none⟩) (h.block hk hne)
theorem Keeps.grown {O n : Nat} {w0 A B : World} {row : Option Nat} (h : Keeps O n w0 A) (hn : n ≤ A.heap.size) (hO : O < n) (hg : A.grownBy B row) (hr : ∀ k, row = some k → n ≤ k) : Keeps O n w0 B :=
  ⟨h.bel.grown hg (by omega) (fun k e => by have := hr k e; omega), fun k h1 h2 => (hg.block k (by omega) (fun e => by have := hr k e.symm; omega)).trans (h.same k h1 h2)⟩
theorem Keeps.setO {O n : Nat} {w0 A : World} {v : Value} (h : Keeps O n w0 A) : Keeps O n w0 (A.setCell ⟨O, 0, none⟩ v) :=
  ⟨h.bel.setCell (p := ⟨O, 0, none⟩) (Nat.le_refl _) _, fun k h1 h2 => (Below.heap_setCell A ⟨O, 0, none⟩ _ k (fun e => by simp only at e; omega)).trans (h.same k h1 h2)⟩
theorem Keeps.putObj {O n : Nat} {w : World} (hn : n ≤ w.heap.size) (hO : O < n) (W : World) (l : Nat) (o o' : Obj) (hl : w.heap.size ≤ l) (h : W.heap[l]? = some o) (_ : o.isCells = false) (_ : o.isWalk = false) : Keeps O n W (W.putObj l o') :=
  ⟨(Below.refl O W).grown (grownBy_putObj' W l o') (by have := (Array.getElem?_eq_some_iff.1 h).1; omega) (fun k e => by cases e; omega), fun k h1 h2 => World.putObj_heap_other (by omega)⟩

/-- The iterator's contract: if whoever ranges over it stops it after at most N rounds, it returns, stopped, with what it gave. -/
def SeqEnds {α : Type} (n gf : Nat) (lb : Array Value) (encs : α → Array Value) (Kp : World → World → Prop) (Sp : List α → Prop) (N : Nat) (w : World) : Prop :=
  ∀ (l : Nat) (J Jx : List α → World → Prop) (W : World), Below w.heap.size w W → AbidesFrom W.heap.size J → AbidesFrom W.heap.size Jx → (∀ pre W1, J pre W1 → pre.length ≤ N) →
    (∀ pre x W1, J pre W1 → YieldAt Fence.wide (n - 1) Try.prog l (encs x) W1 fun e W' =>
      (e = .returned (.bool true) ∧ J (pre ++ [x]) W' ∧ Kp W1 W') ∨ (e = .returned (.bool false) ∧ Jx (pre ++ [x]) W')) →
    J [] W → CallsIn Fence.wide n Try.prog gf (#[.func (.yield l) #[] #[]] ++ lb) W fun e W' => (∃ v, e = .returned v) ∧ ∃ pre, Sp pre ∧ Jx pre W'

/-- How a round may be left: at its end, or by the jump out of the loop. -/
def endsPost {α : Type} (Kp : World → World → Prop) (I Ix : List α → World → Prop) (id : Nat) (xs : List α) (W : World) : Exit → Act → World → Prop
  | .normal, _, W' => KeepsOthers W W' ∧ Kp W W' ∧ I xs W'
  | .exit i, _, W' => i = id ∧ KeepsOthers W W' ∧ Ix xs W'
  | _, _, _ => False

set_option maxHeartbeats 1000000 in
theorem range_ends {α : Type} {n : Nat} {g : Operand} {ps : Array Tmp} {assign body : Code} {Q : Exit → Act → World → Prop} {a : Act} {w : World} (h1 : 1 ≤ n) {gf : Nat} {lb : Array Value}
    (hg : a.eval g = .func (.func gf) #[] lb) (eg : ∀ args W, (callFunc gf args).run Try.prog W = .ok (.enter gf args) W) {encs : α → Array Value} {Kp : World → World → Prop} {Sp : List α → Prop} {N : Nat}
    (hseq : SeqEnds (n - 1) gf lb encs Kp Sp N w) (hKt : ∀ {A B C : World}, Kp A B → Kp B C → Kp A C)
    (hKb : ∀ (W : World) (l : Nat) (o o' : Obj), w.heap.size ≤ l → W.heap[l]? = some o → o.isCells = false → o.isWalk = false → Kp W (W.putObj l o')) (hps : ∀ x, (encs x).size = ps.size)
    (I Ix : List α → World → Prop) (id : Nat) (hI : OwnFrom w.heap.size I) (hIx : OwnFrom w.heap.size Ix) (hN : ∀ pre W, I pre W → pre.length ≤ N) (h0 : I [] w) (a₁ : α → Act)
    (hassign : ∀ (l : Nat) (x : α) (W : World) (K : Act → World → Prop), K (a₁ x) W →
      assign.wpIn (Fence.wide.inRound l) (n - 1 - 1) Try.prog (Exit.then K (fun _ _ _ => False)) { tmps := (ps.zip (encs x)).foldl (fun t (p, v) => t.setIfInBounds p v) a.tmps, defers := [] } W)
    (hbody : ∀ (l : Nat) (pre : List α) (x : α) (W : World), I pre W → body.wpIn (Fence.wide.inRound l) (n - 1 - 1) Try.prog (endsPost Kp I Ix id (pre ++ [x]) W) (a₁ x) W)
    (hstop : ∀ (D : Nat) (pre : List α) (W : World), w.heap.size ≤ D → Sp pre → Ix pre W → W.heap[D]? = some (.deferred (some [])) → (Code.exit id).wpIn Fence.wide n Try.prog Q { a with defers := { target := .collected D, args := #[] } :: a.defers } W) :
    (Code.rangeFunc g ps assign body).wpIn Fence.wide n Try.prog Q a w := by
  refine wpIn_rangeFunc fun fn hfn => ?_
  obtain ⟨R, hR⟩ : ∃ R : LoopState → Option Code → Loop, R = fun st pe => { state := st, pending := pe, fn, tmps := a.tmps, params := ps, assign, body, defers := w.heap.size } := ⟨_, rfl⟩
  obtain ⟨V, hV⟩ : ∃ V, (w.alloc (.deferred (some []))).alloc (.loop (R .ready none)) = V := ⟨_, rfl⟩
  obtain ⟨L, hL⟩ : ∃ L, w.heap.size + 1 = L := ⟨_, rfl⟩
  have hvs : V.heap.size = w.heap.size + 2 := by rw [← hV]; simp
  have vL : V.heap[L]? = some (.loop (R .ready none)) := by
    have := World.alloc_heap_new (w.alloc (.deferred (some []))) (.loop (R .ready none))
    rw [World.size_alloc, hL, hV] at this
    exact this
  have vD : V.heap[w.heap.size]? = some (.deferred (some [])) := by
    rw [← hV]; exact (Below.heap_alloc _ _ _ (by simp)).trans (World.alloc_heap_new w _)
  have vB : Below w.heap.size w V := by rw [← hV]; exact ((Below.refl _ w).alloc (Nat.le_refl _) _).alloc (by simp) _
  have vI : I [] V := by rw [← hV]; exact hI.alloc _ (hI.alloc _ h0)
  have hLD : L ≠ w.heap.size := by omega
  -- the loop's record in a state, the deferred calls' block empty
  let At : Loop → World → Prop := fun r W => W.heap[L]? = some (.loop r) ∧ W.heap[w.heap.size]? = some (.deferred (some []))
  have at_kept : ∀ {r : Loop} {A B : World} {row : Option Nat}, At r A → A.grownBy B row → (∀ k, row = some k → V.heap.size ≤ k ∧ ∃ o : Obj, A.heap[k]? = some o ∧ o.isWalk = true) → At r B := fun ha hg hr =>
    ⟨(grownBy_keeps hg (fun k e => (hr k e).2) ha.1 rfl).trans ha.1, (grownBy_keeps hg (fun k e => (hr k e).2) ha.2 rfl).trans ha.2⟩
  have at_others : ∀ {r : Loop} {A B : World}, At r A → KeepsOthers A B → At r B := fun ha hk => ⟨hk.same _ _ ha.1 rfl, hk.same _ _ ha.2 rfl⟩
  have at_put : ∀ {r r' : Loop} {A : World}, At r A → At r' (A.putObj L (.loop r')) := fun ha =>
    ⟨World.putObj_heap_same (Array.getElem?_eq_some_iff.1 ha.1).1, (World.putObj_heap_other hLD.symm).trans ha.2⟩
  have off : ∀ {A : World} {row : Option Nat}, (∀ k, row = some k → V.heap.size ≤ k ∧ ∃ o : Obj, A.heap[k]? = some o ∧ o.isWalk = true) → (∀ k, row = some k → w.heap.size ≤ k ∧ ∃ o : Obj, A.heap[k]? = some o ∧ o.isCells = false) := fun hr k e => by
    obtain ⟨h2, o, ho, hw⟩ := hr k e
    exact ⟨by omega, o, ho, Obj.not_cells_of_walk hw⟩
  refine ⟨L, [{ target := .collected w.heap.size, args := #[] }], V, { target := .fn (.func gf) lb, args := #[.func (.yield L) #[] #[]] }, V, gf, #[.func (.yield L) #[] #[]] ++ lb, V, ?_, ?_, fun f' _ => trivial, ?_, fun _ => h1, ?_⟩
  · have := run_enterLoop_outer (P := Try.prog) (w := w) fn a.tmps ps assign body
    rw [hL] at this
    rw [← hV, hR]
    exact this
  · simp only [resolve, hg]; simp [go_sem]
  · simp [invoke, go_sem, eg]
  refine (hseq L (fun pre W => I pre W ∧ At (R .ready none) W) (fun pre W => Ix pre W ∧ At (R .done (some (.exit id))) W) V vB
    (fun s A B row hs hg' hr => ⟨hI s A B row hs.1 hg' (off hr), at_kept hs.2 hg' hr⟩) (fun s A B row hs hg' hr => ⟨hIx s A B row hs.1 hg' (off hr), at_kept hs.2 hg' hr⟩)
    (fun pre W1 h => hN pre W1 h.1) ?round ⟨vI, vL, vD⟩).mono ?behind
  case round =>
    rintro pre x W ⟨hi, ha⟩
    have hy := run_yield (P := Try.prog) (args := encs x) ha.1 (by rw [hR]; exact hps x)
    rw [hR] at hy
    refine ⟨fn, _, assign, body, hy, roundIn_of_wpIn hfn (hassign _ x W _ ⟨_, run_beginRound ha.1 (by rw [hR]), ?_⟩)⟩
    have ha2 := at_put (r' := { R .ready none with state := .busy }) ha
    have hk2 : Kp W (W.putObj L (.loop { R .ready none with state := .busy })) := hKb _ _ _ _ (by omega) ha.1 rfl rfl
    refine wpIn_mono (hbody _ pre x _ (hI.putObj _ hi (by omega) ha.1 rfl)) fun e a3 W3 hp => ?_
    cases e with
    | normal =>
      obtain ⟨k1, k2, k3⟩ := hp
      have ha3 := at_others ha2 k1
      have hr := run_endRound (P := Try.prog) none ha3.1
      have ha4 := at_put (r' := R .ready none) ha3
      rw [hR] at hr ha3 ha4
      refine ⟨_, _, hr, .inl ⟨rfl, ⟨hI.putObj _ k3 (by omega) ha3.1 rfl, ?_⟩, hKt (hKt hk2 k2) (hKb _ _ _ _ (by omega) ha3.1 rfl rfl)⟩⟩
      rw [hR]; exact ha4
    | exit i =>
      obtain ⟨rfl, k1, k3⟩ := hp
      have ha3 := at_others ha2 k1
      have hr := run_endRound (P := Try.prog) (some (.exit i)) ha3.1
      have ha4 := at_put (r' := R .done (some (.exit i))) ha3
      rw [hR] at hr ha3 ha4
      refine ⟨_, _, hr, .inr ⟨rfl, hIx.putObj _ k3 (by omega) ha3.1 rfl, ?_⟩⟩
      rw [hR]; exact ha4
    | ret => exact hp.elim
    | goto t => exact hp.elim
    | panic ch => exact hp.elim
    | outgrown => exact hp.elim
  case behind =>
    rintro e W2 ⟨⟨v, rfl⟩, pre, hSp, hi, ha⟩
    have hr := run_endLoop (P := Try.prog) ha.1 (by rw [hR]; simp)
    rw [hR] at hr
    exact ⟨some (.exit id), _, hr, hstop _ pre _ (Nat.le_refl _) hSp (hIx.putObj _ hi (by omega) ha.1 rfl) ((World.putObj_heap_other hLD.symm).trans ha.2)⟩
end Go.Proofs.Ytiohehofnlmenaa
