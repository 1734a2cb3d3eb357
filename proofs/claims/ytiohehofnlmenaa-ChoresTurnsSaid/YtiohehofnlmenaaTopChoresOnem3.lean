/- What the top circle brings: nobody of it envies afterwards; plain, no program. -/
import Derived.Test.YtiohehofnlmenaaTopChoresNamesm1
import Derived.Test.YtiohehofnlmenaaTopChoresRunsm13
import Derived.Test.YtiohehofnlmenaaTopChoresRunsm8
import Derived.Test.YtiohehofnlmenaaTopChoresRunsm14
namespace Go.Proofs.Ytiohehofnlmenaa
set_option linter.unusedVariables false
set_option linter.unusedSimpArgs false
theorem best_le {v : List (List Int)} {a : List Int} {i k : Nat} (hi : i < v.length) (hk : k < v.length) : worth v a i (bestF (valsG v a) i : Nat) ≤ worth v a i (k : Int) := by
  have hl := valsG_len v a
  have h0 : 0 < v.length := by omega
  have h1 := bestF_eq (v := valsG v a) (i := i) (by omega)
  have h2 := bestF_lt (v := valsG v a) (i := i) (by omega)
  have h3 := leastTo_is (rget (valsG v a) i) allP (valsG v a).length
  rw [h1] at h3
  rw [hl, valsG_row hi] at h3
  rw [hl] at h2
  rcases h3 with ⟨h4, _⟩ | ⟨m, h4, _, _, _, h5⟩
  · omega
  · have h6 := h5 k (by omega) hk rfl
    have e : bestF (valsG v a) i = m := by omega
    rw [e] at h2 ⊢
    rw [worthRow_get hk, worthRow_get h2] at h6
    rcases h6 with h6 | h6 <;> omega
theorem topG_facts {v : List (List Int)} {a : List Int} (h0 : 0 < v.length) :
    (topG v a).length ≠ 1 ∧ (∀ j, j < (topG v a).length → iget (topG v a) ((j + 1) % (topG v a).length) = (bestF (valsG v a) (iget (topG v a) j).toNat : Int)) ∧ ((topG v a).length = 0 → ∃ i, i < v.length ∧ bestF (valsG v a) i = i) := by
  have hl := valsG_len v a
  have hf : ∀ x, x < v.length → bestF (valsG v a) x < v.length := fun y _ => by have := bestF_lt (v := valsG v a) (i := y) (by omega); omega
  obtain ⟨L, hL1, hLn, hP, ht⟩ := top_of_low hf h0
  obtain ⟨j, hj, he⟩ := lowIt_mem (bestF (valsG v a)) (itN (bestF (valsG v a)) (2 * v.length) 0) v.length
  have hm : lowIt (bestF (valsG v a)) (itN (bestF (valsG v a)) (2 * v.length) 0) v.length < v.length := by rw [he]; exact itN_lt hf j _ (itN_lt hf _ 0 h0)
  unfold topG
  rw [ht]
  generalize lowIt (bestF (valsG v a)) (itN (bestF (valsG v a)) (2 * v.length) 0) v.length = m at *
  generalize bestF (valsG v a) = f at *
  by_cases h1 : L = 1
  · rw [if_pos h1]
    refine ⟨by simp, fun j h => by simp at h, fun _ => ⟨m, hm, ?_⟩⟩
    have := hP.2.1
    rw [h1] at this
    exact this
  · rw [if_neg h1]
    refine ⟨by rw [orb_len]; exact h1, fun j hj => ?_, fun h => by rw [orb_len] at h; omega⟩
    rw [orb_len] at hj ⊢
    rw [orb_get (Nat.mod_lt _ (by omega)), orb_get hj, Int.toNat_natCast, ← per_mod hP]
    rfl
theorem worth_pass {v : List (List Int)} {a l : List Int} {i k : Nat} (hl : CircOk l v.length) (ha : AllOk v.length a) (hk : k < v.length) : worth v (passL a l) i (k : Int) = worth v a i (iget (toL l v.length) k) := by
  have hA := toL_isA hl
  obtain ⟨t1, t2⟩ := isA_lt hA k hk
  have key : ∀ m, m < a.length → (iget (passL a l) m = (k : Int) ↔ iget a m = iget (toL l v.length) k) := by
    intro m hm
    have hr := ha m hm
    rw [passL_get hm]
    obtain ⟨x, hx⟩ : ∃ x, iget a m = x := ⟨_, rfl⟩
    rw [hx] at hr ⊢
    by_cases h0 : 0 ≤ x
    · obtain ⟨y, rfl⟩ : ∃ y : Nat, x = y := ⟨x.toNat, by omega⟩
      obtain ⟨z, hz, e1, e2⟩ := lastP_to hl (k := y) (by omega)
      rw [e1, ← e2]
      constructor
      · intro e; have : z = k := by omega
        subst this; rfl
      · intro e
        have := isA_inj hA hz hk e
        subst this; rfl
    · have hneg : lastP l x l.length = x := by
        rcases lastP_spec l x l.length with ⟨h3, _⟩ | ⟨j, h3, _, h5⟩
        · exact h3
        · have := hl.at' ((j + 1) % l.length) (Nat.mod_lt _ (by omega)); omega
      rw [hneg]
      constructor <;> intro e <;> omega
  unfold worth
  rw [passL_len]
  have : ∀ m, m ≤ a.length → worthUp v (passL a l) i (k : Int) m = worthUp v a i (iget (toL l v.length) k) m := by
    intro m
    induction m with
    | zero => intro _; rfl
    | succ m ih =>
      intro hm
      rw [worthUp, worthUp, ih (by omega)]
      by_cases e : iget (passL a l) m = (k : Int)
      · rw [if_pos e, if_pos ((key m (by omega)).1 e)]
      · rw [if_neg e, if_neg (fun h => e ((key m (by omega)).2 h))]
  exact this a.length (Nat.le_refl _)
/-- Nobody of the top circle envies after the passing. -/
theorem top_calm {v : List (List Int)} {a : List Int} (ha : AlcOk v a) (h0 : 0 < v.length) {j k : Nat} (hj : j < (topG v a).length) (hk : k < v.length) : cP v (passL a (topG v a)) (iget (topG v a) j).toNat k = false := by
  obtain ⟨hl, _⟩ := topG_circ (v := v) (a := a) h0
  obtain ⟨_, hn, _⟩ := topG_facts (v := v) (a := a) h0
  have hi := hl.at' j hj
  have hA := toL_isA hl
  obtain ⟨t1, t2⟩ := isA_lt hA k hk
  unfold cP
  rw [decide_eq_false_iff_not, worth_pass hl ha.2 (by omega : (iget (topG v a) j).toNat < v.length), worth_pass hl ha.2 hk, toL_on hl hj, hn j hj]
  have := best_le (v := v) (a := a) (i := (iget (topG v a) j).toNat) (k := itm (toL (topG v a) v.length) k) (by omega) t2
  have e : ((itm (toL (topG v a) v.length) k : Nat) : Int) = iget (toL (topG v a) v.length) k := by simp only [itm]; omega
  rw [e] at this
  omega
/-- If everyone envies there is a circle. -/
theorem top_some {v : List (List Int)} {a : List Int} (h0 : 0 < v.length) (h : ∀ i, i < v.length → ∃ k, k < v.length ∧ cP v a i k = true) : (topG v a).length ≠ 0 := by
  intro h1
  obtain ⟨i, hi, e⟩ := (topG_facts (v := v) (a := a) h0).2.2 h1
  obtain ⟨k, hk, hc⟩ := h i hi
  have := best_le (v := v) (a := a) hi hk
  rw [e] at this
  unfold cP at hc
  rw [decide_eq_true_iff] at hc
  omega
theorem sum_one (r : Int) (x : Int) : ∀ n : Nat, sumTo (fun k => if x = (k : Int) then r else 0) n = if 0 ≤ x ∧ x < n then r else 0
  | 0 => by rw [if_neg (by omega)]; rfl
  | n + 1 => by
    rw [sumTo, sum_one r x n]
    by_cases h1 : 0 ≤ x ∧ x < (n : Int)
    · rw [if_pos h1, if_neg (by omega), if_pos (by omega)]; omega
    · rw [if_neg h1]
      by_cases h2 : x = (n : Int)
      · rw [if_pos h2, if_pos (by omega)]; omega
      · rw [if_neg h2, if_neg (by omega)]; rfl
theorem sumTo_add2 (f g : Nat → Int) : ∀ n, sumTo (fun k => f k + g k) n = sumTo f n + sumTo g n
  | 0 => rfl
  | n + 1 => by simp only [sumTo, sumTo_add2 f g n]; omega
theorem worth_sum {v : List (List Int)} {a : List Int} {i : Nat} (hc : ∀ m, m < a.length → 0 ≤ iget a m ∧ iget a m < v.length) : ∀ m, m ≤ a.length → sumTo (fun k => worthUp v a i (k : Int) m) v.length = sumUp (rget v i) m
  | 0, _ => by
    have : ∀ n, sumTo (fun k => worthUp v a i (k : Int) 0) n = 0 := by
      intro n; induction n with
      | zero => rfl
      | succ n ih => rw [sumTo, ih]; rfl
    rw [this]; rfl
  | m + 1, hm => by
    have ih := worth_sum hc (i := i) m (by omega)
    have e : (fun k : Nat => worthUp v a i (k : Int) (m + 1)) = fun k : Nat => worthUp v a i (k : Int) m + (if iget a m = (k : Int) then iget (rget v i) m else 0) := by
      funext k; rw [worthUp]
    rw [e, sumTo_add2, ih, sum_one, if_pos (hc m (by omega)), sumUp]
theorem sumTo_ge {f : Nat → Int} {b : Int} : ∀ n, (∀ k, k < n → b ≤ f k) → b * n ≤ sumTo f n
  | 0, _ => by simp [sumTo]
  | n + 1, h => by
    have := sumTo_ge n (fun k hk => h k (by omega))
    have h2 := h n (by omega)
    rw [sumTo, Int.natCast_succ, Int.mul_add, Int.mul_one]
    omega
/-- In a complete allocation a burdened agent envies somebody. -/
theorem burd_envy {v : List (List Int)} {a : List Int} {i : Nat} (hg : Gds v) (ha : AlcOk v a) (hi : i < v.length) (hc : ∀ m, m < a.length → 0 ≤ iget a m) (hb : bP v a i = true) : ∃ k, k < v.length ∧ cP v a i k = true := by
  apply Classical.byContradiction
  intro hn
  unfold bP at hb
  rw [decide_eq_true_iff] at hb
  have h1 := worth_sum (v := v) (a := a) (i := i) (fun m hm => ⟨hc m hm, by have := ha.2 m hm; omega⟩) a.length (Nat.le_refl _)
  have h2 := sumTo_ge (f := fun k => worthUp v a i (k : Int) a.length) (b := worth v a i (i : Int)) v.length (fun k hk => by
    apply Classical.byContradiction
    intro h3
    exact hn ⟨k, hk, by unfold cP worth; rw [decide_eq_true_iff]; unfold worth at h3; omega⟩)
  rw [h1] at h2
  have e : sumUp (rget v i) a.length = allG v i := by unfold allG; rw [(hg.2.2.2 i hi).1, ha.1]
  rw [e] at h2
  omega
end Go.Proofs.Ytiohehofnlmenaa

/- Dividing chores in rounds is fair up to one chore, and its steps lead to its result; plain, no program. -/
namespace Go.Proofs.Ytiohehofnlmenaa
set_option linter.unusedVariables false
set_option linter.unusedSimpArgs false
/-- Fair up to one chore. -/
def EFX (v : List (List Int)) (a : List Int) : Prop := ∀ i k, i < v.length → k < v.length → cP v a i k = true → ∃ j, j < a.length ∧ oneP v a i k j = true
theorem efx_missing {v : List (List Int)} {a : List Int} (h : EFX v a) : oneN v a = [] := by
  unfold oneN envG
  split
  · unfold msL
    rw [List.flatMap_eq_nil_iff]
    intro x hx
    obtain ⟨h1, h2, h3⟩ := prTo_mem.1 hx
    obtain ⟨j, hj, hp⟩ := h x.1 x.2 h1 h2 h3
    have : anyN (oneP v a x.1 x.2) a.length = true := anyN_true.2 ⟨j, hj, hp⟩
    obtain ⟨k, hk, _⟩ := firstN_lt this
    unfold ms1 oneF
    rw [hk, if_pos (by omega)]
  · rfl
theorem worth_set {v : List (List Int)} {a : List Int} {g i : Nat} {y k : Int} (hg : g < a.length) (hf : iget a g = -1) (hk : 0 ≤ k) : worth v (a.set g y) i k = worth v a i k + (if y = k then iget (rget v i) g else 0) := by
  have : ∀ m, m ≤ a.length → worthUp v (a.set g y) i k m = worthUp v a i k m + (if g < m ∧ y = k then iget (rget v i) g else 0) := by
    intro m
    induction m with
    | zero => intro _; simp [worthUp]
    | succ m ih =>
      intro hm
      rw [worthUp, worthUp, ih (by omega), iget_set hg]
      by_cases e : g = m
      · subst e
        have h1 : ¬ iget a g = k := by omega
        have h2 : ¬ (g < g ∧ y = k) := by omega
        by_cases ey : y = k
        · have h3 : g < g + 1 ∧ y = k := ⟨by omega, ey⟩
          simp only [if_true, if_neg h1, if_neg h2, if_pos ey, if_pos h3]
        · have h3 : ¬ (g < g + 1 ∧ y = k) := fun h => ey h.2
          simp only [if_true, if_neg h1, if_neg h2, if_neg ey, if_neg h3]
      · simp only [if_neg e]
        by_cases ey : g < m ∧ y = k
        · have h3 : g < m + 1 ∧ y = k := ⟨by omega, ey.2⟩
          simp only [if_pos ey, if_pos h3]; omega
        · have h3 : ¬ (g < m + 1 ∧ y = k) := fun h => ey ⟨by omega, h.2⟩
          simp only [if_neg ey, if_neg h3]; omega
  unfold worth
  rw [List.length_set, this a.length (Nat.le_refl _)]
  by_cases ey : y = k
  · rw [if_pos ey, if_pos ⟨hg, ey⟩]
  · rw [if_neg ey, if_neg (fun h => ey h.2)]
theorem oneP_true {v : List (List Int)} {a : List Int} {i k j : Nat} : oneP v a i k j = true ↔ iget a j = (i : Int) ∧ worth v a i (i : Int) - worth v a i (k : Int) ≤ iget (rget v i) j := by unfold oneP; rw [decide_eq_true_iff]
theorem cP_true {v : List (List Int)} {a : List Int} {i k : Nat} : cP v a i k = true ↔ worth v a i (k : Int) < worth v a i (i : Int) := by unfold cP; rw [decide_eq_true_iff]
/-- Giving a chore to one who envies nobody. -/
theorem efx_give {v : List (List Int)} {a : List Int} {g y : Nat} (hg : Gds v) (ha : AlcOk v a) (h : EFX v a) (hgl : g < a.length) (hf : iget a g = -1) (hy : y < v.length) (hc : calmB v a y = true) : EFX v (a.set g (y : Int)) := by
  intro i k hi hk hck
  have hb := gds_bid hg hi (j := g) (by rw [← ha.1]; exact hgl)
  unfold calmB at hc
  rw [decide_eq_true_iff] at hc
  rw [cP_true, worth_set hgl hf (by omega), worth_set hgl hf (by omega)] at hck
  rw [List.length_set]
  by_cases ei : y = i
  · subst ei
    by_cases ek : y = k
    · subst ek; omega
    · refine ⟨g, hgl, ?_⟩
      have := hc k hk
      rw [oneP_true, iget_set hgl, if_pos rfl, worth_set hgl hf (by omega), worth_set hgl hf (by omega), if_pos rfl, if_neg (by omega)]
      exact ⟨rfl, by omega⟩
  · rw [if_neg (by omega : ¬ (y : Int) = (i : Int))] at hck
    have hck2 : cP v a i k = true := by
      rw [cP_true]
      split at hck <;> omega
    obtain ⟨j, hj, hp⟩ := h i k hi hk hck2
    rw [oneP_true] at hp
    have hne : g ≠ j := fun e => by subst e; omega
    refine ⟨j, hj, ?_⟩
    rw [oneP_true, iget_set hgl, if_neg hne, worth_set hgl hf (by omega), worth_set hgl hf (by omega), if_neg (by omega : ¬ (y : Int) = (i : Int))]
    refine ⟨hp.1, ?_⟩
    split <;> omega
/-- Passing along the top circle. -/
theorem efx_pass {v : List (List Int)} {a : List Int} (h0 : 0 < v.length) (ha : AlcOk v a) (h : EFX v a) : EFX v (passL a (topG v a)) := by
  obtain ⟨hl, _⟩ := topG_circ (v := v) (a := a) h0
  have hA := toL_isA hl
  intro i k hi hk hck
  by_cases hin : ∃ j, j < (topG v a).length ∧ iget (topG v a) j = (i : Int)
  · obtain ⟨j, hj, e⟩ := hin
    have := top_calm ha h0 hj hk
    rw [e, Int.toNat_natCast] at this
    rw [this] at hck; cases hck
  · have hti : iget (toL (topG v a) v.length) i = (i : Int) := toL_off hl hi (fun j hj e => hin ⟨j, hj, e⟩)
    obtain ⟨t1, t2⟩ := isA_lt hA k hk
    have etk : ((itm (toL (topG v a) v.length) k : Nat) : Int) = iget (toL (topG v a) v.length) k := by simp only [itm]; omega
    rw [cP_true, worth_pass hl ha.2 hi, worth_pass hl ha.2 hk, hti, ← etk] at hck
    obtain ⟨j, hj, hp⟩ := h i _ hi t2 (cP_true.2 hck)
    rw [oneP_true] at hp
    refine ⟨j, by rw [passL_len]; exact hj, ?_⟩
    rw [oneP_true, worth_pass hl ha.2 hi, worth_pass hl ha.2 hk, hti, ← etk]
    refine ⟨?_, hp.2⟩
    rw [passL_get hj, hp.1]
    obtain ⟨y, hy, e1, e2⟩ := lastP_to hl hi
    rw [e1]
    have := isA_inj hA hy hi (by rw [e2, hti])
    omega
theorem freeI_calm {v : List (List Int)} {a : List Int} (h : 0 ≤ freeI v a) : ∃ y : Nat, freeI v a = y ∧ y < v.length ∧ calmB v a y = true := by
  have : anyN (calmB v a) v.length = true := by rw [← firstN_any]; exact decide_eq_true h
  obtain ⟨k, hk, hkn, hP, _⟩ := firstN_lt this
  exact ⟨k, hk, hkn, hP⟩
theorem free_all {v : List (List Int)} {a : List Int} (h : freeI v a < 0) : ∀ i, i < v.length → ∃ k, k < v.length ∧ cP v a i k = true := by
  intro i hi
  apply Classical.byContradiction
  intro hn
  have hc : calmB v a i = true := by
    unfold calmB; rw [decide_eq_true_iff]
    intro k hk
    apply Classical.byContradiction
    intro h2
    exact hn ⟨k, hk, cP_true.2 (by omega)⟩
  have : anyN (calmB v a) v.length = true := anyN_true.2 ⟨i, hi, hc⟩
  rw [← firstN_any, decide_eq_true_iff] at this
  unfold freeI at h
  omega
theorem free_pass {v : List (List Int)} {a : List Int} (h0 : 0 < v.length) (ha : AlcOk v a) (h : freeI v a < 0) : (topG v a).length ≠ 0 ∧ 0 ≤ freeI v (passL a (topG v a)) := by
  have hs := top_some h0 (free_all h)
  obtain ⟨hl, _⟩ := topG_circ (v := v) (a := a) h0
  have h1 := hl.at' 0 (by omega)
  refine ⟨hs, ?_⟩
  have : anyN (calmB v (passL a (topG v a))) v.length = true := anyN_true.2 ⟨(iget (topG v a) 0).toNat, by omega, by
    unfold calmB; rw [decide_eq_true_iff]
    intro k hk
    have := top_calm ha h0 (j := 0) (by omega) hk
    unfold cP at this
    rw [decide_eq_false_iff_not] at this
    omega⟩
  rw [← firstN_any, decide_eq_true_iff] at this
  exact this

/-- A step that can be replayed; what it does; a list of steps. -/
def StepOk (v : List (List Int)) (s : Stp) : Prop :=
  (s.1.length = 0 ∧ (0 ≤ s.2.1 ∧ s.2.1 < v.length) ∧ 0 ≤ s.2.2 ∧ s.2.2 < wid v) ∨ (s.1.length ≠ 0 ∧ CircOk s.1 v.length ∧ s.2.1 = -1 ∧ s.2.2 = -1)
def repStep (a : List Int) (s : Stp) : List Int := if s.1.length = 0 then a.set s.2.2.toNat s.2.1 else passL a s.1
def repTo (v : List (List Int)) (S : List Stp) : Nat → List Int
  | 0 => List.replicate (wid v) (-1)
  | m + 1 => repStep (repTo v S m) (sget S m)
theorem repTo_append (v : List (List Int)) (S : List Stp) (s : Stp) : ∀ m, m ≤ S.length → repTo v (S ++ [s]) m = repTo v S m
  | 0, _ => rfl
  | m + 1, h => by rw [repTo, repTo, repTo_append v S s m (by omega), sget_append, if_pos (by omega)]
theorem repTo_snoc (v : List (List Int)) (S : List Stp) (s : Stp) : repTo v (S ++ [s]) (S ++ [s]).length = repStep (repTo v S S.length) s := by
  rw [List.length_append, List.length_singleton, repTo, repTo_append v S s _ (Nat.le_refl _), sget_append, if_neg (by omega), Nat.sub_self]
  rfl
/-- What holds after k chores. -/
structure RunOk (v : List (List Int)) (o : List Int) (k : Nat) (A : List Int) (S : List Stp) : Prop where
  alc : AlcOk v A
  efx : EFX v A
  has : ∀ j, j < wid v → (0 ≤ iget A j ↔ ∃ t, t < k ∧ iget o t = (j : Int))
  rep : repTo v S S.length = A
  stp : ∀ m, m < S.length → StepOk v (sget S m)
  few : S.length ≤ 2 * k
theorem stp_snoc {v : List (List Int)} {S : List Stp} {s : Stp} (h : ∀ m, m < S.length → StepOk v (sget S m)) (hs : StepOk v s) : ∀ m, m < (S ++ [s]).length → StepOk v (sget (S ++ [s]) m) := by
  intro m hm
  rw [List.length_append, List.length_singleton] at hm
  rw [sget_append]
  split
  · exact h m ‹_›
  · rw [show m - S.length = 0 by omega]; exact hs
theorem runOk_give {v : List (List Int)} {o : List Int} {k : Nat} {A : List Int} {S : List Stp} (hg : Gds v) (ho : OrdP o (wid v)) (hk : k < o.length) (h1 : AlcOk v A) (h2 : EFX v A) (h3 : ∀ j, j < wid v → (0 ≤ iget A j ↔ ∃ t, t < k ∧ iget o t = (j : Int))) (h4 : repTo v S S.length = A) (h5 : ∀ m, m < S.length → StepOk v (sget S m)) (h6 : S.length ≤ 2 * k + 1) (hf : 0 ≤ freeI v A) :
    RunOk v o (k + 1) (A.set (iget o k).toNat (freeI v A)) (S ++ [([], freeI v A, iget o k)]) := by
  obtain ⟨y, hy, hyn, hc⟩ := freeI_calm hf
  obtain ⟨n1, n2, n3⟩ := ho k hk
  obtain ⟨g, hgg⟩ : ∃ g : Nat, iget o k = g := ⟨(iget o k).toNat, by omega⟩
  have hgl : g < A.length := by rw [h1.1]; omega
  have hgf : iget A g = -1 := by
    have := h1.2 g hgl
    have h7 : ¬ 0 ≤ iget A g := fun h => by
      obtain ⟨t, ht, e⟩ := (h3 g (by omega)).1 h
      exact n3 t ht (by rw [e, hgg])
    omega
  rw [hy, hgg, Int.toNat_natCast]
  refine ⟨⟨by rw [List.length_set]; exact h1.1, fun j hj => ?_⟩, efx_give hg h1 h2 hgl hgf hyn hc, fun j hj => ?_, ?_, stp_snoc h5 (.inl ⟨rfl, ⟨by simp only; omega, by simp only; omega⟩, by simp only; omega, by simp only; omega⟩), by rw [List.length_append, List.length_singleton]; omega⟩
  · rw [List.length_set] at hj
    rw [iget_set hgl]
    split
    · omega
    · exact h1.2 j hj
  · rw [iget_set hgl]
    by_cases e : g = j
    · subst e
      rw [if_pos rfl]
      exact ⟨fun _ => ⟨k, by omega, hgg⟩, fun _ => by omega⟩
    · rw [if_neg e, h3 j hj]
      exact ⟨fun ⟨t, h, e2⟩ => ⟨t, by omega, e2⟩, fun ⟨t, h, e2⟩ => ⟨t, by
        by_cases et : t = k
        · subst et; omega
        · omega, e2⟩⟩
  · rw [repTo_snoc, h4]
    unfold repStep
    simp
theorem runTo_all {v : List (List Int)} {o : List Int} (hg : Gds v) (ho : OrdP o (wid v)) : ∀ k, k ≤ o.length → RunOk v o k (runTo v o k).1 (runTo v o k).2
  | 0, _ => by
    have hr : ∀ j, j < wid v → iget (List.replicate (wid v) (-1 : Int)) j = -1 := fun j hj => by simp [iget, List.getD, hj]
    have hz : ∀ i k : Nat, worth v (List.replicate (wid v) (-1)) i (k : Int) = 0 := fun i k => by
      unfold worth
      have : ∀ m, m ≤ wid v → worthUp v (List.replicate (wid v) (-1)) i (k : Int) m = 0 := by
        intro m
        induction m with
        | zero => intro _; rfl
        | succ m ih => intro hm; rw [worthUp, ih (by omega), hr m (by omega), if_neg (by omega)]; rfl
      rw [List.length_replicate]; exact this _ (Nat.le_refl _)
    refine ⟨⟨by simp [runTo], fun j hj => ?_⟩, fun i k hi hk hc => ?_, fun j hj => ?_, rfl, fun m hm => by simp [runTo] at hm, by simp [runTo]⟩
    · have hj' : j < wid v := by simpa [runTo] using hj
      have e := hr j hj'
      show -1 ≤ iget (List.replicate (wid v) (-1 : Int)) j ∧ iget (List.replicate (wid v) (-1 : Int)) j < v.length
      omega
    · have hc' : cP v (List.replicate (wid v) (-1)) i k = true := hc
      rw [cP_true, hz, hz] at hc'; omega
    · show 0 ≤ iget (List.replicate (wid v) (-1 : Int)) j ↔ _
      rw [hr j hj]
      exact ⟨fun h => by omega, fun ⟨t, h, _⟩ => by omega⟩
  | k + 1, hk => by
    have ih := runTo_all hg ho k (by omega)
    obtain ⟨A, S, e⟩ : ∃ A S, runTo v o k = (A, S) := ⟨_, _, rfl⟩
    rw [e] at ih
    simp only at ih
    by_cases hf : freeI v A < 0
    · obtain ⟨hs, hf2⟩ := free_pass hg.1 ih.alc hf
      obtain ⟨hl, _⟩ := topG_circ (v := v) (a := A) hg.1
      have e2 : runTo v o (k + 1) = ((passL A (topG v A)).set (iget o k).toNat (freeI v (passL A (topG v A))), (S ++ [(topG v A, -1, -1)]) ++ [([], freeI v (passL A (topG v A)), iget o k)]) := by
        rw [runTo, runStep, e, runS1]
        simp only [if_pos hf]
      rw [e2]
      refine runOk_give hg ho (by omega) ⟨by rw [passL_len]; exact ih.alc.1, passL_ok hl ih.alc.2⟩ (efx_pass hg.1 ih.alc ih.efx) (fun j hj => ?_) ?_ (stp_snoc ih.stp (.inr ⟨hs, hl, rfl, rfl⟩)) (by rw [List.length_append, List.length_singleton]; have := ih.few; omega) hf2
      · rw [← ih.has j hj]
        have hjl : j < A.length := by rw [ih.alc.1]; exact hj
        rw [passL_get hjl]
        have hr := ih.alc.2 j hjl
        by_cases h0 : 0 ≤ iget A j
        · obtain ⟨x, hx⟩ : ∃ x : Nat, iget A j = x := ⟨(iget A j).toNat, by omega⟩
          obtain ⟨y, hy, e1, _⟩ := lastP_to hl (k := x) (by omega)
          rw [hx, e1]
          exact ⟨fun _ => by omega, fun _ => by omega⟩
        · have hneg : lastP (topG v A) (iget A j) (topG v A).length = iget A j := by
            rcases lastP_spec (topG v A) (iget A j) (topG v A).length with ⟨h3, _⟩ | ⟨m, h3, _, h5⟩
            · exact h3
            · have := hl.at' ((m + 1) % (topG v A).length) (Nat.mod_lt _ (by omega)); omega
          rw [hneg]
      · rw [repTo_snoc, ih.rep]
        unfold repStep
        rw [if_neg hs]
    · have e2 : runTo v o (k + 1) = (A.set (iget o k).toNat (freeI v A), S ++ [([], freeI v A, iget o k)]) := by
        rw [runTo, runStep, e, runS1]
        simp only [if_neg hf]
      rw [e2]
      exact runOk_give hg ho (by omega) ih.alc ih.efx ih.has ih.rep ih.stp (by have := ih.few; omega) (by omega)
end Go.Proofs.Ytiohehofnlmenaa

/- The walks of rounds.valid, rounds.pass and rounds.Replay at steps that can be replayed. -/
namespace Go.Proofs.Ytiohehofnlmenaa
set_option linter.unusedVariables false
set_option linter.unusedSimpArgs false
open Go.ChangeShapes Go.WideShapes Go.ChangeAt Go.RowKit Go.Deep

theorem circ_take {l : List Int} {n k : Nat} (h : CircOk l n) (hk : k < l.length) : hasB (l.take k) (iget l k) = false := by
  cases hh : hasB (l.take k) (iget l k) with
  | false => rfl
  | true =>
    obtain ⟨j, hj, e⟩ := (hasB_take (by omega) _).1 hh
    exact absurd e (h.inj j k hj hk)
set_option maxHeartbeats 4000000 in
set_option maxRecDepth 100000 in
theorem rvalid_any (p : Option Addr) (c : Nat) (v : List (List Int)) (q : Option Addr) (d : Nat) (l : List Int) (y z : Int) (w : World) (hx : Mat w p c v) (hi : Ints w q d l) (hg : Gds v) (hs : StepOk v (l, y, z)) :
    Calls Try.prog 57 #[.agg #[.slice p v.length c], .agg #[.slice q l.length d, .int .i64 y, .int .i64 z]] w fun e w' => e = .returned (.bool true) ∧ Below w.heap.size w w' := by
  obtain ⟨W00, hW00⟩ : ∃ W0, w.alloc (.cells #[.slice p v.length c] 24) = W0 := ⟨_, rfl⟩
  obtain ⟨W0, hW0⟩ : ∃ W0, W00.alloc (.cells #[.slice q l.length d, .int .i64 y, .int .i64 z] 89) = W0 := ⟨_, rfl⟩
  have hB1 : Below w.heap.size w W00 := below_alloc hW00
  have hB2 := below_alloc hW0
  have hs0 : W00.heap.size = w.heap.size + 1 := by rw [← hW00]; simp
  have bX : BoxV W0 w.heap.size [.slice p v.length c] := (BoxV.new rfl hW00).below hB2
  have bS : BoxV W0 (w.heap.size + 1) [.slice q l.length d, .int .i64 y, .int .i64 z] := BoxV.new hs0 hW0
  have hB : Below w.heap.size w W0 := hB1.trans (hB2.mono hB1.size)
  have hx := hx.below hB (Nat.le_refl _)
  have hi := hi.below hB (Nat.le_refl _)
  have x0 := bX.cell 0 _ rfl
  have s0 := bS.cell 0 _ rfl
  have s1 := bS.cell 1 _ rfl
  have s2 := bS.cell 2 _ rfl
  have HW00 := Lib.hid hW00
  have HW0 := Lib.hid hW0
  have h0v : 0 < v.length := hg.1
  have hl1 := hx.length_le
  have hl2 := hi.length_le
  clear hW0 hW00 hB1 hB2 hs0 bX bS
  rcases hs with ⟨h1, h2, h3, h4⟩ | ⟨h1, h2, h3, h4⟩
  · simp only at h1 h2 h3 h4
    obtain ⟨x, rfl⟩ : ∃ x : Nat, y = x := ⟨y.toNat, by omega⟩
    obtain ⟨g, rfl⟩ : ∃ g : Nat, z = g := ⟨z.toNat, by omega⟩
    obtain ⟨b, o', rfl, _, q0, d0, hc0, hi0⟩ := hx.get (j := 0) h0v
    rw [Nat.add_zero] at hc0
    obtain ⟨m, hm⟩ : ∃ m, wid v = m := ⟨_, rfl⟩
    have hm0 : (rget v 0).length = m := hm
    rw [hm0] at hc0
    rw [hm] at h4
    obtain ⟨l0, hl0⟩ : ∃ l0, l.length = l0 := ⟨_, rfl⟩
    rw [hl0] at s0 HW0
    rw [hl0]
    have h10 : ((l0 : Int) == 0) = true := by rw [beq_iff_eq]; omega
    have hx1 : decide ((x : Int) < v.length) = true := by rw [decide_eq_true_iff]; exact h2.2
    have hx2 : decide (x < v.length) = true := by rw [decide_eq_true_iff]; omega
    have hg1 : decide ((g : Int) < m) = true := by rw [decide_eq_true_iff]; exact h4
    have hg2 : decide (g < m) = true := by rw [decide_eq_true_iff]; omega
    have hx3 : decide ((0 : Int) ≤ x) = true := by rw [decide_eq_true_iff]; omega
    have hg3 : decide ((0 : Int) ≤ g) = true := by rw [decide_eq_true_iff]; omega
    have hv0 : (0 : Int) < v.length := by omega
    have hx4 := h2.2
    clear h1 h2 h3 hm hm0 hi0 hl0 hi
    go_enter Try.func57, Try.ntmps57
    go_wp2_with fail
    rw [HW00.out, HW0.out]
    go_quiet (fail)
    go_wp2_with fail
    go_ret
    exact ⟨rfl, hB.drewN' _⟩
  · simp only at h1 h2 h3 h4
    subst h3 h4
    have h10 : ((l.length : Int) == 0) = false := by rw [beq_eq_false_iff_ne]; omega
    have HL := Lib.hid h2
    clear h1 h2
    go_enter Try.func57, Try.ntmps57
    go_wp2_with fail
    rw [HW00.out, HW0.out]
    go_loop [4, 40] (fun s t => s = .bool false ∧ ∃ k : Nat, k ≤ l.length ∧ t = .int .i64 k) (fun _ t => l.length - (intOf t).toNat)
    case atStart => exact ⟨rfl, 0, Nat.zero_le _, rfl⟩
    case round =>
      obtain ⟨rfl, k, hk, rfl⟩ := hrel
      by_cases hlt : k < l.length
      · have hk1 : (k : Int) < l.length := by omega
        obtain ⟨b3, o3, rfl, _, hc⟩ := hi.get hlt
        have hsl := run_pre (some ⟨b3, o3, none⟩) l.length d k (by have := hi.le; omega)
        have HC := containsR (some ⟨b3, o3, none⟩) d k l (iget l k) (by omega) W0 hi
        rw [circ_take HL.out hlt] at HC
        have hr := HL.out.at' k hlt
        obtain ⟨x, hx'⟩ : ∃ x : Nat, iget l k = x := ⟨(iget l k).toNat, by omega⟩
        rw [hx'] at hc HC hr
        have HC := Lib.hid HC
        have hd1 : decide ((x : Int) < 0) = false := by rw [decide_eq_false_iff_not]; omega
        have hd2 : decide ((v.length : Int) ≤ x) = false := by rw [decide_eq_false_iff_not]; omega
        have hd3 : decide (v.length ≤ x) = false := by rw [decide_eq_false_iff_not]; omega
        have hd4 : ¬ (v.length : Int) ≤ x := by omega
        clear hx' hr
        go_wp2_with fail
        refine HC.out.mono ?_
        rintro e w' ⟨rfl, rfl⟩
        go_wp2_with fail
        go_round
        case rel => exact ⟨rfl, k + 1, by omega, by go_num⟩
        case measure => (simp [intOf] <;> omega)
      · have hk1 : ¬ (k : Int) < l.length := by omega
        go_wp2_with fail
        go_ret
        exact ⟨rfl, hB⟩

set_option maxHeartbeats 8000000 in
set_option maxRecDepth 100000 in
theorem rpass_any (p : Option Addr) (c : Nat) (v : List (List Int)) (q : Option Addr) (d m : Nat) (A : List Int) (s : Option Addr) (f : Nat) (l : List Int) (hm : A.length = m) (hmp : 0 < m) (hg : Gds v) (ha : AlcOk v A) (hlc : CircOk l v.length) (w : World) (hx : Mat w p c v) (hi : Ints w q d A) (ho : Ints w s f l) :
    Calls Try.prog 58 #[.agg #[.slice p v.length c], .slice q m d, .slice s l.length f] w fun e w' => ∃ g c, e = .returned (.slice (some ⟨g, 0, none⟩) m c) ∧ Own w' w.heap.size (some ⟨g, 0, none⟩) c (passL A l) ∧ Below w.heap.size w w' := by
  obtain ⟨W0, hW0⟩ : ∃ W0, w.alloc (.cells #[.slice p v.length c] 24) = W0 := ⟨_, rfl⟩
  have hB : Below w.heap.size w W0 := below_alloc hW0
  have bX : BoxV W0 w.heap.size [.slice p v.length c] := BoxV.new rfl hW0
  have x0 := bX.cell 0 _ rfl
  have HW0 := Lib.hid hW0
  clear hW0
  have Hx := Lib.hid (hx.below hB (Nat.le_refl _))
  have Hi := Lib.hid (hi.below hB (Nat.le_refl _))
  have Ho := Lib.hid (ho.below hB (Nat.le_refl _))
  have hl1 := hx.length_le
  have hll := ho.length_le
  have hv6 : v.length ≤ 6 := hg.2.1
  have h0v : 0 < v.length := hg.1
  obtain ⟨n, hn⟩ : ∃ n, v.length = n := ⟨_, rfl⟩
  have Hn := Lib.hid hn
  have hn6 : n ≤ 6 := by omega
  have hn1 : 1 ≤ n := by omega
  obtain ⟨B3, hB3⟩ : ∃ B3, W0.heap.size = B3 := ⟨_, rfl⟩
  have HB3 := Lib.hid hB3
  have hIs : Hid (∀ j, idL (j + 1) = idL j ++ [(j : Int)]) := fun j => idL_snoc j
  have hI0 : Hid (idL 0 = []) := rfl
  have hIl := Lib.hid (fun j => idL_len j)
  have HpV := Lib.hid (fun (t : List Int) (s : Option Addr) (f : Nat) (ht : t = toL l n) W hX hI hT => passR p c n v hn q d m A s f l t hm hg ha hlc (by rw [hn]; exact ht) hmp W hX hI hT)
  have Hlc2 : Hid (CircOk l n) := by unfold Hid; rw [← hn]; exact hlc
  have hsz0 := hB.size
  clear hn hB3 hx hi ho hm ha hlc hg
  go_enter Try.func58, Try.ntmps58
  go_wp2_with fail
  rw [HW0.out]
  go_loopw [7, 16] (fun s t wk => ∃ j : Nat, j ≤ v.length ∧ t = .int .i64 j ∧ (∃ zs pt ct, Hid (zs = idL j) ∧ s = .slice pt (zs : List Int).length ct ∧ Own wk B3 pt ct zs) ∧ Below B3 W0 wk) (fun _ t _ => v.length - (intOf t).toNat)
  case atStart => exact ⟨0, Nat.zero_le _, rfl, ⟨[], none, 0, hI0.out.symm, rfl, Own.ofNil _ _⟩, Below.refl _ _⟩
  case round =>
    clear x0
    obtain ⟨j, hj, rfl, ⟨zs, pt, ct, hz, rfl, hT⟩, hbk⟩ := hrel
    have hsk : B3 ≤ wr.heap.size := by have := hbk.size; have := HB3.out; omega
    by_cases hjn : j < v.length
    · have hj1 : (j : Int) < v.length := by omega
      have hzl : zs.length ≤ 900000 := by rw [hz.out, hIl.out]; omega
      have hji : in64 (j : Int) := ⟨by omega, by omega⟩
      have Hji := Lib.hid hji
      have HT := Lib.hid hT
      clear hji hT
      go_wp2_with (at_builtin; refine wpList_app1 rfl (.tmp 19) (.tmp 21) rfl B3 _ _ zs (j : Int) rfl rfl rfl HT.out Hji.out hzl hsk ?_; intro p3 c3 w3' u3 hu3 hO3 hg3 hf3)
      go_roundw
      case rel => exact ⟨j + 1, by omega, by go_num, ⟨u3, _, _, by unfold Hid; rw [hu3.out, hz.out, hIs.out], rfl, hO3⟩, hbk.grown hg3 hsk (fun k' e => (HT.out.lt k' e).1)⟩
      case measure => (simp [intOf] <;> omega)
    · have hj1 : ¬ (j : Int) < v.length := by omega
      obtain rfl : j = v.length := by omega
      have hz2 : zs = toN l n 0 := by rw [hz.out, Hn.out]; rfl
      clear hz
      subst hz2
      have hTl := Lib.hid (fun i => toN_len l n i)
      obtain ⟨gt, rfl, hgt1, hgt2, _, _⟩ := hT.get (j := 0) (by rw [hTl.out]; omega)
      have hTn : Hid (∀ i, toN l n (i + 1) = (toN l n i).set (iget l i).toNat (iget l ((i + 1) % l.length))) := fun i => rfl
      rw [hTl.out]
      go_wp2_with fail
      go_loopw [26] (fun t wk => ∃ i : Nat, i ≤ l.length ∧ t = .int .i64 i ∧ Own wk B3 (some ⟨gt, 0, none⟩) ct (toN l n i) ∧ Below B3 W0 wk) (fun t _ => l.length - (intOf t).toNat)
      case atStart => exact ⟨0, Nat.zero_le _, rfl, hT, hbk⟩
      case round =>
        clear hT hbk hsk
        obtain ⟨i, hi, rfl, hT, hbk⟩ := hrel
        have hsk : B3 ≤ wr.heap.size := by have := hbk.size; have := HB3.out; omega
        by_cases hil : i < l.length
        · have hi1 : (i : Int) < l.length := by omega
          obtain ⟨u, hu⟩ : ∃ u, (i + 1) % l.length = u := ⟨_, rfl⟩
          have hul : u < l.length := by rw [← hu]; exact Nat.mod_lt _ (by omega)
          have hmod : ((i : Int) + 1) % (l.length : Int) = (u : Int) := by rw [← hu]; simp [Int.natCast_emod]
          have hmod2 : ((i : Int) + 1).tmod (l.length : Int) = (u : Int) := by rw [Int.tmod_eq_emod_of_nonneg (by omega), hmod]
          have hu1 : (u : Int) < l.length := by omega
          have hu0 : (0 : Int) ≤ u := by omega
          have hl0 : ((l.length : Int) == 0) = false := by rw [beq_eq_false_iff_ne]; omega
          have iL := Ho.out.below hbk (Nat.le_of_eq HB3.out)
          obtain ⟨b2, o2, rfl, _, hc2⟩ := iL.get hil
          have hc3 := iL.at hul
          have hr3 := iL.rng u hul
          obtain ⟨z, hz⟩ : ∃ z : Nat, iget l i = z := ⟨(iget l i).toNat, by have := (Hlc2.out.at' i hil).1; omega⟩
          have hzn : z < n := by have := (Hlc2.out.at' i hil).2; omega
          have hz1 : (z : Int) < n := by omega
          have hz0 : (0 : Int) ≤ z := by omega
          have HTs := hTn.out i
          rw [hu, hz, Int.toNat_natCast] at HTs
          rw [hz] at hc2
          obtain ⟨y, ey⟩ : ∃ y, iget l u = y := ⟨_, rfl⟩
          rw [ey] at hc3 hr3 HTs
          obtain ⟨_, _, hcT, hfT⟩ := own_cell hT (j := z) (by rw [hTl.out]; exact hzn)
          have HT2 := Lib.hid ((hT.set z hr3).1)
          have HBk := Lib.hid (hbk.setCell (p := ⟨gt, z, none⟩) hgt1 (.int .i64 y))
          have HTs := Lib.hid HTs
          clear hu hz ey hr3 iL hT hbk
          go_wp2_with fail
          go_roundw
          case rel => exact ⟨i + 1, by omega, by go_num, by rw [HTs.out]; exact HT2.out, HBk.out⟩
          case measure => (simp [intOf] <;> omega)
        · have hi1 : ¬ (i : Int) < l.length := by omega
          obtain rfl : i = l.length := by omega
          have x0 := (bX.below (by rw [HB3.out]; exact hbk)).cell 0 _ rfl
          have HP := Lib.hid (HpV.out (toL l n) (some ⟨gt, 0, none⟩) ct rfl _ (Hx.out.below hbk (Nat.le_of_eq HB3.out)) (Hi.out.below hbk (Nat.le_of_eq HB3.out)) hT.ints)
          have hwB := HB3.out
          have hbw := hB.trans (hbk.mono (by omega))
          clear hT hbk
          go_wp2_with fail
          refine HP.out.mono ?_
          rintro e w5 ⟨g2, c2, rfl, hO2, hb⟩
          have hs2 := hbw.size
          go_wp2_with fail
          go_ret
          exact ⟨g2, c2, rfl, hO2.lower hs2, hbw.trans (hb.mono hs2)⟩
end Go.Proofs.Ytiohehofnlmenaa
