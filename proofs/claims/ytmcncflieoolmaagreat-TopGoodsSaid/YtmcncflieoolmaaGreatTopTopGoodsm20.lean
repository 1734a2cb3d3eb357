/- Dividing chores in rounds is fair up to one chore, and its steps lead to its result; plain, no program. -/
import Derived.Test.YtmcncflieoolmaaGreatTopTopGoodsm19
import Derived.Test.YtmcncflieoolmaaGreatTopTopGoodsm17
/- Dividing chores in rounds is fair up to one chore, and its steps lead to its result; plain, no program. -/
namespace Go.Proofs.YtmcncflieoolmaaGreat
set_option linter.unusedVariables false
set_option linter.unusedSimpArgs false
/-- Fair up to one chore. -/
def EFX (v : List (List Int)) (a : List Int) : Prop := ∀ i k, i < v.length → k < v.length → cP v a i k = true → ∃ j, j < a.length ∧ oneP v a i k j = true
theorem efx_missing {v : List (List Int)} {a : List Int} (h : EFX v a) : oneN v a = [] := by
  unfold oneN envG
  split
  · unfold msL
    rw [List.flatMap_eq_nil_iff]
    intro x hx
    obtain ⟨h1, h2, h3⟩ := prTo_mem.1 hx
    obtain ⟨j, hj, hp⟩ := h x.1 x.2 h1 h2 h3
    have : anyN (oneP v a x.1 x.2) a.length = true := anyN_true.2 ⟨j, hj, hp⟩
    obtain ⟨k, hk, _⟩ := firstN_lt this
    unfold ms1 oneF
    rw [hk, if_pos (by omega)]
  · rfl
theorem worth_set {v : List (List Int)} {a : List Int} {g i : Nat} {y k : Int} (hg : g < a.length) (hf : iget a g = -1) (hk : 0 ≤ k) : worth v (a.set g y) i k = worth v a i k + (if y = k then iget (rget v i) g else 0) := by
  have : ∀ m, m ≤ a.length → worthUp v (a.set g y) i k m = worthUp v a i k m + (if g < m ∧ y = k then iget (rget v i) g else 0) := by
    intro m
    induction m with
    | zero => intro _; simp [worthUp]
    | succ m ih =>
      intro hm
      rw [worthUp, worthUp, ih (by omega), iget_set hg]
      by_cases e : g = m
      · subst e
        have h1 : ¬ iget a g = k := by omega
        have h2 : ¬ (g < g ∧ y = k) := by omega
        by_cases ey : y = k
        · have h3 : g < g + 1 ∧ y = k := ⟨by omega, ey⟩
          simp only [if_true, if_neg h1, if_neg h2, if_pos ey, if_pos h3]
        · have h3 : ¬ (g < g + 1 ∧ y = k) := fun h => ey h.2
          simp only [if_true, if_neg h1, if_neg h2, if_neg ey, if_neg h3]
      · simp only [if_neg e]
        by_cases ey : g < m ∧ y = k
        · have h3 : g < m + 1 ∧ y = k := ⟨by omega, ey.2⟩
          simp only [if_pos ey, if_pos h3]; omega
        · have h3 : ¬ (g < m + 1 ∧ y = k) := fun h => ey ⟨by omega, h.2⟩
          simp only [if_neg ey, if_neg h3]; omega
  unfold worth
  rw [List.length_set, this a.length (Nat.le_refl _)]
  by_cases ey : y = k
  · rw [if_pos ey, if_pos ⟨hg, ey⟩]
  · rw [if_neg ey, if_neg (fun h => ey h.2)]
theorem oneP_true {v : List (List Int)} {a : List Int} {i k j : Nat} : oneP v a i k j = true ↔ iget a j = (i : Int) ∧ worth v a i (i : Int) - worth v a i (k : Int) ≤ iget (rget v i) j := by unfold oneP; rw [decide_eq_true_iff]
theorem cP_true {v : List (List Int)} {a : List Int} {i k : Nat} : cP v a i k = true ↔ worth v a i (k : Int) < worth v a i (i : Int) := by unfold cP; rw [decide_eq_true_iff]
/-- Giving a chore to one who envies nobody. -/
theorem efx_give {v : List (List Int)} {a : List Int} {g y : Nat} (hg : Gds v) (ha : AlcOk v a) (h : EFX v a) (hgl : g < a.length) (hf : iget a g = -1) (hy : y < v.length) (hc : calmB v a y = true) : EFX v (a.set g (y : Int)) := by
  intro i k hi hk hck
  have hb := gds_bid hg hi (j := g) (by rw [← ha.1]; exact hgl)
  unfold calmB at hc
  rw [decide_eq_true_iff] at hc
  rw [cP_true, worth_set hgl hf (by omega), worth_set hgl hf (by omega)] at hck
  rw [List.length_set]
  by_cases ei : y = i
  · subst ei
    by_cases ek : y = k
    · subst ek; omega
    · refine ⟨g, hgl, ?_⟩
      have := hc k hk
      rw [oneP_true, iget_set hgl, if_pos rfl, worth_set hgl hf (by omega), worth_set hgl hf (by omega), if_pos rfl, if_neg (by omega)]
      exact ⟨rfl, by omega⟩
  · rw [if_neg (by omega : ¬ (y : Int) = (i : Int))] at hck
    have hck2 : cP v a i k = true := by
      rw [cP_true]
      split at hck <;> omega
    obtain ⟨j, hj, hp⟩ := h i k hi hk hck2
    rw [oneP_true] at hp
    have hne : g ≠ j := fun e => by subst e; omega
    refine ⟨j, hj, ?_⟩
    rw [oneP_true, iget_set hgl, if_neg hne, worth_set hgl hf (by omega), worth_set hgl hf (by omega), if_neg (by omega : ¬ (y : Int) = (i : Int))]
    refine ⟨hp.1, ?_⟩
    split <;> omega
/-- Passing along the top circle. -/
theorem efx_pass {v : List (List Int)} {a : List Int} (h0 : 0 < v.length) (ha : AlcOk v a) (h : EFX v a) : EFX v (passL a (topG v a)) := by
  obtain ⟨hl, _⟩ := topG_circ (v := v) (a := a) h0
  have hA := toL_isA hl
  intro i k hi hk hck
  by_cases hin : ∃ j, j < (topG v a).length ∧ iget (topG v a) j = (i : Int)
  · obtain ⟨j, hj, e⟩ := hin
    have := top_calm ha h0 hj hk
    rw [e, Int.toNat_natCast] at this
    rw [this] at hck; cases hck
  · have hti : iget (toL (topG v a) v.length) i = (i : Int) := toL_off hl hi (fun j hj e => hin ⟨j, hj, e⟩)
    obtain ⟨t1, t2⟩ := isA_lt hA k hk
    have etk : ((itm (toL (topG v a) v.length) k : Nat) : Int) = iget (toL (topG v a) v.length) k := by simp only [itm]; omega
    rw [cP_true, worth_pass hl ha.2 hi, worth_pass hl ha.2 hk, hti, ← etk] at hck
    obtain ⟨j, hj, hp⟩ := h i _ hi t2 (cP_true.2 hck)
    rw [oneP_true] at hp
    refine ⟨j, by rw [passL_len]; exact hj, ?_⟩
    rw [oneP_true, worth_pass hl ha.2 hi, worth_pass hl ha.2 hk, hti, ← etk]
    refine ⟨?_, hp.2⟩
    rw [passL_get hj, hp.1]
    obtain ⟨y, hy, e1, e2⟩ := lastP_to hl hi
    rw [e1]
    have := isA_inj hA hy hi (by rw [e2, hti])
    omega
theorem freeI_calm {v : List (List Int)} {a : List Int} (h : 0 ≤ freeI v a) : ∃ y : Nat, freeI v a = y ∧ y < v.length ∧ calmB v a y = true := by
  have : anyN (calmB v a) v.length = true := by rw [← firstN_any]; exact decide_eq_true h
  obtain ⟨k, hk, hkn, hP, _⟩ := firstN_lt this
  exact ⟨k, hk, hkn, hP⟩
theorem free_all {v : List (List Int)} {a : List Int} (h : freeI v a < 0) : ∀ i, i < v.length → ∃ k, k < v.length ∧ cP v a i k = true := by
  intro i hi
  apply Classical.byContradiction
  intro hn
  have hc : calmB v a i = true := by
    unfold calmB; rw [decide_eq_true_iff]
    intro k hk
    apply Classical.byContradiction
    intro h2
    exact hn ⟨k, hk, cP_true.2 (by omega)⟩
  have : anyN (calmB v a) v.length = true := anyN_true.2 ⟨i, hi, hc⟩
  rw [← firstN_any, decide_eq_true_iff] at this
  unfold freeI at h
  omega
theorem free_pass {v : List (List Int)} {a : List Int} (h0 : 0 < v.length) (ha : AlcOk v a) (h : freeI v a < 0) : (topG v a).length ≠ 0 ∧ 0 ≤ freeI v (passL a (topG v a)) := by
  have hs := top_some h0 (free_all h)
  obtain ⟨hl, _⟩ := topG_circ (v := v) (a := a) h0
  have h1 := hl.at' 0 (by omega)
  refine ⟨hs, ?_⟩
  have : anyN (calmB v (passL a (topG v a))) v.length = true := anyN_true.2 ⟨(iget (topG v a) 0).toNat, by omega, by
    unfold calmB; rw [decide_eq_true_iff]
    intro k hk
    have := top_calm ha h0 (j := 0) (by omega) hk
    unfold cP at this
    rw [decide_eq_false_iff_not] at this
    omega⟩
  rw [← firstN_any, decide_eq_true_iff] at this
  exact this

/-- A step that can be replayed; what it does; a list of steps. -/
def StepOk (v : List (List Int)) (s : Stp) : Prop :=
  (s.1.length = 0 ∧ (0 ≤ s.2.1 ∧ s.2.1 < v.length) ∧ 0 ≤ s.2.2 ∧ s.2.2 < wid v) ∨ (s.1.length ≠ 0 ∧ CircOk s.1 v.length ∧ s.2.1 = -1 ∧ s.2.2 = -1)
def repStep (a : List Int) (s : Stp) : List Int := if s.1.length = 0 then a.set s.2.2.toNat s.2.1 else passL a s.1
def repTo (v : List (List Int)) (S : List Stp) : Nat → List Int
  | 0 => List.replicate (wid v) (-1)
  | m + 1 => repStep (repTo v S m) (sget S m)
theorem repTo_append (v : List (List Int)) (S : List Stp) (s : Stp) : ∀ m, m ≤ S.length → repTo v (S ++ [s]) m = repTo v S m
  | 0, _ => rfl
  | m + 1, h => by rw [repTo, repTo, repTo_append v S s m (by omega), sget_append, if_pos (by omega)]
theorem repTo_snoc (v : List (List Int)) (S : List Stp) (s : Stp) : repTo v (S ++ [s]) (S ++ [s]).length = repStep (repTo v S S.length) s := by
  rw [List.length_append, List.length_singleton, repTo, repTo_append v S s _ (Nat.le_refl _), sget_append, if_neg (by omega), Nat.sub_self]
  rfl
/-- What holds after k chores. -/
structure RunOk (v : List (List Int)) (o : List Int) (k : Nat) (A : List Int) (S : List Stp) : Prop where
  alc : AlcOk v A
  efx : EFX v A
  has : ∀ j, j < wid v → (0 ≤ iget A j ↔ ∃ t, t < k ∧ iget o t = (j : Int))
  rep : repTo v S S.length = A
  stp : ∀ m, m < S.length → StepOk v (sget S m)
  few : S.length ≤ 2 * k
theorem stp_snoc {v : List (List Int)} {S : List Stp} {s : Stp} (h : ∀ m, m < S.length → StepOk v (sget S m)) (hs : StepOk v s) : ∀ m, m < (S ++ [s]).length → StepOk v (sget (S ++ [s]) m) := by
  intro m hm
  rw [List.length_append, List.length_singleton] at hm
  rw [sget_append]
  split
  · exact h m ‹_›
  · rw [show m - S.length = 0 by omega]; exact hs
theorem runOk_give {v : List (List Int)} {o : List Int} {k : Nat} {A : List Int} {S : List Stp} (hg : Gds v) (ho : OrdP o (wid v)) (hk : k < o.length) (h1 : AlcOk v A) (h2 : EFX v A) (h3 : ∀ j, j < wid v → (0 ≤ iget A j ↔ ∃ t, t < k ∧ iget o t = (j : Int))) (h4 : repTo v S S.length = A) (h5 : ∀ m, m < S.length → StepOk v (sget S m)) (h6 : S.length ≤ 2 * k + 1) (hf : 0 ≤ freeI v A) :
    RunOk v o (k + 1) (A.set (iget o k).toNat (freeI v A)) (S ++ [([], freeI v A, iget o k)]) := by
  obtain ⟨y, hy, hyn, hc⟩ := freeI_calm hf
  obtain ⟨n1, n2, n3⟩ := ho k hk
  obtain ⟨g, hgg⟩ : ∃ g : Nat, iget o k = g := ⟨(iget o k).toNat, by omega⟩
  have hgl : g < A.length := by rw [h1.1]; omega
  have hgf : iget A g = -1 := by
    have := h1.2 g hgl
    have h7 : ¬ 0 ≤ iget A g := fun h => by
      obtain ⟨t, ht, e⟩ := (h3 g (by omega)).1 h
      exact n3 t ht (by rw [e, hgg])
    omega
  rw [hy, hgg, Int.toNat_natCast]
  refine ⟨⟨by rw [List.length_set]; exact h1.1, fun j hj => ?_⟩, efx_give hg h1 h2 hgl hgf hyn hc, fun j hj => ?_, ?_, stp_snoc h5 (.inl ⟨rfl, ⟨by simp only; omega, by simp only; omega⟩, by simp only; omega, by simp only; omega⟩), by rw [List.length_append, List.length_singleton]; omega⟩
  · rw [List.length_set] at hj
    rw [iget_set hgl]
    split
    · omega
    · exact h1.2 j hj
  · rw [iget_set hgl]
    by_cases e : g = j
    · subst e
      rw [if_pos rfl]
      exact ⟨fun _ => ⟨k, by omega, hgg⟩, fun _ => by omega⟩
    · rw [if_neg e, h3 j hj]
      exact ⟨fun ⟨t, h, e2⟩ => ⟨t, by omega, e2⟩, fun ⟨t, h, e2⟩ => ⟨t, by
        by_cases et : t = k
        · subst et; omega
        · omega, e2⟩⟩
  · rw [repTo_snoc, h4]
    unfold repStep
    simp
theorem runTo_all {v : List (List Int)} {o : List Int} (hg : Gds v) (ho : OrdP o (wid v)) : ∀ k, k ≤ o.length → RunOk v o k (runTo v o k).1 (runTo v o k).2
  | 0, _ => by
    have hr : ∀ j, j < wid v → iget (List.replicate (wid v) (-1 : Int)) j = -1 := fun j hj => by simp [iget, List.getD, hj]
    have hz : ∀ i k : Nat, worth v (List.replicate (wid v) (-1)) i (k : Int) = 0 := fun i k => by
      unfold worth
      have : ∀ m, m ≤ wid v → worthUp v (List.replicate (wid v) (-1)) i (k : Int) m = 0 := by
        intro m
        induction m with
        | zero => intro _; rfl
        | succ m ih => intro hm; rw [worthUp, ih (by omega), hr m (by omega), if_neg (by omega)]; rfl
      rw [List.length_replicate]; exact this _ (Nat.le_refl _)
    refine ⟨⟨by simp [runTo], fun j hj => ?_⟩, fun i k hi hk hc => ?_, fun j hj => ?_, rfl, fun m hm => by simp [runTo] at hm, by simp [runTo]⟩
    · have hj' : j < wid v := by simpa [runTo] using hj
      have e := hr j hj'
      show -1 ≤ iget (List.replicate (wid v) (-1 : Int)) j ∧ iget (List.replicate (wid v) (-1 : Int)) j < v.length
      omega
    · have hc' : cP v (List.replicate (wid v) (-1)) i k = true := hc
      rw [cP_true, hz, hz] at hc'; omega
    · show 0 ≤ iget (List.replicate (wid v) (-1 : Int)) j ↔ _
      rw [hr j hj]
      exact ⟨fun h => by omega, fun ⟨t, h, _⟩ => by omega⟩
  | k + 1, hk => by
    have ih := runTo_all hg ho k (by omega)
    obtain ⟨A, S, e⟩ : ∃ A S, runTo v o k = (A, S) := ⟨_, _, rfl⟩
    rw [e] at ih
    simp only at ih
    by_cases hf : freeI v A < 0
    · obtain ⟨hs, hf2⟩ := free_pass hg.1 ih.alc hf
      obtain ⟨hl, _⟩ := topG_circ (v := v) (a := A) hg.1
      have e2 : runTo v o (k + 1) = ((passL A (topG v A)).set (iget o k).toNat (freeI v (passL A (topG v A))), (S ++ [(topG v A, -1, -1)]) ++ [([], freeI v (passL A (topG v A)), iget o k)]) := by
        rw [runTo, runStep, e, runS1]
        simp only [if_pos hf]
      rw [e2]
      refine runOk_give hg ho (by omega) ⟨by rw [passL_len]; exact ih.alc.1, passL_ok hl ih.alc.2⟩ (efx_pass hg.1 ih.alc ih.efx) (fun j hj => ?_) ?_ (stp_snoc ih.stp (.inr ⟨hs, hl, rfl, rfl⟩)) (by rw [List.length_append, List.length_singleton]; have := ih.few; omega) hf2
      · rw [← ih.has j hj]
        have hjl : j < A.length := by rw [ih.alc.1]; exact hj
        rw [passL_get hjl]
        have hr := ih.alc.2 j hjl
        by_cases h0 : 0 ≤ iget A j
        · obtain ⟨x, hx⟩ : ∃ x : Nat, iget A j = x := ⟨(iget A j).toNat, by omega⟩
          obtain ⟨y, hy, e1, _⟩ := lastP_to hl (k := x) (by omega)
          rw [hx, e1]
          exact ⟨fun _ => by omega, fun _ => by omega⟩
        · have hneg : lastP (topG v A) (iget A j) (topG v A).length = iget A j := by
            rcases lastP_spec (topG v A) (iget A j) (topG v A).length with ⟨h3, _⟩ | ⟨m, h3, _, h5⟩
            · exact h3
            · have := hl.at' ((m + 1) % (topG v A).length) (Nat.mod_lt _ (by omega)); omega
          rw [hneg]
      · rw [repTo_snoc, ih.rep]
        unfold repStep
        rw [if_neg hs]
    · have e2 : runTo v o (k + 1) = (A.set (iget o k).toNat (freeI v A), S ++ [([], freeI v A, iget o k)]) := by
        rw [runTo, runStep, e, runS1]
        simp only [if_neg hf]
      rw [e2]
      exact runOk_give hg ho (by omega) ih.alc ih.efx ih.has ih.rep ih.stp (by have := ih.few; omega) (by omega)
end Go.Proofs.YtmcncflieoolmaaGreat

/- Picking chores in rounds: without the last one that it took itself nobody envies anyone; plain, no program. -/
namespace Go.Proofs.YtmcncflieoolmaaGreat
set_option linter.unusedVariables false
set_option linter.unusedSimpArgs false
/-- What turn t takes; what that costs i. -/
def cX (v : List (List Int)) (ts : List Int) (t : Nat) : Int := cpick (rget v (iget ts t).toNat) (cpA v ts t)
def cV (v : List (List Int)) (ts : List Int) (i t : Nat) : Int := if 0 ≤ cX v ts t then iget (rget v i) (cX v ts t).toNat else 0
/-- What k takes before turn m costs i. -/
def cS (v : List (List Int)) (ts : List Int) (i : Nat) (k : Int) : Nat → Int
  | 0 => 0
  | m + 1 => cS v ts i k m + (if iget ts m = k then cV v ts i m else 0)
/-- The last chore that i took before turn m. -/
def lastC (v : List (List Int)) (ts : List Int) (i : Nat) : Nat → Int
  | 0 => -1
  | m + 1 => if iget ts m = (i : Int) ∧ 0 ≤ cX v ts m then cX v ts m else lastC v ts i m
section
variable {v : List (List Int)} {ts : List Int}
theorem cX_range (t : Nat) : -1 ≤ cX v ts t ∧ cX v ts t < wid v := by
  have := cpick_range (rget v (iget ts t).toNat) (cpA v ts t)
  rw [cpA_len] at this
  exact this
theorem cpA_succ (t : Nat) : cpA v ts (t + 1) = if 0 ≤ cX v ts t then (cpA v ts t).set (cX v ts t).toNat (iget ts t) else cpA v ts t := rfl
theorem cX_is (t : Nat) : IsLeast (rget v (iget ts t).toNat) (freeP (cpA v ts t)) 0 (wid v) (cX v ts t) := by
  have := leastTo_is (rget v (iget ts t).toNat) (freeP (cpA v ts t)) (cpA v ts t).length
  rw [cpA_len] at this
  unfold cX cpick
  rw [cpA_len]; exact this
theorem cX_free {t : Nat} (h : 0 ≤ cX v ts t) : iget (cpA v ts t) (cX v ts t).toNat < 0 ∧ ∀ y, y < wid v → iget (cpA v ts t) y < 0 → iget (rget v (iget ts t).toNat) (cX v ts t).toNat ≤ iget (rget v (iget ts t).toNat) y := by
  rcases cX_is (v := v) (ts := ts) t with ⟨h1, _⟩ | ⟨m, h1, h2, h3, h4, h5⟩
  · omega
  · rw [h1, Int.toNat_natCast]
    unfold freeP at h4 h5
    rw [decide_eq_true_iff] at h4
    refine ⟨h4, fun y hy hf => ?_⟩
    have := h5 y (by omega) hy (by rw [decide_eq_true_iff]; exact hf)
    omega
theorem cX_some {t y : Nat} (hy : y < wid v) (hf : iget (cpA v ts t) y < 0) : 0 ≤ cX v ts t := by
  rcases cX_is (v := v) (ts := ts) t with ⟨_, h2⟩ | ⟨m, h1, _⟩
  · have := h2 y (by omega) hy
    unfold freeP at this
    rw [decide_eq_false_iff_not] at this
    exact absurd hf this
  · omega
structure CTurns (v : List (List Int)) (ts : List Int) : Prop where
  gds : Gds v
  turn : ∀ t, t < ts.length → 0 ≤ iget ts t ∧ iget ts t < v.length
theorem cpA_keep (h : CTurns v ts) {x s : Nat} (hx : x < wid v) (hs : 0 ≤ iget (cpA v ts s) x) : ∀ t, s ≤ t → t ≤ ts.length → iget (cpA v ts t) x = iget (cpA v ts s) x := by
  intro t
  induction t with
  | zero => intro h1 _; obtain rfl : s = 0 := by omega
            rfl
  | succ t ih =>
    intro h1 h2
    by_cases e : s = t + 1
    · rw [e]
    · have ih' := ih (by omega) (by omega)
      rw [cpA_succ]
      split
      · rename_i h0
        have hf := (cX_free h0).1
        have hr := cX_range (v := v) (ts := ts) t
        rw [iget_set (by rw [cpA_len]; omega), if_neg (fun e2 => by rw [e2, ih'] at hf; omega)]
        exact ih'
      · exact ih'
theorem cpA_free (h : CTurns v ts) {x s t : Nat} (hx : x < wid v) (hst : s ≤ t) (ht : t ≤ ts.length) (hf : iget (cpA v ts t) x < 0) : iget (cpA v ts s) x < 0 := by
  rcases Int.lt_or_le (iget (cpA v ts s) x) 0 with h0 | h0
  · exact h0
  · rw [cpA_keep h hx h0 t hst ht] at hf; omega
/-- Who picks first picks no worse. -/
theorem c_dom (h : CTurns v ts) {i s t : Nat} (hsi : iget ts s = (i : Int)) (hst : s ≤ t) (ht : t < ts.length) (h0 : 0 ≤ cX v ts t) : 0 ≤ cX v ts s ∧ iget (rget v i) (cX v ts s).toNat ≤ iget (rget v i) (cX v ts t).toNat := by
  have hr := cX_range (v := v) (ts := ts) t
  have hf := cpA_free h (x := (cX v ts t).toNat) (by omega) hst (by omega) (cX_free h0).1
  have hp := cX_some (v := v) (ts := ts) (t := s) (y := (cX v ts t).toNat) (by omega) hf
  refine ⟨hp, ?_⟩
  have := (cX_free hp).2 (cX v ts t).toNat (by omega) hf
  rw [hsi, Int.toNat_natCast] at this
  exact this
theorem cV_nonneg (h : Gds v) {i : Nat} (hi : i < v.length) (t : Nat) : 0 ≤ cV v ts i t := by
  unfold cV
  split
  · have := cX_range (v := v) (ts := ts) t
    exact (gds_bid h hi (by omega)).1
  · exact Int.le_refl _
theorem cS_mono (h : Gds v) {i : Nat} (hi : i < v.length) (k : Int) {m : Nat} : ∀ n, m ≤ n → cS v ts i k m ≤ cS v ts i k n
  | 0, hn => by obtain rfl : m = 0 := by omega
                exact Int.le_refl _
  | n + 1, hn => by
    by_cases e : m = n + 1
    · rw [e]; exact Int.le_refl _
    · have := cS_mono h hi k (m := m) n (by omega)
      have h2 := cV_nonneg (ts := ts) h hi n
      rw [cS]; split <;> omega
theorem cS_none {i : Nat} {k : Int} {m : Nat} : ∀ n, m ≤ n → (∀ a, m ≤ a → a < n → iget ts a ≠ k) → cS v ts i k n = cS v ts i k m
  | 0, hn, _ => by obtain rfl : m = 0 := by omega
                   rfl
  | n + 1, hn, h => by
    by_cases e : m = n + 1
    · rw [e]
    · rw [cS, if_neg (h n (by omega) (by omega)), cS_none n (by omega) (fun a h1 h2 => h a h1 (by omega)), Int.add_zero]
theorem cS_one (h : Gds v) {i : Nat} (hi : i < v.length) {k : Int} {s t m : Nat} (h1 : s ≤ t) (h2 : t < m) (hk : iget ts t = k) : cS v ts i k s + cV v ts i t ≤ cS v ts i k m := by
  have a := cS_mono (ts := ts) h hi k (m := s) t h1
  have b := cS_mono (ts := ts) h hi k (m := t + 1) m h2
  rw [cS, if_pos hk] at b
  omega
/-- What the bundles cost. -/
theorem worth_cp (h : CTurns v ts) {i : Nat} {k : Int} (hk : 0 ≤ k) : ∀ m, m ≤ ts.length → worth v (cpA v ts m) i k = cS v ts i k m ∧ ∀ x, x < wid v → -1 ≤ iget (cpA v ts m) x ∧ iget (cpA v ts m) x < v.length
  | 0, _ => by
    have hr : ∀ j, j < wid v → iget (List.replicate (wid v) (-1 : Int)) j = -1 := fun j hj => by simp [iget, List.getD, hj]
    have hz : ∀ m, m ≤ wid v → worthUp v (List.replicate (wid v) (-1)) i k m = 0 := by
      intro m
      induction m with
      | zero => intro _; rfl
      | succ m ih => intro hm; rw [worthUp, ih (by omega), hr m (by omega), if_neg (by omega)]; rfl
    refine ⟨?_, fun x hx => ?_⟩
    · show worth v (List.replicate (wid v) (-1)) i k = 0
      unfold worth
      rw [List.length_replicate]; exact hz _ (Nat.le_refl _)
    · show -1 ≤ iget (List.replicate (wid v) (-1 : Int)) x ∧ iget (List.replicate (wid v) (-1 : Int)) x < v.length
      rw [hr x hx]; omega
  | m + 1, hm => by
    obtain ⟨ih, ih2⟩ := worth_cp h hk m (by omega) (i := i)
    have ht := h.turn m (by omega)
    have hr := cX_range (v := v) (ts := ts) m
    rw [cpA_succ, cS]
    by_cases h0 : 0 ≤ cX v ts m
    · rw [if_pos h0]
      have hf := (cX_free h0).1
      have hf1 : iget (cpA v ts m) (cX v ts m).toNat = -1 := by have := ih2 (cX v ts m).toNat (by omega); omega
      refine ⟨?_, fun x hx => ?_⟩
      · rw [worth_set (by rw [cpA_len]; omega) hf1 hk, ih]
        unfold cV
        rw [if_pos h0]
      · rw [iget_set (by rw [cpA_len]; omega)]
        split
        · omega
        · exact ih2 x hx
    · rw [if_neg h0]
      refine ⟨?_, ih2⟩
      rw [ih]
      unfold cV
      rw [if_neg h0]
      split <;> simp
theorem cpA_alc (h : CTurns v ts) {m : Nat} (hm : m ≤ ts.length) : AlcOk v (cpA v ts m) :=
  ⟨cpA_len v ts m, fun j hj => (worth_cp h (i := 0) (k := 0) (Int.le_refl _) m hm).2 j (by rw [cpA_len] at hj; exact hj)⟩
end
/-- Rounds of a first round f. -/
structure CRounds (v : List (List Int)) (ts f : List Int) : Prop where
  ok : CTurns v ts
  isA : IsA f v.length
  rnd : ∀ t, t < ts.length → iget ts t = iget f (t % v.length)
section
variable {v : List (List Int)} {ts f : List Int}
theorem rnd_same (h : CRounds v ts f) {s t : Nat} (hs : s < ts.length) (ht : t < ts.length) (e : iget ts s = iget ts t) : s % v.length = t % v.length := by
  have hn : 0 < v.length := h.ok.gds.1
  rw [h.rnd s hs, h.rnd t ht] at e
  exact isA_inj h.isA (Nat.mod_lt _ hn) (Nat.mod_lt _ hn) e
/-- Before its turn one has no more than another one, as one sees it. -/
theorem c_before (h : CRounds v ts f) {i k : Nat} (hi : i < v.length) (hk : k < v.length) (hik : k ≠ i) : ∀ t, t < ts.length → iget ts t = (i : Int) → 0 ≤ cX v ts t → cS v ts i (i : Int) t ≤ cS v ts i (k : Int) t := by
  have hn : 0 < v.length := h.ok.gds.1
  intro t
  induction t using Nat.strongRecOn with
  | ind t ih =>
    intro ht hti h0
    by_cases hlt : t < v.length
    · have : cS v ts i (i : Int) t = 0 := by
        have := cS_none (v := v) (ts := ts) (i := i) (k := (i : Int)) (m := 0) t (by omega) (fun a _ h2 e => by
          have := rnd_same h (s := a) (t := t) (by omega) ht (by rw [e, hti])
          rw [Nat.mod_eq_of_lt (by omega), Nat.mod_eq_of_lt hlt] at this
          omega)
        exact this
      have h2 := cS_mono (ts := ts) h.ok.gds hi (k : Int) (m := 0) t (by omega)
      have e0 : cS v ts i (k : Int) 0 = 0 := rfl
      omega
    · obtain ⟨s, rfl⟩ : ∃ s, t = s + v.length := ⟨t - v.length, by omega⟩
      have hmod : (s + v.length) % v.length = s % v.length := by rw [Nat.add_mod_right]
      have hsi : iget ts s = (i : Int) := by rw [h.rnd s (by omega), ← hmod, ← h.rnd _ ht]; exact hti
      obtain ⟨hs0, _⟩ := c_dom h.ok hsi (by omega : s ≤ s + v.length) ht h0
      have ih' := ih s (by omega) (by omega) hsi hs0
      have e1 : cS v ts i (i : Int) (s + v.length) = cS v ts i (i : Int) s + cV v ts i s := by
        rw [cS_none (m := s + 1) (s + v.length) (by omega) (fun a h1 h2 e => by
          have := rnd_same h (s := a) (t := s) (by omega) (by omega) (by rw [e, hsi])
          have d1 := Nat.div_add_mod a v.length
          have d2 := Nat.div_add_mod s v.length
          rw [this] at d1
          have : v.length * (a / v.length) = v.length * (s / v.length) + (a - s) := by omega
          have h3 : 0 < a - s := by omega
          have h4 : a - s < v.length := by omega
          rcases Nat.lt_or_ge (s / v.length) (a / v.length) with h5 | h5
          · have := Nat.mul_le_mul_left v.length (show s / v.length + 1 ≤ a / v.length from h5)
            rw [Nat.mul_add, Nat.mul_one] at this
            omega
          · have := Nat.mul_le_mul_left v.length h5
            omega), cS, if_pos hsi]
      -- k's turn between
      obtain ⟨j, hj, ej⟩ := (isA_per h.isA).surj hk
      have hj0 := (isA_lt h.isA j hj).1
      have ejk : iget f j = (k : Int) := by simp only [itm] at ej; omega
      obtain ⟨u, hu1, hu2, hum⟩ : ∃ u, s < u ∧ u < s + v.length ∧ u % v.length = j := by
        have hsm := Nat.mod_lt s hn
        have hne : j ≠ s % v.length := fun e => by
          rw [h.rnd s (by omega), ← e, ejk] at hsi
          omega
        have d2 := Nat.div_add_mod s v.length
        by_cases hjs : s % v.length < j
        · refine ⟨s - s % v.length + j, by omega, by omega, ?_⟩
          have : s - s % v.length = v.length * (s / v.length) := by omega
          rw [this, Nat.mul_add_mod, Nat.mod_eq_of_lt hj]
        · refine ⟨s - s % v.length + v.length + j, by omega, by omega, ?_⟩
          have : s - s % v.length + v.length = v.length * (s / v.length + 1) := by rw [Nat.mul_add, Nat.mul_one]; omega
          rw [this, Nat.mul_add_mod, Nat.mod_eq_of_lt hj]
      have huk : iget ts u = (k : Int) := by rw [h.rnd u (by omega), hum, ejk]
      have hu0 : 0 ≤ cX v ts u := by
        have hr := cX_range (v := v) (ts := ts) (s + v.length)
        exact cX_some (y := (cX v ts (s + v.length)).toNat) (by omega) (cpA_free h.ok (by omega) (by omega : u ≤ s + v.length) (by omega) (cX_free h0).1)
      obtain ⟨_, hd⟩ := c_dom h.ok hsi (by omega : s ≤ u) (by omega) hu0
      have h6 := cS_one (ts := ts) h.ok.gds hi (k := (k : Int)) (s := s) (t := u) (m := s + v.length) (by omega) hu2 huk
      have e2 : cV v ts i s = iget (rget v i) (cX v ts s).toNat := by unfold cV; rw [if_pos hs0]
      have e3 : cV v ts i u = iget (rget v i) (cX v ts u).toNat := by unfold cV; rw [if_pos hu0]
      omega
theorem lastC_spec {i : Nat} : ∀ m, (lastC v ts i m = -1 ∧ ∀ t, t < m → iget ts t = (i : Int) → ¬ 0 ≤ cX v ts t) ∨ ∃ t, t < m ∧ iget ts t = (i : Int) ∧ 0 ≤ cX v ts t ∧ lastC v ts i m = cX v ts t ∧ ∀ s, t < s → s < m → iget ts s = (i : Int) → ¬ 0 ≤ cX v ts s
  | 0 => .inl ⟨rfl, fun t h => by omega⟩
  | m + 1 => by
    rw [lastC]
    by_cases hc : iget ts m = (i : Int) ∧ 0 ≤ cX v ts m
    · rw [if_pos hc]
      exact .inr ⟨m, by omega, hc.1, hc.2, rfl, fun s h1 h2 => by omega⟩
    · rw [if_neg hc]
      rcases lastC_spec (i := i) m with ⟨h1, h2⟩ | ⟨t, h1, h2, h3, h4, h5⟩
      · exact .inl ⟨h1, fun t ht e h0 => by
          by_cases et : t = m
          · subst et; exact hc ⟨e, h0⟩
          · exact h2 t (by omega) e h0⟩
      · exact .inr ⟨t, by omega, h2, h3, h4, fun s h6 h7 e h0 => by
          by_cases es : s = m
          · subst es; exact hc ⟨e, h0⟩
          · exact h5 s h6 (by omega) e h0⟩
theorem cS_rest {i : Nat} {m : Nat} : ∀ n, m ≤ n → (∀ a, m ≤ a → a < n → iget ts a = (i : Int) → ¬ 0 ≤ cX v ts a) → cS v ts i (i : Int) n = cS v ts i (i : Int) m
  | 0, hn, _ => by obtain rfl : m = 0 := by omega
                   rfl
  | n + 1, hn, h => by
    by_cases e : m = n + 1
    · rw [e]
    · rw [cS, cS_rest n (by omega) (fun a h1 h2 => h a h1 (by omega))]
      by_cases ei : iget ts n = (i : Int)
      · rw [if_pos ei]
        unfold cV
        rw [if_neg (h n (by omega) (by omega) ei), Int.add_zero]
      · rw [if_neg ei, Int.add_zero]
/-- The last chore of i lies with i; without it i has what it had before. -/
theorem c_last (h : CRounds v ts f) {i : Nat} (hi : i < v.length) : lastC v ts i ts.length < wid v ∧ -1 ≤ lastC v ts i ts.length ∧
    ((lastC v ts i ts.length = -1 ∧ worth v (cpA v ts ts.length) i (i : Int) = 0) ∨ (0 ≤ lastC v ts i ts.length ∧ iget (cpA v ts ts.length) (lastC v ts i ts.length).toNat = (i : Int) ∧
      ∀ k, k < v.length → worth v (cpA v ts ts.length) i (i : Int) - iget (rget v i) (lastC v ts i ts.length).toNat ≤ worth v (cpA v ts ts.length) i (k : Int))) := by
  have hw := fun (k : Nat) => (worth_cp h.ok (i := i) (k := (k : Int)) (by omega) ts.length (Nat.le_refl _)).1
  rcases lastC_spec (v := v) (ts := ts) (i := i) ts.length with ⟨h1, h2⟩ | ⟨t, h1, h2, h3, h4, h5⟩
  · rw [h1]
    refine ⟨by omega, by omega, .inl ⟨rfl, ?_⟩⟩
    rw [hw, cS_rest (m := 0) ts.length (by omega) (fun a _ h4 => h2 a h4)]
    rfl
  · have hr := cX_range (v := v) (ts := ts) t
    rw [h4]
    refine ⟨hr.2, hr.1, .inr ⟨h3, ?_, fun k hk => ?_⟩⟩
    · have e1 : iget (cpA v ts (t + 1)) (cX v ts t).toNat = (i : Int) := by
        rw [cpA_succ, if_pos h3, iget_set (by rw [cpA_len]; omega), if_pos rfl, h2]
      rw [cpA_keep h.ok (x := (cX v ts t).toNat) (s := t + 1) (by omega) (by rw [e1]; omega) ts.length (by omega) (Nat.le_refl _), e1]
    · rw [hw, hw, cS_rest (m := t + 1) ts.length (by omega) (fun a h6 h7 => h5 a (by omega) h7), cS, if_pos h2]
      have e2 : cV v ts i t = iget (rget v i) (cX v ts t).toNat := by unfold cV; rw [if_pos h3]
      have e3 := cS_mono (ts := ts) h.ok.gds hi (k : Int) (m := t) ts.length (by omega)
      by_cases hki : k = i
      · subst hki; omega
      · have := c_before h hi hk hki t h1 h2 h3
        omega
theorem c_efx (h : CRounds v ts f) : EFX v (cpA v ts ts.length) := by
  intro i k hi hk hc
  rw [cP_true] at hc
  have hw0 : 0 ≤ worth v (cpA v ts ts.length) i (k : Int) := (worth_in h.ok.gds (cpA_alc h.ok (Nat.le_refl _)) hi (k : Int)).1
  obtain ⟨h0, _, ⟨h1, h2⟩ | ⟨h1, h2, h3⟩⟩ := c_last h hi
  · omega
  · refine ⟨(lastC v ts i ts.length).toNat, by rw [cpA_len]; omega, ?_⟩
    rw [oneP_true]
    have := h3 k hk
    exact ⟨h2, by omega⟩
end
end Go.Proofs.YtmcncflieoolmaaGreat
