/- Dividing chores in rounds, in plain words: passing along a circle is passing by an order; the state after k chores; no program. -/
import Derived.Test.YtmcncflieoolmaaGreatTopTopGoodsm17
import Derived.Test.YtmcncflieoolmaaGreatTopTopGoodsm18
import Derived.Test.YtmcncflieoolmaaGreatTopTopGoodsm15
import Derived.Test.YtmcncflieoolmaaGreatTopTopGoodsm1
import Derived.Test.YtmcncflieoolmaaGreatTopTopGoodsm2
import Derived.Test.YtmcncflieoolmaaGreatTopTopGoodsm9
import Derived.BigQuiet
import Derived.Deep.AppendLies
/- Dividing chores in rounds, in plain words: passing along a circle is passing by an order; the state after k chores; no program. -/
namespace Go.Proofs.YtmcncflieoolmaaGreat
set_option linter.unusedVariables false
set_option linter.unusedSimpArgs false
/-- A list of agents, each at most once. -/
structure CircOk (l : List Int) (n : Nat) : Prop where
  at' : ∀ j, j < l.length → 0 ≤ iget l j ∧ iget l j < n
  inj : ∀ i j, i < j → j < l.length → iget l i ≠ iget l j
theorem CircOk.eq {l : List Int} {n : Nat} (h : CircOk l n) {i j : Nat} (hi : i < l.length) (hj : j < l.length) (e : iget l i = iget l j) : i = j := by
  rcases Nat.lt_trichotomy i j with h1 | h1 | h1
  · exact absurd e (h.inj i j h1 hj)
  · exact h1
  · exact absurd e.symm (h.inj j i h1 hi)
def idL (n : Nat) : List Int := (List.range n).map fun (k : Nat) => Int.ofNat k
theorem idL_len (n : Nat) : (idL n).length = n := by simp [idL]
theorem idL_get {n k : Nat} (h : k < n) : iget (idL n) k = (k : Int) := by simp [idL, iget, h]
theorem idL_snoc (n : Nat) : idL (n + 1) = idL n ++ [(n : Int)] := by unfold idL; rw [List.range_succ, List.map_append]; rfl
/-- To whom each one's bundle goes: along the circle, its first m. -/
def toN (l : List Int) (n : Nat) : Nat → List Int
  | 0 => idL n
  | m + 1 => (toN l n m).set (iget l m).toNat (iget l ((m + 1) % l.length))
theorem toN_len (l : List Int) (n : Nat) : ∀ m, (toN l n m).length = n
  | 0 => idL_len n
  | m + 1 => by rw [toN, List.length_set, toN_len l n m]
theorem toN_get {l : List Int} {n k : Nat} (h : CircOk l n) (hk : k < n) : ∀ m, m ≤ l.length →
    (∀ j, j < m → iget l j = (k : Int) → iget (toN l n m) k = iget l ((j + 1) % l.length)) ∧ ((∀ j, j < m → iget l j ≠ (k : Int)) → iget (toN l n m) k = (k : Int))
  | 0, _ => ⟨fun j hj => by omega, fun _ => idL_get hk⟩
  | m + 1, hm => by
    obtain ⟨h1, h2⟩ := toN_get h hk m (by omega)
    have h3 := h.at' m (by omega)
    rw [toN, iget_set (by rw [toN_len]; omega)]
    by_cases e : (iget l m).toNat = k
    · rw [if_pos e]
      have em : iget l m = (k : Int) := by omega
      refine ⟨fun j hj hjk => ?_, fun hn => absurd em (hn m (by omega))⟩
      have := h.eq (i := j) (j := m) (by omega) (by omega) (by rw [hjk, em])
      subst this; rfl
    · rw [if_neg e]
      refine ⟨fun j hj hjk => ?_, fun hn => h2 (fun j hj => hn j (by omega))⟩
      by_cases ej : j = m
      · subst ej; exact absurd (by omega) e
      · exact h1 j (by omega) hjk
def toL (l : List Int) (n : Nat) : List Int := toN l n l.length
theorem toL_on {l : List Int} {n j : Nat} (h : CircOk l n) (hj : j < l.length) : iget (toL l n) (iget l j).toNat = iget l ((j + 1) % l.length) := by
  have h3 := h.at' j hj
  exact (toN_get h (k := (iget l j).toNat) (by omega) l.length (Nat.le_refl _)).1 j hj (by omega)
theorem toL_off {l : List Int} {n k : Nat} (h : CircOk l n) (hk : k < n) (hn : ∀ j, j < l.length → iget l j ≠ (k : Int)) : iget (toL l n) k = (k : Int) :=
  (toN_get h hk l.length (Nat.le_refl _)).2 hn
theorem mod_shift {L j : Nat} (hj : j < L) : ∃ m, m < L ∧ (m + 1) % L = j := by
  by_cases h0 : j = 0
  · exact ⟨L - 1, by omega, by rw [show L - 1 + 1 = L by omega, Nat.mod_self, h0]⟩
  · exact ⟨j - 1, by omega, by rw [show j - 1 + 1 = j by omega, Nat.mod_eq_of_lt hj]⟩
theorem shift_inj {L i j : Nat} (hi : i < L) (hj : j < L) (e : (i + 1) % L = (j + 1) % L) : i = j := by
  by_cases h1 : i + 1 = L <;> by_cases h2 : j + 1 = L
  · omega
  · rw [h1, Nat.mod_self, Nat.mod_eq_of_lt (by omega)] at e; omega
  · rw [h2, Nat.mod_self, Nat.mod_eq_of_lt (by omega)] at e; omega
  · rw [Nat.mod_eq_of_lt (by omega), Nat.mod_eq_of_lt (by omega)] at e; omega
theorem toL_isA {l : List Int} {n : Nat} (h : CircOk l n) : IsA (toL l n) n := by
  have hlt : ∀ k, k < n → (0 ≤ iget (toL l n) k ∧ iget (toL l n) k < n) ∧ ((∃ j, j < l.length ∧ iget l j = (k : Int) ∧ iget (toL l n) k = iget l ((j + 1) % l.length)) ∨ ((∀ j, j < l.length → iget l j ≠ (k : Int)) ∧ iget (toL l n) k = (k : Int))) := by
    intro k hk
    by_cases hc : ∃ j, j < l.length ∧ iget l j = (k : Int)
    · obtain ⟨j, hj, e⟩ := hc
      have := toL_on h hj
      rw [e, Int.toNat_natCast] at this
      have h2 := h.at' ((j + 1) % l.length) (Nat.mod_lt _ (by omega))
      exact ⟨by rw [this]; exact h2, .inl ⟨j, hj, e, this⟩⟩
    · have hn : ∀ j, j < l.length → iget l j ≠ (k : Int) := fun j hj e => hc ⟨j, hj, e⟩
      have := toL_off h hk hn
      exact ⟨by rw [this]; omega, .inr ⟨hn, this⟩⟩
  refine isA_of (toN_len l n _) (fun i hi => (hlt i hi).1.1) ⟨fun i hi => by have := (hlt i hi).1; simp only [itm]; omega, fun i j hi hj e => ?_⟩
  obtain ⟨a1, a2⟩ := hlt i hi
  obtain ⟨b1, b2⟩ := hlt j hj
  have e' : iget (toL l n) i = iget (toL l n) j := by
    have x1 := a1.1
    have x2 := b1.1
    simp only [itm] at e
    clear a1 a2 b1 b2
    generalize iget (toL l n) i = u at *
    generalize iget (toL l n) j = u' at *
    omega
  rcases a2 with ⟨x, hx, ex, ax⟩ | ⟨hx, ax⟩ <;> rcases b2 with ⟨y, hy, ey, by'⟩ | ⟨hy, by'⟩
  · rw [ax, by'] at e'
    have := h.eq (Nat.mod_lt _ (by omega)) (Nat.mod_lt _ (by omega)) e'
    have := shift_inj hx hy this
    subst this; omega
  · rw [ax, by'] at e'
    exact absurd e' (hy _ (Nat.mod_lt _ (by omega)))
  · rw [ax, by'] at e'
    exact absurd e'.symm (hx _ (Nat.mod_lt _ (by omega)))
  · rw [ax, by'] at e'; omega
theorem lastP_spec (l : List Int) (x : Int) : ∀ m, (lastP l x m = x ∧ ∀ j, j < m → x ≠ iget l ((j + 1) % l.length)) ∨ ∃ j, j < m ∧ lastP l x m = iget l j ∧ x = iget l ((j + 1) % l.length)
  | 0 => .inl ⟨rfl, fun j h => by omega⟩
  | m + 1 => by
    rw [lastP]
    by_cases e : x = iget l ((m + 1) % l.length)
    · rw [if_pos e]; exact .inr ⟨m, by omega, rfl, e⟩
    · rw [if_neg e]
      rcases lastP_spec l x m with ⟨h1, h2⟩ | ⟨j, h1, h2, h3⟩
      · exact .inl ⟨h1, snoc_all' h2 e⟩
      · exact .inr ⟨j, by omega, h2, h3⟩
theorem lastP_to {l : List Int} {n k : Nat} (h : CircOk l n) (hk : k < n) : ∃ y : Nat, y < n ∧ lastP l (k : Int) l.length = (y : Int) ∧ iget (toL l n) y = (k : Int) := by
  rcases lastP_spec l (k : Int) l.length with ⟨h1, h2⟩ | ⟨j, h1, h2, h3⟩
  · refine ⟨k, hk, h1, toL_off h hk fun j hj e => ?_⟩
    obtain ⟨m, hm, em⟩ := mod_shift hj
    exact h2 m hm (by rw [em, e])
  · have h4 := h.at' j h1
    refine ⟨(iget l j).toNat, by omega, by rw [h2]; omega, ?_⟩
    rw [toL_on h h1, ← h3]
/-- Passing along a circle. -/
theorem passG_passL {a l : List Int} {n : Nat} (h : CircOk l n) (ha : ∀ j, j < a.length → -1 ≤ iget a j ∧ iget a j < n) : passG a (toL l n) = passL a l := by
  unfold passG passL
  refine List.map_congr_left fun x hx => ?_
  obtain ⟨j, hj, e⟩ := List.getElem_of_mem hx
  have h1 := ha j hj
  rw [iget_of hj, e] at h1
  by_cases h0 : 0 ≤ x
  · rw [if_pos h0]
    obtain ⟨k, rfl⟩ : ∃ k : Nat, x = k := ⟨x.toNat, by omega⟩
    have hA := toL_isA h
    obtain ⟨i, hi, e1, e2⟩ := isA_at hA (k := k) (by omega)
    obtain ⟨y, hy, e3, e4⟩ := lastP_to h (k := k) (by omega)
    rw [e2, e3]
    have := isA_inj hA hi hy (by rw [e1, e4])
    omega
  · rw [if_neg h0]
    rcases lastP_spec l x l.length with ⟨h3, _⟩ | ⟨j, h3, _, h5⟩
    · exact h3.symm
    · have := h.at' ((j + 1) % l.length) (Nat.mod_lt _ (by omega))
      omega
theorem passL_len (a l : List Int) : (passL a l).length = a.length := by simp [passL]
theorem passL_get {a l : List Int} {j : Nat} (h : j < a.length) : iget (passL a l) j = lastP l (iget a j) l.length := by simp [passL, iget, h]
theorem passL_ok {a l : List Int} {n : Nat} (h : CircOk l n) (ha : AllOk n a) : AllOk n (passL a l) := fun j hj => by
  rw [passL_len] at hj
  rw [passL_get hj]
  rcases lastP_spec l (iget a j) l.length with ⟨h3, _⟩ | ⟨i, h3, h4, _⟩
  · rw [h3]; exact ha j hj
  · rw [h4]; have := h.at' i h3; omega
theorem topL_circ {f : Nat → Nat} {n : Nat} (hf : ∀ x, x < n → f x < n) (h0 : 0 < n) : CircOk (topL f n) n ∧ (topL f n).length ≤ n := by
  obtain ⟨L, hL1, hLn, hP, ht⟩ := top_of_low hf h0
  rw [ht]
  by_cases h1 : L = 1
  · rw [if_pos h1]; exact ⟨⟨fun j hj => by simp at hj, fun i j _ hj => by simp at hj⟩, by simp⟩
  · rw [if_neg h1]
    obtain ⟨j, _, hj⟩ := lowIt_mem f (itN f (2 * n) 0) n
    have hm : lowIt f (itN f (2 * n) 0) n < n := by rw [hj]; exact itN_lt hf j _ (itN_lt hf _ 0 h0)
    refine ⟨⟨fun j hj => ?_, fun i j hij hj => ?_⟩, by rw [orb_len]; exact hLn⟩
    · rw [orb_len] at hj
      rw [orb_get hj]
      have := itN_lt hf j _ hm
      omega
    · rw [orb_len] at hj
      rw [orb_get hj, orb_get (by omega)]
      have := per_inj hP hij hj
      omega
theorem topG_circ {v : List (List Int)} {a : List Int} (h0 : 0 < v.length) : CircOk (topG v a) v.length ∧ (topG v a).length ≤ v.length := by
  have hlV := valsG_len v a
  refine topL_circ (fun y _ => ?_) h0
  have := bestF_lt (v := valsG v a) (i := y) (by omega)
  omega

theorem ordP_len {o : List Int} {m : Nat} (h : OrdP o (m : Int)) : o.length ≤ m :=
  pigeonC o.length m (fun j => (iget o j).toNat) (fun j hj => by have := h j hj; have := this.1; have := (h j hj).2.1; omega) (fun a b hab hb e => by
    have h1 := (h b hb).2.2 a hab
    have h2 := (h b hb).1
    have h3 := (h a (by omega)).1
    omega)
abbrev Stp := List Int × Int × Int
/-- After one more chore; after k. -/
noncomputable def runS1 (v : List (List Int)) (s : List Int × List Stp) : List Int × List Stp := if freeI v s.1 < 0 then (passL s.1 (topG v s.1), s.2 ++ [(topG v s.1, -1, -1)]) else s
noncomputable def runStep (v : List (List Int)) (s : List Int × List Stp) (g : Int) : List Int × List Stp :=
  ((runS1 v s).1.set g.toNat (freeI v (runS1 v s).1), (runS1 v s).2 ++ [([], freeI v (runS1 v s).1, g)])
noncomputable def runTo (v : List (List Int)) (o : List Int) : Nat → List Int × List Stp
  | 0 => (List.replicate (wid v) (-1), [])
  | k + 1 => runStep v (runTo v o k) (iget o k)
def runE (v : List (List Int)) (o : List Int) : Int := if chkG v = 0 then (if OrdP o (wid v) then 0 else 8) else chkG v
noncomputable def runA (v : List (List Int)) (o : List Int) : List Int := if runE v o = 0 then (runTo v o o.length).1 else []
noncomputable def runS (v : List (List Int)) (o : List Int) : List Stp := if runE v o = 0 then (runTo v o o.length).2 else []
theorem runS1_ok {v : List (List Int)} {s : List Int × List Stp} (h0 : 0 < v.length) (ha : AlcOk v s.1) : AlcOk v (runS1 v s).1 ∧ (runS1 v s).2.length ≤ s.2.length + 1 := by
  unfold runS1
  split
  · exact ⟨⟨by rw [passL_len]; exact ha.1, passL_ok (topG_circ h0).1 ha.2⟩, by simp⟩
  · exact ⟨ha, by omega⟩
theorem runStep_ok {v : List (List Int)} {s : List Int × List Stp} {g : Int} (h0 : 0 < v.length) (ha : AlcOk v s.1) (hg : 0 ≤ g ∧ g < wid v) : AlcOk v (runStep v s g).1 ∧ (runStep v s g).2.length ≤ s.2.length + 2 := by
  obtain ⟨h1, h2⟩ := runS1_ok (s := s) h0 ha
  refine ⟨⟨by unfold runStep; rw [List.length_set]; exact h1.1, fun j hj => ?_⟩, by unfold runStep; rw [List.length_append, List.length_singleton]; omega⟩
  unfold runStep at hj ⊢
  simp only [List.length_set] at hj
  rw [iget_set (by rw [h1.1]; omega)]
  split
  · exact firstN_range _ _
  · exact h1.2 j hj
theorem runTo_ok {v : List (List Int)} {o : List Int} (h0 : 0 < v.length) (ho : OrdP o (wid v)) : ∀ k, k ≤ o.length → AlcOk v (runTo v o k).1 ∧ (runTo v o k).2.length ≤ 2 * k
  | 0, _ => ⟨⟨by simp [runTo], fun j hj => by
      simp [runTo] at hj ⊢
      simp [iget, List.getD, hj]; omega⟩, by simp [runTo]⟩
  | k + 1, hk => by
    obtain ⟨h1, h2⟩ := runTo_ok h0 ho k (by omega)
    have hn := ho k (by omega)
    obtain ⟨h3, h4⟩ := runStep_ok (s := runTo v o k) (g := iget o k) h0 h1 ⟨hn.1, hn.2.1⟩
    exact ⟨h3, by rw [runTo]; omega⟩
end Go.Proofs.YtmcncflieoolmaaGreat

/- The top circle and the division in rounds, reckoned; plain, no program. -/
namespace Go.Proofs.YtmcncflieoolmaaGreat
set_option linter.unusedVariables false
set_option linter.unusedSimpArgs false
end Go.Proofs.YtmcncflieoolmaaGreat

/- Picking chores in turns: the first least one that is left; plain, no program. -/
namespace Go.Proofs.YtmcncflieoolmaaGreat
set_option linter.unusedVariables false
set_option linter.unusedSimpArgs false
/-- x is the first least of those from lo to hi that count, or -1. -/
def IsLeast (r : List Int) (P : Nat → Bool) (lo hi : Nat) (x : Int) : Prop :=
  (x = -1 ∧ ∀ y, lo ≤ y → y < hi → P y = false) ∨ ∃ m : Nat, x = m ∧ lo ≤ m ∧ m < hi ∧ P m = true ∧ ∀ y, lo ≤ y → y < hi → P y = true → iget r m < iget r y ∨ (iget r m = iget r y ∧ m ≤ y)
theorem leastTo_is (r : List Int) (P : Nat → Bool) : ∀ k, IsLeast r P 0 k (leastTo r P k)
  | 0 => .inl ⟨rfl, fun y _ h => by omega⟩
  | k + 1 => by
    have ih := leastTo_is r P k
    rw [leastTo]
    by_cases hc : P k = true ∧ (leastTo r P k < 0 ∨ iget r k < iget r (leastTo r P k).toNat)
    · rw [if_pos hc]
      refine .inr ⟨k, rfl, by omega, by omega, hc.1, fun y _ hy hP => ?_⟩
      by_cases e : y = k
      · subst e; right; exact ⟨rfl, Nat.le_refl _⟩
      · left
        rcases ih with ⟨h1, h2⟩ | ⟨m, h1, h2, h3, h4, h5⟩
        · rw [h2 y (by omega) (by omega)] at hP; cases hP
        · rw [h1, Int.toNat_natCast] at hc
          have hlt : iget r k < iget r m := by rcases hc.2 with h | h; omega; exact h
          have := h5 y (by omega) (by omega) hP
          omega
    · rw [if_neg hc]
      rcases ih with ⟨h1, h2⟩ | ⟨m, h1, h2, h3, h4, h5⟩
      · refine .inl ⟨h1, fun y _ hy => ?_⟩
        by_cases e : y = k
        · subst e
          cases hP : P y with
          | false => rfl
          | true => exact absurd ⟨hP, .inl (by omega)⟩ hc
        · exact h2 y (by omega) (by omega)
      · refine .inr ⟨m, h1, h2, by omega, h4, fun y _ hy hP => ?_⟩
        by_cases e : y = k
        · subst e
          rw [h1, Int.toNat_natCast] at hc
          have : ¬ iget r y < iget r m := fun h => hc ⟨hP, .inr h⟩
          omega
        · exact h5 y (by omega) (by omega) hP
def freeP (a : List Int) (j : Nat) : Bool := decide (iget a j < 0)
def cpick (r a : List Int) : Int := leastTo r (freeP a) a.length
theorem cpick_range (r a : List Int) : -1 ≤ cpick r a ∧ cpick r a < a.length := leastTo_range r (freeP a) a.length
/-- Who has what after one turn; after k turns; what was taken. -/
def cstep (v : List (List Int)) (a : List Int) (i : Int) : List Int := if 0 ≤ cpick (rget v i.toNat) a then a.set (cpick (rget v i.toNat) a).toNat i else a
def cpA (v : List (List Int)) (ts : List Int) : Nat → List Int
  | 0 => List.replicate (wid v) (-1)
  | k + 1 => cstep v (cpA v ts k) (iget ts k)
def cpT (v : List (List Int)) (ts : List Int) : Nat → List Int
  | 0 => []
  | k + 1 => cpT v ts k ++ [cpick (rget v (iget ts k).toNat) (cpA v ts k)]
theorem cstep_len (v : List (List Int)) (a : List Int) (i : Int) : (cstep v a i).length = a.length := by unfold cstep; split <;> simp
theorem cpA_len (v : List (List Int)) (ts : List Int) : ∀ k, (cpA v ts k).length = wid v
  | 0 => by simp [cpA]
  | k + 1 => by rw [cpA, cstep_len, cpA_len v ts k]
theorem cpT_len (v : List (List Int)) (ts : List Int) : ∀ k, (cpT v ts k).length = k
  | 0 => rfl
  | k + 1 => by rw [cpT, List.length_append, cpT_len v ts k]; rfl
def cpickL (v : List (List Int)) (ts : List Int) : List Int := if pickE v ts = 0 then cpA v ts ts.length else []
def cpickT (v : List (List Int)) (ts : List Int) : List Int := if pickE v ts = 0 then cpT v ts ts.length else []
end Go.Proofs.YtmcncflieoolmaaGreat

/- What the top circle brings: nobody of it envies afterwards; plain, no program. -/
namespace Go.Proofs.YtmcncflieoolmaaGreat
set_option linter.unusedVariables false
set_option linter.unusedSimpArgs false
theorem best_le {v : List (List Int)} {a : List Int} {i k : Nat} (hi : i < v.length) (hk : k < v.length) : worth v a i (bestF (valsG v a) i : Nat) ≤ worth v a i (k : Int) := by
  have hl := valsG_len v a
  have h0 : 0 < v.length := by omega
  have h1 := bestF_eq (v := valsG v a) (i := i) (by omega)
  have h2 := bestF_lt (v := valsG v a) (i := i) (by omega)
  have h3 := leastTo_is (rget (valsG v a) i) allP (valsG v a).length
  rw [h1] at h3
  rw [hl, valsG_row hi] at h3
  rw [hl] at h2
  rcases h3 with ⟨h4, _⟩ | ⟨m, h4, _, _, _, h5⟩
  · omega
  · have h6 := h5 k (by omega) hk rfl
    have e : bestF (valsG v a) i = m := by omega
    rw [e] at h2 ⊢
    rw [worthRow_get hk, worthRow_get h2] at h6
    rcases h6 with h6 | h6 <;> omega
theorem topG_facts {v : List (List Int)} {a : List Int} (h0 : 0 < v.length) :
    (topG v a).length ≠ 1 ∧ (∀ j, j < (topG v a).length → iget (topG v a) ((j + 1) % (topG v a).length) = (bestF (valsG v a) (iget (topG v a) j).toNat : Int)) ∧ ((topG v a).length = 0 → ∃ i, i < v.length ∧ bestF (valsG v a) i = i) := by
  have hl := valsG_len v a
  have hf : ∀ x, x < v.length → bestF (valsG v a) x < v.length := fun y _ => by have := bestF_lt (v := valsG v a) (i := y) (by omega); omega
  obtain ⟨L, hL1, hLn, hP, ht⟩ := top_of_low hf h0
  obtain ⟨j, hj, he⟩ := lowIt_mem (bestF (valsG v a)) (itN (bestF (valsG v a)) (2 * v.length) 0) v.length
  have hm : lowIt (bestF (valsG v a)) (itN (bestF (valsG v a)) (2 * v.length) 0) v.length < v.length := by rw [he]; exact itN_lt hf j _ (itN_lt hf _ 0 h0)
  unfold topG
  rw [ht]
  generalize lowIt (bestF (valsG v a)) (itN (bestF (valsG v a)) (2 * v.length) 0) v.length = m at *
  generalize bestF (valsG v a) = f at *
  by_cases h1 : L = 1
  · rw [if_pos h1]
    refine ⟨by simp, fun j h => by simp at h, fun _ => ⟨m, hm, ?_⟩⟩
    have := hP.2.1
    rw [h1] at this
    exact this
  · rw [if_neg h1]
    refine ⟨by rw [orb_len]; exact h1, fun j hj => ?_, fun h => by rw [orb_len] at h; omega⟩
    rw [orb_len] at hj ⊢
    rw [orb_get (Nat.mod_lt _ (by omega)), orb_get hj, Int.toNat_natCast, ← per_mod hP]
    rfl
theorem worth_pass {v : List (List Int)} {a l : List Int} {i k : Nat} (hl : CircOk l v.length) (ha : AllOk v.length a) (hk : k < v.length) : worth v (passL a l) i (k : Int) = worth v a i (iget (toL l v.length) k) := by
  have hA := toL_isA hl
  obtain ⟨t1, t2⟩ := isA_lt hA k hk
  have key : ∀ m, m < a.length → (iget (passL a l) m = (k : Int) ↔ iget a m = iget (toL l v.length) k) := by
    intro m hm
    have hr := ha m hm
    rw [passL_get hm]
    obtain ⟨x, hx⟩ : ∃ x, iget a m = x := ⟨_, rfl⟩
    rw [hx] at hr ⊢
    by_cases h0 : 0 ≤ x
    · obtain ⟨y, rfl⟩ : ∃ y : Nat, x = y := ⟨x.toNat, by omega⟩
      obtain ⟨z, hz, e1, e2⟩ := lastP_to hl (k := y) (by omega)
      rw [e1, ← e2]
      constructor
      · intro e; have : z = k := by omega
        subst this; rfl
      · intro e
        have := isA_inj hA hz hk e
        subst this; rfl
    · have hneg : lastP l x l.length = x := by
        rcases lastP_spec l x l.length with ⟨h3, _⟩ | ⟨j, h3, _, h5⟩
        · exact h3
        · have := hl.at' ((j + 1) % l.length) (Nat.mod_lt _ (by omega)); omega
      rw [hneg]
      constructor <;> intro e <;> omega
  unfold worth
  rw [passL_len]
  have : ∀ m, m ≤ a.length → worthUp v (passL a l) i (k : Int) m = worthUp v a i (iget (toL l v.length) k) m := by
    intro m
    induction m with
    | zero => intro _; rfl
    | succ m ih =>
      intro hm
      rw [worthUp, worthUp, ih (by omega)]
      by_cases e : iget (passL a l) m = (k : Int)
      · rw [if_pos e, if_pos ((key m (by omega)).1 e)]
      · rw [if_neg e, if_neg (fun h => e ((key m (by omega)).2 h))]
  exact this a.length (Nat.le_refl _)
/-- Nobody of the top circle envies after the passing. -/
theorem top_calm {v : List (List Int)} {a : List Int} (ha : AlcOk v a) (h0 : 0 < v.length) {j k : Nat} (hj : j < (topG v a).length) (hk : k < v.length) : cP v (passL a (topG v a)) (iget (topG v a) j).toNat k = false := by
  obtain ⟨hl, _⟩ := topG_circ (v := v) (a := a) h0
  obtain ⟨_, hn, _⟩ := topG_facts (v := v) (a := a) h0
  have hi := hl.at' j hj
  have hA := toL_isA hl
  obtain ⟨t1, t2⟩ := isA_lt hA k hk
  unfold cP
  rw [decide_eq_false_iff_not, worth_pass hl ha.2 (by omega : (iget (topG v a) j).toNat < v.length), worth_pass hl ha.2 hk, toL_on hl hj, hn j hj]
  have := best_le (v := v) (a := a) (i := (iget (topG v a) j).toNat) (k := itm (toL (topG v a) v.length) k) (by omega) t2
  have e : ((itm (toL (topG v a) v.length) k : Nat) : Int) = iget (toL (topG v a) v.length) k := by simp only [itm]; omega
  rw [e] at this
  omega
/-- If everyone envies there is a circle. -/
theorem top_some {v : List (List Int)} {a : List Int} (h0 : 0 < v.length) (h : ∀ i, i < v.length → ∃ k, k < v.length ∧ cP v a i k = true) : (topG v a).length ≠ 0 := by
  intro h1
  obtain ⟨i, hi, e⟩ := (topG_facts (v := v) (a := a) h0).2.2 h1
  obtain ⟨k, hk, hc⟩ := h i hi
  have := best_le (v := v) (a := a) hi hk
  rw [e] at this
  unfold cP at hc
  rw [decide_eq_true_iff] at hc
  omega
end Go.Proofs.YtmcncflieoolmaaGreat

/- Rows of steps (a row of ints, two ints) that a call itself makes: read, appended to, compared; no condition but sizes. -/
namespace Go.Proofs.YtmcncflieoolmaaGreat
set_option linter.unusedVariables false
set_option linter.unusedSimpArgs false
open Go.ChangeShapes Go.WideShapes Go.ChangeAt Go.RowKit Go.Deep

theorem infoStep : (Tryz.prog.info? 72).map (fun i => (i.zero, i.size, i.bytes)) = some (some (.agg #[.slice none 0 0, .int .i64 0, .int .i64 0]), 3, 40) := by kernel_rfl
def sget (xs : List (List Int × Int × Int)) (j : Nat) : List Int × Int × Int := xs.getD j ([], 0, 0)
/-- The cells of a list of steps whose rows lie at Q, with room D, from the k-th on. -/
def cellsS (Q : Nat → Option Addr) (D : Nat → Nat) : Nat → List (List Int × Int × Int) → List Value
  | _, [] => []
  | k, x :: xs => .slice (Q k) x.1.length (D k) :: .int .i64 x.2.1 :: .int .i64 x.2.2 :: cellsS Q D (k + 1) xs
theorem cellsS_append (Q : Nat → Option Addr) (D : Nat → Nat) : ∀ (xs ys : List (List Int × Int × Int)) (k : Nat), cellsS Q D k (xs ++ ys) = cellsS Q D k xs ++ cellsS Q D (k + xs.length) ys
  | [], ys, k => rfl
  | x :: xs, ys, k => by
    have := cellsS_append Q D xs ys (k + 1)
    simp only [List.cons_append, cellsS, this, List.length_cons]
    rw [show k + 1 + xs.length = k + (xs.length + 1) by omega]
theorem cellsS_congr (Q Q' : Nat → Option Addr) (D D' : Nat → Nat) : ∀ (xs : List (List Int × Int × Int)) (k : Nat), (∀ j, k ≤ j → j < k + xs.length → Q j = Q' j ∧ D j = D' j) → cellsS Q D k xs = cellsS Q' D' k xs
  | [], k, _ => rfl
  | x :: xs, k, h => by
    obtain ⟨h1, h2⟩ := h k (Nat.le_refl _) (by simp)
    simp only [cellsS, h1, h2]
    rw [cellsS_congr Q Q' D D' xs (k + 1) (fun j a b => h j (by omega) (by simp; omega))]
theorem cellsS_get (Q : Nat → Option Addr) (D : Nat → Nat) : ∀ (xs : List (List Int × Int × Int)) (k j : Nat), j < xs.length → (cellsS Q D k xs)[j * 3]? = some (.slice (Q (k + j)) (sget xs j).1.length (D (k + j))) ∧ (cellsS Q D k xs)[j * 3 + 1]? = some (.int .i64 (sget xs j).2.1) ∧ (cellsS Q D k xs)[j * 3 + 2]? = some (.int .i64 (sget xs j).2.2)
  | x :: xs, k, 0, _ => ⟨rfl, rfl, rfl⟩
  | x :: xs, k, j + 1, h => by
    have ih := cellsS_get Q D xs (k + 1) j (by simpa using h)
    have e : cellsS Q D k (x :: xs) = Value.slice (Q k) x.1.length (D k) :: Value.int .i64 x.2.1 :: Value.int .i64 x.2.2 :: cellsS Q D (k + 1) xs := rfl
    have e1 : (j + 1) * 3 = j * 3 + 1 + 1 + 1 := by omega
    have e2 : sget (x :: xs) (j + 1) = sget xs j := rfl
    rw [show k + 1 + j = k + (j + 1) by omega] at ih
    rw [e, e1, e2]
    exact ih
theorem sget_append (xs ys : List (List Int × Int × Int)) (j : Nat) : sget (xs ++ ys) j = if j < xs.length then sget xs j else sget ys (j - xs.length) := by
  simp only [sget, List.getD, List.getElem?_append]
  split <;> rfl

/-- The slice (p, xs.length, c) is a row of the call's own, and holds the steps xs, whose rows lie at Q. -/
structure OwnS (w : World) (base : Nat) (p : Option Addr) (c : Nat) (xs : List (List Int × Int × Int)) (Q : Nat → Option Addr) (D : Nat → Nat) : Prop where
  row : w.ownsRow base 72 3 (.slice p xs.length c) xs.length (cellsS Q D 0 xs)
  circ : ∀ j, j < xs.length → Ints w (Q j) (D j) (sget xs j).1
  sep : ∀ j, j < xs.length → 0 < (sget xs j).1.length → ∀ k, blk (Q j) = some k → blk p ≠ some k
section
variable {w : World} {base : Nat} {p : Option Addr} {c : Nat} {xs : List (List Int × Int × Int)} {Q : Nat → Option Addr} {D : Nat → Nat}
theorem OwnS.ofNil (w : World) (base : Nat) : OwnS w base none 0 [] Q D := ⟨World.ownsRow_nil w base _ _, fun j h => (by simp at h), fun j h => (by simp at h)⟩
theorem OwnS.lt (h : OwnS w base p c xs Q D) : ∀ k, blk p = some k → base ≤ k ∧ k < w.heap.size := fun k hk => h.row.lt k (by rw [ownBlock_slice]; exact hk)
theorem OwnS.lower {base' : Nat} (h : OwnS w base p c xs Q D) (hb : base' ≤ base) : OwnS w base' p c xs Q D := by
  refine ⟨⟨h.row.1, ?_⟩, h.circ, h.sep⟩
  rcases h.row.2 with h1 | ⟨g, cap, cur, h1, h2, r⟩
  · exact .inl h1
  · exact .inr ⟨g, cap, cur, h1, Nat.le_trans hb h2, r⟩
theorem OwnS.kept {w' : World} (h : OwnS w base p c xs Q D) {row : Option Nat} (hg : w.grownBy w' row) (hne : ∀ k, blk p = some k → row ≠ some k) (hq : ∀ j, j < xs.length → 0 < (sget xs j).1.length → ∀ k, blk (Q j) = some k → row ≠ some k) : OwnS w' base p c xs Q D :=
  ⟨h.row.kept hg (by
    rw [ownBlock_slice]
    cases hb : blk p with
    | none => exact .inl rfl
    | some k => exact .inr fun e => hne k hb e.symm),
   fun j hj => (h.circ j hj).keep hg.size fun a ha hl => by
     refine hg.block _ ((h.circ j hj).plain a ha (by have := (h.circ j hj).le; omega)).2 (fun e => hq j hj hl a.block (by rw [ha]; rfl) e.symm), h.sep⟩
theorem OwnS.below {w' : World} {B : Nat} (h : OwnS w base p c xs Q D) (hb : Below B w w') (hB : w.heap.size ≤ B) : OwnS w' base p c xs Q D :=
  h.kept (grownBy_of_below hb hB none) (fun _ _ h => by cases h) (fun _ _ _ _ _ h => by cases h)
theorem OwnS.drew {w' : World} (h : OwnS w base p c xs Q D) (hw : ∃ n, w' = w.drewN n) : OwnS w' base p c xs Q D := by
  obtain ⟨n, rfl⟩ := hw
  exact h.below (below_drewN w.heap.size w n) (Nat.le_refl _)
theorem OwnS.cap (h : OwnS w base p c xs Q D) : xs.length ≤ 9223372036854775807 := by
  rcases h.row.2 with ⟨_, h2⟩ | ⟨g, cap, cur, _, _, _, h4, h5, _, _⟩
  · omega
  · simp only [maxLen] at h5; omega
theorem OwnS.get (h : OwnS w base p c xs Q D) {j : Nat} (hj : j < xs.length) :
    ∃ g, p = some ⟨g, 0, none⟩ ∧ base ≤ g ∧ g < w.heap.size ∧ w.cell? ⟨g, j * 3, none⟩ = some (.slice (Q j) (sget xs j).1.length (D j)) ∧ w.cell? ⟨g, j * 3 + 1, none⟩ = some (.int .i64 (sget xs j).2.1) ∧ w.cell? ⟨g, j * 3 + 2, none⟩ = some (.int .i64 (sget xs j).2.2) ∧ Ints w (Q j) (D j) (sget xs j).1 := by
  obtain ⟨g, cap, hv, hb, hlt⟩ := h.row.form (by omega)
  simp only [Value.slice.injEq] at hv
  obtain ⟨rfl, _, rfl⟩ := hv
  obtain ⟨e1, e2, e3⟩ := cellsS_get Q D xs 0 j hj
  rw [Nat.zero_add] at e1
  exact ⟨g, rfl, hb, hlt, (h.row.cellAt (j * 3) (by omega)).trans e1, (h.row.cellAt (j * 3 + 1) (by omega)).trans e2, (h.row.cellAt (j * 3 + 2) (by omega)).trans e3, h.circ j hj⟩
end
theorem cellsS_snoc {xs : List (List Int × Int × Int)} {Q : Nat → Option Addr} {D : Nat → Nat} {q : Option Addr} {d : Nat} {r : List Int} {y z : Int} :
    cellsS (fun j => if j < xs.length then Q j else q) (fun j => if j < xs.length then D j else d) 0 (xs ++ [(r, y, z)]) = cellsS Q D 0 xs ++ [.slice q r.length d, .int .i64 y, .int .i64 z] := by
  rw [cellsS_append, Nat.zero_add]
  congr 1
  · exact cellsS_congr _ _ _ _ _ _ fun j _ hj => by
      have : j < xs.length := by omega
      simp [this]
  · simp [cellsS]
/-- 'append(s, Step{r, y, z})', the step laid in a new block. -/
theorem wpList_appS {w : World} {ops : Array Oper} {rest : List Oper} {o : Oper} {a : Act} {K : Exit → Act → World → Prop} (hgd : o.guard = none) (s x : Operand)
    (ho : o.op = .call { callee := .builtin .append, args := #[s, x], argTypes := #[37, 37] })
    (base : Nat) (p : Option Addr) (c : Nat) (xs : List (List Int × Int × Int)) (Q : Nat → Option Addr) (D : Nat → Nat) (q : Option Addr) (d m : Nat) (r : List Int) (hm : r.length = m) (y z : Int) (hs : a.eval s = .slice p xs.length c) {B : Nat} (hx : a.eval x = .slice (some ⟨B, 0, none⟩) 1 1) (hB : w.heap.size = B) (hown : OwnS w base p c xs Q D)
    (hr : Ints w q d r) (hsep : 0 < r.length → ∀ k, blk q = some k → blk p ≠ some k)
    (hsz : xs.length ≤ 900000) (hbase : base ≤ w.heap.size)
    (h : ∀ p' c' w' zs, Hid (zs = xs ++ [(r, y, z)]) → OwnS w' base p' c' zs (fun j => if j < xs.length then Q j else q) (fun j => if j < xs.length then D j else d) → w.grownBy w' (blk p) → Fresh w p p' → wpList Tryz.prog ops K rest (a.put o.dst (.slice p' zs.length c')) w') : wpList Tryz.prog ops K (o :: rest) a (w.alloc (.cells #[.slice q m d, .int .i64 y, .int .i64 z] 72)) := by
  subst hB hm
  refine wpList_appG (w := w.alloc (.cells #[.slice q r.length d, .int .i64 y, .int .i64 z] 72)) hgd s x 37 72 ho (.agg #[.slice none 0 0, .int .i64 0, .int .i64 0]) 3 40 Tryz.underlying37 infoStep (by kernel_rfl) (by decide) base p (some ⟨w.heap.size, 0, none⟩) xs.length 1 c 1 (cellsS Q D 0 xs) [.slice q r.length d, .int .i64 y, .int .i64 z] hs hx (hown.row.alloc _)
    (fun e => (by cases e)) rfl ?_ (by simp [Value.oneCell']) (by simp [maxLen]; omega) (by omega) (by simp; omega) ?_
  · rintro ad ⟨⟩ j u hu
    rw [add_plain, World.cell?_alloc_at _ _ _ _ rfl]
    simpa using hu
  · intro p' c' w' h2 h3 h4
    have hg : w.grownBy w' (blk p) := ⟨h3.os, h3.tape, h3.output, by have := h3.size; simp at this; omega, fun k hk hne => by
      rw [h3.block k (by simp; omega) hne]
      exact Below.heap_alloc _ _ _ hk⟩
    have hfr : Fresh w p p' := fun k hk => by
      rcases h4 k hk with h5 | h5
      · exact .inl h5
      · exact .inr (by simp at h5; omega)
    have hkeep : ∀ (q' : Option Addr) (d' : Nat) (ys : List Int), Ints w q' d' ys → (0 < ys.length → ∀ k, blk q' = some k → blk p ≠ some k) → Ints w' q' d' ys := by
      intro q' d' ys hi hne
      refine hi.keep hg.size fun ad had hd => ?_
      refine hg.block _ (hi.plain ad had (by have := hi.le; omega)).2 ?_
      intro e
      exact hne hd ad.block (by rw [had]; rfl) e.symm
    have hsep2 : ∀ (q' : Option Addr) (d' : Nat) (ys : List Int), Ints w q' d' ys → (0 < ys.length → ∀ k, blk q' = some k → blk p ≠ some k) → 0 < ys.length → ∀ k, blk q' = some k → blk p' ≠ some k := by
      intro q' d' ys hi hne hlen k hk hp
      rcases hfr k hp with h5 | h5
      · exact hne hlen k hk h5
      · obtain ⟨b, o, rfl, hb, _⟩ := hi.get hlen
        simp [blk] at hk
        omega
    have hget : ∀ j, j < (xs ++ [(r, y, z)]).length → (j < xs.length ∧ sget (xs ++ [(r, y, z)]) j = sget xs j) ∨ (¬ j < xs.length ∧ sget (xs ++ [(r, y, z)]) j = (r, y, z)) := by
      intro j hj
      rw [List.length_append, List.length_singleton] at hj
      rw [sget_append]
      by_cases hlt : j < xs.length
      · exact .inl ⟨hlt, by rw [if_pos hlt]⟩
      · exact .inr ⟨hlt, by rw [if_neg hlt, show j - xs.length = 0 by omega]; rfl⟩
    have := h p' c' w' (xs ++ [(r, y, z)]) rfl ⟨by rw [List.length_append, cellsS_snoc]; exact h2, ?_, ?_⟩ hg hfr
    · rw [List.length_append] at this
      exact this
    · intro j hj
      rcases hget j hj with ⟨hlt, e⟩ | ⟨hlt, e⟩ <;> rw [e] <;> simp only [hlt, if_true, if_false]
      · exact hkeep _ _ _ (hown.circ j hlt) (hown.sep j hlt)
      · exact hkeep _ _ _ hr hsep
    · intro j hj
      rcases hget j hj with ⟨hlt, e⟩ | ⟨hlt, e⟩ <;> rw [e] <;> simp only [hlt, if_true, if_false]
      · exact hsep2 _ _ _ (hown.circ j hlt) (hown.sep j hlt)
      · exact hsep2 _ _ _ hr hsep
/-- A row of ints and a row of steps of the call's own, and an error. -/
def GivesLS (w : World) (xs : List Int) (ss : List (List Int × Int × Int)) (k : Int) (e : Ending) (w' : World) : Prop :=
  ∃ p c q d Q D, e = .returned (.tuple #[.slice p xs.length c, .slice q ss.length d, .int .i64 k]) ∧ Own w' w.heap.size p c xs ∧ OwnS w' w.heap.size q d ss Q D ∧ Below w.heap.size w w'
end Go.Proofs.YtmcncflieoolmaaGreat
