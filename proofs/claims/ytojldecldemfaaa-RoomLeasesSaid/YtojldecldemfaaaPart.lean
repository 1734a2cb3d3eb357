/- Lists that give each agent but one an item of its own, in their order, and the best of them; plain, no program. -/
import Derived.Test.YtojldecldemfaaaLinkP
namespace Go.Proofs.Ytojldecldemfaaa
set_option linter.unusedVariables false
set_option linter.unusedSimpArgs false

/-- The first i entries fit: -1 at the agent that is left out, else a number below n, no number twice. -/
def PartTo (n : Nat) (sk : Int) (x : List Int) (i : Nat) : Prop :=
  ∀ k, k < i → ((k : Int) = sk → iget x k = -1) ∧ ((k : Int) ≠ sk → 0 ≤ iget x k ∧ iget x k < n ∧ ∀ l, l < k → (l : Int) ≠ sk → iget x l ≠ iget x k)
/-- x gives each agent but sk an item of its own. -/
def Part (n : Nat) (sk : Int) (x : List Int) : Prop := x.length = n ∧ PartTo n sk x n
/-- The value of the first i entries. -/
def pvTo (v : List (List Int)) (sk : Int) (x : List Int) (i : Nat) : Int := sumTo (fun k => if (k : Int) = sk then 0 else bid v k (itm x k)) i
def pv (v : List (List Int)) (sk : Int) (x : List Int) : Int := pvTo v sk x v.length
/-- The lists that begin with pre. -/
def Comp (n : Nat) (sk : Int) (pre : List Int) (x : List Int) : Prop := Part n sk x ∧ ∀ k, k < pre.length → iget x k = iget pre k

theorem ints_ext {xs ys : List Int} (h : ∀ j, j < xs.length → iget xs j = iget ys j) (hl : xs.length = ys.length) : xs = ys := by
  apply List.ext_getElem hl
  intro i h1 h2
  have := h i h1
  rwa [iget_of h1, iget_of h2] at this
theorem comp_leaf {n : Nat} {sk : Int} {pre : List Int} (hl : pre.length = n) (hp : PartTo n sk pre n) (x : List Int) : Comp n sk pre x ↔ x = pre := by
  constructor
  · rintro ⟨⟨h1, _⟩, h3⟩
    exact ints_ext (fun j hj => h3 j (by omega)) (by omega)
  · rintro rfl
    exact ⟨⟨hl, hp⟩, fun _ _ => rfl⟩
theorem iget_snoc_lt {pre : List Int} {y : Int} {k : Nat} (h : k < pre.length) : iget (pre ++ [y]) k = iget pre k := by rw [iget_append, if_pos h]
theorem iget_snoc_eq (pre : List Int) (y : Int) : iget (pre ++ [y]) pre.length = y := by rw [iget_append, if_neg (by omega), Nat.sub_self]; rfl
theorem partTo_snoc {n : Nat} {sk : Int} {pre : List Int} {y : Int} (hp : PartTo n sk pre pre.length) (hy : ((pre.length : Int) = sk → y = -1) ∧ ((pre.length : Int) ≠ sk → 0 ≤ y ∧ y < n ∧ ∀ l, l < pre.length → (l : Int) ≠ sk → iget pre l ≠ y)) :
    PartTo n sk (pre ++ [y]) (pre ++ [y]).length := by
  rw [List.length_append, List.length_singleton]
  intro k hk
  by_cases e : k = pre.length
  · subst e
    rw [iget_snoc_eq]
    exact ⟨hy.1, fun h => ⟨(hy.2 h).1, (hy.2 h).2.1, fun l hl hs => by rw [iget_snoc_lt hl]; exact (hy.2 h).2.2 l hl hs⟩⟩
  · have hk' : k < pre.length := by omega
    rw [iget_snoc_lt hk']
    obtain ⟨h1, h2⟩ := hp k hk'
    exact ⟨h1, fun h => ⟨(h2 h).1, (h2 h).2.1, fun l hl hs => by rw [iget_snoc_lt (by omega)]; exact (h2 h).2.2 l hl hs⟩⟩
theorem pvTo_snoc {v : List (List Int)} {sk : Int} {pre : List Int} {y : Int} : pvTo v sk (pre ++ [y]) (pre ++ [y]).length = pvTo v sk pre pre.length + if (pre.length : Int) = sk then 0 else bid v pre.length y.toNat := by
  rw [List.length_append, List.length_singleton]
  unfold pvTo
  simp only [sumTo]
  rw [sumTo_congr (g := fun k => if (k : Int) = sk then 0 else bid v k (itm pre k)) (fun k hk => by simp only [itm, iget_snoc_lt hk])]
  congr 1
  simp only [itm, iget_snoc_eq]
theorem comp_snoc {n : Nat} {sk : Int} {pre : List Int} {y : Int} (x : List Int) : Comp n sk (pre ++ [y]) x ↔ Comp n sk pre x ∧ iget x pre.length = y := by
  constructor
  · rintro ⟨h1, h2⟩
    refine ⟨⟨h1, fun k hk => ?_⟩, ?_⟩
    · have := h2 k (by simp; omega); rwa [iget_snoc_lt hk] at this
    · have := h2 pre.length (by simp); rwa [iget_snoc_eq] at this
  · rintro ⟨⟨h1, h2⟩, h3⟩
    refine ⟨h1, fun k hk => ?_⟩
    simp at hk
    by_cases e : k = pre.length
    · subst e; rw [iget_snoc_eq, h3]
    · rw [iget_snoc_lt (by omega)]; exact h2 k (by omega)
theorem comp_skip {n : Nat} {sk : Int} {pre : List Int} (hi : pre.length < n) (e : (pre.length : Int) = sk) (x : List Int) : Comp n sk pre x ↔ Comp n sk (pre ++ [-1]) x := by
  rw [comp_snoc]
  exact ⟨fun h => ⟨h, (h.1.2 _ hi).1 e⟩, fun h => h.1⟩
/-- What a list that begins with pre has at the next place: a number that is free. -/
theorem comp_free {n : Nat} {sk : Int} {pre : List Int} (hi : pre.length < n) (e : (pre.length : Int) ≠ sk) {x : List Int} (h : Comp n sk pre x) :
    0 ≤ iget x pre.length ∧ iget x pre.length < n ∧ ∀ l, l < pre.length → (l : Int) ≠ sk → iget pre l ≠ iget x pre.length := by
  obtain ⟨h1, h2, h3⟩ := (h.1.2 _ hi).2 e
  exact ⟨h1, h2, fun l hl hs => by rw [← h.2 l hl]; exact h3 l hl hs⟩
/-- Of two lists that begin alike the one with the lesser number next comes first. -/
theorem comp_llt {n : Nat} {sk : Int} {pre : List Int} (hi : pre.length < n) {x y : List Int} (hx : Comp n sk pre x) (hy : Comp n sk pre y) (h : iget x pre.length < iget y pre.length) : llt x y :=
  ⟨pre.length, by rw [hx.1.1]; exact hi, fun j hj => by rw [hx.2 j hj, hy.2 j hj], h⟩

/-- The lists that begin with pre and have one of the first j numbers next. -/
def CompTo (n : Nat) (sk : Int) (pre : List Int) (j : Nat) (x : List Int) : Prop := Comp n sk pre x ∧ iget x pre.length < j
theorem compTo_zero {n : Nat} {sk : Int} {pre : List Int} (hi : pre.length < n) (e : (pre.length : Int) ≠ sk) (x : List Int) : ¬ CompTo n sk pre 0 x := fun h => by
  have := comp_free hi e h.1; have := h.2; omega
theorem compTo_all {n : Nat} {sk : Int} {pre : List Int} (hi : pre.length < n) (e : (pre.length : Int) ≠ sk) (x : List Int) : CompTo n sk pre n x ↔ Comp n sk pre x :=
  ⟨fun h => h.1, fun h => ⟨h, (comp_free hi e h).2.1⟩⟩
theorem compTo_succ {n : Nat} {sk : Int} {pre : List Int} {j : Nat} (x : List Int) : CompTo n sk pre (j + 1) x ↔ CompTo n sk pre j x ∨ Comp n sk (pre ++ [(j : Int)]) x := by
  rw [comp_snoc]
  unfold CompTo
  constructor
  · rintro ⟨h1, h2⟩
    by_cases e : iget x pre.length < j
    · exact .inl ⟨h1, e⟩
    · exact .inr ⟨h1, by omega⟩
  · rintro (⟨h1, h2⟩ | ⟨h1, h2⟩)
    · exact ⟨h1, by omega⟩
    · exact ⟨h1, by omega⟩
theorem comp_used {n : Nat} {sk : Int} {pre : List Int} {j : Nat} (hi : pre.length < n) (e : (pre.length : Int) ≠ sk) (hu : ∃ l, l < pre.length ∧ (l : Int) ≠ sk ∧ iget pre l = j) (x : List Int) : ¬ Comp n sk (pre ++ [(j : Int)]) x := by
  rw [comp_snoc]
  rintro ⟨h1, h2⟩
  obtain ⟨l, l1, l2, l3⟩ := hu
  exact (comp_free hi e h1).2.2 l l1 l2 (by rw [l3, h2])
/-- The item j is taken in pre. -/
def Used (sk : Int) (pre : List Int) (j : Nat) : Prop := ∃ l, l < pre.length ∧ (l : Int) ≠ sk ∧ iget pre l = j
theorem used_snoc {sk : Int} {pre : List Int} {y : Int} {j : Nat} : Used sk (pre ++ [y]) j ↔ Used sk pre j ∨ ((pre.length : Int) ≠ sk ∧ y = j) := by
  unfold Used
  constructor
  · rintro ⟨l, l1, l2, l3⟩
    simp at l1
    by_cases e : l = pre.length
    · subst e; rw [iget_snoc_eq] at l3; exact .inr ⟨l2, l3⟩
    · rw [iget_snoc_lt (by omega)] at l3; exact .inl ⟨l, by omega, l2, l3⟩
  · rintro (⟨l, l1, l2, l3⟩ | ⟨h1, h2⟩)
    · exact ⟨l, by simp; omega, l2, by rw [iget_snoc_lt l1]; exact l3⟩
    · exact ⟨pre.length, by simp, h1, by rw [iget_snoc_eq]; exact h2⟩

/-- What the search has found: the best of the lists that it has seen. -/
def Found (v : List (List Int)) (sk : Int) (V : List Int → Prop) (b : List Int) (m : Int) : Prop := FirstMax V (pv v sk) b ∧ (∀ x, V x → Part v.length sk x) ∧ ((b = [] ∧ m = 0) ∨ (b ≠ [] ∧ m = pv v sk b))
theorem found_leaf_take {v : List (List Int)} {sk : Int} {V : List Int → Prop} {b pre : List Int} {m : Int} (hv : 0 < v.length) (h : Found v sk V b m) (hl : pre.length = v.length) (hp : PartTo v.length sk pre v.length) (hV : ∀ x, V x → ∀ y, Comp v.length sk pre y → llt x y)
    (hgt : b = [] ∨ m < pv v sk pre) : Found v sk (fun x => V x ∨ Comp v.length sk pre x) pre (pv v sk pre) := by
  have hc : ∀ x, (V x ∨ x = pre) ↔ (V x ∨ Comp v.length sk pre x) := fun x => by rw [comp_leaf hl hp]
  refine ⟨(h.1.add (fun x hx => hV x hx pre ((comp_leaf hl hp pre).2 rfl)) ?_).congr hc (fun _ _ => rfl), ?_, .inr ⟨fun e => by rw [e] at hl; simp at hl; omega, rfl⟩⟩
  · rcases h.1 with h1 | ⟨h1, _⟩
    · exact .inl h1
    · rcases hgt with hb | hb
      · have := (h.2.1 b h1).1; rw [hb] at this; simp at this; omega
      · rcases h.2.2 with ⟨hb2, _⟩ | ⟨_, hm⟩
        · have := (h.2.1 b h1).1; rw [hb2] at this; simp at this; omega
        · exact .inr ⟨h1, by omega⟩
  · rintro x (hx | hx)
    · exact h.2.1 x hx
    · exact hx.1
theorem found_leaf_keep {v : List (List Int)} {sk : Int} {V : List Int → Prop} {b pre : List Int} {m : Int} (h : Found v sk V b m) (hl : pre.length = v.length) (hp : PartTo v.length sk pre v.length) (hV : ∀ x, V x → ∀ y, Comp v.length sk pre y → llt x y)
    (hb : b ≠ []) (hle : pv v sk pre ≤ m) : Found v sk (fun x => V x ∨ Comp v.length sk pre x) b m := by
  have hc : ∀ x, (V x ∨ x = pre) ↔ (V x ∨ Comp v.length sk pre x) := fun x => by rw [comp_leaf hl hp]
  have hm : m = pv v sk b := by
    rcases h.2.2 with ⟨hb2, _⟩ | ⟨_, hm⟩
    · exact absurd hb2 hb
    · exact hm
  have hVb : V b := by
    rcases h.1 with ⟨h1, _⟩ | ⟨h1, _⟩
    · exact absurd h1 hb
    · exact h1
  refine ⟨(h.1.keep (fun x hx => hV x hx pre ((comp_leaf hl hp pre).2 rfl)) ⟨hVb, by omega⟩).congr hc (fun _ _ => rfl), ?_, h.2.2⟩
  rintro x (hx | hx)
  · exact h.2.1 x hx
  · exact hx.1
theorem Found.congr {v : List (List Int)} {sk : Int} {V W : List Int → Prop} {b : List Int} {m : Int} (h : Found v sk V b m) (e : ∀ x, V x ↔ W x) : Found v sk W b m :=
  ⟨h.1.congr e (fun _ _ => rfl), fun x hx => h.2.1 x ((e x).2 hx), h.2.2⟩

theorem pvTo_bound {v : List (List Int)} {sk : Int} {pre : List Int} (hv : Bids v) (hp : PartTo v.length sk pre pre.length) (hl : pre.length ≤ v.length) : 0 ≤ pvTo v sk pre pre.length ∧ pvTo v sk pre pre.length ≤ 1000000 * pre.length := by
  refine sumTo_bound (n := pre.length) (fun k hk => ?_) _ (Nat.le_refl _)
  by_cases e : (k : Int) = sk
  · simp [e]
  · rw [if_neg e]
    obtain ⟨h1, h2, _⟩ := (hp k hk).2 e
    exact (hv.2.2 k (by omega)).2 _ (by simp only [itm]; omega)
theorem pv_eq {v : List (List Int)} {sk : Int} {pre : List Int} (hl : pre.length = v.length) : pv v sk pre = pvTo v sk pre pre.length := by unfold pv; rw [hl]

/-- Where nobody is left out the lists are the assignments. -/
theorem part_isA {n : Nat} {x : List Int} : Part n (-1) x ↔ IsA x n := by
  constructor
  · rintro ⟨h1, h2⟩
    have h3 : ∀ k, k < n → 0 ≤ iget x k ∧ iget x k < n ∧ ∀ l, l < k → iget x l ≠ iget x k := fun k hk => by
      obtain ⟨a, b, c⟩ := (h2 k hk).2 (by omega)
      exact ⟨a, b, fun l hl => c l hl (by omega)⟩
    refine isA_of h1 (fun i hi => (h3 i hi).1) ⟨fun i hi => ?_, fun i j hi hj e => ?_⟩
    · have := h3 i hi; simp only [itm]; omega
    · have hi3 := h3 i hi
      have hj3 := h3 j hj
      have e' : iget x i = iget x j := by simp only [itm] at e; omega
      rcases Nat.lt_trichotomy i j with h | h | h
      · exact absurd e' (hj3.2.2 i h)
      · exact h
      · exact absurd e'.symm (hi3.2.2 j h)
  · intro h
    refine ⟨h.1, fun k hk => ⟨fun e => by omega, fun _ => ?_⟩⟩
    have := isA_lt h k hk
    refine ⟨this.1, by simp only [itm] at this; omega, fun l hl _ e => ?_⟩
    have := isA_inj h (by omega) hk e
    omega
theorem pv_worth {v : List (List Int)} {x : List Int} (h : x.length = v.length) : pv v (-1) x = worthI v x := by
  unfold pv pvTo worthI
  rw [h]
  exact sumTo_congr fun i _ => by rw [if_neg (by omega)]
end Go.Proofs.Ytojldecldemfaaa
