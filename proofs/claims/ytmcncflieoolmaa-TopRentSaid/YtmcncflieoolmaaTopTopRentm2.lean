/- Lists of digits in their order, and the first list of the greatest value; plain, no program. -/
import Derived.Test.YtmcncflieoolmaaTopTopRentm1
import Derived.Laws.AppendOwnNone
/- Lists of digits in their order, and the first list of the greatest value; plain, no program. -/
namespace Go.Proofs.Ytmcncflieoolmaa
set_option linter.unusedVariables false
set_option linter.unusedSimpArgs false

/-- a comes before b in the order of lists. -/
def llt (a b : List Int) : Prop := ∃ i, i < a.length ∧ (∀ j, j < i → iget a j = iget b j) ∧ iget a i < iget b i
theorem iget_cons_zero (x : Int) (l : List Int) : iget (x :: l) 0 = x := rfl
theorem iget_cons_succ (x : Int) (l : List Int) (k : Nat) : iget (x :: l) (k + 1) = iget l k := by simp [iget]
theorem llt_cons {x y : Int} {a b : List Int} : llt (x :: a) (y :: b) ↔ x < y ∨ (x = y ∧ llt a b) := by
  constructor
  · rintro ⟨i, hi, h1, h2⟩
    cases i with
    | zero => exact .inl h2
    | succ i =>
      refine .inr ⟨h1 0 (by omega), i, by simpa using hi, fun j hj => ?_, ?_⟩
      · have := h1 (j + 1) (by omega); rwa [iget_cons_succ, iget_cons_succ] at this
      · rwa [iget_cons_succ, iget_cons_succ] at h2
  · rintro (h | ⟨rfl, i, hi, h1, h2⟩)
    · exact ⟨0, by simp, fun j hj => by omega, h⟩
    · refine ⟨i + 1, by simpa using hi, fun j hj => ?_, ?_⟩
      · cases j with
        | zero => rfl
        | succ j => rw [iget_cons_succ, iget_cons_succ]; exact h1 j (by omega)
      · rwa [iget_cons_succ, iget_cons_succ]
theorem llt_total : ∀ (a b : List Int), a.length = b.length → a = b ∨ llt a b ∨ llt b a
  | [], [], _ => .inl rfl
  | [], _ :: _, h => by simp at h
  | _ :: _, [], h => by simp at h
  | x :: a, y :: b, h => by
    rcases Int.lt_trichotomy x y with h1 | h1 | h1
    · exact .inr (.inl (llt_cons.2 (.inl h1)))
    · subst h1
      rcases llt_total a b (by simpa using h) with h2 | h2 | h2
      · exact .inl (by rw [h2])
      · exact .inr (.inl (llt_cons.2 (.inr ⟨rfl, h2⟩)))
      · exact .inr (.inr (llt_cons.2 (.inr ⟨rfl, h2⟩)))
    · exact .inr (.inr (llt_cons.2 (.inl h1)))
theorem llt_irrefl (a : List Int) : ¬ llt a a := by rintro ⟨i, _, _, h⟩; omega
theorem llt_asymm {a b : List Int} (h : llt a b) : ¬ llt b a := by
  obtain ⟨i, hi, h1, h2⟩ := h
  rintro ⟨j, hj, k1, k2⟩
  rcases Nat.lt_trichotomy i j with h | h | h
  · have := k1 i h; omega
  · subst h; omega
  · have := h1 j h; omega

/-- The number that a list of digits writes, to the base n, behind acc. -/
def numA (n : Nat) : Nat → List Int → Nat
  | acc, [] => acc
  | acc, d :: l => numA n (acc * n + d.toNat) l
theorem numA_append (n : Nat) : ∀ (a b : List Int) (acc : Nat), numA n acc (a ++ b) = numA n (numA n acc a) b
  | [], b, acc => rfl
  | d :: a, b, acc => numA_append n a b _
def Digits (n : Nat) (l : List Int) : Prop := ∀ j, j < l.length → 0 ≤ iget l j ∧ iget l j < n
theorem Digits.tail {n : Nat} {x : Int} {l : List Int} (h : Digits n (x :: l)) : Digits n l := fun j hj => by
  have := h (j + 1) (by simpa using hj); rwa [iget_cons_succ] at this
theorem numA_eq (n : Nat) : ∀ (l : List Int) (acc : Nat), numA n acc l = acc * n ^ l.length + numA n 0 l
  | [], acc => by simp [numA]
  | d :: l, acc => by
    simp only [numA, List.length_cons]
    rw [numA_eq n l, numA_eq n l (0 * n + d.toNat), Nat.pow_succ, Nat.zero_mul, Nat.zero_add, Nat.add_mul]
    have : acc * n * n ^ l.length = acc * (n ^ l.length * n) := by rw [Nat.mul_assoc, Nat.mul_comm n]
    omega
theorem numA_lt {n : Nat} : ∀ (l : List Int), Digits n l → numA n 0 l < n ^ l.length
  | [], _ => by simp [numA]
  | d :: l, h => by
    have h0 := h 0 (by simp)
    rw [iget_cons_zero] at h0
    have ih := numA_lt l h.tail
    simp only [numA, List.length_cons]
    rw [numA_eq, Nat.zero_mul, Nat.zero_add, Nat.pow_succ, Nat.mul_comm (n ^ l.length)]
    have h1 : d.toNat + 1 ≤ n := by omega
    have h2 := Nat.mul_le_mul_right (n ^ l.length) h1
    rw [Nat.add_mul] at h2
    omega
theorem llt_num {n : Nat} : ∀ (a b : List Int), a.length = b.length → Digits n a → Digits n b → llt a b → numA n 0 a < numA n 0 b
  | [], _, _, _, _, h => by obtain ⟨i, hi, _⟩ := h; simp at hi
  | _ :: _, [], h, _, _, _ => by simp at h
  | x :: a, y :: b, hl, ha, hb, h => by
    have hl' : a.length = b.length := by simpa using hl
    have x0 := ha 0 (by simp)
    have y0 := hb 0 (by simp)
    rw [iget_cons_zero] at x0 y0
    simp only [numA]
    rw [numA_eq, numA_eq n b, Nat.zero_mul, Nat.zero_add, Nat.zero_add, hl']
    rcases llt_cons.1 h with h1 | ⟨rfl, h1⟩
    · have h2 := numA_lt a ha.tail
      rw [hl'] at h2
      have h3 : x.toNat + 1 ≤ y.toNat := by omega
      have h4 := Nat.mul_le_mul_right (n ^ b.length) h3
      rw [Nat.add_mul] at h4
      omega
    · have := llt_num a b hl' ha.tail hb.tail h1
      omega
theorem num_inj {n : Nat} {a b : List Int} (hl : a.length = b.length) (ha : Digits n a) (hb : Digits n b) (h : numA n 0 a = numA n 0 b) : a = b := by
  rcases llt_total a b hl with h1 | h1 | h1
  · exact h1
  · have := llt_num a b hl ha hb h1; omega
  · have := llt_num b a hl.symm hb ha h1; omega
theorem num_llt {n : Nat} {a b : List Int} (hl : a.length = b.length) (ha : Digits n a) (hb : Digits n b) (h : numA n 0 a < numA n 0 b) : llt a b := by
  rcases llt_total a b hl with h1 | h1 | h1
  · subst h1; omega
  · exact h1
  · have := llt_num b a hl.symm hb ha h1; omega
theorem num_zeros (n m : Nat) (acc : Nat) : numA n acc (List.replicate m 0) = acc * n ^ m := by
  induction m generalizing acc with
  | zero => simp [numA]
  | succ m ih => rw [List.replicate_succ]; simp only [numA]; rw [ih, Nat.pow_succ]; simp; rw [Nat.mul_assoc, Nat.mul_comm n]
theorem num_full (n m : Nat) (acc : Nat) (hn : 0 < n) : numA n acc (List.replicate m ((n : Int) - 1)) + 1 = (acc + 1) * n ^ m := by
  induction m generalizing acc with
  | zero => simp [numA]
  | succ m ih =>
    rw [List.replicate_succ]
    simp only [numA]
    rw [ih, Nat.pow_succ]
    have : ((n : Int) - 1).toNat = n - 1 := by omega
    rw [this]
    have e : acc * n + (n - 1) + 1 = (acc + 1) * n := by rw [Nat.add_mul]; omega
    rw [e, Nat.mul_assoc, Nat.mul_comm n]
/-- The next list: the last digit that is not the greatest grows, all behind it are 0. -/
theorem num_next {n : Nat} (hn : 0 < n) (A : List Int) (d : Int) (m : Nat) (hd : 0 ≤ d) : numA n 0 (A ++ (d + 1) :: List.replicate m 0) = numA n 0 (A ++ d :: List.replicate m ((n : Int) - 1)) + 1 := by
  rw [numA_append, numA_append]
  simp only [numA]
  rw [num_zeros, num_full n m _ hn]
  have : (d + 1).toNat = d.toNat + 1 := by omega
  rw [this]; rfl
theorem num_last {n : Nat} (hn : 0 < n) (m : Nat) : numA n 0 (List.replicate m ((n : Int) - 1)) + 1 = n ^ m := by
  rw [num_full n m 0 hn]; simp

/-- The first list of the greatest value among those that meet S; the empty list: there is none. -/
def FirstMax (S : List Int → Prop) (f : List Int → Int) (b : List Int) : Prop :=
  (b = [] ∧ ∀ x, ¬ S x) ∨ (S b ∧ ∀ x, S x → f x < f b ∨ (f x = f b ∧ (x = b ∨ llt b x)))
theorem FirstMax.uniq {S : List Int → Prop} {f : List Int → Int} {a b : List Int} (h : FirstMax S f a) (k : FirstMax S f b) : a = b := by
  rcases h with ⟨rfl, h⟩ | ⟨h1, h2⟩
  · rcases k with ⟨rfl, _⟩ | ⟨k1, _⟩
    · rfl
    · exact absurd k1 (h b)
  · rcases k with ⟨rfl, k⟩ | ⟨k1, k2⟩
    · exact absurd h1 (k a)
    · rcases h2 b k1 with e1 | ⟨e1, e2⟩
      · rcases k2 a h1 with e3 | ⟨e3, _⟩ <;> omega
      · rcases k2 a h1 with e3 | ⟨e3, e4⟩
        · omega
        · rcases e2 with rfl | e2
          · rfl
          · rcases e4 with rfl | e4
            · rfl
            · exact absurd e4 (llt_asymm e2)
theorem FirstMax.congr {S T : List Int → Prop} {f g : List Int → Int} {a : List Int} (h : FirstMax S f a) (e : ∀ x, S x ↔ T x) (eg : ∀ x, S x → f x = g x) : FirstMax T g a := by
  rcases h with ⟨rfl, h⟩ | ⟨h1, h2⟩
  · exact .inl ⟨rfl, fun x hx => h x ((e x).2 hx)⟩
  · refine .inr ⟨(e a).1 h1, fun x hx => ?_⟩
    rw [← eg x ((e x).2 hx), ← eg a h1]
    exact h2 x ((e x).2 hx)
/-- One list more, behind all others in the order. -/
theorem FirstMax.add {S : List Int → Prop} {f : List Int → Int} {b c : List Int} (h : FirstMax S f b) (hb : ∀ x, S x → llt x c) (hgt : (b = [] ∧ ∀ x, ¬ S x) ∨ (S b ∧ f b < f c)) : FirstMax (fun x => S x ∨ x = c) f c := by
  refine .inr ⟨.inr rfl, ?_⟩
  rintro x (hx | rfl)
  · rcases hgt with ⟨_, hn⟩ | ⟨_, hgt⟩
    · exact absurd hx (hn x)
    · rcases h with ⟨_, h⟩ | ⟨h1, h2⟩
      · exact absurd hx (h x)
      · rcases h2 x hx with h3 | ⟨h3, _⟩
        · exact .inl (by omega)
        · exact .inl (by omega)
  · exact .inr ⟨rfl, .inl rfl⟩
theorem FirstMax.keep {S : List Int → Prop} {f : List Int → Int} {b c : List Int} (h : FirstMax S f b) (hb : ∀ x, S x → llt x c) (hle : S b ∧ f c ≤ f b) : FirstMax (fun x => S x ∨ x = c) f b := by
  refine .inr ⟨.inl hle.1, ?_⟩
  rcases h with ⟨_, h⟩ | ⟨_, h2⟩
  · exact absurd hle.1 (h b)
  · rintro x (hx | rfl)
    · exact h2 x hx
    · by_cases e : f x < f b
      · exact .inl e
      · exact .inr ⟨by omega, .inr (hb b hle.1)⟩
theorem FirstMax.skip {S : List Int → Prop} {f : List Int → Int} {b : List Int} {T : List Int → Prop} (h : FirstMax S f b) (e : ∀ x, T x ↔ S x) : FirstMax T f b := h.congr (fun x => (e x).symm) (fun _ _ => rfl)

/-! ### Assignments as lists -/
theorem isA_lt {a : List Int} {n : Nat} (h : IsA a n) : ∀ i, i < n → 0 ≤ iget a i ∧ itm a i < n := by
  -- each number below n stands once; there is no room for another
  intro i hi
  have hnd : ((List.range n).map fun j : Nat => (j : Int)).Nodup := by
    rw [List.nodup_iff_pairwise_ne, List.pairwise_map]
    have := List.nodup_range (n := n)
    rw [List.nodup_iff_pairwise_ne] at this
    exact this.imp (fun hne e => hne (by omega))
  have hsub : ∀ x, x ∈ (List.range n).map (fun j : Nat => (j : Int)) → x ∈ a := by
    intro x hx
    obtain ⟨j, hj, rfl⟩ := List.mem_map.1 hx
    have := h.2 j (List.mem_range.1 hj)
    exact List.count_pos_iff.1 (by omega)
  have hp : ((List.range n).map fun j : Nat => (j : Int)).Perm a := by
    obtain ⟨l, hl⟩ : ∃ l, a.Perm ((List.range n).map (fun j : Nat => (j : Int)) ++ l) := by
      have : ∀ (u v : List Int), u.Nodup → (∀ x, x ∈ u → x ∈ v) → ∃ l, v.Perm (u ++ l) := by
        intro u
        induction u with
        | nil => intro v _ _; exact ⟨v, by simp⟩
        | cons x u ih =>
          intro v hu hv
          have hx := hv x (by simp)
          have hnx := (List.nodup_cons.1 hu).1
          obtain ⟨l, hl⟩ := ih (v.erase x) (List.nodup_cons.1 hu).2 (fun y hy => by
            have hne : y ≠ x := fun e => hnx (e ▸ hy)
            exact (List.mem_erase_of_ne hne).2 (hv y (List.mem_cons_of_mem _ hy)))
          exact ⟨l, (List.perm_cons_erase hx).trans (hl.cons x)⟩
      exact this _ _ hnd hsub
    have hlen := hl.length_eq
    rw [h.1, List.length_append, List.length_map, List.length_range] at hlen
    obtain rfl : l = [] := List.eq_nil_of_length_eq_zero (by omega)
    rw [List.append_nil] at hl
    exact hl.symm
  have hm := iget_mem (xs := a) (k := i) (by rw [h.1]; exact hi)
  obtain ⟨j, hj, e⟩ := List.mem_map.1 (hp.symm.mem_iff.1 hm)
  have := List.mem_range.1 hj
  simp only [itm, ← e]; omega
theorem isA_inj {a : List Int} {n : Nat} (h : IsA a n) {i j : Nat} (hi : i < n) (hj : j < n) (e : iget a i = iget a j) : i = j := by
  apply Classical.byContradiction
  intro hne
  obtain ⟨h0, h1⟩ := isA_lt h i hi
  have hc := h.2 (itm a i) h1
  have e1 : ((itm a i : Nat) : Int) = iget a i := by simp only [itm]; omega
  rw [e1] at hc
  have key : ∀ (l : List Int) (i j : Nat) (x : Int), i < j → l[i]? = some x → l[j]? = some x → 2 ≤ l.count x := by
    intro l
    induction l with
    | nil => intro i j x _ h _; simp at h
    | cons y l ih =>
      intro i j x hlt h1 h2
      cases j with
      | zero => omega
      | succ j =>
        rw [List.getElem?_cons_succ] at h2
        cases i with
        | zero =>
          simp at h1; subst h1
          rw [List.count_cons_self]
          have : 0 < l.count y := List.count_pos_iff.2 (List.mem_of_getElem? h2)
          omega
        | succ i =>
          rw [List.getElem?_cons_succ] at h1
          have := ih i j x (by omega) h1 h2
          have h3 : l.count x ≤ (y :: l).count x := List.count_le_count_cons
          omega
  have g1 : a[i]? = some (iget a i) := by rw [iget_of (by rw [h.1]; exact hi)]; simp [h.1, hi]
  have g2 : a[j]? = some (iget a i) := by rw [e, iget_of (by rw [h.1]; exact hj)]; simp [h.1, hj]
  rcases Nat.lt_or_gt_of_ne hne with h3 | h3
  · have := key a i j _ h3 g1 g2; omega
  · have := key a j i _ h3 g2 g1; omega
theorem isA_per {a : List Int} {n : Nat} (h : IsA a n) : Per n (itm a) := ⟨fun i hi => (isA_lt h i hi).2, fun i j hi hj e => isA_inj h hi hj (by
  have := isA_lt h i hi; have := isA_lt h j hj; simp only [itm] at e; omega)⟩
theorem isA_of {a : List Int} {n : Nat} (hl : a.length = n) (h0 : ∀ i, i < n → 0 ≤ iget a i) (hp : Per n (itm a)) : IsA a n := by
  refine ⟨hl, fun j hj => ?_⟩
  have hnd : a.Nodup := by
    rw [List.nodup_iff_pairwise_ne, List.pairwise_iff_getElem]
    intro i k hi hk hik e
    have := hp.inj i k (by omega) (by omega) (by simp only [itm]; rw [iget_of hi, iget_of hk, e])
    omega
  rw [hnd.count, if_pos]
  obtain ⟨i, hi, e⟩ := hp.surj hj
  have : iget a i = (j : Int) := by have := h0 i hi; simp only [itm] at e; omega
  rw [← this]
  exact iget_mem (by omega)
theorem isA_digits {a : List Int} {n : Nat} (h : IsA a n) : Digits n a := fun j hj => by
  have := isA_lt h j (by rw [← h.1]; exact hj)
  simp only [itm] at this; omega
/-- A permutation as a list. -/
def listOf (n : Nat) (s : Nat → Nat) : List Int := (List.range n).map fun i => ((s i : Nat) : Int)
theorem listOf_length (n : Nat) (s : Nat → Nat) : (listOf n s).length = n := by simp [listOf]
theorem listOf_get {n : Nat} {s : Nat → Nat} {i : Nat} (hi : i < n) : iget (listOf n s) i = s i := by simp [listOf, iget, hi]
theorem listOf_itm {n : Nat} {s : Nat → Nat} {i : Nat} (hi : i < n) : itm (listOf n s) i = s i := by simp [itm, listOf_get hi]
theorem listOf_isA {n : Nat} {s : Nat → Nat} (h : Per n s) : IsA (listOf n s) n :=
  isA_of (listOf_length n s) (fun i hi => by rw [listOf_get hi]; omega) (h.congr fun i hi => listOf_itm hi)
theorem worth_val {v : List (List Int)} {a : List Int} {n : Nat} (h : a.length = n) : worthI v a = val (bid v) n (itm a) := by subst h; rfl

/-- The best assignment of valid bids: the first of the greatest value. -/
def IsBest (v : List (List Int)) (a : List Int) : Prop := IsA a v.length ∧ FirstMax (fun x => IsA x v.length) (worthI v) a
theorem IsBest.uniq {v : List (List Int)} {a b : List Int} (h : IsBest v a) (k : IsBest v b) : a = b := h.2.uniq k.2
theorem IsBest.max {v : List (List Int)} {a b : List Int} (h : IsBest v a) (hb : IsA b v.length) (h0 : 0 < v.length) : worthI v b ≤ worthI v a := by
  rcases h.2 with ⟨rfl, h2⟩ | ⟨_, h2⟩
  · exact absurd hb (h2 b)
  · rcases h2 b hb with h3 | ⟨h3, _⟩ <;> omega
/-- What Most holds while it goes through the lists in their order: the best of those before cur; at the end, of all. -/
def MostInv (v : List (List Int)) (b : Bool) (cur bst : List Int) : Prop :=
  FirstMax (fun x => IsA x v.length ∧ (b = true → numA v.length 0 x < numA v.length 0 cur)) (worthI v) bst
theorem most_start (v : List (List Int)) {cur : List Int} (h : numA v.length 0 cur = 0) : MostInv v true cur [] :=
  .inl ⟨rfl, fun x hx => by have := hx.2 rfl; omega⟩
/-- The list that Most looks at is taken, or not. -/
def MostStep (v : List (List Int)) (cur bst : List Int) : List Int := if IsA cur v.length ∧ (bst.length = 0 ∨ worthI v bst < worthI v cur) then cur else bst
theorem most_upto {v : List (List Int)} {cur bst : List Int} (hv : 0 < v.length) (hl : cur.length = v.length) (hd : Digits v.length cur) (h : MostInv v true cur bst) :
    FirstMax (fun x => IsA x v.length ∧ numA v.length 0 x ≤ numA v.length 0 cur) (worthI v) (MostStep v cur bst) := by
  have hS : ∀ x, (IsA x v.length ∧ (true = true → numA v.length 0 x < numA v.length 0 cur)) → llt x cur := fun x hx =>
    num_llt (by rw [hx.1.1, hl]) (isA_digits hx.1) hd (hx.2 rfl)
  have hT : ∀ x, (IsA x v.length ∧ numA v.length 0 x ≤ numA v.length 0 cur) ↔ ((IsA x v.length ∧ (true = true → numA v.length 0 x < numA v.length 0 cur)) ∨ (x = cur ∧ IsA cur v.length)) := by
    intro x
    constructor
    · rintro ⟨h1, h2⟩
      by_cases e : numA v.length 0 x < numA v.length 0 cur
      · exact .inl ⟨h1, fun _ => e⟩
      · have := num_inj (by rw [h1.1, hl]) (isA_digits h1) hd (by omega)
        subst this
        exact .inr ⟨rfl, h1⟩
    · rintro (⟨h1, h2⟩ | ⟨rfl, h1⟩)
      · exact ⟨h1, by have := h2 rfl; omega⟩
      · exact ⟨h1, Nat.le_refl _⟩
  have hne : bst.length = 0 → ∀ x, ¬ (IsA x v.length ∧ (true = true → numA v.length 0 x < numA v.length 0 cur)) := by
    intro h0
    rcases h with ⟨_, h⟩ | ⟨h1, _⟩
    · exact h
    · have := h1.1.1; omega
  unfold MostStep
  by_cases hA : IsA cur v.length
  · have hT2 : ∀ x, ((IsA x v.length ∧ (true = true → numA v.length 0 x < numA v.length 0 cur)) ∨ x = cur) ↔ (IsA x v.length ∧ numA v.length 0 x ≤ numA v.length 0 cur) := fun x => by
      rw [hT x]
      exact ⟨fun h => h.imp id (fun e => ⟨e, hA⟩), fun h => h.imp id (fun e => e.1)⟩
    by_cases hgt : bst.length = 0 ∨ worthI v bst < worthI v cur
    · rw [if_pos ⟨hA, hgt⟩]
      refine (h.add hS ?_).congr hT2 (fun _ _ => rfl)
      rcases h with h1 | ⟨h1, h2⟩
      · exact .inl h1
      · rcases hgt with h0 | h0
        · exact absurd h1 (hne h0 bst)
        · exact .inr ⟨h1, h0⟩
    · rw [if_neg (fun e => hgt e.2)]
      refine (h.keep hS ?_).congr hT2 (fun _ _ => rfl)
      rcases h with ⟨rfl, h1⟩ | ⟨h1, h2⟩
      · simp at hgt
      · exact ⟨h1, by omega⟩
  · rw [if_neg (fun e => hA e.1)]
    refine h.congr (fun x => ?_) (fun _ _ => rfl)
    rw [hT x]
    exact ⟨.inl, fun h => h.elim id (fun e => absurd e.2 hA)⟩
theorem most_go {v : List (List Int)} {cur nxt bst : List Int} (h : FirstMax (fun x => IsA x v.length ∧ numA v.length 0 x ≤ numA v.length 0 cur) (worthI v) bst) (hn : numA v.length 0 nxt = numA v.length 0 cur + 1) : MostInv v true nxt bst :=
  h.congr (fun x => ⟨fun h => ⟨h.1, fun _ => by omega⟩, fun h => ⟨h.1, by have := h.2 rfl; omega⟩⟩) (fun _ _ => rfl)
theorem most_stop {v : List (List Int)} {cur nxt bst : List Int} (h : FirstMax (fun x => IsA x v.length ∧ numA v.length 0 x ≤ numA v.length 0 cur) (worthI v) bst) (hn : numA v.length 0 cur + 1 = v.length ^ v.length) : MostInv v false nxt bst :=
  h.congr (fun x => ⟨fun h => ⟨h.1, fun e => by cases e⟩, fun h => ⟨h.1, by have := numA_lt x (isA_digits h.1); rw [h.1.1] at this; omega⟩⟩) (fun _ _ => rfl)
theorem most_end {v : List (List Int)} {cur bst : List Int} (hv : 0 < v.length) (h : MostInv v false cur bst) : IsBest v bst := by
  have h' : FirstMax (fun x => IsA x v.length) (worthI v) bst := h.congr (fun x => ⟨fun h => h.1, fun h => ⟨h, fun e => by cases e⟩⟩) (fun _ _ => rfl)
  refine ⟨?_, h'⟩
  rcases h' with ⟨_, h1⟩ | ⟨h1, _⟩
  · exact absurd (listOf_isA (Per.id v.length)) (h1 _)
  · exact h1

/-- The best assignment. -/
noncomputable def bestA (v : List (List Int)) : List Int := Classical.epsilon (IsBest v)
theorem bestA_eq {v : List (List Int)} {a : List Int} (h : IsBest v a) : bestA v = a := by
  exact (Classical.epsilon_spec (p := IsBest v) ⟨a, h⟩).uniq h
end Go.Proofs.Ytmcncflieoolmaa

/- Rows of integers that a call itself makes: how they are read, written, appended to; no condition but sizes. -/
namespace Go.Proofs.Ytmcncflieoolmaa
set_option linter.unusedVariables false
set_option linter.unusedSimpArgs false
open Go.ChangeShapes Go.WideShapes Go.ChangeAt Go.RowKit Go.Deep

theorem infoInt : (Try.prog.info? 3).map (fun i => (i.zero, i.size, i.bytes)) = some (some (.int .i64 0), 1, 8) := by kernel_rfl
theorem infoRow : (Try.prog.info? 27).map (fun i => (i.zero, i.size, i.bytes)) = some (some (.slice none 0 0), 1, 24) := by kernel_rfl

def blk (p : Option Addr) : Option Nat := p.map (·.block)

/-- The slice (p, xs.length, c) is a row of the call's own, in a block from base on, and holds xs. -/
structure Own (w : World) (base : Nat) (p : Option Addr) (c : Nat) (xs : List Int) : Prop where
  row : w.ownsRow base 3 1 (.slice p xs.length c) xs.length (xs.map (Value.int .i64))
  rng : ∀ j, j < xs.length → in64 (iget xs j)

theorem ownBlock_slice (p : Option Addr) (n c : Nat) : (Value.slice p n c).ownBlock = blk p := by cases p <;> rfl

theorem Own.shape {w : World} {base : Nat} {p : Option Addr} {c : Nat} {xs : List Int} (h : Own w base p c xs) :
    (p = none ∧ c = 0 ∧ xs = []) ∨ ∃ g, p = some ⟨g, 0, none⟩ ∧ base ≤ g ∧ g < w.heap.size ∧ xs.length ≤ c ∧ c ≤ 9223372036854775807 := by
  rcases h.row.2 with ⟨h1, h2⟩ | ⟨g, cap, cur, h1, h2, h3, h4, h5, _, _⟩
  · simp only [Value.slice.injEq] at h1
    exact .inl ⟨h1.1, h1.2.2, List.eq_nil_of_length_eq_zero h2⟩
  · simp only [Value.slice.injEq] at h1
    obtain ⟨rfl, _, rfl⟩ := h1
    exact .inr ⟨g, rfl, h2, (Array.getElem?_eq_some_iff.1 h3).1, h4, h5⟩
theorem Own.at {w : World} {base g : Nat} {c : Nat} {xs : List Int} (h : Own w base (some ⟨g, 0, none⟩) c xs) {j : Nat} (hj : j < xs.length) :
    w.cell? ⟨g, j, none⟩ = some (.int .i64 (iget xs j)) := by
  rw [h.row.cellAt j (by omega)]
  simp [iget, hj]
theorem Own.free {w : World} {base g : Nat} {c : Nat} {xs : List Int} (h : Own w base (some ⟨g, 0, none⟩) c xs) (j : Nat) : w.frozen? ⟨g, j, none⟩ = false := h.row.frozenAt j
theorem Own.ints {w : World} {base : Nat} {p : Option Addr} {c : Nat} {xs : List Int} (h : Own w base p c xs) : Ints w p c xs := by
  rcases h.shape with ⟨rfl, rfl, rfl⟩ | ⟨g, rfl, h1, h2, h3, h4⟩
  · exact Ints.ofNil w
  · refine ⟨h3, h4, fun h => (by cases h), ?_, ?_, h.rng⟩
    · rintro a ⟨⟩ _; exact ⟨rfl, h2⟩
    · rintro b o ⟨⟩ j hj
      rw [Nat.zero_add]; exact h.at hj
theorem Own.get {w : World} {base : Nat} {p : Option Addr} {c : Nat} {xs : List Int} (h : Own w base p c xs) {j : Nat} (hj : j < xs.length) :
    ∃ g, p = some ⟨g, 0, none⟩ ∧ base ≤ g ∧ g < w.heap.size ∧ w.cell? ⟨g, j, none⟩ = some (.int .i64 (iget xs j)) ∧ w.frozen? ⟨g, j, none⟩ = false := by
  rcases h.shape with ⟨rfl, rfl, rfl⟩ | ⟨g, rfl, h1, h2, h3, h4⟩
  · simp at hj
  · exact ⟨g, rfl, h1, h2, h.at hj, h.free j⟩
theorem Own.ofNil (w : World) (base : Nat) : Own w base none 0 [] := ⟨World.ownsRow_nil w base _ _, fun _ h => (by simp at h)⟩
theorem Own.lt {w : World} {base : Nat} {p : Option Addr} {c : Nat} {xs : List Int} (h : Own w base p c xs) : ∀ k, blk p = some k → base ≤ k ∧ k < w.heap.size := fun k hk => h.row.lt k (by rw [ownBlock_slice]; exact hk)
/-- What was laid from base on was laid from any lower number on. -/
theorem Own.lower {w : World} {base base' : Nat} {p : Option Addr} {c : Nat} {xs : List Int} (h : Own w base p c xs) (hb : base' ≤ base) : Own w base' p c xs := by
  refine ⟨⟨h.row.1, ?_⟩, h.rng⟩
  rcases h.row.2 with h1 | ⟨g, cap, cur, h1, h2, r⟩
  · exact .inl h1
  · exact .inr ⟨g, cap, cur, h1, Nat.le_trans hb h2, r⟩

theorem Own.keptBy {w w' : World} {base : Nat} {p : Option Addr} {c : Nat} {xs : List Int} (h : Own w base p c xs) {row : Option Nat} (hg : w.grownBy w' row) (hne : ∀ k, blk p = some k → row ≠ some k) : Own w' base p c xs :=
  ⟨h.row.kept hg (by
    rw [ownBlock_slice]
    cases hb : blk p with
    | none => exact .inl rfl
    | some k => exact .inr fun e => hne k hb e.symm), h.rng⟩
theorem grownBy_of_below {w w' : World} {B : Nat} (h : Below B w w') (hB : w.heap.size ≤ B) (row : Option Nat) : w.grownBy w' row := ⟨h.os, h.tape, h.output, h.size, fun k hk _ => h.block k (by omega)⟩
theorem Own.below {w w' : World} {base B : Nat} {p : Option Addr} {c : Nat} {xs : List Int} (h : Own w base p c xs) (hb : Below B w w') (hB : w.heap.size ≤ B) : Own w' base p c xs :=
  h.keptBy (grownBy_of_below hb hB none) (fun _ _ h => by cases h)
theorem Own.drew1 {w : World} {base : Nat} {p : Option Addr} {c : Nat} {xs : List Int} (h : Own w base p c xs) : Own w.drew base p c xs := h.below (below_drewN w.heap.size w 1) (Nat.le_refl _)
theorem Own.drewN {w : World} {base : Nat} {p : Option Addr} {c : Nat} {xs : List Int} (h : Own w base p c xs) (n : Nat) : Own (w.drewN n) base p c xs := h.below (below_drewN w.heap.size w n) (Nat.le_refl _)
theorem Own.drew {w w' : World} {base : Nat} {p : Option Addr} {c : Nat} {xs : List Int} (h : Own w base p c xs) (hw : ∃ n, w' = w.drewN n) : Own w' base p c xs := by obtain ⟨n, rfl⟩ := hw; exact h.drewN n
theorem Own.alloc {w : World} {base : Nat} {p : Option Addr} {c : Nat} {xs : List Int} (h : Own w base p c xs) (o : Obj) : Own (w.alloc o) base p c xs := ⟨h.row.alloc o, h.rng⟩

theorem iget_set {xs : List Int} {j k : Nat} {x : Int} (hj : j < xs.length) : iget (xs.set j x) k = if j = k then x else iget xs k := by
  simp only [iget, List.getD, List.getElem?_set]
  split
  · rename_i h; subst h; simp [hj]
  · rfl
theorem Own.set {w : World} {base g : Nat} {c : Nat} {xs : List Int} (h : Own w base (some ⟨g, 0, none⟩) c xs) (j : Nat) {x : Int} (hx : in64 x) :
    Own (w.setCell ⟨g, j, none⟩ (.int .i64 x)) base (some ⟨g, 0, none⟩) c (xs.set j x) ∧ w.grownBy (w.setCell ⟨g, j, none⟩ (.int .i64 x)) (some g) := by
  obtain ⟨h1, h2⟩ := h.row.stored j (.int .i64 x)
  refine ⟨⟨by rw [List.length_set, List.map_set]; exact h1, fun k hk => ?_⟩, h2⟩
  by_cases hj : j < xs.length
  · rw [iget_set hj]
    split
    · exact hx
    · exact h.rng k (by simpa using hk)
  · rw [List.set_eq_of_length_le (by omega)]
    exact h.rng k (by simpa using hk)

theorem iget_append {xs ys : List Int} {k : Nat} : iget (xs ++ ys) k = if k < xs.length then iget xs k else iget ys (k - xs.length) := by
  simp only [iget, List.getD, List.getElem?_append]
  split <;> rfl
theorem own_value {w : World} {base : Nat} {v : Value} {n : Nat} {xs : List Value} {e : TypeId} (h : w.ownsRow base e 1 v n xs) : ∃ p c, v = .slice p n c := by
  rcases h.2 with ⟨rfl, rfl⟩ | ⟨g, cap, cur, rfl, _⟩
  · exact ⟨_, _, rfl⟩
  · exact ⟨_, _, rfl⟩

/-- What leads into no block but into p's or into a new one. -/
def Fresh (w : World) (p p' : Option Addr) : Prop := ∀ k, blk p' = some k → blk p = some k ∨ w.heap.size ≤ k
theorem Fresh.refl (w : World) (p : Option Addr) : Fresh w p p := fun _ h => .inl h

/-- 'append(s, x...)' at slices of whatever elements: s the call's own. -/
theorem wpList_appG {P : Program} {w : World} {ops : Array Oper} {rest : List Oper} {o : Oper} {a : Act} {Q : Exit → Act → World → Prop} (hgd : o.guard = none) (s x : Operand) (t e : TypeId)
    (ho : o.op = .call { callee := .builtin .append, args := #[s, x], argTypes := #[t, t] }) (z : Value) (size bytes : Nat) (ht : P.underlying t = some (.slice e))
    (hinfo : (P.info? e).map (fun i => (i.zero, i.size, i.bytes)) = some (some z, size, bytes)) (hzs : z.cells.size = size) (hsz0 : 0 < size)
    (base : Nat) (p q : Option Addr) (n m c d : Nat) (xs ys : List Value) (hs : a.eval s = .slice p n c) (hx : a.eval x = .slice q m d) (hown : w.ownsRow base e size (.slice p n c) n xs)
    (hq : q = none → m = 0 ∧ d = 0) (hl : ys.length = m * size) (hys : ∀ ad, q = some ad → ∀ j u, ys[j]? = some u → w.cell? (ad.add j) = some u) (h1 : ∀ u ∈ ys, u.oneCell' = true)
    (h63 : n + m ≤ maxLen) (hbytes : (n + m) * bytes ≤ 140737488355328) (hbase : base ≤ w.heap.size)
    (h : ∀ p' c' w', w'.ownsRow base e size (.slice p' (n + m) c') (n + m) (xs ++ ys) → w.grownBy w' (blk p) → Fresh w p p' → wpList P ops Q rest (a.put o.dst (.slice p' (n + m) c')) w') : wpList P ops Q (o :: rest) a w := by
  obtain ⟨i, hi, hz0, hz1, hz2⟩ := info_parts hinfo
  cases q with
  | none =>
    obtain ⟨rfl, rfl⟩ := hq rfl
    obtain rfl : ys = [] := List.eq_nil_of_length_eq_zero (by omega)
    refine wpList_append_own_none hgd s x t ho base e i size ht hi _ n _ hs hown hx ?_
    have := h p c w (by simpa using hown) (World.grownBy.refl w _) (Fresh.refl w p)
    simpa using this
  | some ad =>
    by_cases hroom : n + m ≤ c ∧ p ≠ none
    · rcases hown.2 with ⟨h1', _⟩ | ⟨g, cap, cur, h1', _⟩
      · simp only [Value.slice.injEq] at h1'
        exact absurd h1'.1 hroom.2
      · simp only [Value.slice.injEq] at h1'
        obtain ⟨rfl, _, rfl⟩ := h1'
        refine wpList_append_fits w hgd s x t ho base e i size ht hi hz1 g n c xs hs hown ad m d ys hx hl (hys ad rfl) h1 hroom.1 ?_
        intro w' h2 h3
        exact h _ _ w' h2 h3 (Fresh.refl _ _)
    · have hfull : c < n + m ∨ m = 0 := by
        rcases hown.2 with ⟨h1', h2'⟩ | ⟨g, cap, cur, h1', _⟩
        · simp only [Value.slice.injEq] at h1'
          obtain ⟨rfl, _, rfl⟩ := h1'
          omega
        · simp only [Value.slice.injEq] at h1'
          obtain ⟨rfl, _, rfl⟩ := h1'
          left
          have : ¬ (n + m ≤ c) := fun hh => hroom ⟨hh, by simp⟩
          omega
      rcases Nat.lt_or_ge c (n + m) with hfull | hnf
      · refine wpList_append_grows w hgd s x t ho e i z size bytes ht hi hz0 hz1 hz2 hzs hsz0 p n c xs hs ?_ hown.1 ?_ ad m d ys hx hl (hys ad rfl) h1 hfull h63 hbytes ?_
        · rintro rfl
          rcases hown.2 with ⟨h1', h2'⟩ | ⟨g, cap, cur, h1', _⟩
          · simp only [Value.slice.injEq] at h1'
            exact ⟨h2', h1'.2.2⟩
          · simp at h1'
        · rintro b rfl j u hu
          rcases hown.2 with ⟨h1', h2'⟩ | ⟨g, cap, cur, h1', _⟩
          · simp at h1'
          · simp only [Value.slice.injEq, Option.some.injEq] at h1'
            obtain ⟨rfl, _, _⟩ := h1'
            exact hown.cells (g := g) rfl j u hu
        · intro v' w' h2 h3
          have hlt := h2.lt
          obtain ⟨p', c', rfl⟩ : ∃ p' c', v' = .slice p' (n + m) c' := by
            rcases h2.2 with ⟨rfl, hh⟩ | ⟨g, cap, cur, rfl, _⟩
            · exact ⟨_, _, by rw [hh]⟩
            · exact ⟨_, _, rfl⟩
          refine h p' c' w' ⟨h2.1, ?_⟩ ⟨h3.os, h3.tape, h3.output, h3.size, fun k hk _ => h3.block k hk (by simp)⟩ ?_
          · rcases h2.2 with h4 | ⟨g, cap, cur, h4, h5, r⟩
            · exact .inl h4
            · exact .inr ⟨g, cap, cur, h4, Nat.le_trans hbase h5, r⟩
          · intro k hk
            exact .inr (hlt k (by cases p' <;> simp_all [blk, Value.ownBlock])).1
      · have hm0 : m = 0 := by omega
        subst hm0
        have hys0 : ys = [] := List.eq_nil_of_length_eq_zero (by omega)
        subst hys0
        -- nothing is appended: a nil slice stays nil, or there is room
        rcases hown.2 with ⟨h1', h2'⟩ | ⟨g, cap, cur, h1', _⟩
        · simp only [Value.slice.injEq] at h1'
          obtain ⟨rfl, rfl, rfl⟩ := h1'
          refine wpList_append_own w hgd s x t ho base e i z size bytes ht hi hz0 hz1 hz2 hzs hsz0 _ 0 xs hs hown ad 0 d [] hx (by simp) (by simp) (by simp) (by simp [maxLen]) (by simp) hbase ?_
          intro v' w' h2 h3 h4
          obtain rfl := h4.2 ⟨rfl, rfl⟩
          exact h none 0 w' h2 h3 (Fresh.refl _ _)
        · simp only [Value.slice.injEq] at h1'
          obtain ⟨rfl, _, rfl⟩ := h1'
          exact absurd ⟨hnf, by simp⟩ hroom

/-- 'append(s, x...)' at slices of ints: s the call's own. -/
theorem wpList_app {w : World} {ops : Array Oper} {rest : List Oper} {o : Oper} {a : Act} {Q : Exit → Act → World → Prop} (hgd : o.guard = none) (s x : Operand)
    (ho : o.op = .call { callee := .builtin .append, args := #[s, x], argTypes := #[27, 27] })
    (base : Nat) (p q : Option Addr) (c d : Nat) (xs ys : List Int) (hs : a.eval s = .slice p xs.length c) (hx : a.eval x = .slice q ys.length d) (hown : Own w base p c xs) (hys : Ints w q d ys)
    (hsz : xs.length + ys.length ≤ 1000000) (hbase : base ≤ w.heap.size)
    (h : ∀ p' c' w' zs, Hid (zs = xs ++ ys) → Own w' base p' c' zs → w.grownBy w' (blk p) → Fresh w p p' → wpList Try.prog ops Q rest (a.put o.dst (.slice p' zs.length c')) w') : wpList Try.prog ops Q (o :: rest) a w := by
  have hr2 : ∀ j, j < (xs ++ ys).length → in64 (iget (xs ++ ys) j) := by
    intro j hj
    rw [List.length_append] at hj
    rw [iget_append]
    split
    · exact hown.rng j ‹_›
    · exact hys.rng _ (by omega)
  refine wpList_appG hgd s x 27 3 ho (.int .i64 0) 1 8 Try.underlying27 infoInt rfl (by decide) base p q xs.length ys.length c d (xs.map (Value.int .i64)) (ys.map (Value.int .i64)) hs hx hown.row ?_ (by simp) ?_
    (by simp [Value.oneCell']) (by simp [maxLen]; omega) (by omega) hbase ?_
  · rintro rfl
    have := hys.nil rfl
    exact ⟨by have := hys.le; omega, this⟩
  · rintro ad rfl j u hu
    rw [List.getElem?_map] at hu
    obtain ⟨y, hy, rfl⟩ := Option.map_eq_some_iff.1 hu
    have hj : j < ys.length := (List.getElem?_eq_some_iff.1 hy).1
    obtain ⟨b, o, e, _, hc⟩ := hys.get hj
    cases e
    rw [add_plain, hc, iget]
    simp [List.getD, hy]
  · intro p' c' w' h2 h3 h4
    have := h p' c' w' (xs ++ ys) rfl ⟨by rw [List.length_append, List.map_append]; exact h2, hr2⟩ h3 h4
    rw [List.length_append] at this
    exact this

/-- One number in a new block, as 'append(s, x)' lays it first. -/
theorem ints_one (w : World) {x : Int} (hx : in64 x) (t : TypeId) : Ints (w.alloc (.cells #[.int .i64 x] t)) (some ⟨w.heap.size, 0, none⟩) 1 [x] := by
  refine ⟨by simp, by omega, fun h => (by cases h), ?_, ?_, ?_⟩
  · rintro a ⟨⟩ _; exact ⟨rfl, by simp⟩
  · rintro b o ⟨⟩ j hj
    simp at hj; subst hj
    rw [World.cell?_alloc_at _ _ _ _ rfl]; rfl
  · intro j hj
    simp at hj; subst hj; exact hx
/-- 'append(s, x)', x one number, laid in a new block. -/
theorem wpList_app1 {w : World} {ops : Array Oper} {rest : List Oper} {o : Oper} {a : Act} {Q : Exit → Act → World → Prop} (hgd : o.guard = none) (s x : Operand)
    (ho : o.op = .call { callee := .builtin .append, args := #[s, x], argTypes := #[27, 27] })
    (base : Nat) (p : Option Addr) (c : Nat) (xs : List Int) (y : Int) (hs : a.eval s = .slice p xs.length c) {B : Nat} (hx : a.eval x = .slice (some ⟨B, 0, none⟩) 1 1) (hB : w.heap.size = B) (hown : Own w base p c xs) (hy : in64 y)
    (hsz : xs.length ≤ 900000) (hbase : base ≤ w.heap.size)
    (h : ∀ p' c' w' zs, Hid (zs = xs ++ [y]) → Own w' base p' c' zs → w.grownBy w' (blk p) → Fresh w p p' → wpList Try.prog ops Q rest (a.put o.dst (.slice p' zs.length c')) w') : wpList Try.prog ops Q (o :: rest) a (w.alloc (.cells #[.int .i64 y] 3)) := by
  subst hB
  refine wpList_app hgd s x ho base p (some ⟨w.heap.size, 0, none⟩) c 1 xs [y] hs hx (hown.alloc _) (ints_one w hy _) (by simp; omega) (by simp; omega) ?_
  intro p' c' w' zs hz h1 h2 h3
  refine h p' c' w' zs hz h1 ⟨h2.os, h2.tape, h2.output, by have := h2.size; simp at this; omega, fun k hk hne => ?_⟩ (fun k hk => by
    rcases h3 k hk with h4 | h4
    · exact .inl h4
    · exact .inr (by simp at h4; omega))
  rw [h2.block k (by simp; omega) hne]
  exact Below.heap_alloc _ _ _ hk
theorem below_grown {B : Nat} {w0 w w' : World} {p : Option Addr} {base : Nat} (h : Below B w0 w) (hg : w.grownBy w' (blk p)) (hB : B ≤ w.heap.size) (hb : ∀ k, blk p = some k → base ≤ k ∧ k < w.heap.size) (hbB : B ≤ base) : Below B w0 w' :=
  h.grown hg hB (fun k hk => Nat.le_trans hbB (hb k hk).1)

/-- '[]int{}': a new row of no cell. -/
theorem Own.made (w : World) (base : Nat) (hb : base ≤ w.heap.size) : Own (w.alloc (.cells #[] 3)) base (some ⟨w.heap.size, 0, none⟩) 0 [] :=
  ⟨World.ownsRow_made w #[] 0 hb (by simp [maxLen]) rfl, fun _ h => (by simp at h)⟩
/-- A literal row. -/
theorem Own.lit (w : World) (base : Nat) (hb : base ≤ w.heap.size) (xs : List Int) (hsz : xs.length ≤ 1000000) (hr : ∀ j, j < xs.length → in64 (iget xs j)) :
    Own (w.alloc (.cells (xs.map (Value.int .i64)).toArray 3)) base (some ⟨w.heap.size, 0, none⟩) xs.length xs := by
  refine ⟨?_, hr⟩
  have := World.ownsRow_lit (e := 3) (size := 1) (base := base) w (xs.map (Value.int .i64)).toArray xs.length hb (by simp [maxLen]; omega) (by simp)
  simpa using this

theorem grown_trans {a b c : World} {row : Option Nat} (h : a.grownBy b row) (k : b.grownBy c row) : a.grownBy c row :=
  ⟨k.os.trans h.os, k.tape.trans h.tape, k.output.trans h.output, Nat.le_trans h.size k.size, fun i hi hne => (k.block i (Nat.lt_of_lt_of_le hi h.size) hne).trans (h.block i hi hne)⟩
theorem in64_zero : in64 0 := ⟨by omega, by omega⟩

/-- 'make([]int, n)', n a variable. -/
theorem wpList_mk {w : World} {ops : Array Oper} {rest : List Oper} {o : Oper} {a : Act} {Q : Exit → Act → World → Prop} (hg : o.guard = none) (l c : Operand) (hop : o.op = Op.makeSlice 27 l c)
    (base n : Nat) (hl : a.eval l = .int .i64 (n : Int)) (hc : a.eval c = .int .i64 (n : Int)) (hn : n ≤ 1000000) (hb : base ≤ w.heap.size)
    (hK : ∀ w', Own w' base (some ⟨w.heap.size, 0, none⟩) n (List.replicate n 0) → w.grownBy w' none → w'.heap.size = w.heap.size + 1 → wpList Try.prog ops Q rest (a.put o.dst (.slice (some ⟨w.heap.size, 0, none⟩) n n)) w') : wpList Try.prog ops Q (o :: rest) a w := by
  obtain ⟨i, hi, hz0, hz1, hz2⟩ := info_parts infoInt
  refine wpList_plain hg fun K hK' => ?_
  have hrun := run_make (P := Try.prog) w 27 3 i (.int .i64 0) Try.underlying27 hi hz0 .i64 .i64 (n : Int) (n : Int) (by omega) (by omega) (by rw [hz2]; omega) (by omega)
  have hcs : (madeCells (Value.int .i64 0).cells (n * 1)).toList = List.replicate n (.int .i64 0) := by
    rw [Nat.mul_one]; exact toList_madeCells_one _ _
  unfold Oper.wp
  rw [hz1] at hrun
  simp only [Int.toNat_natCast] at hrun
  simp [execOp, hop, hl, hc, hrun, Result.andThen]
  refine hK' _ _ (hK _ ⟨?_, ?_⟩ (World.grownBy_alloc _ _ _) (by simp))
  · have := World.ownsRow_lit (e := 3) (size := 1) (base := base) w (madeCells (Value.int .i64 0).cells (n * 1)) n hb (by simp [maxLen]; omega) (by rw [size_madeCells])
    rw [hcs] at this
    simpa using this
  · intro j hj
    simp at hj
    simp [iget, List.getD, hj, in64]
end Go.Proofs.Ytmcncflieoolmaa
