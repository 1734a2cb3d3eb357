/- Lists that a text lays out itself, and the best assignment of given numbers, by looking at all; no condition. -/
import Derived.Test.YtcgaojnfgkfnkaaTopRotaCheapestm1
import Derived.Test.YtcgaojnfgkfnkaaTopRotaCheapestm2
import Derived.Maps.RangeWalk
import Derived.RangeFuncOwn
import Derived.Test.YtcgaojnfgkfnkaaTopRotaCheapestm3
import Derived.Orders
import Derived.WalkKit
/- Lists that a text lays out itself, and the best assignment of given numbers, by looking at all; no condition. -/
namespace Go.Proofs.Ytcgaojnfgkfnkaa
open Go.ChangeShapes Go.WideShapes Go.ChangeAt Go.RowKit Go.Deep
set_option linter.unusedVariables false
set_option linter.unusedSimpArgs false

theorem Ints.lit (w : World) (xs : List Int) (hsz : xs.length ≤ 1000000) (hr : ∀ x ∈ xs, in64 x) :
    Ints (w.alloc (.cells (xs.map (Value.int .i64)).toArray 3)) (some ⟨w.heap.size, 0, none⟩) xs.length xs :=
  (Own.lit w w.heap.size (Nat.le_refl _) xs hsz (fun j hj => hr _ (iget_mem hj))).ints

theorem Mat.lit (w : World) (rows : List (Option Addr × Nat × List Int)) (hsz : rows.length ≤ 1000000) (hr : ∀ r ∈ rows, Ints w r.1 r.2.1 r.2.2) :
    Mat (w.alloc (.cells (rows.map fun r => Value.slice r.1 r.2.2.length r.2.1).toArray 23)) (some ⟨w.heap.size, 0, none⟩) rows.length (rows.map fun r => r.2.2) := by
  have hb : Below w.heap.size w (w.alloc (.cells (rows.map fun r => Value.slice r.1 r.2.2.length r.2.1).toArray 23)) := (Below.refl _ w).alloc (Nat.le_refl _) _
  have hn := World.alloc_heap_new w (.cells (rows.map fun r => Value.slice r.1 r.2.2.length r.2.1).toArray 23)
  refine ⟨by simp, by omega, fun h => (by cases h), ?_, ?_⟩
  · rintro a ⟨⟩ _
    exact ⟨rfl, by simp⟩
  · rintro b o ⟨⟩ j hj
    have hj' : j < rows.length := by simpa using hj
    have hg : rget (rows.map fun r => r.2.2) j = rows[j].2.2 := by rw [rget_of hj]; simp
    refine ⟨rows[j].1, rows[j].2.1, ?_, ?_⟩
    · simp only [World.cell?]
      rw [hn, hg, Nat.zero_add]
      simp [hj']
    · rw [hg]
      exact (hr _ (List.getElem_mem hj')).below hb (Nat.le_refl _)

/-- All lists of m numbers below n. -/
def allD (n : Nat) : Nat → List (List Int)
  | 0 => [[]]
  | m + 1 => (allD n m).flatMap fun l => (List.range n).map fun (j : Nat) => (j : Int) :: l
theorem mem_allD {n : Nat} : ∀ (m : Nat) (l : List Int), l.length = m → (∀ x ∈ l, 0 ≤ x ∧ x < n) → l ∈ allD n m := by
  intro m
  induction m with
  | zero => intro l hl _; obtain rfl := List.eq_nil_of_length_eq_zero hl; simp [allD]
  | succ m ih =>
    intro l hl hd
    cases l with
    | nil => simp at hl
    | cons x t =>
      simp only [allD, List.mem_flatMap, List.mem_map, List.mem_range]
      refine ⟨t, ih t (by simpa using hl) (fun y hy => hd y (List.mem_cons_of_mem _ hy)), x.toNat, ?_, ?_⟩
      · have := hd x (List.mem_cons_self ..); omega
      · have := hd x (List.mem_cons_self ..)
        rw [show ((x.toNat : Nat) : Int) = x from by omega]
def lltB (a b : List Int) : Bool := (List.range a.length).any fun i => ((List.range i).all fun j => iget a j == iget b j) && decide (iget a i < iget b i)
theorem llt_of {a b : List Int} (h : lltB a b = true) : llt a b := by
  unfold lltB at h
  obtain ⟨i, hi, h2⟩ := List.any_eq_true.1 h
  rw [Bool.and_eq_true] at h2
  refine ⟨i, by simpa using hi, fun j hj => ?_, by simpa using h2.2⟩
  have := List.all_eq_true.1 h2.1 j (by simpa using hj)
  simpa using this
/-- Looks at all lists: a is the best assignment. -/
def bestChk (v : List (List Int)) (a : List Int) : Bool :=
  isAB a v.length && (allD v.length v.length).all fun x => !isAB x v.length || decide (worthI v x < worthI v a) || (decide (worthI v x = worthI v a) && (x == a || lltB a x))
theorem isBest_of_chk {v : List (List Int)} {a : List Int} (h : bestChk v a = true) : IsBest v a := by
  unfold bestChk at h
  rw [Bool.and_eq_true] at h
  have hA : IsA a v.length := by simpa [isAB] using h.1
  refine ⟨hA, .inr ⟨hA, fun x hx => ?_⟩⟩
  have hm : x ∈ allD v.length v.length := mem_allD _ _ hx.1 (fun y hy => by
    obtain ⟨j, hj, rfl⟩ := List.getElem_of_mem hy
    have := isA_digits hx j hj
    rwa [iget_of hj] at this)
  have h2 := List.all_eq_true.1 h.2 x hm
  have hxb : isAB x v.length = true := by simp [isAB, hx]
  rw [hxb] at h2
  simp only [Bool.not_true, Bool.false_or, Bool.or_eq_true, Bool.and_eq_true, decide_eq_true_iff, beq_iff_eq] at h2
  rcases h2 with h3 | ⟨h3, h4 | h4⟩
  · exact .inl h3
  · exact .inr ⟨h3, .inl h4⟩
  · exact .inr ⟨h3, .inr (llt_of h4)⟩
end Go.Proofs.Ytcgaojnfgkfnkaa

/- Weeks of the least cost: bounds that prove them, and the first of them; plain, no program. -/
namespace Go.Proofs.Ytcgaojnfgkfnkaa
set_option linter.unusedVariables false
set_option linter.unusedSimpArgs false

/-- The first week of the least cost. -/
def IsWeek (c : List (List Int)) (a : List Int) : Prop := IsA a c.length ∧ FirstMax (fun x => IsA x c.length) (fun x => - worthI c x) a
theorem IsWeek.uniq {c : List (List Int)} {a b : List Int} (h : IsWeek c a) (k : IsWeek c b) : a = b := h.2.uniq k.2
noncomputable def weekA (c : List (List Int)) : List Int := Classical.epsilon (IsWeek c)
theorem weekA_eq {c : List (List Int)} {a : List Int} (h : IsWeek c a) : weekA c = a := (Classical.epsilon_spec (p := IsWeek c) ⟨a, h⟩).uniq h

/-- Bounds of agents (from 1 on) and shifts (from 1 on): no count is less than both together. -/
def Feas (n : Nat) (c : Nat → Nat → Int) (U V : Nat → Int) : Prop := ∀ i k, i < n → k < n → U (i + 1) + V (k + 1) ≤ c i k
def Sharp (c : Nat → Nat → Int) (U V : Nat → Int) (i k : Nat) : Prop := c i k = U (i + 1) + V (k + 1)
instance (c : Nat → Nat → Int) (U V : Nat → Int) (i k : Nat) : Decidable (Sharp c U V i k) := by unfold Sharp; infer_instance
/-- A week along which the bounds are sharp. -/
def ShA (n : Nat) (c : Nat → Nat → Int) (U V : Nat → Int) (a : List Int) : Prop := IsA a n ∧ ∀ i, i < n → Sharp c U V i (itm a i)

theorem sum_per {n : Nat} {U V : Nat → Int} {s : Nat → Nat} (h : Per n s) : sumTo (fun i => U (i + 1) + V (s i + 1)) n = sumTo (fun i => U (i + 1)) n + sumTo (fun i => V (i + 1)) n := by
  rw [sumTo_add, h.sum (fun k => V (k + 1))]
theorem val_ge {n : Nat} {c : Nat → Nat → Int} {U V : Nat → Int} (hF : Feas n c U V) {s : Nat → Nat} (h : Per n s) : sumTo (fun i => U (i + 1)) n + sumTo (fun i => V (i + 1)) n ≤ val c n s := by
  rw [← sum_per h]
  exact sumTo_le fun i hi => hF i (s i) hi (h.lt i hi)
theorem sumTo_eq_all {f g : Nat → Int} {n : Nat} (h : ∀ i, i < n → f i ≤ g i) (e : sumTo g n ≤ sumTo f n) : ∀ i, i < n → f i = g i := fun i hi => by
  have := sumTo_single_le (f := fun i => g i - f i) (n := n) (fun i hi => by have := h i hi; omega) hi
  rw [sumTo_sub] at this
  have := h i hi
  omega
theorem val_sharp {n : Nat} {c : Nat → Nat → Int} {U V : Nat → Int} (hF : Feas n c U V) {s : Nat → Nat} (h : Per n s) : val c n s = sumTo (fun i => U (i + 1)) n + sumTo (fun i => V (i + 1)) n ↔ ∀ i, i < n → Sharp c U V i (s i) := by
  constructor
  · intro e i hi
    have := sumTo_eq_all (f := fun i => U (i + 1) + V (s i + 1)) (g := fun i => c i (s i)) (n := n) (fun i hi => hF i (s i) hi (h.lt i hi)) (by rw [sum_per h]; exact Int.le_of_eq e) i hi
    exact this.symm
  · intro e
    rw [← sum_per h]
    exact sumTo_congr fun i hi => e i hi
/-- The first of the sharp weeks is the first of the least cost. -/
theorem isWeek_of {c : List (List Int)} {U V : Nat → Int} {a : List Int} (hF : Feas c.length (bid c) U V) (ha : ShA c.length (bid c) U V a)
    (hf : ∀ x, ShA c.length (bid c) U V x → x = a ∨ llt a x) : IsWeek c a := by
  refine ⟨ha.1, .inr ⟨ha.1, fun x hx => ?_⟩⟩
  have e1 := (val_sharp hF (isA_per ha.1)).2 ha.2
  have e2 := val_ge hF (isA_per hx)
  simp only []
  rw [worth_val (v := c) (a := a) ha.1.1, worth_val (v := c) (a := x) hx.1, e1]
  by_cases e : val (bid c) c.length (itm x) = sumTo (fun i => U (i + 1)) c.length + sumTo (fun i => V (i + 1)) c.length
  · rw [e]
    exact .inr ⟨rfl, hf x ⟨hx, (val_sharp hF (isA_per hx)).1 e⟩⟩
  · exact .inl (by omega)

/-! ### Exchanges: later agents give their shifts on -/
/-- The agent that has a shift. -/
noncomputable def hol (n : Nat) (a : List Int) (k : Nat) : Nat := inv n (itm a) k
theorem hol_spec {n : Nat} {a : List Int} (h : IsA a n) {k : Nat} (hk : k < n) : hol n a k < n ∧ itm a (hol n a k) = k := (isA_per h).inv_spec hk
theorem hol_of {n : Nat} {a : List Int} (h : IsA a n) {i : Nat} (hi : i < n) : hol n a (itm a i) = i := (isA_per h).inv_of hi
/-- What a search that finds nothing has seen: each of them (later than i) cannot give its shift but to who was seen, or to earlier ones. -/
def Shut (n : Nat) (c : Nat → Nat → Int) (U V : Nat → Int) (a : List Int) (i free : Nat) (S : Nat → Bool) (b : Nat) (m : Nat) : Prop :=
  ∀ k, k < m → Sharp c U V b k → k ≠ itm a b → k ≠ free ∧ (hol n a k ≤ i ∨ S (hol n a k) = true)
theorem Shut.mono {n : Nat} {c : Nat → Nat → Int} {U V : Nat → Int} {a : List Int} {i free : Nat} {S T : Nat → Bool} {b m : Nat} (h : Shut n c U V a i free S b m) (hT : ∀ x, S x = true → T x = true) : Shut n c U V a i free T b m := fun k hk hs hn => by
  obtain ⟨h1, h2⟩ := h k hk hs hn
  exact ⟨h1, h2.imp id (hT _)⟩
/-- A set that a permutation maps into itself takes no one in from outside. -/
theorem per_closed {n : Nat} {s : Nat → Nat} (h : Per n s) {T : Nat → Prop} (hT : ∀ b, b < n → T b → T (s b)) {y : Nat} (hy : y < n) (hy2 : T (s y)) : T y := by
  classical
  have h1 : (((List.range n).filter fun b => decide (T b)).map s).Nodup := by
    rw [List.nodup_iff_pairwise_ne, List.pairwise_map]
    have := (List.nodup_range (n := n)).filter fun b => decide (T b)
    refine List.Pairwise.imp_of_mem ?_ this
    intro a b ha hb hne e
    exact hne (h.inj a b (List.mem_range.1 (List.mem_filter.1 ha).1) (List.mem_range.1 (List.mem_filter.1 hb).1) e)
  apply Classical.byContradiction
  intro hc
  have h2 : s y ∉ ((List.range n).filter fun b => decide (T b)).map s := fun hm => by
    obtain ⟨b, hb, e⟩ := List.mem_map.1 hm
    obtain ⟨hb1, hb2⟩ := List.mem_filter.1 hb
    have := h.inj b y (List.mem_range.1 hb1) hy e
    subst this
    exact hc (by simpa using hb2)
  have h3 := (List.nodup_cons.2 ⟨h2, h1⟩).length_le_of_subset (l₂ := (List.range n).filter fun b => decide (T b)) (by
    intro x hx
    rcases List.mem_cons.1 hx with rfl | hx
    · exact List.mem_filter.2 ⟨List.mem_range.2 (h.lt y hy), by simpa using hy2⟩
    · obtain ⟨b, hb, rfl⟩ := List.mem_map.1 hx
      obtain ⟨hb1, hb2⟩ := List.mem_filter.1 hb
      have hb3 := List.mem_range.1 hb1
      exact List.mem_filter.2 ⟨List.mem_range.2 (h.lt b hb3), by simpa using hT b hb3 (by simpa using hb2)⟩)
  simp at h3
  omega
/-- A search from the shift k that finds nothing: no sharp week that agrees below i gives k to i. -/
theorem shut_none {n : Nat} {c : Nat → Nat → Int} {U V : Nat → Int} {a x : List Int} {i k : Nat} {S : Nat → Bool} (ha : IsA a n) (hi : i < n) (hk : k < itm a i)
    (hS : ∀ b, b < n → S b = true → i < b ∧ Shut n c U V a i (itm a i) S b n) (h0 : hol n a k ≤ i ∨ S (hol n a k) = true)
    (hx : ShA n c U V x) (hag : ∀ j, j < i → itm x j = itm a j) : itm x i ≠ k := by
  intro e
  have hpa := isA_per ha
  have hpx := isA_per hx.1
  have hkn : k < n := by have := hpa.lt i hi; omega
  -- who has in a what b has in x
  have hs : Per n (fun b => hol n a (itm x b)) := ⟨fun b hb => (hol_spec ha (hpx.lt b hb)).1, fun b d hb hd e => by
    have h1 := (hol_spec ha (hpx.lt b hb)).2
    have h2 := (hol_spec ha (hpx.lt d hd)).2
    rw [e] at h1
    exact hpx.inj b d hb hd (h1.symm.trans h2)⟩
  have hlow : ∀ b, b < n → i < b → ¬ hol n a (itm x b) ≤ i ∨ hol n a (itm x b) = i := fun b hb hib => by
    by_cases h1 : hol n a (itm x b) < i
    · exfalso
      have h2 := hag _ h1
      have h3 := (hol_spec ha (hpx.lt b hb)).2
      rw [h3] at h2
      have := hpx.inj _ _ (by omega) hb h2
      omega
    · omega
  have hT : ∀ b, b < n → (S b = true ∧ itm x b ≠ itm a b) → (S (hol n a (itm x b)) = true ∧ itm x (hol n a (itm x b)) ≠ itm a (hol n a (itm x b))) := by
    rintro b hb ⟨h1, h2⟩
    obtain ⟨h3, h4⟩ := hS b hb h1
    obtain ⟨h5, h6⟩ := h4 (itm x b) (hpx.lt b hb) (hx.2 b hb) h2
    obtain ⟨o1, o2⟩ := hol_spec ha (hpx.lt b hb)
    have h7 : S (hol n a (itm x b)) = true := by
      rcases h6 with h6 | h6
      · rcases hlow b hb h3 with h8 | h8
        · exact absurd h6 h8
        · rw [h8] at o2; exact absurd o2.symm h5
      · exact h6
    refine ⟨h7, fun e2 => ?_⟩
    rw [o2] at e2
    have := hpx.inj _ _ o1 hb e2
    rw [this] at o2
    exact h2 o2.symm
  obtain ⟨o1, o2⟩ := hol_spec ha hkn
  have hoi : hol n a k ≠ i := fun e2 => by rw [e2] at o2; omega
  have hno : ¬ hol n a k < i := fun h1 => by
    have h2 := hag _ h1
    rw [o2] at h2
    have := hpx.inj _ _ o1 hi (h2.trans e.symm)
    omega
  have hT0 : S (hol n a (itm x i)) = true ∧ itm x (hol n a (itm x i)) ≠ itm a (hol n a (itm x i)) := by
    rw [e, o2]
    refine ⟨h0.elim (fun h0 => by omega) (fun h0 => h0), fun e2 => hoi (hpx.inj _ _ o1 hi (e2.trans e.symm))⟩
  have := per_closed hs (T := fun b => S b = true ∧ itm x b ≠ itm a b) hT hi hT0
  have := (hS i hi this.1).1
  omega
/-- The week behind a search that found: agents up to i, and those that were seen ahead, have what they had; the shift k is free, and another one takes what i has. -/
structure Gave (n : Nat) (c : Nat → Nat → Int) (U V : Nat → Int) (a : List Int) (i : Nat) (S : Nat → Bool) (k : Nat) (a' : List Int) : Prop where
  low : ∀ j, j ≤ i → iget a' j = iget a j
  seen : ∀ j, j < n → S j = true → iget a' j = iget a j
  len : a'.length = n
  perm : IsA (a'.set i k) n
  sharp : ∀ j, j < n → j ≠ i → Sharp c U V j (itm a' j)
theorem set_self {xs : List Int} {j : Nat} (hj : j < xs.length) : xs.set j (iget xs j) = xs := by
  rw [iget_of hj]; exact List.set_getElem_self hj
theorem swap_isA {xs : List Int} {n i j : Nat} (h : IsA xs n) (hi : i < n) (hj : j < n) (hne : i ≠ j) : IsA ((xs.set i (iget xs j)).set j (iget xs i)) n := by
  have hl := h.1
  have g : ∀ m, m < n → iget ((xs.set i (iget xs j)).set j (iget xs i)) m = if j = m then iget xs i else if i = m then iget xs j else iget xs m := fun m hm => by
    rw [iget_set (by simp; omega)]
    split
    · rfl
    · rw [iget_set (by omega)]
  have g2 : ∀ m, m < n → itm ((xs.set i (iget xs j)).set j (iget xs i)) m = itm xs (if j = m then i else if i = m then j else m) := fun m hm => by
    unfold itm; rw [g m hm]
    split
    · rfl
    · split <;> rfl
  have hp := isA_per h
  have hsw : Per n (fun m => if j = m then i else if i = m then j else m) := by
    refine ⟨fun m hm => ?_, fun m l hm hl e => ?_⟩
    · split
      · exact hi
      · split
        · exact hj
        · exact hm
    · by_cases a1 : j = m
      · by_cases a2 : j = l
        · omega
        · by_cases b2 : i = l
          · rw [if_pos a1, if_neg a2, if_pos b2] at e; omega
          · rw [if_pos a1, if_neg a2, if_neg b2] at e; omega
      · by_cases a2 : j = l
        · by_cases b1 : i = m
          · rw [if_neg a1, if_pos b1, if_pos a2] at e; omega
          · rw [if_neg a1, if_neg b1, if_pos a2] at e; omega
        · by_cases b1 : i = m <;> by_cases b2 : i = l
          · omega
          · rw [if_neg a1, if_pos b1, if_neg a2, if_neg b2] at e; omega
          · rw [if_neg a1, if_neg b1, if_neg a2, if_pos b2] at e; omega
          · rw [if_neg a1, if_neg b1, if_neg a2, if_neg b2] at e; omega
  refine isA_of (by simp [hl]) (fun m hm => ?_) ((hsw.comp hp).congr g2)
  rw [g m hm]
  have h0 := fun m hm => (isA_lt h m hm).1
  split
  · exact h0 i hi
  · split
    · exact h0 j hj
    · exact h0 m hm
/-- The agent b, seen now, takes the shift m; what it had, k, is free. -/
theorem Gave.step {n : Nat} {c : Nat → Nat → Int} {U V : Nat → Int} {a a' : List Int} {i b k m : Nat} {S T : Nat → Bool} (ha : a.length = n) (h : Gave n c U V a i T m a') (hi : i < n) (hb : b < n) (hib : i < b) (hk : iget a b = k) (hTb : T b = true) (hSb : S b = false) (hST : ∀ j, S j = true → T j = true) (hs : Sharp c U V b m) :
    Gave n c U V a i S k (a'.set b m) := by
  have hl := h.len
  refine ⟨fun j hj => ?_, fun j hj hSj => ?_, by simp [hl], ?_, fun j hj hji => ?_⟩
  · rw [iget_set (by omega), if_neg (by omega)]; exact h.low j hj
  · rw [iget_set (by omega)]
    split
    · rename_i e; rw [← e, hSb] at hSj; cases hSj
    · exact h.seen j hj (hST j hSj)
  · have h1 := swap_isA h.perm hi hb (by omega)
    have e1 : iget (a'.set i (m : Int)) b = k := by rw [iget_set (by omega), if_neg (by omega), h.seen b hb hTb, hk]
    have e2 : iget (a'.set i (m : Int)) i = m := by rw [iget_set (by omega), if_pos rfl]
    rw [e1, e2, List.set_set] at h1
    rw [List.set_comm _ _ (by omega)]
    exact h1
  · by_cases e : b = j
    · subst e
      have : itm (a'.set b (m : Int)) b = m := by unfold itm; rw [iget_set (by omega), if_pos rfl]; simp
      rw [this]; exact hs
    · have : itm (a'.set b (m : Int)) j = itm a' j := by unfold itm; rw [iget_set (by omega), if_neg e]
      rw [this]; exact h.sharp j hj hji
/-- Where the shift is the one that i gives up, nothing need be given on. -/
theorem Gave.zero {n : Nat} {c : Nat → Nat → Int} {U V : Nat → Int} {a : List Int} {i : Nat} (S : Nat → Bool) (ha : ShA n c U V a) (hi : i < n) : Gave n c U V a i S (itm a i) a := by
  refine ⟨fun _ _ => rfl, fun _ _ _ => rfl, ha.1.1, ?_, fun j hj _ => ha.2 j hj⟩
  have h0 := (isA_lt ha.1 i hi).1
  have : ((itm a i : Nat) : Int) = iget a i := by unfold itm; omega
  rw [this, set_self (by rw [ha.1.1]; exact hi)]
  exact ha.1

/-! ### Agent by agent the least shift -/
/-- No sharp week has a lesser beginning, of m agents. -/
def Lead (n : Nat) (c : Nat → Nat → Int) (U V : Nat → Int) (a : List Int) (m : Nat) : Prop :=
  ∀ x, ShA n c U V x → (∀ j, j < m → itm x j = itm a j) ∨ ∃ j, j < m ∧ (∀ l, l < j → itm x l = itm a l) ∧ itm a j < itm x j
theorem Lead.zero (n : Nat) (c : Nat → Nat → Int) (U V : Nat → Int) (a : List Int) : Lead n c U V a 0 := fun x hx => .inl fun j hj => by omega
theorem Lead.next {n : Nat} {c : Nat → Nat → Int} {U V : Nat → Int} {a a' : List Int} {m : Nat} (h : Lead n c U V a m) (he : ∀ j, j < m → itm a' j = itm a j)
    (hm : ∀ x, ShA n c U V x → (∀ j, j < m → itm x j = itm a j) → itm a' m ≤ itm x m) : Lead n c U V a' (m + 1) := fun x hx => by
  rcases h x hx with h1 | ⟨j, hj, h1, h2⟩
  · have h3 := hm x hx h1
    by_cases e : itm x m = itm a' m
    · refine .inl fun j hj => ?_
      by_cases ej : j = m
      · rw [ej]; exact e
      · rw [h1 j (by omega), he j (by omega)]
    · exact .inr ⟨m, by omega, fun l hl => by rw [h1 l hl, he l hl], by omega⟩
  · exact .inr ⟨j, by omega, fun l hl => by rw [h1 l hl, he l (by omega)], by rw [he j hj]; exact h2⟩
theorem Lead.all {n : Nat} {c : Nat → Nat → Int} {U V : Nat → Int} {a : List Int} (h : Lead n c U V a n) (ha : IsA a n) : ∀ x, ShA n c U V x → x = a ∨ llt a x := fun x hx => by
  have hc : ∀ (b : List Int), IsA b n → ∀ j, j < n → iget b j = itm b j := fun b hb j hj => by have := (isA_lt hb j hj).1; unfold itm; omega
  rcases h x hx with h1 | ⟨j, hj, h1, h2⟩
  · refine .inl (List.ext_getElem (by rw [hx.1.1, ha.1]) fun j h3 h4 => ?_)
    have hj : j < n := by rw [← ha.1]; exact h4
    have := h1 j hj
    rw [← iget_of h3, ← iget_of h4, hc x hx.1 j hj, hc a ha j hj, this]
  · refine .inr ⟨j, by rw [ha.1]; exact hj, fun l hl => ?_, ?_⟩
    · rw [hc x hx.1 l (by omega), hc a ha l (by omega), h1 l hl]
    · rw [hc x hx.1 j hj, hc a ha j hj]; omega
end Go.Proofs.Ytcgaojnfgkfnkaa

/- Rows of bools that a call itself makes; no condition but sizes. -/
namespace Go.Proofs.Ytcgaojnfgkfnkaa
set_option linter.unusedVariables false
set_option linter.unusedSimpArgs false
open Go.ChangeShapes Go.WideShapes Go.ChangeAt Go.RowKit Go.Deep

theorem infoBool : (Try.prog.info? 4).map (fun i => (i.zero, i.size, i.bytes)) = some (some (.bool false), 1, 1) := by kernel_rfl
def bget (bs : List Bool) (k : Nat) : Bool := bs.getD k false
theorem bget_set {xs : List Bool} {j k : Nat} {x : Bool} (hj : j < xs.length) : bget (xs.set j x) k = if j = k then x else bget xs k := by
  simp only [bget, List.getD, List.getElem?_set]
  split
  · rename_i h; subst h; simp [hj]
  · rfl
/-- The slice (p, bs.length, c) is a row of bools of the call's own. -/
def OwnB (w : World) (base : Nat) (p : Option Addr) (c : Nat) (bs : List Bool) : Prop := w.ownsRow base 4 1 (.slice p bs.length c) bs.length (bs.map Value.bool)
theorem OwnB.get {w : World} {base : Nat} {p : Option Addr} {c : Nat} {bs : List Bool} (h : OwnB w base p c bs) {j : Nat} (hj : j < bs.length) :
    ∃ g, p = some ⟨g, 0, none⟩ ∧ base ≤ g ∧ g < w.heap.size ∧ w.cell? ⟨g, j, none⟩ = some (.bool (bget bs j)) ∧ w.frozen? ⟨g, j, none⟩ = false := by
  have h' := h
  unfold OwnB at h'
  rcases h.2 with ⟨h1, h2⟩ | ⟨g, cap, cur, h1, h2, h3, h4, h5, _, _⟩
  · omega
  · simp only [Value.slice.injEq] at h1
    obtain ⟨rfl, _, rfl⟩ := h1
    refine ⟨g, rfl, h2, (Array.getElem?_eq_some_iff.1 h3).1, ?_, h'.frozenAt j⟩
    rw [h'.cellAt j (by omega)]
    simp [bget, hj]
theorem OwnB.at {w : World} {base g : Nat} {c : Nat} {bs : List Bool} (h : OwnB w base (some ⟨g, 0, none⟩) c bs) {j : Nat} (hj : j < bs.length) : w.cell? ⟨g, j, none⟩ = some (.bool (bget bs j)) := by
  have h' := h
  unfold OwnB at h'
  rw [h'.cellAt j (by omega)]
  simp [bget, hj]
theorem OwnB.free {w : World} {base g : Nat} {c : Nat} {bs : List Bool} (h : OwnB w base (some ⟨g, 0, none⟩) c bs) (j : Nat) : w.frozen? ⟨g, j, none⟩ = false := World.ownsRow.frozenAt h j
theorem OwnB.set {w : World} {base g : Nat} {c : Nat} {bs : List Bool} (h : OwnB w base (some ⟨g, 0, none⟩) c bs) (j : Nat) (x : Bool) :
    OwnB (w.setCell ⟨g, j, none⟩ (.bool x)) base (some ⟨g, 0, none⟩) c (bs.set j x) ∧ w.grownBy (w.setCell ⟨g, j, none⟩ (.bool x)) (some g) := by
  obtain ⟨h1, h2⟩ := World.ownsRow.stored h j (.bool x)
  exact ⟨by unfold OwnB; rw [List.length_set, List.map_set]; exact h1, h2⟩
theorem OwnB.drewN {w : World} {base : Nat} {p : Option Addr} {c : Nat} {bs : List Bool} (h : OwnB w base p c bs) (n : Nat) : OwnB (w.drewN n) base p c bs :=
  World.ownsRow.kept h (grownBy_of_below (below_drewN w.heap.size w n) (Nat.le_refl _) none) (by cases (Value.slice p bs.length c).ownBlock <;> simp)
theorem OwnB.drew {w w' : World} {base : Nat} {p : Option Addr} {c : Nat} {bs : List Bool} (h : OwnB w base p c bs) (hw : ∃ n, w' = w.drewN n) : OwnB w' base p c bs := by obtain ⟨n, rfl⟩ := hw; exact h.drewN n
theorem setCell_back {w : World} {g j : Nat} {u old : Value} (h : w.cell? ⟨g, j, none⟩ = some old) : (w.setCell ⟨g, j, none⟩ u).setCell ⟨g, j, none⟩ old = w := by
  have hb := World.block_lt_of_cell? _ _ h
  simp only [World.setCell]
  cases w with
  | mk heap tape drawn os output =>
    simp only [World.mk.injEq, and_true, true_and]
    apply Array.ext
    · simp
    · intro i h1 h2
      simp only [Array.getElem_modify]
      by_cases e : g = i
      · subst e
        simp only [if_true]
        simp only [World.cell?] at h
        rw [Array.getElem?_eq_getElem h2] at h
        cases ho : heap[g] with
        | cells c elem frozen =>
          rw [ho] at h
          simp at h
          simp only [Obj.cells.injEq, and_true]
          apply Array.ext
          · simp
          · intro k k1 k2
            simp only [Option.isSome_none, Bool.false_eq_true, if_false, Array.getElem_setIfInBounds]
            simp at k1
            by_cases e : j = k
            · subst e
              simp
              have := (Array.getElem?_eq_some_iff.1 h).2
              exact this.symm
            · simp [e]
              rw [Array.getElem_setIfInBounds, if_neg e]
        | _ => rfl
      · simp [e]

/-- 'make([]bool, n)', n a variable. -/
theorem wpList_mkB {w : World} {ops : Array Oper} {rest : List Oper} {o : Oper} {a : Act} {Q : Exit → Act → World → Prop} (hg : o.guard = none) (l c : Operand) (hop : o.op = Op.makeSlice 81 l c)
    (base n : Nat) (hl : a.eval l = .int .i64 (n : Int)) (hc : a.eval c = .int .i64 (n : Int)) (hn : n ≤ 1000000) (hb : base ≤ w.heap.size)
    (hK : ∀ w', OwnB w' base (some ⟨w.heap.size, 0, none⟩) n (List.replicate n false) → w.grownBy w' none → w'.heap.size = w.heap.size + 1 → wpList Try.prog ops Q rest (a.put o.dst (.slice (some ⟨w.heap.size, 0, none⟩) n n)) w') : wpList Try.prog ops Q (o :: rest) a w := by
  obtain ⟨i, hi, hz0, hz1, hz2⟩ := info_parts infoBool
  refine wpList_plain hg fun K hK' => ?_
  have hrun := run_make (P := Try.prog) w 81 4 i (.bool false) Try.underlying81 hi hz0 .i64 .i64 (n : Int) (n : Int) (by omega) (by omega) (by rw [hz2]; omega) (by omega)
  have hcs : (madeCells (Value.bool false).cells (n * 1)).toList = List.replicate n (.bool false) := by
    rw [Nat.mul_one]; exact toList_madeCells_one _ _
  unfold Oper.wp
  rw [hz1] at hrun
  simp only [Int.toNat_natCast] at hrun
  simp [execOp, hop, hl, hc, hrun, Result.andThen]
  refine hK' _ _ (hK _ ?_ (World.grownBy_alloc _ _ _) (by simp))
  have := World.ownsRow_lit (e := 4) (size := 1) (base := base) w (madeCells (Value.bool false).cells (n * 1)) n hb (by simp [maxLen]; omega) (by rw [size_madeCells])
  rw [hcs] at this
  unfold OwnB
  simpa using this
/-- The cells of a new row of bools; the walk does not look behind the name. -/
def boolCells (n : Nat) : Array Value := madeCells (Value.bool false).cells (n * 1)
theorem run_mkB (n : Nat) (hn : n ≤ 1000000) (W : World) : (Instr.makeSlice 81 (.int .i64 (n : Int)) (.int .i64 (n : Int))).run Try.prog W = .ok (.slice (some ⟨W.heap.size, 0, none⟩) n n) (W.alloc (.cells (boolCells n) 4)) := by
  obtain ⟨i, hi, hz0, hz1, hz2⟩ := info_parts infoBool
  have hrun := run_make (P := Try.prog) W 81 4 i (.bool false) Try.underlying81 hi hz0 .i64 .i64 (n : Int) (n : Int) (by omega) (by omega) (by rw [hz2]; omega) (by omega)
  rw [hz1] at hrun
  simp only [Int.toNat_natCast] at hrun
  exact hrun
theorem ownB_cells (W : World) (base n : Nat) (hn : n ≤ 1000000) (hb : base ≤ W.heap.size) : OwnB (W.alloc (.cells (boolCells n) 4)) base (some ⟨W.heap.size, 0, none⟩) n (List.replicate n false) := by
  have hcs : (boolCells n).toList = List.replicate n (.bool false) := by
    unfold boolCells; rw [Nat.mul_one]; exact toList_madeCells_one _ _
  have := World.ownsRow_lit (e := 4) (size := 1) (base := base) W (boolCells n) n hb (by simp [maxLen]; omega) (by unfold boolCells; rw [size_madeCells])
  rw [hcs] at this
  unfold OwnB
  simpa using this
end Go.Proofs.Ytcgaojnfgkfnkaa

/- A region that draws its order and has no guards, walked operation by operation under one invariant, whatever order is drawn; no condition but that operations wait for earlier ones alone. -/
namespace Go.Proofs.Ytcgaojnfgkfnkaa
set_option linter.unusedVariables false
set_option linter.unusedSimpArgs false
open Go.ChangeShapes Go.WideShapes Go.ChangeAt Go.RowKit Go.Deep

def upd (us : Nat → Value) (i : Nat) (v : Value) : Nat → Value := fun k => if k = i then v else us k
/-- What an operation waits for. -/
def onL (o : Oper) : List Nat := (o.after.toList.filter fun e => Region.binds .any e).map (·.on)
def backB (ops : Array Oper) : Bool := (List.range ops.size).all fun i => match ops[i]? with
  | some o => o.guard.isNone && (onL o).all (fun k => decide (k < i))
  | none => true
/-- The operations' numbers and the slots that they fill. -/
def slotL : Nat → List Oper → List (Nat × Nat)
  | _, [] => []
  | i, o :: l => match o.dst with
    | some d => (i, d) :: slotL (i + 1) l
    | none => slotL (i + 1) l
def putL : List (Nat × Nat) → Array Value → (Nat → Value) → Array Value
  | [], t, _ => t
  | (i, d) :: l, t, us => (putL l t us).setIfInBounds d (us i)
theorem upd_same (us : Nat → Value) (i : Nat) (v : Value) : upd us i v i = v := by simp [upd]
theorem upd_ne {us : Nat → Value} {i k : Nat} {v : Value} (h : k ≠ i) : upd us i v k = us k := by simp [upd, h]
theorem putL_off : ∀ (l : List (Nat × Nat)) (t : Array Value) (us : Nat → Value) (i : Nat) (v : Value), (∀ d, (i, d) ∉ l) → putL l t (upd us i v) = putL l t us
  | [], _, _, _, _, _ => rfl
  | (j, d) :: l, t, us, i, v, h => by
    have hj : j ≠ i := fun e => h d (by simp [e])
    rw [putL, putL, upd_ne hj, putL_off l t us i v fun d' hd => h d' (List.mem_cons_of_mem _ hd)]
theorem putL_put : ∀ (l : List (Nat × Nat)) (t : Array Value) (us : Nat → Value) (i d : Nat) (v : Value), (l.map (·.1)).Nodup → (l.map (·.2)).Nodup → (i, d) ∈ l → (putL l t us).setIfInBounds d v = putL l t (upd us i v)
  | [], _, _, _, _, _, _, _, h => by cases h
  | (j, e) :: l, t, us, i, d, v, h1, h2, h => by
    rw [List.map_cons, List.nodup_cons] at h1 h2
    rcases List.mem_cons.1 h with e1 | h3
    · cases e1
      rw [putL, putL, upd_same, Array.setIfInBounds_setIfInBounds, putL_off l t us j v fun d' hd => h1.1 (List.mem_map.2 ⟨_, hd, rfl⟩)]
    · have hji : j ≠ i := fun e1 => h1.1 (e1 ▸ List.mem_map.2 ⟨_, h3, rfl⟩)
      have hde : e ≠ d := fun e1 => h2.1 (e1 ▸ List.mem_map.2 ⟨_, h3, rfl⟩)
      rw [putL, putL, upd_ne hji, Array.setIfInBounds_comm _ _ hde, putL_put l t us i d v h1.2 h2.2 h3]
theorem putL_self : ∀ (l : List (Nat × Nat)) (t : Array Value) (us : Nat → Value), (∀ i d, (i, d) ∈ l → ∀ h : d < t.size, us i = t[d]) → putL l t us = t
  | [], _, _, _ => rfl
  | (j, e) :: l, t, us, h => by
    rw [putL, putL_self l t us fun i d hd => h i d (List.mem_cons_of_mem _ hd)]
    apply Array.ext
    · simp
    · intro k h1 h2
      rw [Array.getElem_setIfInBounds h2]
      split
      · rename_i he; subst he; exact h j e (by simp) h2
      · rfl
theorem slotL_mem : ∀ (l : List Oper) (b i : Nat) (o : Oper) (d : Nat), l[i]? = some o → o.dst = some d → (b + i, d) ∈ slotL b l
  | [], _, _, _, _, h, _ => by simp at h
  | x :: l, b, 0, o, d, h, hd => by
    simp at h; subst h
    simp [slotL, hd]
  | x :: l, b, i + 1, o, d, h, hd => by
    have := slotL_mem l (b + 1) i o d (by simpa using h) hd
    rw [show b + (i + 1) = b + 1 + i by omega]
    unfold slotL
    split
    · exact List.mem_cons_of_mem _ this
    · exact this
theorem slotL_idx : ∀ (l : List Oper) (b i d : Nat), (i, d) ∈ slotL b l → b ≤ i ∧ ∃ o, l[i - b]? = some o ∧ o.dst = some d
  | [], _, _, _, h => by cases h
  | x :: l, b, i, d, h => by
    unfold slotL at h
    split at h
    · rename_i d' hd
      rcases List.mem_cons.1 h with e | h
      · cases e; exact ⟨Nat.le_refl _, x, by simp, hd⟩
      · obtain ⟨h1, o, h2, h3⟩ := slotL_idx l (b + 1) i d h
        exact ⟨by omega, o, by rw [show i - b = (i - (b + 1)) + 1 by omega]; simpa using h2, h3⟩
    · obtain ⟨h1, o, h2, h3⟩ := slotL_idx l (b + 1) i d h
      exact ⟨by omega, o, by rw [show i - b = (i - (b + 1)) + 1 by omega]; simpa using h2, h3⟩
theorem slotL_nodup : ∀ (l : List Oper) (b : Nat), ((slotL b l).map (·.1)).Nodup
  | [], _ => List.nodup_nil
  | x :: l, b => by
    unfold slotL
    split
    · rename_i d hd
      rw [List.map_cons, List.nodup_cons]
      refine ⟨fun h => ?_, slotL_nodup l (b + 1)⟩
      obtain ⟨⟨i, d'⟩, h1, h2⟩ := List.mem_map.1 h
      have := (slotL_idx l (b + 1) i d' h1).1
      simp only at h2
      omega
    · exact slotL_nodup l (b + 1)
/-- The frame, with the values us in the slots that the operations fill. -/
def actL (ops : Array Oper) (a : Act) (us : Nat → Value) : Act := { a with tmps := putL (slotL 0 ops.toList) a.tmps us }

section
variable {P : Program} {ops : Array Oper} {Q : Exit → Act → World → Prop}
theorem back_spec (hb : backB ops = true) {i : Nat} {o : Oper} (h : ops[i]? = some o) : o.guard = none ∧ ∀ e ∈ o.after, Region.binds .any e = true → e.on < i := by
  have hlt : i < ops.size := (Array.getElem?_eq_some_iff.1 h).1
  have := List.all_eq_true.1 hb i (List.mem_range.2 hlt)
  simp only [h, Bool.and_eq_true, Option.isNone_iff_eq_none] at this
  refine ⟨this.1, fun e he hbi => ?_⟩
  have h2 := List.all_eq_true.1 this.2 e.on (List.mem_map.2 ⟨e, List.mem_filter.2 ⟨by simpa using he, hbi⟩, rfl⟩)
  simpa using h2
theorem all_listed (hb : backB ops = true) {listed : Array Bool} (hs : listed.size = ops.size) (hr : Region.ready .any ops listed = []) : ∀ k, k < ops.size → listed.getD k false = true := by
  intro k
  induction k using Nat.strongRecOn with
  | _ k ih =>
    intro hk
    cases hl : listed.getD k false with
    | true => rfl
    | false =>
      have hm : k ∈ Region.ready .any ops listed := by
        rw [mem_ready]
        have hks : k < listed.size := by omega
        refine ⟨by simp [hks] at hl ⊢; exact hl, ops[k], by simp [hk], fun e he hbi => ?_⟩
        have := (back_spec hb (i := k) (o := ops[k]) (by simp [hk])).2 e he hbi
        exact ih e.on this (by omega)
      rw [hr] at hm; cases hm
theorem wanted_none {o : Oper} {y : Nat → Option Bool} (h : o.guard = none) : Region.wanted o y = true := by simp [Region.wanted, h]
theorem wpAny_inv (hb : backB ops = true) (hn : ((slotL 0 ops.toList).map (·.2)).Nodup) (a : Act) (J : (Nat → Value) → (Nat → Prop) → World → Prop)
    (hstep : ∀ us D w i o A, A = actL ops a us → ops[i]? = some o → J us D w → ¬ D i → (∀ k ∈ onL o, D k) → ∀ K : Act → World → Prop, (∀ v w', J (upd us i v) (fun k => k = i ∨ D k) w' → K (A.put o.dst v) w') → o.wp P A w K Q)
    (hend : ∀ us D w, J us D w → (∀ k, k < ops.size → D k) → Q .normal (actL ops a us) w) :
    ∀ (fuel : Nat) (listed : Array Bool) (us : Nat → Value) (w : World), listed.size = ops.size → listed.toList.count false ≤ fuel → J us (fun k => listed.getD k false = true) w → wpAny P .any ops Q fuel listed (actL ops a us) w := by
  have hput : ∀ us i o v, ops[i]? = some o → (actL ops a us).put o.dst v = actL ops a (upd us i v) := fun us i o v h => by
    have hl : ops.toList[i]? = some o := by simpa using h
    cases hd : o.dst with
    | none =>
      have hoff : putL (slotL 0 ops.toList) a.tmps (upd us i v) = putL (slotL 0 ops.toList) a.tmps us := putL_off _ _ _ _ _ fun d hm => by
        obtain ⟨_, o', h1, h2⟩ := slotL_idx _ _ _ _ hm
        rw [Nat.sub_zero, hl] at h1
        cases h1
        rw [hd] at h2; cases h2
      simp only [Act.put, actL, hoff]
    | some d =>
      have hm := slotL_mem ops.toList 0 i o d hl hd
      rw [Nat.zero_add] at hm
      have := putL_put _ a.tmps us i d v (slotL_nodup _ _) hn hm
      simp only [Act.put, actL, this]
  intro fuel
  induction fuel with
  | zero =>
    intro listed us w hs hc hJ
    have hall : ∀ k, k < ops.size → listed.getD k false = true := fun k hk => by
      cases hl : listed.getD k false with
      | true => rfl
      | false =>
        have hks : k < listed.size := by omega
        have h1 : listed[k] = false := by simpa [hks] using hl
        have := List.count_pos_iff.2 (show false ∈ listed.toList by rw [← h1]; simp)
        omega
    refine ⟨?_, hend us _ w hJ hall⟩
    rw [List.eq_nil_iff_forall_not_mem]
    intro k hk
    obtain ⟨h1, o, h2, _⟩ := mem_ready.1 hk
    have hlt : k < ops.size := (Array.getElem?_eq_some_iff.1 h2).1
    have h3 := hall k hlt
    have hks : k < listed.size := by omega
    simp [hks] at h1 h3
    rw [h1] at h3; cases h3
  | succ fuel ih =>
    intro listed us w hs hc hJ
    refine ⟨fun hr => hend us _ w hJ (all_listed hb hs hr), fun i hi => ?_⟩
    obtain ⟨h1, o, h2, h3⟩ := mem_ready.1 hi
    have hlt : i < ops.size := (Array.getElem?_eq_some_iff.1 h2).1
    have his : i < listed.size := by omega
    have h1' : listed[i] = false := by simpa [his] using h1
    have hon : ∀ k ∈ onL o, listed.getD k false = true := fun k hk => by
      obtain ⟨e, he, rfl⟩ := List.mem_map.1 hk
      obtain ⟨he1, he2⟩ := List.mem_filter.1 he
      exact h3 e (by simpa using he1) he2
    unfold wpOp
    simp only [h2, wanted_none (back_spec hb h2).1, if_true]
    refine .inl (hstep us _ w i o _ rfl h2 hJ (by simp [his, h1']) hon _ fun v w' hJ' => ?_)
    rw [hput us i o v h2]
    refine ih _ _ _ (by simp [hs]) ?_ ?_
    · rw [Array.toList_setIfInBounds, List.count_set (by simpa using his)]
      have := List.count_pos_iff.2 (show false ∈ listed.toList by rw [← h1']; simp)
      rw [if_pos (by simp [h1']), if_neg (by simp)]
      omega
    · have e : (fun k => (listed.setIfInBounds i true).getD k false = true) = fun k => k = i ∨ listed.getD k false = true := funext fun k => propext (by
        by_cases hk : k = i
        · subst hk; simp [his]
        · simp [Array.getD_eq_getD_getElem?, Array.getElem?_setIfInBounds_ne (Ne.symm hk), hk])
      rw [e]; exact hJ'
/-- A region that draws its order, under an invariant. -/
theorem wp_region_inv {id : Nat} (hm : P.follows .mixedOrders = true) (hb : backB ops = true) (hn : ((slotL 0 ops.toList).map (·.2)).Nodup) (a : Act) (w : World) (J : (Nat → Value) → (Nat → Prop) → World → Prop)
    (h0 : ∀ us, J us (fun _ => False) w.drew)
    (hstep : ∀ us D w i o A, A = actL ops a us → ops[i]? = some o → J us D w → ¬ D i → (∀ k ∈ onL o, D k) → ∀ K : Act → World → Prop, (∀ v w', J (upd us i v) (fun k => k = i ∨ D k) w' → K (A.put o.dst v) w') → o.wp P A w K Q)
    (hend : ∀ us D w, J us D w → (∀ k, k < ops.size → D k) → Q .normal (actL ops a us) w) : (Code.region id ops true).wp P Q a w := by
  refine wp_region_any hm ?_
  obtain ⟨us, hus⟩ : ∃ us : Nat → Value, ∀ i d, (i, d) ∈ slotL 0 ops.toList → ∀ h : d < a.tmps.size, us i = a.tmps[d] := by
    refine ⟨fun i => match ops[i]? with | some o => (match o.dst with | some d => a.tmps.getD d undef | none => undef) | none => undef, fun i d hm h => ?_⟩
    obtain ⟨_, o, h1, h2⟩ := slotL_idx _ _ _ _ hm
    rw [Nat.sub_zero] at h1
    have h1' : ops[i]? = some o := by simpa using h1
    simp [h1', h2, h]
  have ea : actL ops a us = a := by unfold actL; rw [putL_self _ _ _ hus]
  rw [← ea]
  refine wpAny_inv hb hn a J hstep hend _ _ us _ (by simp) (by simp) ?_
  have e : (fun k => (Array.replicate ops.size false).getD k false = true) = fun _ => False := funext fun k => propext (by
    simp [Array.getD_eq_getD_getElem?, Array.getElem?_replicate]; split <;> rfl)
  rw [e]; exact h0 us
end
section
variable {P : Program} {Q : Exit → Act → World → Prop} {K : Act → World → Prop} {o : Oper} {a : Act} {w w' : World}
theorem wp_val {v : Value} (h : (execOp a.eval o).run P w = .ok (.value v) w') (hk : K (a.put o.dst v) w') : o.wp P a w K Q := by
  unfold Oper.wp; rw [h]; exact hk
theorem wp_skip (h : (execOp a.eval o).run P w = .ok .skip w') (hk : K (a.put o.dst undef) w') : o.wp P a w K Q := by
  unfold Oper.wp; rw [h]; exact hk
theorem wp_enter {f : FuncId} {args : Array Value} (h : (execOp a.eval o).run P w = .ok (.enter f args) w') (hc : Calls P f args w' fun e w2 => ∃ u, e = .returned u ∧ K (a.put o.dst u) w2) : o.wp P a w K Q := by
  unfold Oper.wp; rw [h]
  refine Calls.mono hc fun e w2 ⟨u, he, hk⟩ => ?_
  subst he; exact hk
end
end Go.Proofs.Ytcgaojnfgkfnkaa
