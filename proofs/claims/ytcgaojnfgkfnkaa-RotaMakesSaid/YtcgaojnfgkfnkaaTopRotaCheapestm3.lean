/- Assignments as permutations, and what optimality says of cycles; plain, no program. -/
import Derived.Test.YtcgaojnfgkfnkaaTopRotaCheapestm2
/- Assignments as permutations, and what optimality says of cycles; plain, no program. -/
namespace Go.Proofs.Ytcgaojnfgkfnkaa
set_option linter.unusedVariables false
set_option linter.unusedSimpArgs false

/-! ### Sums -/
theorem sumTo_congr {f g : Nat → Int} {n : Nat} (h : ∀ i, i < n → f i = g i) : sumTo f n = sumTo g n := by
  induction n with
  | zero => rfl
  | succ n ih => simp only [sumTo]; rw [ih (fun i hi => h i (by omega)), h n (by omega)]
theorem sumTo_add (f g : Nat → Int) (n : Nat) : sumTo (fun i => f i + g i) n = sumTo f n + sumTo g n := by
  induction n with
  | zero => rfl
  | succ n ih => simp only [sumTo]; omega
theorem sumTo_sub (f g : Nat → Int) (n : Nat) : sumTo (fun i => f i - g i) n = sumTo f n - sumTo g n := by
  induction n with
  | zero => rfl
  | succ n ih => simp only [sumTo]; omega
theorem sumTo_le {f g : Nat → Int} {n : Nat} (h : ∀ i, i < n → f i ≤ g i) : sumTo f n ≤ sumTo g n := by
  induction n with
  | zero => exact Int.le_refl _
  | succ n ih =>
    simp only [sumTo]
    have := ih (fun i hi => h i (by omega))
    have := h n (by omega)
    omega
theorem sumTo_nonneg {f : Nat → Int} {n : Nat} (h : ∀ i, i < n → 0 ≤ f i) : 0 ≤ sumTo f n := by
  have := sumTo_le (f := fun _ => 0) (g := f) h
  have h0 : ∀ n, sumTo (fun _ => 0) n = 0 := by intro n; induction n with | zero => rfl | succ n ih => simp [sumTo, ih]
  rw [h0] at this; exact this
theorem sumTo_const (x : Int) (n : Nat) : sumTo (fun _ => x) n = x * n := by
  induction n with
  | zero => simp [sumTo]
  | succ n ih => simp only [sumTo]; rw [ih, Int.natCast_succ, Int.mul_add, Int.mul_one]
theorem sumTo_mul (f : Nat → Int) (x : Int) (n : Nat) : sumTo (fun i => x * f i) n = x * sumTo f n := by
  induction n with
  | zero => simp [sumTo]
  | succ n ih => simp only [sumTo]; rw [ih, Int.mul_add]
theorem sumTo_update (f : Nat → Int) (a : Nat) (y : Int) {n : Nat} (h : a < n) : sumTo (fun x => if x = a then y else f x) n = sumTo f n - f a + y := by
  induction n with
  | zero => omega
  | succ n ih =>
    simp only [sumTo]
    by_cases e : a = n
    · subst e
      rw [sumTo_congr (g := f) (fun i hi => by rw [if_neg (by omega)])]
      simp only [if_true]; omega
    · rw [ih (by omega), if_neg (by omega)]; omega
theorem sumTo_single_le {f : Nat → Int} {n : Nat} (h : ∀ i, i < n → 0 ≤ f i) {k : Nat} (hk : k < n) : f k ≤ sumTo f n := by
  have := sumTo_update f k 0 hk
  have h2 : 0 ≤ sumTo (fun x => if x = k then 0 else f x) n := sumTo_nonneg (fun i hi => by split <;> simp [h i hi])
  omega
theorem sumTo_list (f : Nat → Int) (n : Nat) : sumTo f n = ((List.range n).map f).sum := by
  induction n with
  | zero => rfl
  | succ n ih => rw [List.range_succ, List.map_append, List.sum_append_int, ← ih]; simp [sumTo]
theorem perm_sum {l m : List Int} (h : l.Perm m) : l.sum = m.sum := by
  induction h with
  | nil => rfl
  | cons x _ ih => simp [ih]
  | swap x y l => simp only [List.sum_cons]; omega
  | trans _ _ h1 h2 => exact h1.trans h2

/-! ### Permutations of the numbers below n -/
structure Per (n : Nat) (s : Nat → Nat) : Prop where
  lt : ∀ i, i < n → s i < n
  inj : ∀ i j, i < n → j < n → s i = s j → i = j

theorem Per.nodup {n : Nat} {s : Nat → Nat} (h : Per n s) : ((List.range n).map s).Nodup := by
  rw [List.nodup_iff_pairwise_ne, List.pairwise_map]
  have := List.nodup_range (n := n)
  rw [List.nodup_iff_pairwise_ne] at this
  refine List.Pairwise.imp_of_mem ?_ this
  intro a b ha hb hne e
  exact hne (h.inj a b (List.mem_range.1 ha) (List.mem_range.1 hb) e)
theorem Per.surj {n : Nat} {s : Nat → Nat} (h : Per n s) {j : Nat} (hj : j < n) : ∃ i, i < n ∧ s i = j := by
  apply Classical.byContradiction
  intro hc
  have hm : j ∉ (List.range n).map s := fun hm => by
    obtain ⟨i, hi, e⟩ := List.mem_map.1 hm
    exact hc ⟨i, List.mem_range.1 hi, e⟩
  have h1 : (j :: (List.range n).map s).Nodup := List.nodup_cons.2 ⟨hm, h.nodup⟩
  have h2 : (j :: (List.range n).map s).length ≤ (List.range n).length := h1.length_le_of_subset (by
    intro x hx
    rcases List.mem_cons.1 hx with rfl | hx
    · exact List.mem_range.2 hj
    · obtain ⟨i, hi, e⟩ := List.mem_map.1 hx
      exact List.mem_range.2 (e ▸ h.lt i (List.mem_range.1 hi)))
  simp at h2
  omega
theorem Per.perm {n : Nat} {s : Nat → Nat} (h : Per n s) : ((List.range n).map s).Perm (List.range n) := by
  rw [List.perm_ext_iff_of_nodup h.nodup List.nodup_range]
  intro a
  rw [List.mem_map, List.mem_range]
  constructor
  · rintro ⟨i, hi, rfl⟩; exact h.lt i (List.mem_range.1 hi)
  · intro ha; obtain ⟨i, hi, e⟩ := h.surj ha; exact ⟨i, List.mem_range.2 hi, e⟩
theorem Per.sum {n : Nat} {s : Nat → Nat} (h : Per n s) (f : Nat → Int) : sumTo (fun i => f (s i)) n = sumTo f n := by
  rw [sumTo_list, sumTo_list, ← perm_sum (h.perm.map f), List.map_map]; rfl
theorem Per.id (n : Nat) : Per n (fun i => i) := ⟨fun _ h => h, fun _ _ _ _ e => e⟩
theorem Per.comp {n : Nat} {s t : Nat → Nat} (h : Per n s) (k : Per n t) : Per n (fun i => t (s i)) := ⟨fun i hi => k.lt _ (h.lt i hi), fun i j hi hj e => h.inj i j hi hj (k.inj _ _ (h.lt i hi) (h.lt j hj) e)⟩
theorem Per.congr {n : Nat} {s t : Nat → Nat} (h : Per n s) (e : ∀ i, i < n → t i = s i) : Per n t := ⟨fun i hi => by rw [e i hi]; exact h.lt i hi, fun i j hi hj ee => h.inj i j hi hj (by rw [← e i hi, ← e j hj]; exact ee)⟩
/-- The inverse of a permutation. -/
noncomputable def inv (n : Nat) (s : Nat → Nat) (j : Nat) : Nat := if h : ∃ i, i < n ∧ s i = j then h.choose else 0
theorem Per.inv_spec {n : Nat} {s : Nat → Nat} (h : Per n s) {j : Nat} (hj : j < n) : inv n s j < n ∧ s (inv n s j) = j := by
  have := h.surj hj
  unfold inv; rw [dif_pos this]; exact this.choose_spec
theorem Per.inv_of {n : Nat} {s : Nat → Nat} (h : Per n s) {i : Nat} (hi : i < n) : inv n s (s i) = i := by
  have := h.inv_spec (h.lt i hi)
  exact h.inj _ _ this.1 hi this.2

/-! ### Values -/
def val (c : Nat → Nat → Int) (n : Nat) (s : Nat → Nat) : Int := sumTo (fun i => c i (s i)) n
theorem val_congr {c : Nat → Nat → Int} {n : Nat} {s t : Nat → Nat} (h : ∀ i, i < n → s i = t i) : val c n s = val c n t := sumTo_congr fun i hi => by rw [h i hi]
/-- What the owner of item x bids more for y. -/
noncomputable def wt (c : Nat → Nat → Int) (n : Nat) (s : Nat → Nat) (x y : Nat) : Int := c (inv n s x) y - c (inv n s x) x
theorem wt_self (c : Nat → Nat → Int) (n : Nat) (s : Nat → Nat) (x : Nat) : wt c n s x x = 0 := by simp [wt]
/-- How the value changes where each owner's item moves along a permutation of items. -/
theorem val_comp {c : Nat → Nat → Int} {n : Nat} {s ρ : Nat → Nat} (h : Per n s) : val c n (fun i => ρ (s i)) = val c n s + sumTo (fun x => wt c n s x (ρ x)) n := by
  have h1 := h.sum (fun x => wt c n s x (ρ x))
  rw [← h1]
  unfold val
  rw [← sumTo_add]
  refine sumTo_congr fun i hi => ?_
  simp only [wt, h.inv_of hi]
  omega

/-! ### Paths and cycles -/
def psum (w : Nat → Nat → Int) : Nat → List Nat → Int
  | _, [] => 0
  | x, y :: L => w x y + psum w y L
def lastOf : Nat → List Nat → Nat
  | x, [] => x
  | _, y :: L => lastOf y L
/-- A path of different nodes below n. -/
structure Simple (n : Nat) (x : Nat) (L : List Nat) : Prop where
  nodup : (x :: L).Nodup
  lt : ∀ y, y ∈ x :: L → y < n
theorem Simple.tail {n x y : Nat} {L : List Nat} (h : Simple n x (y :: L)) : Simple n y L := ⟨(List.nodup_cons.1 h.nodup).2, fun z hz => h.lt z (List.mem_cons_of_mem _ hz)⟩
theorem lastOf_mem (x : Nat) (L : List Nat) : lastOf x L ∈ x :: L := by
  induction L generalizing x with
  | nil => simp [lastOf]
  | cons y L ih => exact List.mem_cons_of_mem _ (ih y)

/-- Every simple cycle is a permutation that moves its nodes along, and no others. -/
theorem cycle_perm (n : Nat) : ∀ (L : List Nat) (x : Nat), Simple n x L → ∃ ρ, Per n ρ ∧ ρ (lastOf x L) = x ∧ (∀ z, z ∉ x :: L → ρ z = z) ∧
    ∀ w : Nat → Nat → Int, (∀ z, w z z = 0) → sumTo (fun z => w z (ρ z)) n = psum w x L + w (lastOf x L) x := by
  intro L
  induction L with
  | nil =>
    intro x hx
    refine ⟨fun z => z, Per.id n, rfl, fun _ _ => rfl, fun w hw => ?_⟩
    rw [sumTo_congr (g := fun _ => 0) (fun i _ => hw i), sumTo_const]
    simp [psum, lastOf, hw]
  | cons y L ih =>
    intro x hx
    obtain ⟨ρ, hρ, h1, h2, h3⟩ := ih y hx.tail
    have hxn : x < n := hx.lt x (by simp)
    have hx0 : x ∉ y :: L := (List.nodup_cons.1 hx.nodup).1
    have hlm : lastOf y L ∈ y :: L := lastOf_mem y L
    have hln : lastOf y L < n := hx.tail.lt _ hlm
    have hlx : lastOf y L ≠ x := fun e => hx0 (e ▸ hlm)
    have hyn : y < n := hx.tail.lt y (by simp)
    have hxy : x ≠ y := fun e => hx0 (e ▸ by simp)
    have hρx : ρ x = x := h2 x hx0
    refine ⟨fun z => if z = lastOf y L then x else if z = x then y else ρ z, ⟨?_, ?_⟩, ?_, ?_, ?_⟩
    · intro i hi
      split
      · exact hxn
      · split
        · exact hyn
        · exact hρ.lt i hi
    · intro i j hi hj e
      have hne : ∀ k, k < n → k ≠ x → ρ k ≠ x := fun k hk hkx ek => hkx (hρ.inj k x hk hxn (by rw [ek, hρx]))
      have hne2 : ∀ k, k < n → k ≠ lastOf y L → ρ k ≠ y := fun k hk hkl ek => hkl (hρ.inj k _ hk hln (by rw [ek, h1]))
      by_cases i1 : i = lastOf y L
      · by_cases j1 : j = lastOf y L
        · rw [i1, j1]
        · by_cases j2 : j = x
          · rw [if_pos i1, if_neg j1, if_pos j2] at e; exact absurd e hxy
          · rw [if_pos i1, if_neg j1, if_neg j2] at e; exact absurd e.symm (hne j hj j2)
      · by_cases j1 : j = lastOf y L
        · by_cases i2 : i = x
          · rw [if_neg i1, if_pos i2, if_pos j1] at e; exact absurd e.symm hxy
          · rw [if_neg i1, if_neg i2, if_pos j1] at e; exact absurd e (hne i hi i2)
        · by_cases i2 : i = x
          · by_cases j2 : j = x
            · rw [i2, j2]
            · rw [if_neg i1, if_pos i2, if_neg j1, if_neg j2] at e; exact absurd e.symm (hne2 j hj j1)
          · by_cases j2 : j = x
            · rw [if_neg i1, if_neg i2, if_neg j1, if_pos j2] at e; exact absurd e (hne2 i hi i1)
            · rw [if_neg i1, if_neg i2, if_neg j1, if_neg j2] at e; exact hρ.inj i j hi hj e
    · simp [lastOf]
    · intro z hz
      have z1 : z ≠ x := fun e => hz (e ▸ by simp)
      have z2 : z ∉ y :: L := fun e => hz (List.mem_cons_of_mem _ e)
      have z3 : z ≠ lastOf y L := fun e => z2 (e ▸ hlm)
      simp only [z3, z1, if_false]
      exact h2 z z2
    · intro w hw
      have e1 := h3 w hw
      have e2 : sumTo (fun z => w z (if z = lastOf y L then x else if z = x then y else ρ z)) n =
          sumTo (fun z => if z = lastOf y L then w (lastOf y L) x else if z = x then w x y else w z (ρ z)) n := by
        refine sumTo_congr fun z _ => ?_
        by_cases z1 : z = lastOf y L
        · simp [z1]
        · by_cases z2 : z = x
          · subst z2; simp [z1]
          · simp [z1, z2]
      rw [e2, sumTo_update (fun z => if z = x then w x y else w z (ρ z)) (lastOf y L) _ hln, sumTo_update (fun z => w z (ρ z)) x _ hxn, e1]
      simp only [hlx, if_false, h1, hρx, hw, psum, lastOf]
      omega

/-- No simple cycle gains anything where no permutation does. -/
def NoGain (w : Nat → Nat → Int) (n : Nat) : Prop := ∀ x L, Simple n x L → psum w x L + w (lastOf x L) x ≤ 0
theorem noGain_of_best {c : Nat → Nat → Int} {n : Nat} {s : Nat → Nat} (hs : Per n s) (hb : ∀ t, Per n t → val c n t ≤ val c n s) : NoGain (wt c n s) n := by
  intro x L h
  obtain ⟨ρ, hρ, _, _, h3⟩ := cycle_perm n L x h
  have e := h3 (wt c n s) (wt_self c n s)
  have := hb _ (hs.comp hρ)
  rw [val_comp hs] at this
  omega

/-! ### The greatest sums along simple paths -/
/-- g x y is the greatest sum along a simple path from x to y. -/
structure Clo (w : Nat → Nat → Int) (n : Nat) (g : Nat → Nat → Int) : Prop where
  path : ∀ x y, x < n → y < n → ∃ L, Simple n x L ∧ lastOf x L = y ∧ psum w x L = g x y
  most : ∀ x L, Simple n x L → psum w x L ≤ g x (lastOf x L)
theorem Clo.uniq {w : Nat → Nat → Int} {n : Nat} {g g' : Nat → Nat → Int} (h : Clo w n g) (h' : Clo w n g') {x y : Nat} (hx : x < n) (hy : y < n) : g x y = g' x y := by
  obtain ⟨L, hL, rfl, e⟩ := h.path x y hx hy
  obtain ⟨L', hL', e2, e'⟩ := h'.path x (lastOf x L) hx hy
  have h1 := h'.most x L hL
  have h2 := h.most x L' hL'
  rw [e2] at h2
  omega
theorem psum_append (w : Nat → Nat → Int) : ∀ (A B : List Nat) (x : Nat), psum w x (A ++ B) = psum w x A + psum w (lastOf x A) B := by
  intro A
  induction A with
  | nil => intro B x; simp [psum, lastOf]
  | cons a A ih => intro B x; simp only [List.cons_append, psum, lastOf]; rw [ih]; omega
theorem lastOf_append : ∀ (A B : List Nat) (x : Nat), lastOf x (A ++ B) = lastOf (lastOf x A) B := by
  intro A
  induction A with
  | nil => intro B x; rfl
  | cons a A ih => intro B x; exact ih B a
/-- Beyond an edge the greatest sum is at least as great. -/
theorem Clo.step {w : Nat → Nat → Int} {n : Nat} {g : Nat → Nat → Int} (h : Clo w n g) (hN : NoGain w n) {x y z : Nat} (hx : x < n) (hy : y < n) (hz : z < n) : g x y + w y z ≤ g x z := by
  obtain ⟨L, hL, rfl, e⟩ := h.path x y hx hy
  by_cases hm : z ∈ x :: L
  · -- z lies on the path: the rest of it closes a cycle
    obtain ⟨A, B, hAB⟩ : ∃ A B, x :: L = A ++ z :: B := List.append_of_mem hm
    cases A with
    | nil =>
      simp at hAB
      obtain ⟨rfl, rfl⟩ := hAB
      have h1 := hN x L hL
      have h2 := h.most x [] ⟨by simp, fun y hy => hL.lt y (by simp at hy; simp [hy])⟩
      simp [psum, lastOf] at h2
      omega
    | cons a A =>
      simp only [List.cons_append, List.cons.injEq] at hAB
      obtain ⟨rfl, rfl⟩ := hAB
      have hnd := hL.nodup
      have e1 : psum w x (A ++ z :: B) = psum w x (A ++ [z]) + psum w z B := by
        have := psum_append w (A ++ [z]) B x
        rw [List.append_assoc] at this
        rw [show A ++ z :: B = A ++ ([z] ++ B) from rfl, this, lastOf_append]; rfl
      have e2 : lastOf x (A ++ z :: B) = lastOf z B := by rw [lastOf_append]; rfl
      have hs1 : Simple n x (A ++ [z]) := ⟨by
          refine hnd.sublist (List.Sublist.cons_cons _ ?_)
          exact (List.Sublist.refl A).append (by simp), fun y hy => hL.lt y (by simp at hy ⊢; rcases hy with h | h | h <;> simp [h])⟩
      have hs2 : Simple n z B := ⟨by
          refine hnd.sublist ?_
          refine List.Sublist.cons _ ?_
          exact List.sublist_append_right A (z :: B), fun y hy => hL.lt y (by simp at hy ⊢; rcases hy with h | h <;> simp [h])⟩
      have h1 := hN z B hs2
      have h2 := h.most x (A ++ [z]) hs1
      rw [lastOf_append] at h2
      simp only [lastOf] at h2
      rw [e2]
      rw [e2] at e
      omega
  · have hs : Simple n x (L ++ [z]) := ⟨by
        rw [← List.cons_append]
        rw [List.nodup_append]
        exact ⟨hL.nodup, by simp, fun a ha b hb => by simp at hb; subst hb; exact fun e => hm (e ▸ ha)⟩, fun y hy => by
        rw [← List.cons_append, List.mem_append] at hy
        rcases hy with hy | hy
        · exact hL.lt y hy
        · simp at hy; subst hy; exact hz⟩
    have h2 := h.most x (L ++ [z]) hs
    rw [psum_append, lastOf_append] at h2
    simp only [psum, lastOf] at h2
    omega
theorem Clo.self {w : Nat → Nat → Int} {n : Nat} {g : Nat → Nat → Int} (h : Clo w n g) {x : Nat} (hx : x < n) : g x x = 0 := by
  obtain ⟨L, hL, e1, e⟩ := h.path x x hx hx
  have h0 : L = [] := by
    cases L with
    | nil => rfl
    | cons y L =>
      simp only [lastOf] at e1
      have hm := lastOf_mem y L
      rw [e1] at hm
      exact absurd hm (List.nodup_cons.1 hL.nodup).1
  subst h0
  simp [psum] at e; omega
/-- A potential bounds every path's sum. -/
theorem psum_le {w : Nat → Nat → Int} {n : Nat} {h : Nat → Int} (hh : ∀ y z, y < n → z < n → h y + w y z ≤ h z) : ∀ (L : List Nat) (x : Nat), (∀ y, y ∈ x :: L → y < n) → psum w x L ≤ h (lastOf x L) - h x := by
  intro L
  induction L with
  | nil => intro x _; simp [psum, lastOf]
  | cons y L ih =>
    intro x hx
    have h1 := ih y (fun z hz => hx z (List.mem_cons_of_mem _ hz))
    have h2 := hh x y (hx x (by simp)) (hx y (by simp))
    simp only [psum, lastOf]
    omega
theorem Clo.le {w : Nat → Nat → Int} {n : Nat} {g : Nat → Nat → Int} (h : Clo w n g) {p : Nat → Int} (hp : ∀ y z, y < n → z < n → p y + w y z ≤ p z) {x y : Nat} (hx : x < n) (hy : y < n) : g x y ≤ p y - p x := by
  obtain ⟨L, hL, rfl, e⟩ := h.path x y hx hy
  rw [← e]; exact psum_le hp L x hL.lt
theorem Clo.tri {w : Nat → Nat → Int} {n : Nat} {g : Nat → Nat → Int} (h : Clo w n g) (hN : NoGain w n) {x y z : Nat} (hx : x < n) (hy : y < n) (hz : z < n) : g x y + g y z ≤ g x z := by
  have := h.le (p := fun k => g x k) (fun a b ha hb => h.step hN hx ha hb) hy hz
  omega
end Go.Proofs.Ytcgaojnfgkfnkaa

/- Lists of digits in their order, and the first list of the greatest value; plain, no program. -/
namespace Go.Proofs.Ytcgaojnfgkfnkaa
set_option linter.unusedVariables false
set_option linter.unusedSimpArgs false

/-- a comes before b in the order of lists. -/
def llt (a b : List Int) : Prop := ∃ i, i < a.length ∧ (∀ j, j < i → iget a j = iget b j) ∧ iget a i < iget b i
theorem iget_cons_zero (x : Int) (l : List Int) : iget (x :: l) 0 = x := rfl
theorem iget_cons_succ (x : Int) (l : List Int) (k : Nat) : iget (x :: l) (k + 1) = iget l k := by simp [iget]
theorem llt_cons {x y : Int} {a b : List Int} : llt (x :: a) (y :: b) ↔ x < y ∨ (x = y ∧ llt a b) := by
  constructor
  · rintro ⟨i, hi, h1, h2⟩
    cases i with
    | zero => exact .inl h2
    | succ i =>
      refine .inr ⟨h1 0 (by omega), i, by simpa using hi, fun j hj => ?_, ?_⟩
      · have := h1 (j + 1) (by omega); rwa [iget_cons_succ, iget_cons_succ] at this
      · rwa [iget_cons_succ, iget_cons_succ] at h2
  · rintro (h | ⟨rfl, i, hi, h1, h2⟩)
    · exact ⟨0, by simp, fun j hj => by omega, h⟩
    · refine ⟨i + 1, by simpa using hi, fun j hj => ?_, ?_⟩
      · cases j with
        | zero => rfl
        | succ j => rw [iget_cons_succ, iget_cons_succ]; exact h1 j (by omega)
      · rwa [iget_cons_succ, iget_cons_succ]
theorem llt_total : ∀ (a b : List Int), a.length = b.length → a = b ∨ llt a b ∨ llt b a
  | [], [], _ => .inl rfl
  | [], _ :: _, h => by simp at h
  | _ :: _, [], h => by simp at h
  | x :: a, y :: b, h => by
    rcases Int.lt_trichotomy x y with h1 | h1 | h1
    · exact .inr (.inl (llt_cons.2 (.inl h1)))
    · subst h1
      rcases llt_total a b (by simpa using h) with h2 | h2 | h2
      · exact .inl (by rw [h2])
      · exact .inr (.inl (llt_cons.2 (.inr ⟨rfl, h2⟩)))
      · exact .inr (.inr (llt_cons.2 (.inr ⟨rfl, h2⟩)))
    · exact .inr (.inr (llt_cons.2 (.inl h1)))
theorem llt_irrefl (a : List Int) : ¬ llt a a := by rintro ⟨i, _, _, h⟩; omega
theorem llt_asymm {a b : List Int} (h : llt a b) : ¬ llt b a := by
  obtain ⟨i, hi, h1, h2⟩ := h
  rintro ⟨j, hj, k1, k2⟩
  rcases Nat.lt_trichotomy i j with h | h | h
  · have := k1 i h; omega
  · subst h; omega
  · have := h1 j h; omega

/-- The number that a list of digits writes, to the base n, behind acc. -/
def numA (n : Nat) : Nat → List Int → Nat
  | acc, [] => acc
  | acc, d :: l => numA n (acc * n + d.toNat) l
theorem numA_append (n : Nat) : ∀ (a b : List Int) (acc : Nat), numA n acc (a ++ b) = numA n (numA n acc a) b
  | [], b, acc => rfl
  | d :: a, b, acc => numA_append n a b _
def Digits (n : Nat) (l : List Int) : Prop := ∀ j, j < l.length → 0 ≤ iget l j ∧ iget l j < n
theorem Digits.tail {n : Nat} {x : Int} {l : List Int} (h : Digits n (x :: l)) : Digits n l := fun j hj => by
  have := h (j + 1) (by simpa using hj); rwa [iget_cons_succ] at this
theorem numA_eq (n : Nat) : ∀ (l : List Int) (acc : Nat), numA n acc l = acc * n ^ l.length + numA n 0 l
  | [], acc => by simp [numA]
  | d :: l, acc => by
    simp only [numA, List.length_cons]
    rw [numA_eq n l, numA_eq n l (0 * n + d.toNat), Nat.pow_succ, Nat.zero_mul, Nat.zero_add, Nat.add_mul]
    have : acc * n * n ^ l.length = acc * (n ^ l.length * n) := by rw [Nat.mul_assoc, Nat.mul_comm n]
    omega
theorem numA_lt {n : Nat} : ∀ (l : List Int), Digits n l → numA n 0 l < n ^ l.length
  | [], _ => by simp [numA]
  | d :: l, h => by
    have h0 := h 0 (by simp)
    rw [iget_cons_zero] at h0
    have ih := numA_lt l h.tail
    simp only [numA, List.length_cons]
    rw [numA_eq, Nat.zero_mul, Nat.zero_add, Nat.pow_succ, Nat.mul_comm (n ^ l.length)]
    have h1 : d.toNat + 1 ≤ n := by omega
    have h2 := Nat.mul_le_mul_right (n ^ l.length) h1
    rw [Nat.add_mul] at h2
    omega
theorem llt_num {n : Nat} : ∀ (a b : List Int), a.length = b.length → Digits n a → Digits n b → llt a b → numA n 0 a < numA n 0 b
  | [], _, _, _, _, h => by obtain ⟨i, hi, _⟩ := h; simp at hi
  | _ :: _, [], h, _, _, _ => by simp at h
  | x :: a, y :: b, hl, ha, hb, h => by
    have hl' : a.length = b.length := by simpa using hl
    have x0 := ha 0 (by simp)
    have y0 := hb 0 (by simp)
    rw [iget_cons_zero] at x0 y0
    simp only [numA]
    rw [numA_eq, numA_eq n b, Nat.zero_mul, Nat.zero_add, Nat.zero_add, hl']
    rcases llt_cons.1 h with h1 | ⟨rfl, h1⟩
    · have h2 := numA_lt a ha.tail
      rw [hl'] at h2
      have h3 : x.toNat + 1 ≤ y.toNat := by omega
      have h4 := Nat.mul_le_mul_right (n ^ b.length) h3
      rw [Nat.add_mul] at h4
      omega
    · have := llt_num a b hl' ha.tail hb.tail h1
      omega
theorem num_inj {n : Nat} {a b : List Int} (hl : a.length = b.length) (ha : Digits n a) (hb : Digits n b) (h : numA n 0 a = numA n 0 b) : a = b := by
  rcases llt_total a b hl with h1 | h1 | h1
  · exact h1
  · have := llt_num a b hl ha hb h1; omega
  · have := llt_num b a hl.symm hb ha h1; omega
theorem num_llt {n : Nat} {a b : List Int} (hl : a.length = b.length) (ha : Digits n a) (hb : Digits n b) (h : numA n 0 a < numA n 0 b) : llt a b := by
  rcases llt_total a b hl with h1 | h1 | h1
  · subst h1; omega
  · exact h1
  · have := llt_num b a hl.symm hb ha h1; omega
theorem num_zeros (n m : Nat) (acc : Nat) : numA n acc (List.replicate m 0) = acc * n ^ m := by
  induction m generalizing acc with
  | zero => simp [numA]
  | succ m ih => rw [List.replicate_succ]; simp only [numA]; rw [ih, Nat.pow_succ]; simp; rw [Nat.mul_assoc, Nat.mul_comm n]
theorem num_full (n m : Nat) (acc : Nat) (hn : 0 < n) : numA n acc (List.replicate m ((n : Int) - 1)) + 1 = (acc + 1) * n ^ m := by
  induction m generalizing acc with
  | zero => simp [numA]
  | succ m ih =>
    rw [List.replicate_succ]
    simp only [numA]
    rw [ih, Nat.pow_succ]
    have : ((n : Int) - 1).toNat = n - 1 := by omega
    rw [this]
    have e : acc * n + (n - 1) + 1 = (acc + 1) * n := by rw [Nat.add_mul]; omega
    rw [e, Nat.mul_assoc, Nat.mul_comm n]
/-- The next list: the last digit that is not the greatest grows, all behind it are 0. -/
theorem num_next {n : Nat} (hn : 0 < n) (A : List Int) (d : Int) (m : Nat) (hd : 0 ≤ d) : numA n 0 (A ++ (d + 1) :: List.replicate m 0) = numA n 0 (A ++ d :: List.replicate m ((n : Int) - 1)) + 1 := by
  rw [numA_append, numA_append]
  simp only [numA]
  rw [num_zeros, num_full n m _ hn]
  have : (d + 1).toNat = d.toNat + 1 := by omega
  rw [this]; rfl
theorem num_last {n : Nat} (hn : 0 < n) (m : Nat) : numA n 0 (List.replicate m ((n : Int) - 1)) + 1 = n ^ m := by
  rw [num_full n m 0 hn]; simp

/-- The first list of the greatest value among those that meet S; the empty list: there is none. -/
def FirstMax (S : List Int → Prop) (f : List Int → Int) (b : List Int) : Prop :=
  (b = [] ∧ ∀ x, ¬ S x) ∨ (S b ∧ ∀ x, S x → f x < f b ∨ (f x = f b ∧ (x = b ∨ llt b x)))
theorem FirstMax.uniq {S : List Int → Prop} {f : List Int → Int} {a b : List Int} (h : FirstMax S f a) (k : FirstMax S f b) : a = b := by
  rcases h with ⟨rfl, h⟩ | ⟨h1, h2⟩
  · rcases k with ⟨rfl, _⟩ | ⟨k1, _⟩
    · rfl
    · exact absurd k1 (h b)
  · rcases k with ⟨rfl, k⟩ | ⟨k1, k2⟩
    · exact absurd h1 (k a)
    · rcases h2 b k1 with e1 | ⟨e1, e2⟩
      · rcases k2 a h1 with e3 | ⟨e3, _⟩ <;> omega
      · rcases k2 a h1 with e3 | ⟨e3, e4⟩
        · omega
        · rcases e2 with rfl | e2
          · rfl
          · rcases e4 with rfl | e4
            · rfl
            · exact absurd e4 (llt_asymm e2)
theorem FirstMax.congr {S T : List Int → Prop} {f g : List Int → Int} {a : List Int} (h : FirstMax S f a) (e : ∀ x, S x ↔ T x) (eg : ∀ x, S x → f x = g x) : FirstMax T g a := by
  rcases h with ⟨rfl, h⟩ | ⟨h1, h2⟩
  · exact .inl ⟨rfl, fun x hx => h x ((e x).2 hx)⟩
  · refine .inr ⟨(e a).1 h1, fun x hx => ?_⟩
    rw [← eg x ((e x).2 hx), ← eg a h1]
    exact h2 x ((e x).2 hx)
/-- One list more, behind all others in the order. -/
theorem FirstMax.add {S : List Int → Prop} {f : List Int → Int} {b c : List Int} (h : FirstMax S f b) (hb : ∀ x, S x → llt x c) (hgt : (b = [] ∧ ∀ x, ¬ S x) ∨ (S b ∧ f b < f c)) : FirstMax (fun x => S x ∨ x = c) f c := by
  refine .inr ⟨.inr rfl, ?_⟩
  rintro x (hx | rfl)
  · rcases hgt with ⟨_, hn⟩ | ⟨_, hgt⟩
    · exact absurd hx (hn x)
    · rcases h with ⟨_, h⟩ | ⟨h1, h2⟩
      · exact absurd hx (h x)
      · rcases h2 x hx with h3 | ⟨h3, _⟩
        · exact .inl (by omega)
        · exact .inl (by omega)
  · exact .inr ⟨rfl, .inl rfl⟩
theorem FirstMax.keep {S : List Int → Prop} {f : List Int → Int} {b c : List Int} (h : FirstMax S f b) (hb : ∀ x, S x → llt x c) (hle : S b ∧ f c ≤ f b) : FirstMax (fun x => S x ∨ x = c) f b := by
  refine .inr ⟨.inl hle.1, ?_⟩
  rcases h with ⟨_, h⟩ | ⟨_, h2⟩
  · exact absurd hle.1 (h b)
  · rintro x (hx | rfl)
    · exact h2 x hx
    · by_cases e : f x < f b
      · exact .inl e
      · exact .inr ⟨by omega, .inr (hb b hle.1)⟩
theorem FirstMax.skip {S : List Int → Prop} {f : List Int → Int} {b : List Int} {T : List Int → Prop} (h : FirstMax S f b) (e : ∀ x, T x ↔ S x) : FirstMax T f b := h.congr (fun x => (e x).symm) (fun _ _ => rfl)

/-! ### Assignments as lists -/
theorem isA_lt {a : List Int} {n : Nat} (h : IsA a n) : ∀ i, i < n → 0 ≤ iget a i ∧ itm a i < n := by
  -- each number below n stands once; there is no room for another
  intro i hi
  have hnd : ((List.range n).map fun j : Nat => (j : Int)).Nodup := by
    rw [List.nodup_iff_pairwise_ne, List.pairwise_map]
    have := List.nodup_range (n := n)
    rw [List.nodup_iff_pairwise_ne] at this
    exact this.imp (fun hne e => hne (by omega))
  have hsub : ∀ x, x ∈ (List.range n).map (fun j : Nat => (j : Int)) → x ∈ a := by
    intro x hx
    obtain ⟨j, hj, rfl⟩ := List.mem_map.1 hx
    have := h.2 j (List.mem_range.1 hj)
    exact List.count_pos_iff.1 (by omega)
  have hp : ((List.range n).map fun j : Nat => (j : Int)).Perm a := by
    obtain ⟨l, hl⟩ : ∃ l, a.Perm ((List.range n).map (fun j : Nat => (j : Int)) ++ l) := by
      have : ∀ (u v : List Int), u.Nodup → (∀ x, x ∈ u → x ∈ v) → ∃ l, v.Perm (u ++ l) := by
        intro u
        induction u with
        | nil => intro v _ _; exact ⟨v, by simp⟩
        | cons x u ih =>
          intro v hu hv
          have hx := hv x (by simp)
          have hnx := (List.nodup_cons.1 hu).1
          obtain ⟨l, hl⟩ := ih (v.erase x) (List.nodup_cons.1 hu).2 (fun y hy => by
            have hne : y ≠ x := fun e => hnx (e ▸ hy)
            exact (List.mem_erase_of_ne hne).2 (hv y (List.mem_cons_of_mem _ hy)))
          exact ⟨l, (List.perm_cons_erase hx).trans (hl.cons x)⟩
      exact this _ _ hnd hsub
    have hlen := hl.length_eq
    rw [h.1, List.length_append, List.length_map, List.length_range] at hlen
    obtain rfl : l = [] := List.eq_nil_of_length_eq_zero (by omega)
    rw [List.append_nil] at hl
    exact hl.symm
  have hm := iget_mem (xs := a) (k := i) (by rw [h.1]; exact hi)
  obtain ⟨j, hj, e⟩ := List.mem_map.1 (hp.symm.mem_iff.1 hm)
  have := List.mem_range.1 hj
  simp only [itm, ← e]; omega
theorem isA_inj {a : List Int} {n : Nat} (h : IsA a n) {i j : Nat} (hi : i < n) (hj : j < n) (e : iget a i = iget a j) : i = j := by
  apply Classical.byContradiction
  intro hne
  obtain ⟨h0, h1⟩ := isA_lt h i hi
  have hc := h.2 (itm a i) h1
  have e1 : ((itm a i : Nat) : Int) = iget a i := by simp only [itm]; omega
  rw [e1] at hc
  have key : ∀ (l : List Int) (i j : Nat) (x : Int), i < j → l[i]? = some x → l[j]? = some x → 2 ≤ l.count x := by
    intro l
    induction l with
    | nil => intro i j x _ h _; simp at h
    | cons y l ih =>
      intro i j x hlt h1 h2
      cases j with
      | zero => omega
      | succ j =>
        rw [List.getElem?_cons_succ] at h2
        cases i with
        | zero =>
          simp at h1; subst h1
          rw [List.count_cons_self]
          have : 0 < l.count y := List.count_pos_iff.2 (List.mem_of_getElem? h2)
          omega
        | succ i =>
          rw [List.getElem?_cons_succ] at h1
          have := ih i j x (by omega) h1 h2
          have h3 : l.count x ≤ (y :: l).count x := List.count_le_count_cons
          omega
  have g1 : a[i]? = some (iget a i) := by rw [iget_of (by rw [h.1]; exact hi)]; simp [h.1, hi]
  have g2 : a[j]? = some (iget a i) := by rw [e, iget_of (by rw [h.1]; exact hj)]; simp [h.1, hj]
  rcases Nat.lt_or_gt_of_ne hne with h3 | h3
  · have := key a i j _ h3 g1 g2; omega
  · have := key a j i _ h3 g2 g1; omega
theorem isA_per {a : List Int} {n : Nat} (h : IsA a n) : Per n (itm a) := ⟨fun i hi => (isA_lt h i hi).2, fun i j hi hj e => isA_inj h hi hj (by
  have := isA_lt h i hi; have := isA_lt h j hj; simp only [itm] at e; omega)⟩
theorem isA_of {a : List Int} {n : Nat} (hl : a.length = n) (h0 : ∀ i, i < n → 0 ≤ iget a i) (hp : Per n (itm a)) : IsA a n := by
  refine ⟨hl, fun j hj => ?_⟩
  have hnd : a.Nodup := by
    rw [List.nodup_iff_pairwise_ne, List.pairwise_iff_getElem]
    intro i k hi hk hik e
    have := hp.inj i k (by omega) (by omega) (by simp only [itm]; rw [iget_of hi, iget_of hk, e])
    omega
  rw [hnd.count, if_pos]
  obtain ⟨i, hi, e⟩ := hp.surj hj
  have : iget a i = (j : Int) := by have := h0 i hi; simp only [itm] at e; omega
  rw [← this]
  exact iget_mem (by omega)
theorem isA_digits {a : List Int} {n : Nat} (h : IsA a n) : Digits n a := fun j hj => by
  have := isA_lt h j (by rw [← h.1]; exact hj)
  simp only [itm] at this; omega
/-- A permutation as a list. -/
def listOf (n : Nat) (s : Nat → Nat) : List Int := (List.range n).map fun i => ((s i : Nat) : Int)
theorem listOf_length (n : Nat) (s : Nat → Nat) : (listOf n s).length = n := by simp [listOf]
theorem listOf_get {n : Nat} {s : Nat → Nat} {i : Nat} (hi : i < n) : iget (listOf n s) i = s i := by simp [listOf, iget, hi]
theorem listOf_itm {n : Nat} {s : Nat → Nat} {i : Nat} (hi : i < n) : itm (listOf n s) i = s i := by simp [itm, listOf_get hi]
theorem listOf_isA {n : Nat} {s : Nat → Nat} (h : Per n s) : IsA (listOf n s) n :=
  isA_of (listOf_length n s) (fun i hi => by rw [listOf_get hi]; omega) (h.congr fun i hi => listOf_itm hi)
theorem worth_val {v : List (List Int)} {a : List Int} {n : Nat} (h : a.length = n) : worthI v a = val (bid v) n (itm a) := by subst h; rfl

/-- The best assignment of valid bids: the first of the greatest value. -/
def IsBest (v : List (List Int)) (a : List Int) : Prop := IsA a v.length ∧ FirstMax (fun x => IsA x v.length) (worthI v) a
theorem IsBest.uniq {v : List (List Int)} {a b : List Int} (h : IsBest v a) (k : IsBest v b) : a = b := h.2.uniq k.2
theorem IsBest.max {v : List (List Int)} {a b : List Int} (h : IsBest v a) (hb : IsA b v.length) (h0 : 0 < v.length) : worthI v b ≤ worthI v a := by
  rcases h.2 with ⟨rfl, h2⟩ | ⟨_, h2⟩
  · exact absurd hb (h2 b)
  · rcases h2 b hb with h3 | ⟨h3, _⟩ <;> omega
/-- What Most holds while it goes through the lists in their order: the best of those before cur; at the end, of all. -/
def MostInv (v : List (List Int)) (b : Bool) (cur bst : List Int) : Prop :=
  FirstMax (fun x => IsA x v.length ∧ (b = true → numA v.length 0 x < numA v.length 0 cur)) (worthI v) bst
theorem most_start (v : List (List Int)) {cur : List Int} (h : numA v.length 0 cur = 0) : MostInv v true cur [] :=
  .inl ⟨rfl, fun x hx => by have := hx.2 rfl; omega⟩
/-- The list that Most looks at is taken, or not. -/
def MostStep (v : List (List Int)) (cur bst : List Int) : List Int := if IsA cur v.length ∧ (bst.length = 0 ∨ worthI v bst < worthI v cur) then cur else bst
theorem most_upto {v : List (List Int)} {cur bst : List Int} (hv : 0 < v.length) (hl : cur.length = v.length) (hd : Digits v.length cur) (h : MostInv v true cur bst) :
    FirstMax (fun x => IsA x v.length ∧ numA v.length 0 x ≤ numA v.length 0 cur) (worthI v) (MostStep v cur bst) := by
  have hS : ∀ x, (IsA x v.length ∧ (true = true → numA v.length 0 x < numA v.length 0 cur)) → llt x cur := fun x hx =>
    num_llt (by rw [hx.1.1, hl]) (isA_digits hx.1) hd (hx.2 rfl)
  have hT : ∀ x, (IsA x v.length ∧ numA v.length 0 x ≤ numA v.length 0 cur) ↔ ((IsA x v.length ∧ (true = true → numA v.length 0 x < numA v.length 0 cur)) ∨ (x = cur ∧ IsA cur v.length)) := by
    intro x
    constructor
    · rintro ⟨h1, h2⟩
      by_cases e : numA v.length 0 x < numA v.length 0 cur
      · exact .inl ⟨h1, fun _ => e⟩
      · have := num_inj (by rw [h1.1, hl]) (isA_digits h1) hd (by omega)
        subst this
        exact .inr ⟨rfl, h1⟩
    · rintro (⟨h1, h2⟩ | ⟨rfl, h1⟩)
      · exact ⟨h1, by have := h2 rfl; omega⟩
      · exact ⟨h1, Nat.le_refl _⟩
  have hne : bst.length = 0 → ∀ x, ¬ (IsA x v.length ∧ (true = true → numA v.length 0 x < numA v.length 0 cur)) := by
    intro h0
    rcases h with ⟨_, h⟩ | ⟨h1, _⟩
    · exact h
    · have := h1.1.1; omega
  unfold MostStep
  by_cases hA : IsA cur v.length
  · have hT2 : ∀ x, ((IsA x v.length ∧ (true = true → numA v.length 0 x < numA v.length 0 cur)) ∨ x = cur) ↔ (IsA x v.length ∧ numA v.length 0 x ≤ numA v.length 0 cur) := fun x => by
      rw [hT x]
      exact ⟨fun h => h.imp id (fun e => ⟨e, hA⟩), fun h => h.imp id (fun e => e.1)⟩
    by_cases hgt : bst.length = 0 ∨ worthI v bst < worthI v cur
    · rw [if_pos ⟨hA, hgt⟩]
      refine (h.add hS ?_).congr hT2 (fun _ _ => rfl)
      rcases h with h1 | ⟨h1, h2⟩
      · exact .inl h1
      · rcases hgt with h0 | h0
        · exact absurd h1 (hne h0 bst)
        · exact .inr ⟨h1, h0⟩
    · rw [if_neg (fun e => hgt e.2)]
      refine (h.keep hS ?_).congr hT2 (fun _ _ => rfl)
      rcases h with ⟨rfl, h1⟩ | ⟨h1, h2⟩
      · simp at hgt
      · exact ⟨h1, by omega⟩
  · rw [if_neg (fun e => hA e.1)]
    refine h.congr (fun x => ?_) (fun _ _ => rfl)
    rw [hT x]
    exact ⟨.inl, fun h => h.elim id (fun e => absurd e.2 hA)⟩
theorem most_go {v : List (List Int)} {cur nxt bst : List Int} (h : FirstMax (fun x => IsA x v.length ∧ numA v.length 0 x ≤ numA v.length 0 cur) (worthI v) bst) (hn : numA v.length 0 nxt = numA v.length 0 cur + 1) : MostInv v true nxt bst :=
  h.congr (fun x => ⟨fun h => ⟨h.1, fun _ => by omega⟩, fun h => ⟨h.1, by have := h.2 rfl; omega⟩⟩) (fun _ _ => rfl)
theorem most_stop {v : List (List Int)} {cur nxt bst : List Int} (h : FirstMax (fun x => IsA x v.length ∧ numA v.length 0 x ≤ numA v.length 0 cur) (worthI v) bst) (hn : numA v.length 0 cur + 1 = v.length ^ v.length) : MostInv v false nxt bst :=
  h.congr (fun x => ⟨fun h => ⟨h.1, fun e => by cases e⟩, fun h => ⟨h.1, by have := numA_lt x (isA_digits h.1); rw [h.1.1] at this; omega⟩⟩) (fun _ _ => rfl)
theorem most_end {v : List (List Int)} {cur bst : List Int} (hv : 0 < v.length) (h : MostInv v false cur bst) : IsBest v bst := by
  have h' : FirstMax (fun x => IsA x v.length) (worthI v) bst := h.congr (fun x => ⟨fun h => h.1, fun h => ⟨h, fun e => by cases e⟩⟩) (fun _ _ => rfl)
  refine ⟨?_, h'⟩
  rcases h' with ⟨_, h1⟩ | ⟨h1, _⟩
  · exact absurd (listOf_isA (Per.id v.length)) (h1 _)
  · exact h1

/-- The best assignment. -/
noncomputable def bestA (v : List (List Int)) : List Int := Classical.epsilon (IsBest v)
theorem bestA_eq {v : List (List Int)} {a : List Int} (h : IsBest v a) : bestA v = a := by
  exact (Classical.epsilon_spec (p := IsBest v) ⟨a, h⟩).uniq h
end Go.Proofs.Ytcgaojnfgkfnkaa
