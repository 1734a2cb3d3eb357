/- Settling exchanges in plain words: it ends, and what it keeps; no program. -/
import Derived.Test.YtknincjfcicjfaaKeepU
namespace Go.Proofs.Ytknincjfcicjfaa
set_option linter.unusedVariables false
set_option linter.unusedSimpArgs false

/-- Agents i and j exchange items x and y. -/
def swp (a : List Int) (i j x y : Nat) : List Int := (a.set x (j : Int)).set y (i : Int)
theorem swp_len (a : List Int) (i j x y : Nat) : (swp a i j x y).length = a.length := by simp [swp]
theorem swp_get {a : List Int} {i j x y k : Nat} (hx : x < a.length) (hy : y < a.length) : iget (swp a i j x y) k = if y = k then (i : Int) else if x = k then (j : Int) else iget a k := by
  unfold swp
  rw [iget_set (by rw [List.length_set]; exact hy), iget_set hx]
theorem exT_spec {a : List Int} {v : List (List Int)} {i j x y : Nat} (h : exT a v = some (i, j, x, y)) :
    i < v.length ∧ i < j ∧ j < v.length ∧ x < a.length ∧ y < a.length ∧ ExP a v i j x y := by
  obtain ⟨i', hi, h1, _⟩ := fs_some h
  obtain ⟨j', hj, h2, _⟩ := fs_some h1
  unfold ex2 at h2
  by_cases hij : i' < j'
  · rw [if_pos hij] at h2
    obtain ⟨x', hx, h3, _⟩ := fs_some h2
    obtain ⟨y', hy, h4, _⟩ := fs_some h3
    unfold ex4 at h4
    by_cases hp : ExP a v i' j' x' y'
    · rw [if_pos hp] at h4
      simp only [Option.some.injEq, Prod.mk.injEq] at h4
      obtain ⟨rfl, rfl, rfl, rfl⟩ := h4
      exact ⟨hi, hij, hj, hx, hy, hp⟩
    · rw [if_neg hp] at h4; cases h4
  · rw [if_neg hij] at h2; cases h2
/-- One step of settling. -/
def stStep (a : List Int) (v : List (List Int)) : List Int := match exT a v with
  | some (i, j, x, y) => swp a i j x y
  | none => a
/-- The allocation after n exchanges. -/
def stTo (a : List Int) (v : List (List Int)) : Nat → List Int
  | 0 => a
  | n + 1 => stStep (stTo a v n) v
theorem stStep_some {a : List Int} {v : List (List Int)} {i j x y : Nat} (h : exT a v = some (i, j, x, y)) : stStep a v = swp a i j x y := by
  unfold stStep; rw [h]
theorem stStep_none {a : List Int} {v : List (List Int)} (h : exT a v = none) : stStep a v = a := by
  unfold stStep; rw [h]
theorem stTo_shift (a : List Int) (v : List (List Int)) : ∀ n, stTo (stStep a v) v n = stTo a v (n + 1)
  | 0 => rfl
  | n + 1 => by show stStep (stTo (stStep a v) v n) v = stStep (stTo a v (n + 1)) v; rw [stTo_shift a v n]
theorem stStep_lkd {a : List Int} {v : List (List Int)} (h : Lkd a v) : Lkd (stStep a v) v := by
  cases he : exT a v with
  | none => rw [stStep_none he]; exact h
  | some t =>
    obtain ⟨i, j, x, y⟩ := t
    obtain ⟨hi, hij, hj, hx, hy, _⟩ := exT_spec he
    rw [stStep_some he]
    refine ⟨h.1, by rw [swp_len]; exact h.2.1, h.2.2.1, by rw [swp_len]; exact h.2.2.2.1, fun k hk => ?_⟩
    rw [swp_len] at hk
    rw [swp_get hx hy]
    have := h.2.2.2.2 k hk
    by_cases e1 : y = k
    · rw [if_pos e1]; omega
    · rw [if_neg e1]
      by_cases e2 : x = k
      · rw [if_pos e2]; omega
      · rw [if_neg e2]; exact this
theorem stStep_len (a : List Int) (v : List (List Int)) : (stStep a v).length = a.length := by
  cases he : exT a v with
  | none => rw [stStep_none he]
  | some t =>
    obtain ⟨i, j, x, y⟩ := t
    rw [stStep_some he, swp_len]
theorem stTo_lkd {a : List Int} {v : List (List Int)} (h : Lkd a v) : ∀ n, Lkd (stTo a v n) v
  | 0 => h
  | n + 1 => stStep_lkd (stTo_lkd h n)
theorem stTo_len (a : List Int) (v : List (List Int)) : ∀ n, (stTo a v n).length = a.length
  | 0 => rfl
  | n + 1 => by rw [stTo, stStep_len, stTo_len a v n]

/-- How far down an item stands in its owner's ranking. -/
def depth (a : List Int) (v : List (List Int)) (x : Nat) : Int := if 0 ≤ iget a x then placeI (rget v (iget a x).toNat) (x : Int) else 0
/-- A sum in which one more place is lower is lower. -/
theorem sumTo_lt {f g : Nat → Int} {n : Nat} (h : ∀ k, k < n → f k ≤ g k) {x : Nat} (hx : x < n) (hl : f x < g x) : sumTo f n < sumTo g n := by
  induction n with
  | zero => omega
  | succ n ih =>
    rw [sumTo, sumTo]
    by_cases e : x = n
    · subst e
      have := sumTo_le (f := f) (g := g) (n := x) (fun k hk => h k (by omega))
      omega
    · have := ih (fun k hk => h k (by omega)) (by omega)
      have := h n (by omega)
      omega
/-- A sum that differs at two places. -/
theorem sumTo_two {f g : Nat → Int} {n x y : Nat} (hxy : x ≠ y) (hx : x < n) (hy : y < n) (h : ∀ k, k < n → k ≠ x → k ≠ y → f k = g k) : sumTo f n + (g x + g y) = sumTo g n + (f x + f y) := by
  induction n with
  | zero => omega
  | succ n ih =>
    rw [sumTo, sumTo]
    by_cases e1 : x = n
    · subst e1
      have hyx : y < x := by omega
      have : ∀ m, y < m → m ≤ x → sumTo f m + g y = sumTo g m + f y := by
        intro m
        induction m with
        | zero => omega
        | succ m ih2 =>
          intro h1 h2
          rw [sumTo, sumTo]
          by_cases e : y = m
          · subst e
            have := sumTo_congr (f := f) (g := g) (n := y) (fun k hk => h k (by omega) (by omega) (by omega))
            omega
          · have := ih2 (by omega) (by omega)
            have := h m (by omega) (by omega) (by omega)
            omega
      have := this x hyx (Nat.le_refl _)
      omega
    · by_cases e2 : y = n
      · subst e2
        have hyx : x < y := by omega
        have : ∀ m, x < m → m ≤ y → sumTo f m + g x = sumTo g m + f x := by
          intro m
          induction m with
          | zero => omega
          | succ m ih2 =>
            intro h1 h2
            rw [sumTo, sumTo]
            by_cases e : x = m
            · subst e
              have := sumTo_congr (f := f) (g := g) (n := x) (fun k hk => h k (by omega) (by omega) (by omega))
              omega
            · have := ih2 (by omega) (by omega)
              have := h m (by omega) (by omega) (by omega)
              omega
        have := this y hyx (Nat.le_refl _)
        omega
      · have := ih (by omega) (by omega) (fun k hk => h k (by omega))
        have := h n (by omega) (by omega) (by omega)
        omega
def potS (a : List Int) (v : List (List Int)) : Int := sumTo (depth a v) a.length
theorem depth_bd {a : List Int} {v : List (List Int)} (h : Lkd a v) {x : Nat} (hx : x < a.length) : 0 ≤ depth a v x ∧ depth a v x ≤ 30 := by
  unfold depth
  by_cases e : 0 ≤ iget a x
  · rw [if_pos e]
    have h5 := h.2.2.2.2 x hx
    obtain ⟨k, hk, _, e2⟩ := placeI_some (h.2.2.2.1 (iget a x).toNat (by omega)) hx
    rw [e2]
    have := h.2.1
    omega
  · rw [if_neg e]; omega
theorem pot_bd {a : List Int} {v : List (List Int)} (h : Lkd a v) : 0 ≤ potS a v ∧ potS a v ≤ 900 := by
  have h1 : ∀ n, n ≤ a.length → 0 ≤ sumTo (depth a v) n ∧ sumTo (depth a v) n ≤ 30 * n := by
    intro n
    induction n with
    | zero => intro _; exact ⟨Int.le_refl _, by simp [sumTo]⟩
    | succ n ih =>
      intro hn
      have := ih (by omega)
      have := depth_bd h (x := n) (by omega)
      rw [sumTo]; omega
  have := h1 a.length (Nat.le_refl _)
  have := h.2.1
  unfold potS; omega
theorem pot_step {a : List Int} {v : List (List Int)} {i j x y : Nat} (h : exT a v = some (i, j, x, y)) : potS (stStep a v) v < potS a v := by
  obtain ⟨hi, hij, hj, hx, hy, h1, h2, h3, h4⟩ := exT_spec h
  rw [stStep_some h]
  have hxy : x ≠ y := fun e => by subst e; rw [h1] at h2; omega
  unfold potS
  rw [swp_len]
  have hs := sumTo_two (f := depth (swp a i j x y) v) (g := depth a v) (n := a.length) hxy hx hy (fun k hk e1 e2 => by
    have e : iget (swp a i j x y) k = iget a k := by rw [swp_get hx hy, if_neg (Ne.symm e2), if_neg (Ne.symm e1)]
    unfold depth; rw [e])
  have d1 : depth (swp a i j x y) v x = placeI (rget v j) (x : Int) := by
    have e : iget (swp a i j x y) x = (j : Int) := by rw [swp_get hx hy, if_neg (Ne.symm hxy), if_pos rfl]
    unfold depth
    rw [e, if_pos (by omega), Int.toNat_natCast]
  have d2 : depth (swp a i j x y) v y = placeI (rget v i) (y : Int) := by
    have e : iget (swp a i j x y) y = (i : Int) := by rw [swp_get hx hy, if_pos rfl]
    unfold depth
    rw [e, if_pos (by omega), Int.toNat_natCast]
  have d3 : depth a v x = placeI (rget v i) (x : Int) := by
    unfold depth
    rw [h1, if_pos (by omega), Int.toNat_natCast]
  have d4 : depth a v y = placeI (rget v j) (y : Int) := by
    unfold depth
    rw [h2, if_pos (by omega), Int.toNat_natCast]
  rw [d1, d2, d3, d4] at hs
  omega
/-- How many exchanges settle. -/
def stN (a : List Int) (v : List (List Int)) : Nat := (firstN (fun n => (exT (stTo a v n) v).isNone) 1000).toNat
theorem pot_to {a : List Int} {v : List (List Int)} : ∀ n, (∀ k, k < n → (exT (stTo a v k) v).isSome = true) → potS (stTo a v n) v + n ≤ potS a v
  | 0, _ => by simp [stTo]
  | n + 1, h => by
    have ih := pot_to (a := a) (v := v) n (fun k hk => h k (by omega))
    have h1 := h n (by omega)
    cases he : exT (stTo a v n) v with
    | none => rw [he] at h1; cases h1
    | some t =>
      obtain ⟨i, j, x, y⟩ := t
      have := pot_step he
      rw [stTo]
      omega
theorem stN_spec {a : List Int} {v : List (List Int)} (h : Lkd a v) : stN a v < 1000 ∧ exT (stTo a v (stN a v)) v = none ∧ ∀ k, k < stN a v → (exT (stTo a v k) v).isSome = true := by
  have hany : anyN (fun n => (exT (stTo a v n) v).isNone) 1000 = true := by
    refine Classical.byContradiction fun hc => ?_
    have hf := anyN_false.1 (by simpa using hc)
    have h1 := pot_to (a := a) (v := v) 1000 (fun k hk => by
      have := hf k hk
      cases he : exT (stTo a v k) v with
      | none => rw [he] at this; cases this
      | some _ => rfl)
    have h2 := (pot_bd (stTo_lkd h 1000)).1
    have h3 := (pot_bd h).2
    omega
  obtain ⟨k, h1, h2, h3, h4⟩ := firstN_lt hany
  have hk : stN a v = k := by unfold stN; rw [h1]; simp
  rw [hk]
  refine ⟨h2, ?_, fun j hj => ?_⟩
  · cases he : exT (stTo a v k) v with
    | none => rfl
    | some _ => rw [he] at h3; cases h3
  · have := h4 j hj
    cases he : exT (stTo a v j) v with
    | none => rw [he] at this; cases this
    | some _ => rfl
theorem stN_of {a : List Int} {v : List (List Int)} (h : Lkd a v) {n : Nat} (h1 : exT (stTo a v n) v = none) (h2 : ∀ k, k < n → (exT (stTo a v k) v).isSome = true) : stN a v = n := by
  obtain ⟨_, s1, s2⟩ := stN_spec h
  by_cases hlt : stN a v < n
  · have := h2 _ hlt; rw [s1] at this; cases this
  · by_cases hgt : n < stN a v
    · have := s2 _ hgt; rw [h1] at this; cases this
    · omega
def stL (a : List Int) (v : List (List Int)) : List Int := stTo a v (stN a v)
/-- The first exchange is the first step. -/
theorem stN_step {a : List Int} {v : List (List Int)} (h : Lkd a v) (he : (exT a v).isSome = true) : stN a v = stN (stStep a v) v + 1 ∧ stL a v = stL (stStep a v) v := by
  obtain ⟨_, s1, s2⟩ := stN_spec (stStep_lkd h)
  have h1 : stN a v = stN (stStep a v) v + 1 := stN_of h (by rw [← stTo_shift]; exact s1) (fun k hk => by
    cases k with
    | zero => exact he
    | succ k => rw [← stTo_shift]; exact s2 k (by omega))
  refine ⟨h1, ?_⟩
  unfold stL
  rw [h1, stTo_shift]
end Go.Proofs.Ytknincjfcicjfaa
