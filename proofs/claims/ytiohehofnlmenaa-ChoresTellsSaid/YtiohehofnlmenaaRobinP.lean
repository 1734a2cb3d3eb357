/- Picking in turns: the first best good that is left; plain, no program. -/
import Derived.Test.YtiohehofnlmenaaGoodsP
namespace Go.Proofs.Ytiohehofnlmenaa
set_option linter.unusedVariables false
set_option linter.unusedSimpArgs false

/-- The first best of the first k goods that are free, for one who values them as r says, or -1. -/
def pickTo (r a : List Int) : Nat → Int
  | 0 => -1
  | k + 1 => if iget a k < 0 ∧ (pickTo r a k < 0 ∨ iget r (pickTo r a k).toNat < iget r k) then (k : Int) else pickTo r a k
def pick (r a : List Int) : Int := pickTo r a a.length
theorem pickTo_yes {r a : List Int} {k : Nat} (h : iget a k < 0) (h2 : pickTo r a k < 0 ∨ iget r (pickTo r a k).toNat < iget r k) : pickTo r a (k + 1) = k := by
  rw [pickTo, if_pos ⟨h, h2⟩]
theorem pickTo_no {r a : List Int} {k : Nat} (h : ¬ (iget a k < 0 ∧ (pickTo r a k < 0 ∨ iget r (pickTo r a k).toNat < iget r k))) : pickTo r a (k + 1) = pickTo r a k := by
  rw [pickTo, if_neg h]
theorem pickTo_range (r a : List Int) (k : Nat) : -1 ≤ pickTo r a k ∧ pickTo r a k < k := by
  induction k with
  | zero => simp [pickTo]
  | succ k ih => rw [pickTo]; split <;> omega
theorem pickTo_none {r a : List Int} {k : Nat} : pickTo r a k < 0 ↔ ∀ j, j < k → ¬ iget a j < 0 := by
  induction k with
  | zero => simp [pickTo]
  | succ k ih =>
    rw [pickTo]
    split
    · rename_i h
      constructor
      · intro h2; omega
      · intro h2; exact absurd h.1 (h2 k (by omega))
    · rename_i h
      constructor
      · intro h2 j hj
        by_cases e : j = k
        · subst e; intro h3; exact h ⟨h3, .inl h2⟩
        · exact ih.1 h2 j (by omega)
      · intro h2; exact ih.2 fun j hj => h2 j (by omega)
/-- One takes x rather than y. -/
def BetterP (r : List Int) (x y : Nat) : Prop := iget r y < iget r x ∨ (iget r x = iget r y ∧ x < y)
instance (r : List Int) (x y : Nat) : Decidable (BetterP r x y) := by unfold BetterP; infer_instance
def betterB (r : List Int) (x y : Nat) : Bool := decide (BetterP r x y)
theorem pickTo_best {r a : List Int} {k : Nat} (h : 0 ≤ pickTo r a k) : iget a (pickTo r a k).toNat < 0 ∧ ∀ y, y < k → iget a y < 0 → y ≠ (pickTo r a k).toNat → BetterP r (pickTo r a k).toNat y := by
  induction k with
  | zero => simp [pickTo] at h
  | succ k ih =>
    by_cases hc : iget a k < 0 ∧ (pickTo r a k < 0 ∨ iget r (pickTo r a k).toNat < iget r k)
    · rw [pickTo_yes hc.1 hc.2]
      refine ⟨by simpa using hc.1, fun y hy hya hne => ?_⟩
      simp only [Int.toNat_natCast] at hne ⊢
      have hy' : y < k := by omega
      rcases hc.2 with h2 | h2
      · exact absurd hya (pickTo_none.1 h2 y hy')
      · by_cases e : y = (pickTo r a k).toNat
        · left; rw [e]; exact h2
        · have hp : 0 ≤ pickTo r a k := by
            rcases Int.lt_or_le (pickTo r a k) 0 with h3 | h3
            · exact absurd hya (pickTo_none.1 h3 y hy')
            · exact h3
          have := (ih hp).2 y hy' hya e
          rcases this with h4 | h4
          · left; omega
          · left; omega
    · rw [pickTo_no hc] at h ⊢
      obtain ⟨h1, h2⟩ := ih h
      refine ⟨h1, fun y hy hya hne => ?_⟩
      by_cases e : y = k
      · subst e
        have hr := pickTo_range r a y
        have : ¬ iget r (pickTo r a y).toNat < iget r y := fun h3 => hc ⟨hya, .inr h3⟩
        by_cases e2 : iget r (pickTo r a y).toNat = iget r y
        · right; exact ⟨e2, by omega⟩
        · left; omega
      · exact h2 y (by omega) hya hne
/-- Good x is free, and of the first m goods each other one that is free is worse. -/
def WinTo (r a : List Int) (x m : Nat) : Prop := iget a x < 0 ∧ ∀ y, y < m → 0 ≤ iget a y ∨ x = y ∨ BetterP r x y
instance (r a : List Int) (x m : Nat) : Decidable (WinTo r a x m) := by unfold WinTo; infer_instance
def winB (r a : List Int) (x m : Nat) : Bool := decide (WinTo r a x m)
theorem winB_zero (r a : List Int) (x : Nat) : winB r a x 0 = decide (iget a x < 0) := by
  unfold winB WinTo; exact dec_congr ⟨fun h => h.1, fun h => ⟨h, fun y hy => by omega⟩⟩
theorem winTo_succ (r a : List Int) (x m : Nat) : WinTo r a x (m + 1) ↔ WinTo r a x m ∧ (0 ≤ iget a m ∨ x = m ∨ BetterP r x m) := by
  constructor
  · rintro ⟨h1, h2⟩
    exact ⟨⟨h1, fun y hy => h2 y (by omega)⟩, h2 m (by omega)⟩
  · rintro ⟨⟨h1, h2⟩, h3⟩
    refine ⟨h1, fun y hy => ?_⟩
    by_cases e : y = m
    · subst e; exact h3
    · exact h2 y (by omega)
theorem winB_succ (r a : List Int) (x m : Nat) : winB r a x (m + 1) = (winB r a x m && (decide (0 ≤ iget a m) || (decide (x = m) || betterB r x m))) := by
  unfold winB betterB
  rw [Bool.eq_iff_iff, Bool.and_eq_true, Bool.or_eq_true, Bool.or_eq_true, decide_eq_true_iff, decide_eq_true_iff, decide_eq_true_iff, decide_eq_true_iff, decide_eq_true_iff]
  exact winTo_succ r a x m
theorem win_pick {r a : List Int} {x : Nat} (hx : x < a.length) : WinTo r a x a.length ↔ pick r a = x := by
  unfold pick
  constructor
  · rintro ⟨h1, h2⟩
    have hp : 0 ≤ pickTo r a a.length := by
      rcases Int.lt_or_le (pickTo r a a.length) 0 with h3 | h3
      · exact absurd h1 (pickTo_none.1 h3 x hx)
      · exact h3
    have hr := pickTo_range r a a.length
    obtain ⟨h3, h4⟩ := pickTo_best hp
    by_cases e : x = (pickTo r a a.length).toNat
    · omega
    · have h5 := h4 x hx h1 e
      rcases h2 (pickTo r a a.length).toNat (by omega) with h6 | h6 | h6
      · omega
      · exact absurd h6 e
      · rcases h5 with h5 | h5 <;> rcases h6 with h6 | h6 <;> omega
  · intro h
    obtain ⟨h1, h2⟩ := pickTo_best (r := r) (a := a) (k := a.length) (by omega)
    rw [h, Int.toNat_natCast] at h1 h2
    refine ⟨h1, fun y hy => ?_⟩
    by_cases hy0 : iget a y < 0
    · by_cases e : x = y
      · exact .inr (.inl e)
      · exact .inr (.inr (h2 y hy hy0 (fun e2 => e e2.symm)))
    · left; omega
/-- The last winner of the first k goods. -/
def refPick (r a : List Int) : Nat → Int
  | 0 => -1
  | k + 1 => if winB r a k a.length = true then (k : Int) else refPick r a k
theorem refPick_eq {r a : List Int} {k : Nat} (hk : k ≤ a.length) : refPick r a k = if pick r a < k then pick r a else -1 := by
  have hr := pickTo_range r a a.length
  induction k with
  | zero =>
    rw [refPick]
    split
    · unfold pick at *; omega
    · rfl
  | succ k ih =>
    rw [refPick, ih (by omega)]
    have := win_pick (r := r) (a := a) (x := k) (by omega)
    by_cases e : pick r a = k
    · rw [if_pos (by unfold winB; rw [decide_eq_true_iff]; exact this.2 e), if_pos (by omega), e]
    · rw [if_neg (by unfold winB; rw [decide_eq_true_iff]; exact fun h => e (this.1 h))]
      split
      · rw [if_pos (by omega)]
      · rw [if_neg (by omega)]
theorem refPick_full (r a : List Int) : refPick r a a.length = pick r a := by
  rw [refPick_eq (Nat.le_refl _)]; exact if_pos (pickTo_range r a a.length).2

/-- Who owns what after one turn; after k turns; what was taken. -/
def stepA (v : List (List Int)) (a : List Int) (i : Int) : List Int := if 0 ≤ pick (rget v i.toNat) a then a.set (pick (rget v i.toNat) a).toNat i else a
def pkA (v : List (List Int)) (ts : List Int) : Nat → List Int
  | 0 => List.replicate (wid v) (-1)
  | k + 1 => stepA v (pkA v ts k) (iget ts k)
def pkT (v : List (List Int)) (ts : List Int) : Nat → List Int
  | 0 => []
  | k + 1 => pkT v ts k ++ [pick (rget v (iget ts k).toNat) (pkA v ts k)]
theorem stepA_len (v : List (List Int)) (a : List Int) (i : Int) : (stepA v a i).length = a.length := by unfold stepA; split <;> simp
theorem pkA_len (v : List (List Int)) (ts : List Int) (k : Nat) : (pkA v ts k).length = wid v := by
  induction k with
  | zero => simp [pkA]
  | succ k ih => rw [pkA, stepA_len, ih]
theorem pkT_len (v : List (List Int)) (ts : List Int) (k : Nat) : (pkT v ts k).length = k := by
  induction k with
  | zero => rfl
  | succ k ih => rw [pkT, List.length_append, ih]; rfl
def pickE (v : List (List Int)) (ts : List Int) : Int := if chkG v = 0 then chkT v.length ts else chkG v
def pickL (v : List (List Int)) (ts : List Int) : List Int := if pickE v ts = 0 then pkA v ts ts.length else []
def pickT (v : List (List Int)) (ts : List Int) : List Int := if pickE v ts = 0 then pkT v ts ts.length else []
theorem pickE_bad {v : List (List Int)} {ts : List Int} (h : ¬ chkG v = 0) : pickE v ts = chkG v := if_neg h
theorem pickE_ok {v : List (List Int)} {ts : List Int} (h : chkG v = 0) : pickE v ts = chkT v.length ts := if_pos h

/-- No two turns of the same agent in one round. -/
def BalTo (n : Nat) (ts : List Int) (m : Nat) : Prop := ∀ s, s < m → ∀ t, t < s → ¬ (iget ts s = iget ts t ∧ s / n = t / n)
instance (n : Nat) (ts : List Int) (m : Nat) : Decidable (BalTo n ts m) := by unfold BalTo; infer_instance
def balB (n : Int) (ts : List Int) : Bool := decide (chkT n ts = 0 ∧ BalTo n.toNat ts ts.length)
end Go.Proofs.Ytiohehofnlmenaa
