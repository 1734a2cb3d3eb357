/- Turns are even, in plain words; no program. -/
import Derived.Test.YtknincjfcicjfaaKeepQ
namespace Go.Proofs.Ytknincjfcicjfaa
set_option linter.unusedVariables false
set_option linter.unusedSimpArgs false

/-- How many of the first k items that were left are agent i's. -/
def gotP (a b : List Int) (i : Int) (k : Nat) : Int := sumTo (fun q => if iget a q < 0 ∧ iget b q = i then 1 else 0) k
theorem gotP_succ (a b : List Int) (i : Int) (k : Nat) : gotP a b i (k + 1) = gotP a b i k + if iget a k < 0 ∧ iget b k = i then 1 else 0 := rfl
theorem gotP_bd (a b : List Int) (i : Int) : ∀ k, 0 ≤ gotP a b i k ∧ gotP a b i k ≤ k
  | 0 => ⟨Int.le_refl _, by simp [gotP, sumTo]⟩
  | k + 1 => by
    have := gotP_bd a b i k
    rw [gotP_succ]
    by_cases e : iget a k < 0 ∧ iget b k = i
    · rw [if_pos e]; omega
    · rw [if_neg e]; omega
/-- How many of the first N turns are the one of place s among n. -/
def turnC (n s : Nat) (N : Nat) : Int := sumTo (fun t => if t % n = s then 1 else 0) N
theorem turnC_form {n : Nat} (hn : 0 < n) : ∀ N, ∃ q r, N = q * n + r ∧ r < n ∧ ∀ s, s < n → turnC n s N = (q : Int) + if s < r then 1 else 0
  | 0 => ⟨0, 0, by omega, hn, fun s hs => by simp [turnC, sumTo]⟩
  | N + 1 => by
    obtain ⟨q, r, h1, h2, h3⟩ := turnC_form hn N
    have hm : N % n = r := by rw [h1, Nat.mul_comm, Nat.mul_add_mod]; exact Nat.mod_eq_of_lt h2
    have hstep : ∀ s, turnC n s (N + 1) = turnC n s N + if r = s then 1 else 0 := fun s => by
      show sumTo _ (N + 1) = _
      rw [sumTo, hm]; rfl
    by_cases e : r + 1 < n
    · refine ⟨q, r + 1, by omega, e, fun s hs => ?_⟩
      rw [hstep, h3 s hs]
      by_cases c1 : s < r
      · rw [if_pos c1, if_neg (by omega), if_pos (by omega)]; omega
      · rw [if_neg c1]
        by_cases c2 : r = s
        · rw [if_pos c2, if_pos (by omega)]; omega
        · rw [if_neg c2, if_neg (by omega)]; omega
    · refine ⟨q + 1, 0, by rw [Nat.add_mul]; omega, hn, fun s hs => ?_⟩
      rw [hstep, h3 s hs, if_neg (Nat.not_lt_zero s)]
      by_cases c1 : s < r
      · rw [if_pos c1, if_neg (by omega)]; omega
      · rw [if_neg c1, if_pos (by omega)]; omega
theorem turnC_mono {n : Nat} (hn : 0 < n) (N : Nat) {s s' : Nat} (h : s ≤ s') (hs : s' < n) : turnC n s' N ≤ turnC n s N ∧ turnC n s N ≤ turnC n s' N + 1 := by
  obtain ⟨q, r, _, _, h3⟩ := turnC_form hn N
  rw [h3 s (by omega), h3 s' hs]
  by_cases c1 : s' < r
  · rw [if_pos c1, if_pos (by omega)]; omega
  · rw [if_neg c1]
    by_cases c2 : s < r
    · rw [if_pos c2]; omega
    · rw [if_neg c2]; omega
theorem sumTo_put {f g : Nat → Int} {x n : Nat} (hx : x < n) (h : ∀ q, q < n → q ≠ x → g q = f q) : sumTo g n + f x = sumTo f n + g x := by
  induction n with
  | zero => omega
  | succ n ih =>
    rw [sumTo, sumTo]
    by_cases e : x = n
    · subst e
      have := sumTo_congr (f := g) (g := f) (n := x) (fun q hq => h q (by omega) (by omega))
      omega
    · have := ih (by omega) (fun q hq => h q (by omega))
      have := h n (by omega) (fun e2 => e e2.symm)
      omega
/-- What holds while turns go on. -/
structure TrnI (a o out : List Int) (v : List (List Int)) (t : Nat) : Prop where
  keep : ∀ k, k < a.length → 0 ≤ iget a k → iget out k = iget a k
  got : ∀ s, s < o.length → gotP a out (iget o s) a.length = turnC o.length s t
theorem trnI {a o : List Int} {v : List (List Int)} (hL : Lkd a v) (ho : IsA o v.length) : ∀ t, t ≤ nLeft a → TrnI a o (trnTo a o v t) v t
  | 0, _ => ⟨fun _ _ _ => rfl, fun s hs => by
      show sumTo _ _ = sumTo _ 0
      have : ∀ n, n ≤ a.length → sumTo (fun q => if iget a q < 0 ∧ iget a q = iget o s then 1 else 0) n = 0 := by
        intro n
        induction n with
        | zero => intro _; rfl
        | succ n ih =>
          intro hn
          rw [sumTo, ih (by omega), if_neg]
          · rfl
          · rintro ⟨h1, h2⟩
            have := (isA_lt ho s (by rw [← ho.1]; exact hs)).1
            omega
      exact this _ (Nat.le_refl _)⟩
  | t + 1, ht => by
    have ih := trnI hL ho t (by omega)
    have hn : 0 < v.length := hL.2.2.1
    obtain ⟨i, h1, h2, h3⟩ := turn_at ho hn t
    have hG := trnTo_good hL ho t
    have hm : (-1 : Int) ∈ trnTo a o v t := by
      have := trnTo_left hL ho t (by omega)
      exact List.count_pos_iff.1 (by unfold nLeft at *; omega)
    have hio : itm o (t % o.length) = i := by unfold itm; rw [h1]; simp
    obtain ⟨k, k1, k2, k3, k4, k5, k6, _⟩ := goodK_some hL hG h2 hm
    have hx : itm (rget v i) k < a.length := by rw [← hG.len]; exact k4
    have hax : iget a (itm (rget v i) k) < 0 := Classical.byContradiction fun hc => by
      have := ih.keep _ hx (by omega)
      omega
    have hst : trnTo a o v (t + 1) = (trnTo a o v t).set (itm (rget v i) k) (i : Int) := by rw [trnTo, hio, takeK, k2, h1]
    have hget : ∀ q, iget (trnTo a o v (t + 1)) q = if itm (rget v i) k = q then (i : Int) else iget (trnTo a o v t) q := fun q => by rw [hst, iget_set k4]
    refine ⟨fun q hq hq0 => ?_, fun s hs => ?_⟩
    · rw [hget, if_neg (fun e => by rw [e] at hax; omega)]
      exact ih.keep q hq hq0
    · have hp := sumTo_put (f := fun q => if iget a q < 0 ∧ iget (trnTo a o v t) q = iget o s then 1 else 0) (g := fun q => if iget a q < 0 ∧ iget (trnTo a o v (t + 1)) q = iget o s then 1 else 0) (x := itm (rget v i) k) (n := a.length) hx (fun q hq hne => by
        simp only [hget q, if_neg (Ne.symm hne)])
      simp only [hget, if_true] at hp
      have e0 : (if iget a (itm (rget v i) k) < 0 ∧ iget (trnTo a o v t) (itm (rget v i) k) = iget o s then (1 : Int) else 0) = 0 := by
        rw [if_neg]
        rintro ⟨_, e⟩
        have := (isA_lt ho s (by rw [← ho.1]; exact hs)).1
        omega
      rw [e0] at hp
      have hg := ih.got s hs
      unfold gotP at hg ⊢
      simp only [hget]
      have hT : turnC o.length s (t + 1) = turnC o.length s t + if t % o.length = s then 1 else 0 := rfl
      rw [hT]
      by_cases e : t % o.length = s
      · rw [if_pos e]
        rw [if_pos ⟨hax, by rw [← e, h1]⟩] at hp
        omega
      · rw [if_neg e]
        rw [if_neg (fun hc => e (by
          have h9 := isA_inj ho (i := t % o.length) (j := s) (by rw [← ho.1]; exact h3) (by rw [← ho.1]; exact hs) (by rw [h1]; exact hc.2)
          exact h9))] at hp
        omega
/-- What the law asks of turns. -/
structure TrnOk (a o b : List Int) (v : List (List Int)) : Prop where
  len : b.length = a.length
  own : ∀ k, k < a.length → 0 ≤ iget b k ∧ iget b k < v.length
  keep : ∀ k, k < a.length → 0 ≤ iget a k → iget b k = iget a k
  down : ∀ s s', s ≤ s' → s' < o.length → gotP a b (iget o s') a.length ≤ gotP a b (iget o s) a.length ∧ gotP a b (iget o s) a.length ≤ gotP a b (iget o s') a.length + 1
  first : ∀ k, k < a.length → (∀ j, j < k → ¬ iget a (itm (rget v (itm o 0)) j) < 0) → iget a (itm (rget v (itm o 0)) k) < 0 → iget b (itm (rget v (itm o 0)) k) = iget o 0
/-- What is taken stays. -/
theorem trn_stay {a o : List Int} {v : List (List Int)} (hL : Lkd a v) (ho : IsA o v.length) {x : Nat} {t : Nat} (hx : x < a.length) (h0 : 0 ≤ iget (trnTo a o v t) x) : ∀ s, t + s ≤ nLeft a → iget (trnTo a o v (t + s)) x = iget (trnTo a o v t) x
  | 0, _ => rfl
  | s + 1, hs => by
    have ih := trn_stay hL ho hx h0 s (by omega)
    have hn : 0 < v.length := hL.2.2.1
    obtain ⟨i, h1, h2, h3⟩ := turn_at ho hn (t + s)
    have hG := trnTo_good hL ho (t + s)
    have hm : (-1 : Int) ∈ trnTo a o v (t + s) := by
      have := trnTo_left hL ho (t + s) (by omega)
      exact List.count_pos_iff.1 (by unfold nLeft at *; omega)
    have hio : itm o ((t + s) % o.length) = i := by unfold itm; rw [h1]; simp
    obtain ⟨k, k1, k2, k3, k4, k5, k6, _⟩ := goodK_some hL hG h2 hm
    show iget (trnTo a o v (t + s + 1)) x = _
    rw [trnTo, hio, takeK, k2, h1, iget_set k4, if_neg (fun e => by rw [e] at k6; omega)]
    exact ih
theorem trnOk {a o : List Int} {v : List (List Int)} (hL : Lkd a v) (ho : IsA o v.length) : TrnOk a o (trnL a o v) v := by
  have hI := trnI hL ho (nLeft a) (Nat.le_refl _)
  have hG := trnTo_good hL ho (nLeft a)
  have hno := trnTo_has hL ho (t := nLeft a) (Nat.le_refl _)
  have hn : 0 < v.length := hL.2.2.1
  have hol : o.length = v.length := ho.1
  refine ⟨hG.len, fun k hk => ?_, fun k hk h0 => hI.keep k hk h0, fun s s' h1 h2 => ?_, fun k hk hb hl => ?_⟩
  · have h1 := hG.own k (by rw [hG.len]; exact hk)
    have hne : iget (trnL a o v) k ≠ -1 := fun e => by
      unfold hasB at hno
      rw [decide_eq_false (Nat.lt_irrefl _), decide_eq_false_iff_not] at hno
      exact hno (by rw [← e]; exact iget_mem (by show k < (trnTo a o v (nLeft a)).length; rw [hG.len]; exact hk))
    unfold trnL at hne ⊢
    omega
  · unfold trnL
    rw [hI.got s (by omega), hI.got s' h2]
    exact turnC_mono (by omega) _ h1 h2
  · have hA := hL.2.2.2.1 (itm o 0) (isA_lt ho 0 hn).2
    have hx := (isA_lt hA k hk).2
    have hm : (-1 : Int) ∈ a := by
      have := (hL.2.2.2.2 _ hx).1
      have : iget a (itm (rget v (itm o 0)) k) = -1 := by omega
      rw [← this]; exact iget_mem hx
    have hpos : 0 < nLeft a := List.count_pos_iff.2 hm
    have h00 : 0 % o.length = 0 := Nat.zero_mod _
    obtain ⟨i, h1, h2, h3⟩ := turn_at ho hn 0
    rw [h00] at h1
    have hio : itm o 0 = i := by unfold itm; rw [h1]; simp
    rw [hio] at hb hl hA hx ⊢
    obtain ⟨k', k1, k2, k3, k4, k5, k6, k7⟩ := goodK_some hL (trnTo_good hL ho 0) h2 hm
    have hkk : k = k' := by
      by_cases c1 : k < k'
      · have := k7 k c1
        unfold isLeft at this
        rw [decide_eq_false_iff_not] at this
        exact absurd hl this
      · by_cases c2 : k' < k
        · have := hb k' c2
          have h6 : iget a (itm (rget v i) k') = -1 := k6
          omega
        · omega
    subst hkk
    have hs1 : iget (trnTo a o v 1) (itm (rget v i) k) = (i : Int) := by
      show iget (takeK (trnTo a o v 0) (rget v (itm o (0 % o.length))) (iget o (0 % o.length))) _ = _
      have k2' : favK a (rget v i) = k := k2
      have k4' : itm (rget v i) k < a.length := k4
      rw [h00, hio, h1, takeK, trnTo, k2', iget_set k4', if_pos rfl]
    have := trn_stay hL ho (t := 1) hx (by rw [hs1]; omega) (nLeft a - 1) (by omega)
    rw [show 1 + (nLeft a - 1) = nLeft a by omega, hs1] at this
    unfold trnL
    rw [this, h1]
end Go.Proofs.Ytknincjfcicjfaa
