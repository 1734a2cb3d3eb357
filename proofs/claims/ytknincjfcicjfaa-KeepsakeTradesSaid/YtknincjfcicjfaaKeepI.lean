/- The first exchange, and what settling keeps, in plain words; no program. -/
import Derived.Test.YtknincjfcicjfaaKeepD
namespace Go.Proofs.Ytknincjfcicjfaa
set_option linter.unusedVariables false
set_option linter.unusedSimpArgs false

theorem ex3_ne {a : List Int} {v : List (List Int)} {i j x y : Nat} (h : ExP a v i j x y) (hy : y < a.length) : ex3 a v i j x ≠ none := fun e => by
  have := fs_no e y hy
  unfold ex4 at this
  rw [if_pos h] at this
  cases this
theorem ex2_ne {a : List Int} {v : List (List Int)} {i j x y : Nat} (h : ExP a v i j x y) (hij : i < j) (hx : x < a.length) (hy : y < a.length) : ex2 a v i j ≠ none := fun e => by
  unfold ex2 at e
  rw [if_pos hij] at e
  exact ex3_ne h hy (fs_no e x hx)
theorem ex1_ne {a : List Int} {v : List (List Int)} {i j x y : Nat} (h : ExP a v i j x y) (hij : i < j) (hj : j < v.length) (hx : x < a.length) (hy : y < a.length) : ex1 a v i ≠ none := fun e => ex2_ne h hij hx hy (fs_no e j hj)
theorem exT_ne {a : List Int} {v : List (List Int)} {i j x y : Nat} (h : ExP a v i j x y) (hij : i < j) (hj : j < v.length) (hx : x < a.length) (hy : y < a.length) : exT a v ≠ none := fun e => ex1_ne h hij hj hx hy (fs_no e i (by omega))
/-- Another exchange does not come before the first one. -/
theorem exT_first {a : List Int} {v : List (List Int)} {i j x y i0 j0 x0 y0 : Nat} (h : ExP a v i j x y) (hij : i < j) (hj : j < v.length) (hx : x < a.length) (hy : y < a.length) (h0 : exT a v = some (i0, j0, x0, y0)) :
    i0 < i ∨ (i0 = i ∧ (j0 < j ∨ (j0 = j ∧ (x0 < x ∨ (x0 = x ∧ y0 ≤ y))))) := by
  obtain ⟨i1, hi1, h1, m1⟩ := fs_some h0
  obtain ⟨j1, hj1, h2, m2⟩ := fs_some h1
  unfold ex2 at h2
  by_cases hij1 : i1 < j1
  · rw [if_pos hij1] at h2
    obtain ⟨x1, hx1, h3, m3⟩ := fs_some h2
    obtain ⟨y1, hy1, h4, m4⟩ := fs_some h3
    unfold ex4 at h4
    by_cases hp : ExP a v i1 j1 x1 y1
    · rw [if_pos hp] at h4
      simp only [Option.some.injEq, Prod.mk.injEq] at h4
      obtain ⟨rfl, rfl, rfl, rfl⟩ := h4
      by_cases c1 : i < i1
      · exact absurd (m1 i c1) (ex1_ne h hij hj hx hy)
      · by_cases c2 : i1 = i
        · subst c2
          refine .inr ⟨rfl, ?_⟩
          by_cases c3 : j < j1
          · exact absurd (m2 j c3) (ex2_ne h hij hx hy)
          · by_cases c4 : j1 = j
            · subst c4
              refine .inr ⟨rfl, ?_⟩
              by_cases c5 : x < x1
              · exact absurd (m3 x c5) (ex3_ne h hy)
              · by_cases c6 : x1 = x
                · subst c6
                  refine .inr ⟨rfl, ?_⟩
                  by_cases c7 : y < y1
                  · exact absurd (m4 y c7) (by unfold ex4; rw [if_pos h]; simp)
                  · omega
                · exact .inl (by omega)
            · exact .inl (by omega)
        · exact .inl (by omega)
    · rw [if_neg hp] at h4; cases h4
  · rw [if_neg hij1] at h2; cases h2

/-- How many of the first k items of agent i's ranking it has. -/
def cntP (a : List Int) (v : List (List Int)) (i k : Nat) : Int := sumTo (fun q => if iget a (itm (rget v i) q) = (i : Int) then 1 else 0) k
theorem cntP_succ (a : List Int) (v : List (List Int)) (i k : Nat) : cntP a v i (k + 1) = cntP a v i k + if iget a (itm (rget v i) k) = (i : Int) then 1 else 0 := rfl
theorem cntP_bd (a : List Int) (v : List (List Int)) (i : Nat) : ∀ k, 0 ≤ cntP a v i k ∧ cntP a v i k ≤ k
  | 0 => ⟨Int.le_refl _, by simp [cntP, sumTo]⟩
  | k + 1 => by
    have := cntP_bd a v i k
    rw [cntP_succ]
    by_cases e : iget a (itm (rget v i) k) = (i : Int)
    · rw [if_pos e]; omega
    · rw [if_neg e]; omega
theorem sumTo_move {f g : Nat → Int} {u z n : Nat} (huz : u < z) (hzn : z < n) (h : ∀ q, q < n → q ≠ u → q ≠ z → f q = g q) (hu : g u = f u + 1) (hz : g z = f z - 1) :
    ∀ k, k ≤ n → sumTo g k = sumTo f k + (if u < k then 1 else 0) - (if z < k then 1 else 0)
  | 0, _ => by simp [sumTo]
  | k + 1, hk => by
    have ih := sumTo_move huz hzn h hu hz k (by omega)
    rw [sumTo, sumTo, ih]
    by_cases c1 : k = u
    · subst c1
      rw [hu, if_neg (by omega), if_neg (by omega), if_pos (by omega), if_neg (by omega)]; omega
    · by_cases c2 : k = z
      · subst c2
        rw [hz, if_pos huz, if_neg (by omega), if_pos (by omega), if_pos (by omega)]; omega
      · rw [h k (by omega) c1 c2]
        by_cases c3 : u < k
        · rw [if_pos c3, if_pos (by omega : u < k + 1)]
          by_cases c4 : z < k
          · rw [if_pos c4, if_pos (by omega : z < k + 1)]; omega
          · rw [if_neg c4, if_neg (by omega : ¬ z < k + 1)]; omega
        · rw [if_neg c3, if_neg (by omega : ¬ u < k + 1), if_neg (by omega : ¬ z < k), if_neg (by omega : ¬ z < k + 1)]; omega
theorem itm_place {l : List Int} {n : Nat} (h : IsA l n) {x : Nat} (hx : x < n) : ∃ k, k < n ∧ placeI l (x : Int) = k ∧ itm l k = x ∧ ∀ q, q < n → q ≠ k → itm l q ≠ x := by
  obtain ⟨k, hk, h1, h2⟩ := placeI_some h hx
  refine ⟨k, hk, h2, by unfold itm; rw [h1]; simp, fun q hq hne e => hne ?_⟩
  refine isA_inj h hq hk ?_
  have := isA_lt h q hq
  unfold itm at e
  omega
theorem cntP_step {a : List Int} {v : List (List Int)} (hL : Lkd a v) {m : Nat} (hm : m < v.length) :
    (∀ k, k ≤ a.length → cntP a v m k ≤ cntP (stStep a v) v m k) ∧ cntP (stStep a v) v m a.length = cntP a v m a.length := by
  cases he : exT a v with
  | none => rw [stStep_none he]; exact ⟨fun _ _ => Int.le_refl _, rfl⟩
  | some t =>
    obtain ⟨i, j, x, y⟩ := t
    obtain ⟨hi, hij, hj, hx, hy, h1, h2, h3, h4⟩ := exT_spec he
    rw [stStep_some he]
    have hA := hL.2.2.2.1 m hm
    obtain ⟨kx, hkx, px, ix, nx⟩ := itm_place hA hx
    obtain ⟨ky, hky, py, iy, ny⟩ := itm_place hA hy
    have hxy : x ≠ y := fun e => by subst e; rw [h1] at h2; omega
    have gx : iget (swp a i j x y) x = (j : Int) := by rw [swp_get hx hy, if_neg (Ne.symm hxy), if_pos rfl]
    have gy : iget (swp a i j x y) y = (i : Int) := by rw [swp_get hx hy, if_pos rfl]
    have go : ∀ q, q < a.length → q ≠ kx → q ≠ ky → iget (swp a i j x y) (itm (rget v m) q) = iget a (itm (rget v m) q) := fun q hq e1 e2 => by
      rw [swp_get hx hy, if_neg (Ne.symm (ny q hq e2)), if_neg (Ne.symm (nx q hq e1))]
    by_cases c1 : m = i
    · subst c1
      rw [px, py] at h3
      have := sumTo_move (f := fun q => if iget a (itm (rget v m) q) = (m : Int) then 1 else 0) (g := fun q => if iget (swp a m j x y) (itm (rget v m) q) = (m : Int) then 1 else 0) (u := ky) (z := kx) (n := a.length) (by omega) hkx
        (fun q hq e1 e2 => by simp only [go q hq e2 e1]) (by simp only [iy, gy, h2]; rw [if_pos trivial, if_neg (by omega)]; rfl) (by simp only [ix, gx, h1]; rw [if_neg (by omega), if_pos trivial]; rfl)
      refine ⟨fun k hk => ?_, ?_⟩
      · have t := this k hk
        unfold cntP
        rw [t]
        by_cases d1 : ky < k
        · rw [if_pos d1]
          by_cases d2 : kx < k
          · rw [if_pos d2]; omega
          · rw [if_neg d2]; omega
        · rw [if_neg d1, if_neg (by omega : ¬ kx < k)]; omega
      · have t := this a.length (Nat.le_refl _)
        unfold cntP
        rw [t, if_pos hky, if_pos hkx]; omega
    · by_cases c2 : m = j
      · subst c2
        rw [px, py] at h4
        have := sumTo_move (f := fun q => if iget a (itm (rget v m) q) = (m : Int) then 1 else 0) (g := fun q => if iget (swp a i m x y) (itm (rget v m) q) = (m : Int) then 1 else 0) (u := kx) (z := ky) (n := a.length) (by omega) hky
          (fun q hq e1 e2 => by simp only [go q hq e1 e2]) (by simp only [ix, gx, h1]; rw [if_pos trivial, if_neg (by omega)]; rfl) (by simp only [iy, gy, h2]; rw [if_neg (by omega), if_pos trivial]; rfl)
        refine ⟨fun k hk => ?_, ?_⟩
        · have t := this k hk
          unfold cntP
          rw [t]
          by_cases d1 : kx < k
          · rw [if_pos d1]
            by_cases d2 : ky < k
            · rw [if_pos d2]; omega
            · rw [if_neg d2]; omega
          · rw [if_neg d1, if_neg (by omega : ¬ ky < k)]; omega
        · have t := this a.length (Nat.le_refl _)
          unfold cntP
          rw [t, if_pos hky, if_pos hkx]; omega
      · have : ∀ k, k ≤ a.length → cntP (swp a i j x y) v m k = cntP a v m k := fun k hk => by
          unfold cntP
          refine sumTo_congr fun q hq => ?_
          by_cases e1 : q = kx
          · subst e1
            simp only [ix, gx, h1]
            rw [if_neg (by omega), if_neg (by omega)]
          · by_cases e2 : q = ky
            · subst e2
              simp only [iy, gy, h2]
              rw [if_neg (by omega), if_neg (by omega)]
            · simp only [go q (by omega) e1 e2]
        exact ⟨fun k hk => by rw [this k hk]; exact Int.le_refl _, this _ (Nat.le_refl _)⟩
theorem cntP_to {a : List Int} {v : List (List Int)} (hL : Lkd a v) {m : Nat} (hm : m < v.length) : ∀ n, (∀ k, k ≤ a.length → cntP a v m k ≤ cntP (stTo a v n) v m k) ∧ cntP (stTo a v n) v m a.length = cntP a v m a.length
  | 0 => ⟨fun _ _ => Int.le_refl _, rfl⟩
  | n + 1 => by
    obtain ⟨h1, h2⟩ := cntP_to hL hm n
    obtain ⟨h3, h4⟩ := cntP_step (stTo_lkd hL n) hm
    rw [stTo_len] at h3 h4
    exact ⟨fun k hk => Int.le_trans (h1 k hk) (h3 k hk), by rw [stTo, h4, h2]⟩
theorem stN_zero {a : List Int} {v : List (List Int)} (hL : Lkd a v) : stN a v = 0 ↔ exT a v = none := by
  constructor
  · intro h
    have := (stN_spec hL).2.1
    rw [h] at this
    exact this
  · intro h
    exact stN_of hL h (fun k hk => by omega)
theorem stL_zero {a : List Int} {v : List (List Int)} (h : stN a v = 0) : stL a v = a := by unfold stL; rw [h]; rfl
end Go.Proofs.Ytknincjfcicjfaa
