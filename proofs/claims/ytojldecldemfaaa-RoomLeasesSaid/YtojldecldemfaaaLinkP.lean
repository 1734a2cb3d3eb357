/- What the reference's Link computes is the greatest sum along a simple path; the least prices; plain, no program. -/
import Derived.Test.YtojldecldemfaaaLex
import Derived.Test.YtojldecldemfaaaBool
namespace Go.Proofs.Ytojldecldemfaaa
set_option linter.unusedVariables false
set_option linter.unusedSimpArgs false

/-- The greatest of g k over those k that are not marked, and whether there was one. -/
def scan (g : Nat → Int) (sb : List Bool) : Nat → Int × Bool
  | 0 => (0, false)
  | k + 1 => if bget sb k = true then scan g sb k else if (scan g sb k).2 = false ∨ (scan g sb k).1 < g k then (g k, true) else scan g sb k
theorem scan_spec (g : Nat → Int) (sb : List Bool) : ∀ k, ((scan g sb k).2 = false ∧ (scan g sb k).1 = 0 ∧ ∀ j, j < k → bget sb j = true) ∨
    ((scan g sb k).2 = true ∧ (∃ j, j < k ∧ bget sb j = false ∧ (scan g sb k).1 = g j) ∧ ∀ j, j < k → bget sb j = false → g j ≤ (scan g sb k).1)
  | 0 => .inl ⟨rfl, rfl, fun _ h => by omega⟩
  | k + 1 => by
    simp only [scan]
    by_cases hb : bget sb k = true
    · rw [if_pos hb]
      rcases scan_spec g sb k with ⟨h1, h2, h3⟩ | ⟨h1, ⟨j, h2, h3, h4⟩, h5⟩
      · refine .inl ⟨h1, h2, fun j hj => ?_⟩
        by_cases e : j = k
        · subst e; exact hb
        · exact h3 j (by omega)
      · refine .inr ⟨h1, ⟨j, by omega, h3, h4⟩, fun i hi hn => ?_⟩
        by_cases e : i = k
        · subst e; rw [hb] at hn; cases hn
        · exact h5 i (by omega) hn
    · rw [if_neg hb]
      have hb' : bget sb k = false := by simpa using hb
      by_cases hg : (scan g sb k).2 = false ∨ (scan g sb k).1 < g k
      · rw [if_pos hg]
        refine .inr ⟨rfl, ⟨k, by omega, hb', rfl⟩, fun i hi hn => ?_⟩
        by_cases e : i = k
        · subst e; exact Int.le_refl _
        · rcases scan_spec g sb k with ⟨h1, h2, h3⟩ | ⟨h1, _, h5⟩
          · have := h3 i (by omega); rw [this] at hn; cases hn
          · have := h5 i (by omega) hn
            rcases hg with hg | hg
            · rw [h1] at hg; cases hg
            · show g i ≤ g k; omega
      · rw [if_neg hg]
        rcases scan_spec g sb k with ⟨h1, h2, h3⟩ | ⟨h1, ⟨j, h2, h3, h4⟩, h5⟩
        · exact absurd (.inl h1) hg
        · refine .inr ⟨h1, ⟨j, by omega, h3, h4⟩, fun i hi hn => ?_⟩
          by_cases e : i = k
          · subst e; have : ¬ (scan g sb i).1 < g i := fun h => hg (.inr h); omega
          · exact h5 i (by omega) hn
theorem scan_congr {g h : Nat → Int} {sb : List Bool} : ∀ k, (∀ j, j < k → bget sb j = false → g j = h j) → scan g sb k = scan h sb k
  | 0, _ => rfl
  | k + 1, e => by
    simp only [scan]
    rw [scan_congr k (fun j hj hb => e j (by omega) hb)]
    by_cases hb : bget sb k = true
    · simp [hb]
    · rw [if_neg hb, if_neg hb, e k (by omega) (by simpa using hb)]

/-- What Link computes, at most f nodes being left. -/
def lnk (w : Nat → Nat → Int) (n : Nat) : Nat → List Bool → Nat → Nat → Int
  | 0, _, _, _ => 0
  | f + 1, sb, x, y => if x = y then 0 else (scan (fun j => w x j + lnk w n f (sb.set x true) j y) (sb.set x true) n).1

theorem count_set_false {sb : List Bool} {x : Nat} (hx : x < sb.length) (h : bget sb x = false) : (sb.set x true).count false + 1 = sb.count false := by
  induction sb generalizing x with
  | nil => simp at hx
  | cons b sb ih =>
    cases x with
    | zero =>
      simp [bget] at h; subst h
      simp
    | succ x =>
      simp [bget] at h
      have := ih (x := x) (by simpa using hx) (by simp [bget, h])
      simp only [List.set_cons_succ, List.count_cons]
      omega
theorem count_pos {sb : List Bool} {x : Nat} (hx : x < sb.length) (h : bget sb x = false) : 0 < sb.count false := by
  have := count_set_false hx h; omega

theorem lnk_spec (w : Nat → Nat → Int) (n : Nat) : ∀ (f : Nat) (sb : List Bool) (x y : Nat), sb.length = n → x < n → y < n → bget sb x = false → bget sb y = false → sb.count false ≤ f →
    (∃ L, Simple n x L ∧ (∀ z, z ∈ x :: L → bget sb z = false) ∧ lastOf x L = y ∧ psum w x L = lnk w n f sb x y) ∧
    (∀ L, Simple n x L → (∀ z, z ∈ x :: L → bget sb z = false) → lastOf x L = y → psum w x L ≤ lnk w n f sb x y)
  | 0, sb, x, y, hl, hx, _, h1, _, hc => by have := count_pos (by omega) h1; omega
  | f + 1, sb, x, y, hl, hx, hy, h1, h2, hc => by
    simp only [lnk]
    by_cases e : x = y
    · subst e
      rw [if_pos rfl]
      refine ⟨⟨[], ⟨by simp, fun z hz => by simp at hz; omega⟩, fun z hz => by simp at hz; subst hz; exact h1, rfl, rfl⟩, ?_⟩
      intro L hL _ hlast
      cases L with
      | nil => simp [psum]
      | cons z L =>
        simp only [lastOf] at hlast
        have hm := lastOf_mem z L
        rw [hlast] at hm
        exact absurd hm (List.nodup_cons.1 hL.nodup).1
    · rw [if_neg e]
      have hl' : (sb.set x true).length = n := by simp [hl]
      have hc' : (sb.set x true).count false ≤ f := by have := count_set_false (by omega) h1; omega
      have hg : ∀ z, bget (sb.set x true) z = false ↔ (z ≠ x ∧ bget sb z = false) := fun z => by
        rw [bget_set (by omega)]
        by_cases e : x = z
        · subst e; simp
        · simp [e, Ne.symm e]
      have hy' : bget (sb.set x true) y = false := (hg y).2 ⟨fun e' => e e'.symm, h2⟩
      have ih := fun j hj hb => lnk_spec w n f (sb.set x true) j y hl' hj hy hb hy' hc'
      rcases scan_spec (fun j => w x j + lnk w n f (sb.set x true) j y) (sb.set x true) n with ⟨_, _, h5⟩ | ⟨_, ⟨j, j1, j2, j3⟩, h5⟩
      · have := h5 y hy; rw [this] at hy'; cases hy'
      · refine ⟨?_, ?_⟩
        · obtain ⟨⟨L, hL, hav, hlast, hp⟩, _⟩ := ih j j1 j2
          refine ⟨j :: L, ⟨List.nodup_cons.2 ⟨fun hm => ((hg x).1 (hav x hm)).1 rfl, hL.nodup⟩, fun z hz => ?_⟩, fun z hz => ?_, hlast, ?_⟩
          · rcases List.mem_cons.1 hz with rfl | hz
            · exact hx
            · exact hL.lt z hz
          · rcases List.mem_cons.1 hz with rfl | hz
            · exact h1
            · exact ((hg z).1 (hav z hz)).2
          · rw [j3]; simp only [psum]; rw [hp]
        · intro L hL hav hlast
          cases L with
          | nil => exact absurd hlast e
          | cons z L =>
            have hnx := (List.nodup_cons.1 hL.nodup).1
            have hav' : ∀ u, u ∈ z :: L → bget (sb.set x true) u = false := fun u hu => (hg u).2 ⟨fun e' => hnx (e' ▸ hu), hav u (List.mem_cons_of_mem _ hu)⟩
            have hz := hL.tail.lt z (by simp)
            have h6 := (ih z hz (hav' z (by simp))).2 L hL.tail hav' hlast
            have h7 := h5 z hz (hav' z (by simp))
            simp only [psum]
            omega
theorem lnk_bound {w : Nat → Nat → Int} {n : Nat} {M : Int} (hM : 0 ≤ M) (hw : ∀ x y, x < n → y < n → -M ≤ w x y ∧ w x y ≤ M) : ∀ (f : Nat) (sb : List Bool) (x y : Nat), x < n → -(M * f) ≤ lnk w n f sb x y ∧ lnk w n f sb x y ≤ M * f
  | 0, _, _, _, _ => by simp [lnk]
  | f + 1, sb, x, y, hx => by
    simp only [lnk]
    have e : M * ((f + 1 : Nat) : Int) = M * f + M := by rw [Int.natCast_succ, Int.mul_add, Int.mul_one]
    have h0 : 0 ≤ M * f := Int.mul_nonneg hM (by omega)
    split
    · omega
    · rcases scan_spec (fun j => w x j + lnk w n f (sb.set x true) j y) (sb.set x true) n with ⟨_, h2, _⟩ | ⟨_, ⟨j, j1, _, j3⟩, _⟩
      · omega
      · have h1 := lnk_bound hM hw f (sb.set x true) j y j1
        have h2 := hw x j hx j1
        rw [j3]; omega
theorem scan_bound {g : Nat → Int} {sb : List Bool} {M : Int} (hM : 0 ≤ M) {k : Nat} (hg : ∀ j, j < k → -M ≤ g j ∧ g j ≤ M) : -M ≤ (scan g sb k).1 ∧ (scan g sb k).1 ≤ M := by
  rcases scan_spec g sb k with ⟨_, h2, _⟩ | ⟨_, ⟨j, j1, _, j3⟩, _⟩
  · omega
  · have := hg j j1; omega

/-- Link from the beginning: no node is marked. -/
def lnkS (w : Nat → Nat → Int) (n : Nat) (x y : Nat) : Int := lnk w n n (List.replicate n false) x y
theorem bget_replicate (n k : Nat) : bget (List.replicate n false) k = false := by
  simp only [bget, List.getD, List.getElem?_replicate]; split <;> rfl
theorem lnkS_clo (w : Nat → Nat → Int) (n : Nat) : Clo w n (lnkS w n) := by
  refine ⟨fun x y hx hy => ?_, fun x L hL => ?_⟩
  · obtain ⟨⟨L, h1, _, h3, h4⟩, _⟩ := lnk_spec w n n (List.replicate n false) x y (by simp) hx hy (bget_replicate n x) (bget_replicate n y) (by simp)
    exact ⟨L, h1, h3, h4⟩
  · exact (lnk_spec w n n (List.replicate n false) x (lastOf x L) (by simp) (hL.lt x (by simp)) (hL.lt _ (lastOf_mem x L)) (bget_replicate n x) (bget_replicate n _) (by simp)).2 L hL (fun z _ => bget_replicate n z) rfl

/-- The greatest of f 0 .. f (n - 1), and 0. -/
def maxTo (f : Nat → Int) : Nat → Int
  | 0 => 0
  | n + 1 => max (maxTo f n) (f n)
theorem maxTo_ge (f : Nat → Int) : ∀ n, 0 ≤ maxTo f n ∧ ∀ i, i < n → f i ≤ maxTo f n
  | 0 => ⟨Int.le_refl _, fun _ h => by omega⟩
  | n + 1 => by
    obtain ⟨h1, h2⟩ := maxTo_ge f n
    simp only [maxTo]
    refine ⟨by omega, fun i hi => ?_⟩
    by_cases e : i = n
    · subst e; omega
    · have := h2 i (by omega); omega
theorem maxTo_eq (f : Nat → Int) : ∀ n, maxTo f n = 0 ∨ ∃ i, i < n ∧ maxTo f n = f i
  | 0 => .inl rfl
  | n + 1 => by
    simp only [maxTo]
    rcases maxTo_eq f n with h | ⟨i, hi, h⟩
    · by_cases e : f n ≤ 0
      · left; omega
      · right; exact ⟨n, by omega, by omega⟩
    · by_cases e : f n ≤ f i
      · right; exact ⟨i, by omega, by omega⟩
      · right; exact ⟨n, by omega, by omega⟩
/-- The least price of item j. -/
def leastP (w : Nat → Nat → Int) (n : Nat) (j : Nat) : Int := maxTo (fun i => lnkS w n i j) n
end Go.Proofs.Ytojldecldemfaaa
