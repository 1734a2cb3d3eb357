/- The Nash allocation is fair up to one good, and nothing is above it (plain). -/
import Derived.Test.YtmcncflieoolmaaGreatTopTopGoodsm27
import Derived.Test.YtmcncflieoolmaaGreatTopTopGoodsm29
import Derived.Test.YtmcncflieoolmaaGreatTopTopGoodsm5
/- The Nash allocation is fair up to one good, and nothing is above it (plain). -/
namespace Go.Proofs.YtmcncflieoolmaaGreat
set_option linter.unusedVariables false
set_option linter.unusedSimpArgs false

/-- The number, or 1. -/
def posI (x : Int) : Int := if 0 < x then x else 1
def oneI (x : Int) : Int := if 0 < x then 1 else 0
theorem pcnt_succ (l : List Int) (k : Nat) : pcnt l (k + 1) = pcnt l k + oneI (iget l k) := by
  simp only [pcnt, oneI]; split <;> omega
theorem pprd_succ (l : List Int) (k : Nat) : pprd l (k + 1) = pprd l k * posI (iget l k) := by
  simp only [pprd, posI]; split <;> simp
theorem pprd_ge (l : List Int) : ∀ k, 1 ≤ pprd l k
  | 0 => Int.le_refl _
  | k + 1 => by
    have ih := pprd_ge l k
    rw [pprd_succ]
    have h : 1 ≤ posI (iget l k) := by unfold posI; split <;> omega
    have := Int.mul_le_mul ih h (by omega) (by omega)
    omega
theorem key_mono {l l' : List Int} : ∀ k, (∀ i, i < k → 0 ≤ iget l i ∧ iget l i ≤ iget l' i) → pcnt l k < pcnt l' k ∨ (pcnt l k = pcnt l' k ∧ pprd l k ≤ pprd l' k ∧ ((∃ i, i < k ∧ iget l i < iget l' i) → pprd l k < pprd l' k))
  | 0, _ => .inr ⟨rfl, Int.le_refl _, fun ⟨i, h, _⟩ => absurd h (by omega)⟩
  | k + 1, h => by
    have ih := key_mono k (fun i hi => h i (by omega))
    obtain ⟨h0, h1⟩ := h k (by omega)
    rw [pcnt_succ, pcnt_succ, pprd_succ, pprd_succ]
    have ho : oneI (iget l k) ≤ oneI (iget l' k) := by unfold oneI; split <;> split <;> omega
    rcases ih with ih | ⟨i1, i2, i3⟩
    · exact .inl (by omega)
    · by_cases hx : 0 < iget l k
      · have hy : 0 < iget l' k := by omega
        have e1 : oneI (iget l k) = 1 := by simp [oneI, hx]
        have e2 : oneI (iget l' k) = 1 := by simp [oneI, hy]
        have e3 : posI (iget l k) = iget l k := by simp [posI, hx]
        have e4 : posI (iget l' k) = iget l' k := by simp [posI, hy]
        have g1 := pprd_ge l k
        have g2 := pprd_ge l' k
        rw [e1, e2, e3, e4]
        refine .inr ⟨by omega, Int.mul_le_mul i2 h1 h0 (by omega), ?_⟩
        rintro ⟨i, hi, hlt⟩
        by_cases e : i = k
        · subst e
          have a1 : pprd l i * iget l i < pprd l i * iget l' i := Int.mul_lt_mul_of_pos_left hlt (by omega)
          have a2 : pprd l i * iget l' i ≤ pprd l' i * iget l' i := Int.mul_le_mul_of_nonneg_right i2 (by omega)
          omega
        · have i4 := i3 ⟨i, by omega, hlt⟩
          have a1 : pprd l k * iget l k < pprd l' k * iget l k := Int.mul_lt_mul_of_pos_right i4 hx
          have a2 : pprd l' k * iget l k ≤ pprd l' k * iget l' k := Int.mul_le_mul_of_nonneg_left h1 (by omega)
          omega
      · have e1 : oneI (iget l k) = 0 := by simp [oneI, hx]
        have e3 : posI (iget l k) = 1 := by simp [posI, hx]
        by_cases hy : 0 < iget l' k
        · have e2 : oneI (iget l' k) = 1 := by simp [oneI, hy]
          exact .inl (by omega)
        · have e2 : oneI (iget l' k) = 0 := by simp [oneI, hy]
          have e4 : posI (iget l' k) = 1 := by simp [posI, hy]
          rw [e1, e2, e3, e4, Int.mul_one, Int.mul_one]
          refine .inr ⟨by omega, i2, ?_⟩
          rintro ⟨i, hi, hlt⟩
          refine i3 ⟨i, ?_, hlt⟩
          by_cases e : i = k
          · subst e; omega
          · omega
/-- Nothing is above the greatest. -/
theorem nash_top {v : List (List Int)} {B : List Int} (hg : Gds v) (hB : AlcOk v B) (hmax : ∀ C, DigL v.length (wid v) C → keyLe v C B) {C : List Int} (hC : DigL v.length (wid v) C) : ¬ AboveP (ownL v B) (ownL v C) := by
  rintro ⟨h1, h2⟩
  rw [ownL_len] at h1
  have hex : ∃ i, i < v.length ∧ iget (ownL v B) i < iget (ownL v C) i := by
    apply Classical.byContradiction
    intro hno
    refine h2 (ext_iget (by rw [ownL_len, ownL_len]) fun i hi => ?_)
    rw [ownL_len] at hi
    have := h1 i hi
    by_cases e : iget (ownL v B) i < iget (ownL v C) i
    · exact absurd ⟨i, hi, e⟩ hno
    · omega
  have hk := key_mono (l := ownL v B) (l' := ownL v C) v.length (fun i hi => ⟨by
    rw [ownL_get hi]
    exact (worthUp_in hg hi _ _ (by rw [hB.1]; exact Nat.le_refl _)).1, h1 i hi⟩)
  have hm := hmax C hC
  unfold keyLe nCnt nPrd at hm
  rcases hk with hk | ⟨k1, k2, k3⟩
  · omega
  · have := k3 hex; omega
theorem key_set {l l' : List Int} {i : Nat} (h : ∀ x, x ≠ i → iget l' x = iget l x) : ∀ n, i < n → pcnt l' n + oneI (iget l i) = pcnt l n + oneI (iget l' i) ∧ pprd l' n * posI (iget l i) = pprd l n * posI (iget l' i)
  | 0, hi => absurd hi (by omega)
  | n + 1, hi => by
    rw [pcnt_succ, pcnt_succ, pprd_succ, pprd_succ]
    by_cases e : i = n
    · subst e
      have : ∀ k, k ≤ i → pcnt l' k = pcnt l k ∧ pprd l' k = pprd l k := by
        intro k
        induction k with
        | zero => intro _; exact ⟨rfl, rfl⟩
        | succ k ih =>
          intro hk
          rw [pcnt_succ, pcnt_succ, pprd_succ, pprd_succ, h k (by omega), (ih (by omega)).1, (ih (by omega)).2]
          exact ⟨rfl, rfl⟩
      rw [(this i (Nat.le_refl _)).1, (this i (Nat.le_refl _)).2]
      exact ⟨by omega, by rw [Int.mul_right_comm]⟩
    · obtain ⟨a1, a2⟩ := key_set h n (by omega)
      rw [h n (by omega)]
      refine ⟨by omega, ?_⟩
      rw [Int.mul_right_comm, a2, Int.mul_right_comm]
/-- Two agents' values change, both are more than nothing then, and their product grows. -/
theorem key_two {l l' : List Int} {i k n : Nat} (hik : i ≠ k) (hi : i < n) (hk : k < n) (h : ∀ x, x ≠ i → x ≠ k → iget l' x = iget l x) (h0 : 0 < iget l' i) (h1 : 0 < iget l' k) (hn : 0 ≤ iget l i) (hm : 0 ≤ iget l k) (hp : iget l i * iget l k < iget l' i * iget l' k) :
    pcnt l n < pcnt l' n ∨ (pcnt l n = pcnt l' n ∧ pprd l n < pprd l' n) := by
  by_cases hil : i < l.length
  · obtain ⟨l1, e1⟩ : ∃ l1, l.set i (iget l' i) = l1 := ⟨_, rfl⟩
    have hl1 : ∀ x, iget l1 x = if i = x then iget l' i else iget l x := fun x => by rw [← e1, iget_set hil]
    obtain ⟨c1, p1⟩ := key_set (l := l) (l' := l1) (i := i) (fun x hx => by rw [hl1, if_neg (fun q => hx q.symm)]) n hi
    obtain ⟨c2, p2⟩ := key_set (l := l1) (l' := l') (i := k) (fun x hx => by
      rw [hl1]; split
      · next e => rw [e]
      · next e => exact h x (fun q => e q.symm) hx) n hk
    have ei : iget l1 i = iget l' i := by rw [hl1, if_pos rfl]
    have ek : iget l1 k = iget l k := by rw [hl1, if_neg hik]
    rw [ei] at c1 p1
    rw [ek] at c2 p2
    have o1 : oneI (iget l' i) = 1 := by simp [oneI, h0]
    have o2 : oneI (iget l' k) = 1 := by simp [oneI, h1]
    have q1 : posI (iget l' i) = iget l' i := by simp [posI, h0]
    have q2 : posI (iget l' k) = iget l' k := by simp [posI, h1]
    rw [o1] at c1
    rw [o2] at c2
    rw [q1] at p1
    rw [q2] at p2
    by_cases hx : 0 < iget l i
    · by_cases hy : 0 < iget l k
      · have o3 : oneI (iget l i) = 1 := by simp [oneI, hx]
        have o4 : oneI (iget l k) = 1 := by simp [oneI, hy]
        have q3 : posI (iget l i) = iget l i := by simp [posI, hx]
        have q4 : posI (iget l k) = iget l k := by simp [posI, hy]
        rw [o3] at c1
        rw [o4] at c2
        rw [q3] at p1
        rw [q4] at p2
        refine .inr ⟨by omega, ?_⟩
        have e : pprd l' n * (iget l i * iget l k) = pprd l n * (iget l' i * iget l' k) := by
          calc pprd l' n * (iget l i * iget l k) = pprd l' n * iget l k * iget l i := by rw [Int.mul_comm (iget l i), Int.mul_assoc]
            _ = pprd l1 n * iget l' k * iget l i := by rw [p2]
            _ = pprd l1 n * iget l i * iget l' k := by rw [Int.mul_right_comm]
            _ = pprd l n * iget l' i * iget l' k := by rw [p1]
            _ = _ := by rw [Int.mul_assoc]
        have g1 := pprd_ge l n
        have hpos : 0 < iget l i * iget l k := Int.mul_pos hx hy
        apply Classical.byContradiction
        intro hno
        have a1 : pprd l' n * (iget l i * iget l k) ≤ pprd l n * (iget l i * iget l k) := Int.mul_le_mul_of_nonneg_right (by omega) (by omega)
        have a2 : pprd l n * (iget l i * iget l k) < pprd l n * (iget l' i * iget l' k) := Int.mul_lt_mul_of_pos_left hp (by omega)
        omega
      · have o3 : oneI (iget l i) = 1 := by simp [oneI, hx]
        have o4 : oneI (iget l k) = 0 := by simp [oneI, hy]
        exact .inl (by omega)
    · have o3 : oneI (iget l i) = 0 := by simp [oneI, hx]
      have o4 : oneI (iget l k) ≤ 1 := by unfold oneI; split <;> omega
      exact .inl (by omega)
  · have ei : iget l i = 0 := by simp [iget, List.getD, List.getElem?_eq_none (by omega : l.length ≤ i)]
    have hz : ∀ {m : List Int} (j : Nat), j < n → 0 < iget m j → True := fun _ _ _ => trivial
    -- reached only when the first place lies outside the list: the count of those with something grows
    have : ∀ m, m ≤ n → (pcnt l m + (if i < m then 1 else 0) + (if k < m then 1 - oneI (iget l k) else 0) = pcnt l' m) := by
      intro m
      induction m with
      | zero => intro _; simp [pcnt]
      | succ m ih =>
        intro hm
        have ih := ih (by omega)
        rw [pcnt_succ, pcnt_succ]
        by_cases e : m = i
        · subst e
          have o2 : oneI (iget l' m) = 1 := by simp [oneI, h0]
          have o3 : oneI (iget l m) = 0 := by simp [oneI, ei]
          rw [o2, o3]
          split at ih <;> split at ih <;> split <;> split <;> omega
        · by_cases e2 : m = k
          · subst e2
            have o2 : oneI (iget l' m) = 1 := by simp [oneI, h1]
            rw [o2]
            split at ih <;> split at ih <;> split <;> split <;> omega
          · rw [h m e e2]
            split at ih <;> split at ih <;> split <;> split <;> omega
    have hc := this n (Nat.le_refl _)
    rw [if_pos hi, if_pos hk] at hc
    have o4 : oneI (iget l k) ≤ 1 := by unfold oneI; split <;> omega
    exact .inl (by omega)

theorem worthUp_setN {v : List (List Int)} {a : List Int} {j : Nat} (hj : j < a.length) (y : Int) (i : Nat) (x : Int) : ∀ m, worthUp v (a.set j y) i x m = worthUp v a i x m + (if j < m then (if y = x then iget (rget v i) j else 0) - (if iget a j = x then iget (rget v i) j else 0) else 0)
  | 0 => by simp [worthUp]
  | m + 1 => by
    have ih := worthUp_setN hj y i x m (v := v)
    simp only [worthUp]
    rw [ih, iget_set hj]
    by_cases e : j = m
    · subst e
      rw [if_neg (Nat.lt_irrefl j), if_pos (Nat.lt_succ_self j), if_pos (rfl : j = j)]
      omega
    · rw [if_neg e]
      by_cases e2 : j < m
      · rw [if_pos e2, if_pos (by omega : j < m + 1)]; omega
      · rw [if_neg e2, if_neg (by omega : ¬ j < m + 1)]; omega
theorem worthUp_mem {v : List (List Int)} {a : List Int} (hg : Gds v) {i : Nat} (hi : i < v.length) {x : Int} {j : Nat} (hx : iget a j = x) : ∀ m, m ≤ wid v → j < m → iget (rget v i) j ≤ worthUp v a i x m
  | 0, _, h => absurd h (by omega)
  | m + 1, hm, h => by
    have hv := (hg.2.2.2 i hi)
    have h0 := hv.2 m (by rw [hv.1]; omega)
    by_cases e : j = m
    · subst e
      rw [worthUp_eq hx]
      have := (worthUp_in hg hi x j (by omega) (a := a)).1
      omega
    · have ih := worthUp_mem hg hi hx m (by omega) (by omega)
      simp only [worthUp]
      split <;> omega
theorem worthUp_some {v : List (List Int)} {a : List Int} {i : Nat} {x : Int} : ∀ m, 0 < worthUp v a i x m → ∃ j, j < m ∧ iget a j = x ∧ 0 < iget (rget v i) j
  | 0, h => by simp [worthUp] at h
  | m + 1, h => by
    by_cases e : iget a m = x
    · by_cases e2 : 0 < iget (rget v i) m
      · exact ⟨m, by omega, e, e2⟩
      · rw [worthUp_eq e] at h
        obtain ⟨j, h1, h2⟩ := worthUp_some (v := v) (a := a) (i := i) (x := x) m (by omega)
        exact ⟨j, by omega, h2⟩
    · rw [worthUp_ne e] at h
      obtain ⟨j, h1, h2⟩ := worthUp_some m h
      exact ⟨j, by omega, h2⟩
theorem worthUp_rate {v : List (List Int)} {a : List Int} {i k : Nat} {x U T : Int} : ∀ m, (∀ j, j < m → iget a j = x → iget (rget v i) j * U ≤ iget (rget v k) j * T) → worthUp v a i x m * U ≤ worthUp v a k x m * T
  | 0, _ => by simp [worthUp]
  | m + 1, h => by
    have ih := worthUp_rate m (fun j hj => h j (by omega))
    by_cases e : iget a m = x
    · rw [worthUp_eq e, worthUp_eq e, Int.add_mul, Int.add_mul]
      have := h m (by omega) e
      omega
    · rw [worthUp_ne e, worthUp_ne e]; exact ih

/-- The greatest is fair up to one good. -/
theorem nash_ef1 {v : List (List Int)} {B : List Int} (hg : Gds v) (hD : DigL v.length (wid v) B) (hmax : ∀ C, DigL v.length (wid v) C → keyLe v C B) : Ef1 v B := by
  have hB : AlcOk v B := ⟨hD.1, fun j hj => by have := hD.2 j (by rw [← hD.1]; exact hj); omega⟩
  intro i k hi hk hlt
  have hik : i ≠ k := fun e => by subst e; omega
  apply Classical.byContradiction
  intro hno
  have hw : B.length ≤ wid v := by rw [hD.1]; exact Nat.le_refl _
  have hui := (worthUp_in hg hi (i : Int) _ hw (a := B)).1
  have huk := (worthUp_in hg hk (k : Int) _ hw (a := B)).1
  have hall : ∀ j, j < B.length → iget B j = (k : Int) → iget (rget v i) j ≤ worth v B i (k : Int) - worth v B i (i : Int) - 1 := fun j h1 h2 => by
    apply Classical.byContradiction
    intro h3
    exact hno ⟨j, h1, h2, by omega⟩
  have hpos : ∀ (x j : Nat), x < v.length → j < B.length → 0 ≤ iget (rget v x) j := fun x j hx hj => by
    have hv := hg.2.2.2 x hx
    exact (hv.2 j (by rw [hv.1]; omega)).1
  -- the good j moves to i
  have hmove : ∀ j, j < B.length → iget B j = (k : Int) → DigL v.length (wid v) (B.set j (i : Int)) ∧ ∀ x, x < v.length → iget (ownL v (B.set j (i : Int))) x = iget (ownL v B) x + (if x = i then iget (rget v i) j else 0) - (if x = k then iget (rget v k) j else 0) := fun j hj hjk => by
    refine ⟨⟨by rw [List.length_set]; exact hD.1, fun y hy => ?_⟩, fun x hx => ?_⟩
    · rw [iget_set hj]
      split
      · omega
      · exact hD.2 y hy
    · rw [ownL_get hx, ownL_get hx]
      unfold worth
      rw [List.length_set, worthUp_setN hj, if_pos hj, hjk]
      by_cases e1 : x = i
      · subst e1
        rw [if_pos rfl, if_neg (by omega : ¬ (k : Int) = (x : Int)), if_pos rfl, if_neg hik]
        omega
      · rw [if_neg (by omega : ¬ (i : Int) = (x : Int)), if_neg e1]
        by_cases e2 : x = k
        · subst e2; simp; omega
        · rw [if_neg (by omega : ¬ (k : Int) = (x : Int)), if_neg e2]; omega
  have gi := ownL_get hi (v := v) (a := B)
  have gk := ownL_get hk (v := v) (a := B)
  have hrate : ∀ j, j < B.length → iget B j = (k : Int) → iget (rget v i) j * worth v B k (k : Int) ≤ iget (rget v k) j * (worth v B i (k : Int) - 1) := fun j hj hjk => by
    obtain ⟨hC, hown⟩ := hmove j hj hjk
    have oi := hown i hi
    have ok := hown k hk
    rw [if_pos rfl, if_neg hik, gi] at oi
    rw [if_neg (fun e => hik e.symm), if_pos rfl, gk] at ok
    have p1 := hpos i j hi hj
    have p2 := hpos k j hk hj
    have hle := worthUp_mem hg hk hjk _ hw hj
    have ha := hall j hj hjk
    have hm := hmax _ hC
    unfold keyLe nCnt nPrd at hm
    have hL : iget (rget v i) j * worth v B k (k : Int) ≤ iget (rget v k) j * (worth v B i (i : Int) + iget (rget v i) j) := by
      apply Classical.byContradiction
      intro hbad
      have hprod : worth v B i (i : Int) * worth v B k (k : Int) < (worth v B i (i : Int) + iget (rget v i) j) * (worth v B k (k : Int) - iget (rget v k) j) := by
        rw [Int.add_mul, Int.mul_sub, Int.mul_sub]
        rw [Int.mul_add] at hbad
        have c1 := Int.mul_comm (worth v B i (i : Int)) (iget (rget v k) j)
        have c2 := Int.mul_comm (iget (rget v i) j) (iget (rget v k) j)
        omega
      have hui' : 0 ≤ worth v B i (i : Int) := hui
      have huk' : 0 ≤ worth v B k (k : Int) := huk
      have hle' : iget (rget v k) j ≤ worth v B k (k : Int) := hle
      have h00 : 0 ≤ worth v B i (i : Int) * worth v B k (k : Int) := Int.mul_nonneg hui' huk'
      have hx : 0 < worth v B i (i : Int) + iget (rget v i) j := by
        apply Classical.byContradiction
        intro h
        have : worth v B i (i : Int) + iget (rget v i) j = 0 := by omega
        rw [this, Int.zero_mul] at hprod
        omega
      have hy : 0 < worth v B k (k : Int) - iget (rget v k) j := by
        apply Classical.byContradiction
        intro h
        have : worth v B k (k : Int) - iget (rget v k) j = 0 := by omega
        rw [this, Int.mul_zero] at hprod
        omega
      have ho : ∀ x, x < v.length → x ≠ i → x ≠ k → iget (ownL v (B.set j (i : Int))) x = iget (ownL v B) x := fun x hx e1 e2 => by
        rw [hown x hx, if_neg e1, if_neg e2]; omega
      have := key_two (l := ownL v B) (l' := ownL v (B.set j (i : Int))) (n := v.length) hik hi hk (fun x e1 e2 => by
        by_cases hx : x < v.length
        · exact ho x hx e1 e2
        · have z : ∀ l : List Int, l.length = v.length → iget l x = 0 := fun l h => by simp [iget, List.getD, List.getElem?_eq_none (by omega : l.length ≤ x)]
          rw [z _ (ownL_len _ _), z _ (ownL_len _ _)]) (by rw [oi]; omega) (by rw [ok]; omega) (by rw [gi]; exact hui) (by rw [gk]; exact huk) (by rw [oi, ok, gi, gk]; have := hprod; rw [Int.add_zero, Int.sub_zero] ; exact this)
      omega
    have hT : iget (rget v k) j * (worth v B i (i : Int) + iget (rget v i) j) ≤ iget (rget v k) j * (worth v B i (k : Int) - 1) := Int.mul_le_mul_of_nonneg_left (by omega) p2
    omega
  have hsum := worthUp_rate (v := v) (a := B) (i := i) (k := k) (x := (k : Int)) (U := worth v B k (k : Int)) (T := worth v B i (k : Int) - 1) B.length (fun j hj e => hrate j hj e)
  have hsum : worth v B i (k : Int) * worth v B k (k : Int) ≤ worth v B k (k : Int) * (worth v B i (k : Int) - 1) := hsum
  rw [Int.mul_sub, Int.mul_one, Int.mul_comm] at hsum
  have hk0 : worth v B k (k : Int) = 0 := by
    have : 0 ≤ worth v B k (k : Int) := huk
    omega
  have hui' : 0 ≤ worth v B i (i : Int) := hui
  obtain ⟨j, hj, hjk, hjp⟩ := worthUp_some (v := v) (a := B) (i := i) (x := (k : Int)) B.length (by show 0 < worth v B i (k : Int); omega)
  obtain ⟨hC, hown⟩ := hmove j hj hjk
  have hle := worthUp_mem hg hk hjk _ hw hj
  have hle' : iget (rget v k) j ≤ worth v B k (k : Int) := hle
  have p2 := hpos k j hk hj
  have hz : iget (rget v k) j = 0 := by omega
  refine nash_top hg hB hmax hC ⟨fun x hx => ?_, fun e => ?_⟩
  · rw [ownL_len] at hx
    rw [hown x hx, hz]
    split <;> split <;> omega
  · have := hown i hi
    rw [← e, if_pos rfl, if_neg hik] at this
    omega
end Go.Proofs.YtmcncflieoolmaaGreat

/- The adjusted division of goods between two agents (plain): what the two get is equal, and no allocation gives both more. -/
namespace Go.Proofs.YtmcncflieoolmaaGreat
set_option linter.unusedVariables false
set_option linter.unusedSimpArgs false

/-- Who gets each good at first. -/
def owA (v : List (List Int)) : List Int := (List.range (wid v)).map fun j => if iget (rget v 0) j < iget (rget v 1) j then 1 else 0
theorem owA_len (v : List (List Int)) : (owA v).length = wid v := by simp [owA]
theorem owA_get {v : List (List Int)} {j : Nat} (hj : j < wid v) : iget (owA v) j = if iget (rget v 0) j < iget (rget v 1) j then 1 else 0 := by simp [owA, iget, hj]
/-- The richer one. -/
def rcA (v : List (List Int)) : Nat := if worth v (owA v) 0 0 < worth v (owA v) 1 1 then 1 else 0
theorem rcA_two (v : List (List Int)) : rcA v = 0 ∨ rcA v = 1 := by unfold rcA; split <;> simp
/-- The goods in the order in which they pass over. -/
structure OrdS (v : List (List Int)) (L : List Int) : Prop where
  mem : ∀ s, s < L.length → 0 ≤ iget L s ∧ iget L s < wid v ∧ iget (owA v) (iget L s).toNat = (rcA v : Int) ∧ 0 < iget (rget v (1 - rcA v)) (iget L s).toNat
  all : ∀ k : Nat, k < wid v → iget (owA v) k = (rcA v : Int) → 0 < iget (rget v (1 - rcA v)) k → ∃ s, s < L.length ∧ iget L s = (k : Int)
  nod : ∀ s t, s < L.length → t < L.length → iget L s = iget L t → s = t
  srt : ∀ s, s + 1 < L.length → iget (rget v (rcA v)) (iget L s).toNat * iget (rget v (1 - rcA v)) (iget L (s + 1)).toNat ≤ iget (rget v (rcA v)) (iget L (s + 1)).toNat * iget (rget v (1 - rcA v)) (iget L s).toNat
/-- After the first t goods have passed over. -/
def mvA (v : List (List Int)) (L : List Int) : Nat → List Int
  | 0 => owA v
  | t + 1 => (mvA v L t).set (iget L t).toNat (1 - (rcA v : Int))
theorem mvA_len (v : List (List Int)) (L : List Int) : ∀ t, (mvA v L t).length = wid v
  | 0 => owA_len v
  | t + 1 => by simp only [mvA, List.length_set]; exact mvA_len v L t
theorem mvA_in {v : List (List Int)} {L : List Int} (hL : OrdS v L) : ∀ t, t ≤ L.length → ∀ k : Nat, k < wid v → (∃ s, s < t ∧ iget L s = (k : Int)) → iget (mvA v L t) k = 1 - (rcA v : Int)
  | 0, _, k, hk, ⟨s, h, _⟩ => absurd h (by omega)
  | t + 1, ht, k, hk, ⟨s, hs, e⟩ => by
    have h := hL.mem t (by omega)
    simp only [mvA]
    rw [iget_set (by rw [mvA_len]; omega)]
    by_cases e2 : (iget L t).toNat = k
    · rw [if_pos e2]
    · rw [if_neg e2]
      refine mvA_in hL t (by omega) k hk ⟨s, ?_, e⟩
      by_cases e3 : s = t
      · subst e3; omega
      · omega
theorem mvA_out {v : List (List Int)} {L : List Int} (hL : OrdS v L) : ∀ t, t ≤ L.length → ∀ k : Nat, k < wid v → (¬ ∃ s, s < t ∧ iget L s = (k : Int)) → iget (mvA v L t) k = iget (owA v) k
  | 0, _, k, hk, _ => rfl
  | t + 1, ht, k, hk, hno => by
    have h := hL.mem t (by omega)
    simp only [mvA]
    rw [iget_set (by rw [mvA_len]; omega), if_neg (fun e => hno ⟨t, by omega, by omega⟩)]
    exact mvA_out hL t (by omega) k hk (fun ⟨s, h1, h2⟩ => hno ⟨s, by omega, h2⟩)
theorem mvA_at {v : List (List Int)} {L : List Int} (hL : OrdS v L) {t : Nat} (ht : t < L.length) : iget (mvA v L t) (iget L t).toNat = (rcA v : Int) := by
  have h := hL.mem t ht
  rw [mvA_out hL t (by omega) _ (by omega) (fun ⟨s, h1, h2⟩ => by have := hL.nod s t (by omega) ht (by rw [h2]; omega); omega)]
  exact h.2.2.1
theorem owA_two {v : List (List Int)} {k : Nat} (hk : k < wid v) : iget (owA v) k = 0 ∨ iget (owA v) k = 1 := by rw [owA_get hk]; split <;> simp
theorem mvA_two {v : List (List Int)} {L : List Int} (hL : OrdS v L) {t : Nat} (ht : t ≤ L.length) {k : Nat} (hk : k < wid v) : iget (mvA v L t) k = 0 ∨ iget (mvA v L t) k = 1 := by
  by_cases h : ∃ s, s < t ∧ iget L s = (k : Int)
  · rw [mvA_in hL t ht k hk h]; rcases rcA_two v with e | e <;> rw [e] <;> simp
  · rw [mvA_out hL t ht k hk h]; exact owA_two hk
/-- What the richer one has more. -/
def moreA (v : List (List Int)) (A : List Int) : Int := worth v A (rcA v) (rcA v : Int) - worth v A (1 - rcA v) (1 - (rcA v : Int))
theorem moreA_start (v : List (List Int)) : 0 ≤ moreA v (owA v) := by
  unfold moreA
  by_cases h : worth v (owA v) 0 0 < worth v (owA v) 1 1
  · have : rcA v = 1 := by simp [rcA, h]
    rw [this]
    show 0 ≤ worth v (owA v) 1 1 - worth v (owA v) 0 0
    omega
  · have : rcA v = 0 := by simp [rcA, h]
    rw [this]
    show 0 ≤ worth v (owA v) 0 0 - worth v (owA v) 1 1
    omega
theorem mvA_rich {v : List (List Int)} {L : List Int} (hL : OrdS v L) {t : Nat} (ht : t < L.length) :
    worth v (mvA v L (t + 1)) (rcA v) (rcA v : Int) = worth v (mvA v L t) (rcA v) (rcA v : Int) - iget (rget v (rcA v)) (iget L t).toNat ∧
    worth v (mvA v L (t + 1)) (1 - rcA v) (1 - (rcA v : Int)) = worth v (mvA v L t) (1 - rcA v) (1 - (rcA v : Int)) + iget (rget v (1 - rcA v)) (iget L t).toNat := by
  have h := hL.mem t ht
  have hl : (iget L t).toNat < (mvA v L t).length := by rw [mvA_len]; omega
  have ha := mvA_at hL ht
  have hr := rcA_two v
  simp only [mvA]
  unfold worth
  rw [List.length_set, worthUp_setN hl, worthUp_setN hl, if_pos hl, if_pos hl, ha, if_neg (by omega), if_pos rfl, if_pos rfl, if_neg (by omega)]
  constructor <;> omega
/-- Sorted neighbours: sorted. -/
theorem OrdS.le {v : List (List Int)} {L : List Int} (hg : Gds v) (h2 : v.length = 2) (hL : OrdS v L) {s : Nat} : ∀ u, s ≤ u → u < L.length → iget (rget v (rcA v)) (iget L s).toNat * iget (rget v (1 - rcA v)) (iget L u).toNat ≤ iget (rget v (rcA v)) (iget L u).toNat * iget (rget v (1 - rcA v)) (iget L s).toNat
  | 0, h, _ => by
    have : s = 0 := by omega
    subst this
    exact Int.le_refl _
  | u + 1, h, hu => by
    by_cases e : s = u + 1
    · subst e; exact Int.le_refl _
    · have ih := OrdS.le hg h2 hL (s := s) u (by omega) (by omega)
      have hs := hL.srt u hu
      have m1 := hL.mem u (by omega)
      have m2 := hL.mem (u + 1) hu
      have m0 := hL.mem s (by omega)
      obtain ⟨a, ea⟩ : ∃ x, iget (rget v (rcA v)) (iget L s).toNat = x := ⟨_, rfl⟩
      obtain ⟨b, eb⟩ : ∃ x, iget (rget v (1 - rcA v)) (iget L s).toNat = x := ⟨_, rfl⟩
      obtain ⟨c, ec⟩ : ∃ x, iget (rget v (rcA v)) (iget L u).toNat = x := ⟨_, rfl⟩
      obtain ⟨d, ed⟩ : ∃ x, iget (rget v (1 - rcA v)) (iget L u).toNat = x := ⟨_, rfl⟩
      obtain ⟨f, ef⟩ : ∃ x, iget (rget v (rcA v)) (iget L (u + 1)).toNat = x := ⟨_, rfl⟩
      obtain ⟨g, eg⟩ : ∃ x, iget (rget v (1 - rcA v)) (iget L (u + 1)).toNat = x := ⟨_, rfl⟩
      have b0 := m0.2.2.2
      have d0 := m1.2.2.2
      have g0 := m2.2.2.2
      rw [ea, ed, ec, eb] at ih
      rw [ec, eg, ef, ed] at hs
      rw [eb] at b0
      rw [ed] at d0
      rw [eg] at g0
      rw [ea, eg, ef, eb]
      -- a d ≤ c b, c g ≤ f d
      have x1 : a * d * g ≤ c * b * g := Int.mul_le_mul_of_nonneg_right ih (by omega)
      have x2 : c * g * b ≤ f * d * b := Int.mul_le_mul_of_nonneg_right hs (by omega)
      have x3 : a * g * d ≤ f * b * d := by
        rw [Int.mul_right_comm a g d, Int.mul_right_comm f b d]
        rw [Int.mul_right_comm c b g] at x1
        omega
      exact Int.le_of_mul_le_mul_right x3 d0

/-- Weights under which the division is a greatest. -/
def SuppA (v : List (List Int)) (A : List Int) (s al be : Int) : Prop := ∀ k : Nat, k < wid v → (s = (k : Int) → al * iget (rget v 0) k = be * iget (rget v 1) k) ∧ (s ≠ (k : Int) → iget A k = 0 → be * iget (rget v 1) k ≤ al * iget (rget v 0) k) ∧ (s ≠ (k : Int) → iget A k = 1 → al * iget (rget v 0) k ≤ be * iget (rget v 1) k)
/-- What the two get. -/
def sv0 (v : List (List Int)) (A : List Int) (s pn pd : Int) : Nat → Int
  | 0 => 0
  | k + 1 => sv0 v A s pn pd k + (if s = (k : Int) then iget (rget v 0) k * pn else if iget A k = 0 then iget (rget v 0) k * pd else 0)
def sv1 (v : List (List Int)) (A : List Int) (s pn pd : Int) : Nat → Int
  | 0 => 0
  | k + 1 => sv1 v A s pn pd k + (if s = (k : Int) then iget (rget v 1) k * (pd - pn) else if iget A k = 1 then iget (rget v 1) k * pd else 0)
theorem supp_le {v : List (List Int)} {A C : List Int} {s pn pd al be : Int} (hp : 0 ≤ pd) (hA : ∀ k, k < wid v → iget A k = 0 ∨ iget A k = 1) (hC : ∀ k, k < wid v → iget C k = 0 ∨ iget C k = 1) (hS : SuppA v A s al be) :
    ∀ m, m ≤ wid v → pd * (al * worthUp v C 0 0 m + be * worthUp v C 1 1 m) ≤ al * sv0 v A s pn pd m + be * sv1 v A s pn pd m
  | 0, _ => by simp [worthUp, sv0, sv1]
  | m + 1, hm => by
    have ih := supp_le hp hA hC hS m (by omega) (pn := pn)
    obtain ⟨s1, s2, s3⟩ := hS m (by omega)
    have ha := hA m (by omega)
    have hc := hC m (by omega)
    obtain ⟨x, ex⟩ : ∃ x, iget (rget v 0) m = x := ⟨_, rfl⟩
    obtain ⟨y, ey⟩ : ∃ y, iget (rget v 1) m = y := ⟨_, rfl⟩
    rw [ex, ey] at s1 s2 s3
    simp only [worthUp, sv0, sv1]
    rw [ex, ey]
    -- what this good adds
    have key : pd * (al * (if iget C m = 0 then x else 0) + be * (if iget C m = 1 then y else 0)) ≤ al * (if s = (m : Int) then x * pn else if iget A m = 0 then x * pd else 0) + be * (if s = (m : Int) then y * (pd - pn) else if iget A m = 1 then y * pd else 0) := by
      by_cases e : s = (m : Int)
      · rw [if_pos e, if_pos e]
        have e1 := s1 e
        have e2 : al * (x * pn) + be * (y * (pd - pn)) = pd * (al * x) := by
          rw [Int.mul_sub, Int.mul_sub, ← Int.mul_assoc, ← Int.mul_assoc, ← Int.mul_assoc, ← e1]
          have := Int.mul_comm (al * x) pd
          omega
        rw [e2]
        rcases hc with h | h
        · rw [if_pos h, if_neg (by omega), Int.mul_zero, Int.add_zero]; exact Int.le_refl _
        · rw [if_neg (by omega), if_pos h, Int.mul_zero, Int.zero_add, ← e1]; exact Int.le_refl _
      · rw [if_neg e, if_neg e]
        rcases ha with h | h
        · rw [if_pos h, if_neg (by omega : ¬ iget A m = 1), Int.mul_zero, Int.add_zero]
          have h2 := s2 e h
          have e2 : al * (x * pd) = pd * (al * x) := by rw [← Int.mul_assoc, Int.mul_comm]
          rw [e2]
          refine Int.mul_le_mul_of_nonneg_left ?_ hp
          rcases hc with h' | h'
          · rw [if_pos h', if_neg (by omega), Int.mul_zero, Int.add_zero]; exact Int.le_refl _
          · rw [if_neg (by omega), if_pos h', Int.mul_zero, Int.zero_add]; exact h2
        · rw [if_neg (by omega : ¬ iget A m = 0), if_pos h, Int.mul_zero, Int.zero_add]
          have h2 := s3 e h
          have e2 : be * (y * pd) = pd * (be * y) := by rw [← Int.mul_assoc, Int.mul_comm]
          rw [e2]
          refine Int.mul_le_mul_of_nonneg_left ?_ hp
          rcases hc with h' | h'
          · rw [if_pos h', if_neg (by omega), Int.mul_zero, Int.add_zero]; exact h2
          · rw [if_neg (by omega), if_pos h', Int.mul_zero, Int.zero_add]; exact Int.le_refl _
    have e0 : pd * (al * (worthUp v C 0 0 m + (if iget C m = 0 then x else 0)) + be * (worthUp v C 1 1 m + (if iget C m = 1 then y else 0))) = pd * (al * worthUp v C 0 0 m + be * worthUp v C 1 1 m) + pd * (al * (if iget C m = 0 then x else 0) + be * (if iget C m = 1 then y else 0)) := by
      rw [← Int.mul_add pd]
      congr 1
      rw [Int.mul_add al, Int.mul_add be]
      omega
    rw [e0, Int.mul_add al, Int.mul_add be]
    omega
/-- No allocation gives both more. -/
theorem supp_no {v : List (List Int)} {A C : List Int} {s pn pd al be : Int} (hp : 0 < pd) (hal : 0 ≤ al) (hbe : 0 ≤ be) (hab : 0 < al + be) (hA : ∀ k, k < wid v → iget A k = 0 ∨ iget A k = 1) (hC : ∀ k, k < wid v → iget C k = 0 ∨ iget C k = 1) (hS : SuppA v A s al be) (hCl : C.length = wid v) :
    ¬ (sv0 v A s pn pd (wid v) < worth v C 0 0 * pd ∧ sv1 v A s pn pd (wid v) < worth v C 1 1 * pd) := by
  rintro ⟨h1, h2⟩
  have h := supp_le (Int.le_of_lt hp) hA hC hS (wid v) (Nat.le_refl _) (pn := pn)
  unfold worth at h1 h2
  rw [hCl] at h1 h2
  obtain ⟨X, eX⟩ : ∃ X, worthUp v C 0 0 (wid v) = X := ⟨_, rfl⟩
  obtain ⟨Y, eY⟩ : ∃ Y, worthUp v C 1 1 (wid v) = Y := ⟨_, rfl⟩
  rw [eX] at h h1
  rw [eY] at h h2
  rw [Int.mul_add, ← Int.mul_assoc, ← Int.mul_assoc, Int.mul_comm pd al, Int.mul_comm pd be, Int.mul_assoc, Int.mul_assoc, Int.mul_comm pd X, Int.mul_comm pd Y] at h
  have a1 : al * sv0 v A s pn pd (wid v) ≤ al * (X * pd) := Int.mul_le_mul_of_nonneg_left (by omega) hal
  have a2 : be * sv1 v A s pn pd (wid v) ≤ be * (Y * pd) := Int.mul_le_mul_of_nonneg_left (by omega) hbe
  by_cases ha : 0 < al
  · have a3 : al * sv0 v A s pn pd (wid v) < al * (X * pd) := Int.mul_lt_mul_of_pos_left h1 ha
    omega
  · have hb : 0 < be := by omega
    have a3 : be * sv1 v A s pn pd (wid v) < be * (Y * pd) := Int.mul_lt_mul_of_pos_left h2 hb
    omega
end Go.Proofs.YtmcncflieoolmaaGreat
