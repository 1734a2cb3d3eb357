/- Links closed over every item in turn come to the greatest sums along paths; plain, no program. -/
import Derived.Test.YtojldecldemfaaaPricesP
namespace Go.Proofs.Ytojldecldemfaaa
set_option linter.unusedVariables false
set_option linter.unusedSimpArgs false

/-- A table of n rows of n numbers. -/
def Sq (n : Nat) (D : List (List Int)) : Prop := D.length = n ∧ ∀ j, j < n → (rget D j).length = n
def fwStep (D : List (List Int)) (b j k : Nat) : List (List Int) := D.set j ((rget D j).set k (max (bid D j k) (bid D j b + bid D b k)))
def fwK (D : List (List Int)) (b j : Nat) : Nat → List (List Int)
  | 0 => D
  | k + 1 => fwStep (fwK D b j k) b j k
def fwJ (n : Nat) (D : List (List Int)) (b : Nat) : Nat → List (List Int)
  | 0 => D
  | j + 1 => fwK (fwJ n D b j) b j n
def fwB (n : Nat) (D : List (List Int)) : Nat → List (List Int)
  | 0 => D
  | b + 1 => fwJ n (fwB n D b) b n
theorem fw_rget_set {v : List (List Int)} {r : List Int} {j k : Nat} (hj : j < v.length) : rget (v.set j r) k = if j = k then r else rget v k := by
  simp only [rget, List.getD, List.getElem?_set]
  split
  · rename_i h; subst h; simp [hj]
  · rfl
theorem fwStep_sq {n : Nat} {D : List (List Int)} (h : Sq n D) (b j k : Nat) : Sq n (fwStep D b j k) := by
  refine ⟨by unfold fwStep; rw [List.length_set]; exact h.1, fun i hi => ?_⟩
  unfold fwStep
  by_cases hj : j < D.length
  · rw [fw_rget_set hj]
    split
    · rw [List.length_set]; rename_i e; subst e; exact h.2 _ hi
    · exact h.2 i hi
  · rw [List.set_eq_of_length_le (by omega)]; exact h.2 i hi
theorem fwStep_bid {n : Nat} {D : List (List Int)} (h : Sq n D) {b j k : Nat} (hj : j < n) (hk : k < n) (x y : Nat) :
    bid (fwStep D b j k) x y = if x = j ∧ y = k then max (bid D j k) (bid D j b + bid D b k) else bid D x y := by
  show iget (rget (fwStep D b j k) x) y = _
  unfold fwStep
  rw [fw_rget_set (by rw [h.1]; exact hj)]
  by_cases e : j = x
  · subst e
    rw [if_pos rfl, iget_set (by rw [h.2 _ hj]; exact hk)]
    by_cases e2 : k = y
    · subst e2; rw [if_pos rfl, if_pos ⟨rfl, rfl⟩]
    · rw [if_neg e2, if_neg (fun h => e2 h.2.symm)]; rfl
  · rw [if_neg e, if_neg (fun h => e h.1.symm)]; rfl
theorem fwK_sq {n : Nat} {D : List (List Int)} (h : Sq n D) (b j : Nat) : ∀ k, Sq n (fwK D b j k)
  | 0 => h
  | k + 1 => fwStep_sq (fwK_sq h b j k) b j k
theorem fwJ_sq {n : Nat} {D : List (List Int)} (h : Sq n D) (b : Nat) : ∀ j, Sq n (fwJ n D b j)
  | 0 => h
  | j + 1 => fwK_sq (fwJ_sq h b j) b j n
theorem fwB_sq {n : Nat} {D : List (List Int)} (h : Sq n D) : ∀ b, Sq n (fwB n D b)
  | 0 => h
  | b + 1 => fwJ_sq (fwB_sq h b) b n

/-- Numbers only rise. -/
theorem fwStep_ge {n : Nat} {D : List (List Int)} (h : Sq n D) {b j k : Nat} (hj : j < n) (hk : k < n) (x y : Nat) : bid D x y ≤ bid (fwStep D b j k) x y := by
  rw [fwStep_bid h hj hk]
  split
  · rename_i e; obtain ⟨rfl, rfl⟩ := e; omega
  · exact Int.le_refl _
theorem fwK_ge {n : Nat} {D : List (List Int)} (h : Sq n D) {b j : Nat} (hj : j < n) (x y : Nat) : ∀ k, k ≤ n → bid D x y ≤ bid (fwK D b j k) x y
  | 0, _ => Int.le_refl _
  | k + 1, hk => Int.le_trans (fwK_ge h hj x y k (by omega)) (fwStep_ge (fwK_sq h b j k) hj (by omega) x y)
theorem fwJ_ge {n : Nat} {D : List (List Int)} (h : Sq n D) {b : Nat} (x y : Nat) : ∀ j, j ≤ n → bid D x y ≤ bid (fwJ n D b j) x y
  | 0, _ => Int.le_refl _
  | j + 1, hj => Int.le_trans (fwJ_ge h x y j (by omega)) (fwK_ge (fwJ_sq h b j) (by omega) x y n (Nat.le_refl _))
theorem fwK_tri {n : Nat} {D : List (List Int)} (h : Sq n D) {b j : Nat} (hj : j < n) (y : Nat) : ∀ k, k ≤ n → y < k → bid D j b + bid D b y ≤ bid (fwK D b j k) j y
  | 0, _, hy => by omega
  | k + 1, hk, hy => by
    show _ ≤ bid (fwStep (fwK D b j k) b j k) j y
    rw [fwStep_bid (fwK_sq h b j k) hj (by omega)]
    by_cases e : y = k
    · subst e
      rw [if_pos ⟨rfl, rfl⟩]
      have h1 := fwK_ge (b := b) h hj j b y (by omega)
      have h2 := fwK_ge (b := b) h hj b y y (by omega)
      omega
    · rw [if_neg (fun h => e h.2)]
      exact fwK_tri h hj y k (by omega) (by omega)
theorem fwJ_tri {n : Nat} {D : List (List Int)} (h : Sq n D) {b : Nat} {x y : Nat} (hy : y < n) : ∀ j, j ≤ n → x < j → bid D x b + bid D b y ≤ bid (fwJ n D b j) x y
  | 0, _, hx => by omega
  | j + 1, hj, hx => by
    show _ ≤ bid (fwK (fwJ n D b j) b j n) x y
    by_cases e : x = j
    · subst e
      have h1 := fwJ_ge (b := b) h x b x (by omega)
      have h2 := fwJ_ge (b := b) h b y x (by omega)
      have h3 := fwK_tri (b := b) (fwJ_sq h b x) (j := x) (by omega) y n (Nat.le_refl _) hy
      omega
    · exact Int.le_trans (fwJ_tri h hy j (by omega) (by omega)) (fwK_ge (fwJ_sq h b j) (by omega) x y n (Nat.le_refl _))

/-- What bounds the table from above goes on to do so. -/
def UnderG (n : Nat) (g : Nat → Nat → Int) (D : List (List Int)) : Prop := ∀ x y, x < n → y < n → bid D x y ≤ g x y
theorem fwStep_under {n : Nat} {D : List (List Int)} {g : Nat → Nat → Int} (h : Sq n D) (ht : ∀ x y z, x < n → y < n → z < n → g x y + g y z ≤ g x z) (hu : UnderG n g D) {b j k : Nat} (hb : b < n) (hj : j < n) (hk : k < n) : UnderG n g (fwStep D b j k) := by
  intro x y hx hy
  rw [fwStep_bid h hj hk]
  split
  · rename_i e
    obtain ⟨rfl, rfl⟩ := e
    have h1 := hu x y hx hy
    have h2 := hu x b hx hb
    have h3 := hu b y hb hy
    have h4 := ht x b y hx hb hy
    omega
  · exact hu x y hx hy
theorem fwK_under {n : Nat} {D : List (List Int)} {g : Nat → Nat → Int} (h : Sq n D) (ht : ∀ x y z, x < n → y < n → z < n → g x y + g y z ≤ g x z) (hu : UnderG n g D) {b j : Nat} (hb : b < n) (hj : j < n) : ∀ k, k ≤ n → UnderG n g (fwK D b j k)
  | 0, _ => hu
  | k + 1, hk => fwStep_under (fwK_sq h b j k) ht (fwK_under h ht hu hb hj k (by omega)) hb hj (by omega)
theorem fwJ_under {n : Nat} {D : List (List Int)} {g : Nat → Nat → Int} (h : Sq n D) (ht : ∀ x y z, x < n → y < n → z < n → g x y + g y z ≤ g x z) (hu : UnderG n g D) {b : Nat} (hb : b < n) : ∀ j, j ≤ n → UnderG n g (fwJ n D b j)
  | 0, _ => hu
  | j + 1, hj => fwK_under (fwJ_sq h b j) ht (fwJ_under h ht hu hb j (by omega)) hb (by omega) n (Nat.le_refl _)
theorem fwB_under {n : Nat} {D : List (List Int)} {g : Nat → Nat → Int} (h : Sq n D) (ht : ∀ x y z, x < n → y < n → z < n → g x y + g y z ≤ g x z) (hu : UnderG n g D) : ∀ b, b ≤ n → UnderG n g (fwB n D b)
  | 0, _ => hu
  | b + 1, hb => fwJ_under (fwB_sq h b) ht (fwB_under h ht hu b (by omega)) (by omega) n (Nat.le_refl _)

/-- The sums along paths whose inner nodes are below m are in the table. -/
def LowG (n m : Nat) (w : Nat → Nat → Int) (D : List (List Int)) : Prop := (∀ x, x < n → 0 ≤ bid D x x) ∧ ∀ x L z, Simple n x (L ++ [z]) → (∀ y, y ∈ L → y < m) → psum w x (L ++ [z]) ≤ bid D x z
theorem low_zero {n : Nat} {w : Nat → Nat → Int} {D : List (List Int)} (h : ∀ x y, x < n → y < n → bid D x y = w x y) (h0 : ∀ x, w x x = 0) : LowG n 0 w D := by
  refine ⟨fun x hx => by rw [h x x hx hx, h0]; exact Int.le_refl _, fun x L z hs hl => ?_⟩
  cases L with
  | nil =>
    have hx := hs.lt x (by simp)
    have hz := hs.lt z (by simp)
    simp only [List.nil_append, psum]
    rw [h x z hx hz]; omega
  | cons y L => have := hl y (by simp); omega
theorem low_step {n m : Nat} {w : Nat → Nat → Int} {D D' : List (List Int)} (h : LowG n m w D) (hge : ∀ x y, bid D x y ≤ bid D' x y) (ht : ∀ x y, x < n → y < n → bid D x m + bid D m y ≤ bid D' x y) : LowG n (m + 1) w D' := by
  refine ⟨fun x hx => Int.le_trans (h.1 x hx) (hge x x), fun x L z hs hl => ?_⟩
  by_cases hm : m ∈ L
  · obtain ⟨A, B, rfl⟩ := List.append_of_mem hm
    have hnd := hs.nodup
    have hx := hs.lt x (by simp)
    have hz := hs.lt z (by simp)
    have hmn := hs.lt m (by simp)
    rw [show A ++ m :: B ++ [z] = (A ++ [m]) ++ (B ++ [z]) by simp] at hnd hs ⊢
    have hs1 : Simple n x (A ++ [m]) := ⟨by
        refine hnd.sublist ?_
        exact List.Sublist.cons_cons _ (List.sublist_append_left _ _), fun y hy => hs.lt y (by
        simp only [List.mem_cons, List.mem_append] at hy ⊢
        rcases hy with h | h
        · exact .inl h
        · exact .inr (.inl h))⟩
    have hs2 : Simple n m (B ++ [z]) := ⟨by
        refine hnd.sublist ?_
        rw [List.append_assoc]
        refine List.Sublist.cons _ ?_
        exact List.sublist_append_right A _, fun y hy => hs.lt y (by
        simp only [List.mem_cons, List.mem_append, List.not_mem_nil, or_false] at hy ⊢
        rcases hy with h | h
        · exact .inr (.inl (.inr h))
        · exact .inr (.inr h))⟩
    have hA : ∀ y, y ∈ A → y < m := fun y hy => by
      have h1 := hl y (by simp [hy])
      have h2 : y ≠ m := fun e => by
        subst e
        have := (List.nodup_cons.1 hs1.nodup).2
        rw [List.nodup_append] at this
        exact this.2.2 y hy y (by simp) rfl
      omega
    have hB : ∀ y, y ∈ B → y < m := fun y hy => by
      have h1 := hl y (by simp [hy])
      have h2 : y ≠ m := fun e => by
        subst e
        exact (List.nodup_cons.1 hs2.nodup).1 (by simp [hy])
      omega
    have h1 := h.2 x A m hs1 hA
    have h2 := h.2 m B z hs2 hB
    have h3 := ht x z hx hz
    rw [psum_append, lastOf_append]
    simp only [lastOf]
    omega
  · exact Int.le_trans (h.2 x L z hs (fun y hy => by
      have h1 := hl y hy
      have h2 : y ≠ m := fun e => hm (e ▸ hy)
      omega)) (hge x z)
theorem fwB_low {n : Nat} {w : Nat → Nat → Int} {D : List (List Int)} (h : Sq n D) (hl : LowG n 0 w D) : ∀ b, b ≤ n → LowG n b w (fwB n D b)
  | 0, _ => hl
  | b + 1, hb => low_step (fwB_low h hl b (by omega)) (fun x y => fwJ_ge (fwB_sq h b) x y n (Nat.le_refl _)) (fun x y hx hy => fwJ_tri (fwB_sq h b) hy n (Nat.le_refl _) hx)

/-- The links of an assignment: by one edge, and by the best path. -/
noncomputable def link0 (v : List (List Int)) (a : List Int) : List (List Int) := (List.range v.length).map fun j => (List.range v.length).map fun k => wl v a j k
noncomputable def linkL (v : List (List Int)) (a : List Int) : List (List Int) := (List.range v.length).map fun j => (List.range v.length).map fun k => lnkS (wl v a) v.length j k
theorem tab_sq (n : Nat) (f : Nat → Nat → Int) : Sq n ((List.range n).map fun j => (List.range n).map fun k => f j k) :=
  ⟨by simp, fun j hj => by simp [rget, hj]⟩
theorem tab_bid {n : Nat} (f : Nat → Nat → Int) {j k : Nat} (hj : j < n) (hk : k < n) : bid ((List.range n).map fun j => (List.range n).map fun k => f j k) j k = f j k := by
  simp [bid, rget, iget, hj, hk]
theorem sq_ext {n : Nat} {D E : List (List Int)} (hD : Sq n D) (hE : Sq n E) (h : ∀ x y, x < n → y < n → bid D x y = bid E x y) : D = E := by
  refine rows_ext (fun j hj => ?_) (by rw [hD.1, hE.1])
  rw [hD.1] at hj
  refine ints_ext' (fun k hk => ?_) (by rw [hD.2 j hj, hE.2 j hj])
  rw [hD.2 j hj] at hk
  exact h j k hj hk
theorem fw_links {v : List (List Int)} {a : List Int} (hb : IsBest v a) (h0 : 0 < v.length) : fwB v.length (link0 v a) v.length = linkL v a := by
  have hN := noGain_best hb h0
  have hC := lnkS_clo (wl v a) v.length
  have hsq : Sq v.length (link0 v a) := tab_sq _ _
  have hww : ∀ x, wl v a x x = 0 := fun x => wt_self _ _ _ x
  refine sq_ext (fwB_sq hsq _) (tab_sq _ _) (fun x y hx hy => ?_)
  have e : bid (linkL v a) x y = lnkS (wl v a) v.length x y := tab_bid _ hx hy
  rw [e]
  have hu : UnderG v.length (lnkS (wl v a) v.length) (link0 v a) := fun x y hx hy => by
    have e : bid (link0 v a) x y = wl v a x y := tab_bid _ hx hy
    rw [e]
    have h1 := hC.step hN hx hx hy
    rw [hC.self hx] at h1
    omega
  have h1 := fwB_under (g := lnkS (wl v a) v.length) hsq (fun x y z hx hy hz => hC.tri hN hx hy hz) hu _ (Nat.le_refl _) x y hx hy
  have h2 := fwB_low hsq (low_zero (fun x y hx hy => tab_bid _ hx hy) hww) _ (Nat.le_refl _)
  refine Int.le_antisymm h1 ?_
  obtain ⟨L, hL, hl, hp⟩ := hC.path x y hx hy
  rcases List.eq_nil_or_concat L with rfl | ⟨L', z, rfl⟩
  · simp only [lastOf] at hl
    subst hl
    simp only [psum] at hp
    have := h2.1 x hx
    omega
  · rw [List.concat_eq_append] at hL hl hp
    rw [lastOf_append] at hl
    simp only [lastOf] at hl
    subst hl
    have := h2.2 x L' z hL (fun u hu => hL.lt u (by simp [hu]))
    omega
end Go.Proofs.Ytojldecldemfaaa
