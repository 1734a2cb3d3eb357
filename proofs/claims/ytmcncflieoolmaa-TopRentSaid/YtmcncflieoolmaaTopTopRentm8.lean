/- Links closed over every item in turn come to the greatest sums along paths; plain, no program. -/
import Derived.Test.YtmcncflieoolmaaTopTopRentm7
import Derived.Test.YtmcncflieoolmaaTopTopRentm4
import Derived.StillTailTactics
import Derived.Deep.AppendLies
import Derived.Deep.RegionLaw
import Derived.Maps.AppendAt
import Derived.IntWalk
/- Links closed over every item in turn come to the greatest sums along paths; plain, no program. -/
namespace Go.Proofs.Ytmcncflieoolmaa
set_option linter.unusedVariables false
set_option linter.unusedSimpArgs false

/-- A table of n rows of n numbers. -/
def Sq (n : Nat) (D : List (List Int)) : Prop := D.length = n ∧ ∀ j, j < n → (rget D j).length = n
def fwStep (D : List (List Int)) (b j k : Nat) : List (List Int) := D.set j ((rget D j).set k (max (bid D j k) (bid D j b + bid D b k)))
def fwK (D : List (List Int)) (b j : Nat) : Nat → List (List Int)
  | 0 => D
  | k + 1 => fwStep (fwK D b j k) b j k
def fwJ (n : Nat) (D : List (List Int)) (b : Nat) : Nat → List (List Int)
  | 0 => D
  | j + 1 => fwK (fwJ n D b j) b j n
def fwB (n : Nat) (D : List (List Int)) : Nat → List (List Int)
  | 0 => D
  | b + 1 => fwJ n (fwB n D b) b n
theorem fw_rget_set {v : List (List Int)} {r : List Int} {j k : Nat} (hj : j < v.length) : rget (v.set j r) k = if j = k then r else rget v k := by
  simp only [rget, List.getD, List.getElem?_set]
  split
  · rename_i h; subst h; simp [hj]
  · rfl
theorem fwStep_sq {n : Nat} {D : List (List Int)} (h : Sq n D) (b j k : Nat) : Sq n (fwStep D b j k) := by
  refine ⟨by unfold fwStep; rw [List.length_set]; exact h.1, fun i hi => ?_⟩
  unfold fwStep
  by_cases hj : j < D.length
  · rw [fw_rget_set hj]
    split
    · rw [List.length_set]; rename_i e; subst e; exact h.2 _ hi
    · exact h.2 i hi
  · rw [List.set_eq_of_length_le (by omega)]; exact h.2 i hi
theorem fwStep_bid {n : Nat} {D : List (List Int)} (h : Sq n D) {b j k : Nat} (hj : j < n) (hk : k < n) (x y : Nat) :
    bid (fwStep D b j k) x y = if x = j ∧ y = k then max (bid D j k) (bid D j b + bid D b k) else bid D x y := by
  show iget (rget (fwStep D b j k) x) y = _
  unfold fwStep
  rw [fw_rget_set (by rw [h.1]; exact hj)]
  by_cases e : j = x
  · subst e
    rw [if_pos rfl, iget_set (by rw [h.2 _ hj]; exact hk)]
    by_cases e2 : k = y
    · subst e2; rw [if_pos rfl, if_pos ⟨rfl, rfl⟩]
    · rw [if_neg e2, if_neg (fun h => e2 h.2.symm)]; rfl
  · rw [if_neg e, if_neg (fun h => e h.1.symm)]; rfl
theorem fwK_sq {n : Nat} {D : List (List Int)} (h : Sq n D) (b j : Nat) : ∀ k, Sq n (fwK D b j k)
  | 0 => h
  | k + 1 => fwStep_sq (fwK_sq h b j k) b j k
theorem fwJ_sq {n : Nat} {D : List (List Int)} (h : Sq n D) (b : Nat) : ∀ j, Sq n (fwJ n D b j)
  | 0 => h
  | j + 1 => fwK_sq (fwJ_sq h b j) b j n
theorem fwB_sq {n : Nat} {D : List (List Int)} (h : Sq n D) : ∀ b, Sq n (fwB n D b)
  | 0 => h
  | b + 1 => fwJ_sq (fwB_sq h b) b n

/-- Numbers only rise. -/
theorem fwStep_ge {n : Nat} {D : List (List Int)} (h : Sq n D) {b j k : Nat} (hj : j < n) (hk : k < n) (x y : Nat) : bid D x y ≤ bid (fwStep D b j k) x y := by
  rw [fwStep_bid h hj hk]
  split
  · rename_i e; obtain ⟨rfl, rfl⟩ := e; omega
  · exact Int.le_refl _
theorem fwK_ge {n : Nat} {D : List (List Int)} (h : Sq n D) {b j : Nat} (hj : j < n) (x y : Nat) : ∀ k, k ≤ n → bid D x y ≤ bid (fwK D b j k) x y
  | 0, _ => Int.le_refl _
  | k + 1, hk => Int.le_trans (fwK_ge h hj x y k (by omega)) (fwStep_ge (fwK_sq h b j k) hj (by omega) x y)
theorem fwJ_ge {n : Nat} {D : List (List Int)} (h : Sq n D) {b : Nat} (x y : Nat) : ∀ j, j ≤ n → bid D x y ≤ bid (fwJ n D b j) x y
  | 0, _ => Int.le_refl _
  | j + 1, hj => Int.le_trans (fwJ_ge h x y j (by omega)) (fwK_ge (fwJ_sq h b j) (by omega) x y n (Nat.le_refl _))
theorem fwK_tri {n : Nat} {D : List (List Int)} (h : Sq n D) {b j : Nat} (hj : j < n) (y : Nat) : ∀ k, k ≤ n → y < k → bid D j b + bid D b y ≤ bid (fwK D b j k) j y
  | 0, _, hy => by omega
  | k + 1, hk, hy => by
    show _ ≤ bid (fwStep (fwK D b j k) b j k) j y
    rw [fwStep_bid (fwK_sq h b j k) hj (by omega)]
    by_cases e : y = k
    · subst e
      rw [if_pos ⟨rfl, rfl⟩]
      have h1 := fwK_ge (b := b) h hj j b y (by omega)
      have h2 := fwK_ge (b := b) h hj b y y (by omega)
      omega
    · rw [if_neg (fun h => e h.2)]
      exact fwK_tri h hj y k (by omega) (by omega)
theorem fwJ_tri {n : Nat} {D : List (List Int)} (h : Sq n D) {b : Nat} {x y : Nat} (hy : y < n) : ∀ j, j ≤ n → x < j → bid D x b + bid D b y ≤ bid (fwJ n D b j) x y
  | 0, _, hx => by omega
  | j + 1, hj, hx => by
    show _ ≤ bid (fwK (fwJ n D b j) b j n) x y
    by_cases e : x = j
    · subst e
      have h1 := fwJ_ge (b := b) h x b x (by omega)
      have h2 := fwJ_ge (b := b) h b y x (by omega)
      have h3 := fwK_tri (b := b) (fwJ_sq h b x) (j := x) (by omega) y n (Nat.le_refl _) hy
      omega
    · exact Int.le_trans (fwJ_tri h hy j (by omega) (by omega)) (fwK_ge (fwJ_sq h b j) (by omega) x y n (Nat.le_refl _))

/-- What bounds the table from above goes on to do so. -/
def UnderG (n : Nat) (g : Nat → Nat → Int) (D : List (List Int)) : Prop := ∀ x y, x < n → y < n → bid D x y ≤ g x y
theorem fwStep_under {n : Nat} {D : List (List Int)} {g : Nat → Nat → Int} (h : Sq n D) (ht : ∀ x y z, x < n → y < n → z < n → g x y + g y z ≤ g x z) (hu : UnderG n g D) {b j k : Nat} (hb : b < n) (hj : j < n) (hk : k < n) : UnderG n g (fwStep D b j k) := by
  intro x y hx hy
  rw [fwStep_bid h hj hk]
  split
  · rename_i e
    obtain ⟨rfl, rfl⟩ := e
    have h1 := hu x y hx hy
    have h2 := hu x b hx hb
    have h3 := hu b y hb hy
    have h4 := ht x b y hx hb hy
    omega
  · exact hu x y hx hy
theorem fwK_under {n : Nat} {D : List (List Int)} {g : Nat → Nat → Int} (h : Sq n D) (ht : ∀ x y z, x < n → y < n → z < n → g x y + g y z ≤ g x z) (hu : UnderG n g D) {b j : Nat} (hb : b < n) (hj : j < n) : ∀ k, k ≤ n → UnderG n g (fwK D b j k)
  | 0, _ => hu
  | k + 1, hk => fwStep_under (fwK_sq h b j k) ht (fwK_under h ht hu hb hj k (by omega)) hb hj (by omega)
theorem fwJ_under {n : Nat} {D : List (List Int)} {g : Nat → Nat → Int} (h : Sq n D) (ht : ∀ x y z, x < n → y < n → z < n → g x y + g y z ≤ g x z) (hu : UnderG n g D) {b : Nat} (hb : b < n) : ∀ j, j ≤ n → UnderG n g (fwJ n D b j)
  | 0, _ => hu
  | j + 1, hj => fwK_under (fwJ_sq h b j) ht (fwJ_under h ht hu hb j (by omega)) hb (by omega) n (Nat.le_refl _)
theorem fwB_under {n : Nat} {D : List (List Int)} {g : Nat → Nat → Int} (h : Sq n D) (ht : ∀ x y z, x < n → y < n → z < n → g x y + g y z ≤ g x z) (hu : UnderG n g D) : ∀ b, b ≤ n → UnderG n g (fwB n D b)
  | 0, _ => hu
  | b + 1, hb => fwJ_under (fwB_sq h b) ht (fwB_under h ht hu b (by omega)) (by omega) n (Nat.le_refl _)

/-- The sums along paths whose inner nodes are below m are in the table. -/
def LowG (n m : Nat) (w : Nat → Nat → Int) (D : List (List Int)) : Prop := (∀ x, x < n → 0 ≤ bid D x x) ∧ ∀ x L z, Simple n x (L ++ [z]) → (∀ y, y ∈ L → y < m) → psum w x (L ++ [z]) ≤ bid D x z
theorem low_zero {n : Nat} {w : Nat → Nat → Int} {D : List (List Int)} (h : ∀ x y, x < n → y < n → bid D x y = w x y) (h0 : ∀ x, w x x = 0) : LowG n 0 w D := by
  refine ⟨fun x hx => by rw [h x x hx hx, h0]; exact Int.le_refl _, fun x L z hs hl => ?_⟩
  cases L with
  | nil =>
    have hx := hs.lt x (by simp)
    have hz := hs.lt z (by simp)
    simp only [List.nil_append, psum]
    rw [h x z hx hz]; omega
  | cons y L => have := hl y (by simp); omega
theorem low_step {n m : Nat} {w : Nat → Nat → Int} {D D' : List (List Int)} (h : LowG n m w D) (hge : ∀ x y, bid D x y ≤ bid D' x y) (ht : ∀ x y, x < n → y < n → bid D x m + bid D m y ≤ bid D' x y) : LowG n (m + 1) w D' := by
  refine ⟨fun x hx => Int.le_trans (h.1 x hx) (hge x x), fun x L z hs hl => ?_⟩
  by_cases hm : m ∈ L
  · obtain ⟨A, B, rfl⟩ := List.append_of_mem hm
    have hnd := hs.nodup
    have hx := hs.lt x (by simp)
    have hz := hs.lt z (by simp)
    have hmn := hs.lt m (by simp)
    rw [show A ++ m :: B ++ [z] = (A ++ [m]) ++ (B ++ [z]) by simp] at hnd hs ⊢
    have hs1 : Simple n x (A ++ [m]) := ⟨by
        refine hnd.sublist ?_
        exact List.Sublist.cons_cons _ (List.sublist_append_left _ _), fun y hy => hs.lt y (by
        simp only [List.mem_cons, List.mem_append] at hy ⊢
        rcases hy with h | h
        · exact .inl h
        · exact .inr (.inl h))⟩
    have hs2 : Simple n m (B ++ [z]) := ⟨by
        refine hnd.sublist ?_
        rw [List.append_assoc]
        refine List.Sublist.cons _ ?_
        exact List.sublist_append_right A _, fun y hy => hs.lt y (by
        simp only [List.mem_cons, List.mem_append, List.not_mem_nil, or_false] at hy ⊢
        rcases hy with h | h
        · exact .inr (.inl (.inr h))
        · exact .inr (.inr h))⟩
    have hA : ∀ y, y ∈ A → y < m := fun y hy => by
      have h1 := hl y (by simp [hy])
      have h2 : y ≠ m := fun e => by
        subst e
        have := (List.nodup_cons.1 hs1.nodup).2
        rw [List.nodup_append] at this
        exact this.2.2 y hy y (by simp) rfl
      omega
    have hB : ∀ y, y ∈ B → y < m := fun y hy => by
      have h1 := hl y (by simp [hy])
      have h2 : y ≠ m := fun e => by
        subst e
        exact (List.nodup_cons.1 hs2.nodup).1 (by simp [hy])
      omega
    have h1 := h.2 x A m hs1 hA
    have h2 := h.2 m B z hs2 hB
    have h3 := ht x z hx hz
    rw [psum_append, lastOf_append]
    simp only [lastOf]
    omega
  · exact Int.le_trans (h.2 x L z hs (fun y hy => by
      have h1 := hl y hy
      have h2 : y ≠ m := fun e => hm (e ▸ hy)
      omega)) (hge x z)
theorem fwB_low {n : Nat} {w : Nat → Nat → Int} {D : List (List Int)} (h : Sq n D) (hl : LowG n 0 w D) : ∀ b, b ≤ n → LowG n b w (fwB n D b)
  | 0, _ => hl
  | b + 1, hb => low_step (fwB_low h hl b (by omega)) (fun x y => fwJ_ge (fwB_sq h b) x y n (Nat.le_refl _)) (fun x y hx hy => fwJ_tri (fwB_sq h b) hy n (Nat.le_refl _) hx)

/-- The links of an assignment: by one edge, and by the best path. -/
noncomputable def link0 (v : List (List Int)) (a : List Int) : List (List Int) := (List.range v.length).map fun j => (List.range v.length).map fun k => wl v a j k
noncomputable def linkL (v : List (List Int)) (a : List Int) : List (List Int) := (List.range v.length).map fun j => (List.range v.length).map fun k => lnkS (wl v a) v.length j k
theorem tab_sq (n : Nat) (f : Nat → Nat → Int) : Sq n ((List.range n).map fun j => (List.range n).map fun k => f j k) :=
  ⟨by simp, fun j hj => by simp [rget, hj]⟩
theorem tab_bid {n : Nat} (f : Nat → Nat → Int) {j k : Nat} (hj : j < n) (hk : k < n) : bid ((List.range n).map fun j => (List.range n).map fun k => f j k) j k = f j k := by
  simp [bid, rget, iget, hj, hk]
theorem sq_ext {n : Nat} {D E : List (List Int)} (hD : Sq n D) (hE : Sq n E) (h : ∀ x y, x < n → y < n → bid D x y = bid E x y) : D = E := by
  refine rows_ext (fun j hj => ?_) (by rw [hD.1, hE.1])
  rw [hD.1] at hj
  refine ints_ext' (fun k hk => ?_) (by rw [hD.2 j hj, hE.2 j hj])
  rw [hD.2 j hj] at hk
  exact h j k hj hk
theorem fw_links {v : List (List Int)} {a : List Int} (hb : IsBest v a) (h0 : 0 < v.length) : fwB v.length (link0 v a) v.length = linkL v a := by
  have hN := noGain_best hb h0
  have hC := lnkS_clo (wl v a) v.length
  have hsq : Sq v.length (link0 v a) := tab_sq _ _
  have hww : ∀ x, wl v a x x = 0 := fun x => wt_self _ _ _ x
  refine sq_ext (fwB_sq hsq _) (tab_sq _ _) (fun x y hx hy => ?_)
  have e : bid (linkL v a) x y = lnkS (wl v a) v.length x y := tab_bid _ hx hy
  rw [e]
  have hu : UnderG v.length (lnkS (wl v a) v.length) (link0 v a) := fun x y hx hy => by
    have e : bid (link0 v a) x y = wl v a x y := tab_bid _ hx hy
    rw [e]
    have h1 := hC.step hN hx hx hy
    rw [hC.self hx] at h1
    omega
  have h1 := fwB_under (g := lnkS (wl v a) v.length) hsq (fun x y z hx hy hz => hC.tri hN hx hy hz) hu _ (Nat.le_refl _) x y hx hy
  have h2 := fwB_low hsq (low_zero (fun x y hx hy => tab_bid _ hx hy) hww) _ (Nat.le_refl _)
  refine Int.le_antisymm h1 ?_
  obtain ⟨L, hL, hl, hp⟩ := hC.path x y hx hy
  rcases List.eq_nil_or_concat L with rfl | ⟨L', z, rfl⟩
  · simp only [lastOf] at hl
    subst hl
    simp only [psum] at hp
    have := h2.1 x hx
    omega
  · rw [List.concat_eq_append] at hL hl hp
    rw [lastOf_append] at hl
    simp only [lastOf] at hl
    subst hl
    have := h2.2 x L' z hL (fun u hu => hL.lt u (by simp [hu]))
    omega
end Go.Proofs.Ytmcncflieoolmaa

/- Matrices of the call's own, beside others: what stays, and a store into one number; no condition. -/
namespace Go.Proofs.Ytmcncflieoolmaa
open Go.ChangeShapes Go.WideShapes Go.ChangeAt Go.RowKit Go.Deep
set_option linter.unusedVariables false
set_option linter.unusedSimpArgs false

theorem ownsRow_move {w w' : World} {base e n : Nat} {v : Value} {xs : List Value} (h : w.ownsRow base e 1 v n xs) (hk : ∀ k, v.ownBlock = some k → w'.heap[k]? = w.heap[k]?) : w'.ownsRow base e 1 v n xs := by
  refine ⟨h.1, ?_⟩
  rcases h.2 with h1 | ⟨g, cap, cur, rfl, h3, h5, r⟩
  · exact .inl h1
  · exact .inr ⟨g, cap, cur, rfl, h3, (hk g rfl).trans h5, r⟩
theorem Own.move {w w' : World} {base : Nat} {p : Option Addr} {c : Nat} {xs : List Int} (h : Own w base p c xs) (hk : ∀ k, blk p = some k → w'.heap[k]? = w.heap[k]?) : Own w' base p c xs :=
  ⟨ownsRow_move h.row (by rw [ownBlock_slice]; exact hk), h.rng⟩
/-- All its blocks lie below B. -/
def Within (B : Nat) (p : Option Addr) (n : Nat) (Q : Nat → Option Addr) : Prop := (∀ k, blk p = some k → k < B) ∧ ∀ j, j < n → ∀ k, blk (Q j) = some k → k < B
theorem DMat.within {w : World} {base : Nat} {p : Option Addr} {c : Nat} {v : List (List Int)} {Q : Nat → Option Addr} {D : Nat → Nat} (h : DMat w base p c v Q D) : Within w.heap.size p v.length Q :=
  ⟨fun k hk => (h.tmat.lt k hk).2, fun j hj k hk => ((h.rows j hj).lt k hk).2⟩
theorem DMat.move {w w' : World} {base : Nat} {p : Option Addr} {c : Nat} {v : List (List Int)} {Q : Nat → Option Addr} {D : Nat → Nat} (h : DMat w base p c v Q D)
    (h1 : ∀ k, blk p = some k → w'.heap[k]? = w.heap[k]?) (h2 : ∀ j, j < v.length → ∀ k, blk (Q j) = some k → w'.heap[k]? = w.heap[k]?) : DMat w' base p c v Q D :=
  ⟨ownsRow_move h.top (by rw [ownBlock_slice]; exact h1), fun j hj => (h.rows j hj).move (h2 j hj), h.apart⟩
theorem DMat.belowW {w w' : World} {base B : Nat} {p : Option Addr} {c : Nat} {v : List (List Int)} {Q : Nat → Option Addr} {D : Nat → Nat} (h : DMat w base p c v Q D) (hw : Within B p v.length Q) (hb : Below B w w') : DMat w' base p c v Q D :=
  h.move (fun k hk => hb.block k (hw.1 k hk)) (fun j hj k hk => hb.block k (hw.2 j hj k hk))
/-- All its blocks lie from base on: what turns only blocks below base leaves it. -/
theorem DMat.above {w w' : World} {base : Nat} {p : Option Addr} {c : Nat} {v : List (List Int)} {Q : Nat → Option Addr} {D : Nat → Nat} (h : DMat w base p c v Q D) (hk : ∀ k, base ≤ k → w'.heap[k]? = w.heap[k]?) : DMat w' base p c v Q D :=
  h.move (fun k e => hk k (h.tmat.lt k e).1) (fun j hj k e => hk k ((h.rows j hj).lt k e).1)
theorem DMat.setElem {w : World} {base g gt ct : Nat} {v : List (List Int)} {Q : Nat → Option Addr} {D : Nat → Nat} (h : DMat w base (some ⟨gt, 0, none⟩) ct v Q D) {i t : Nat} (hi : i < v.length) (hQ : Q i = some ⟨g, 0, none⟩) {x : Int} (hx : in64 x) :
    DMat (w.setCell ⟨g, t, none⟩ (.int .i64 x)) base (some ⟨gt, 0, none⟩) ct (v.set i ((rget v i).set t x)) Q D := by
  have hr := h.rows i hi
  rw [hQ] at hr
  obtain ⟨h1, h2⟩ := hr.set t hx
  have hgt : gt ≠ g := fun e => by
    have := top_not_row h.top (h.rows i hi)
    rw [hQ] at this
    exact this (by simp [blk, e])
  refine ⟨?_, fun j hj => ?_, fun a b ha hb hne k hk => h.apart a b (by simpa using ha) (by simpa using hb) hne k hk⟩
  · have he : rowsV Q D (v.set i ((rget v i).set t x)) = rowsV Q D v := by
      unfold rowsV
      rw [List.length_set]
      refine List.map_congr_left fun j hj => ?_
      rw [rget_set hi]
      by_cases e : i = j
      · subst e; simp
      · rw [if_neg e]
    rw [he, List.length_set]
    refine ownsRow_move h.top fun k hk => ?_
    rw [ownBlock_slice] at hk
    simp [blk] at hk
    subst hk
    exact Below.heap_setCell w ⟨g, t, none⟩ _ gt (fun e => hgt e)
  · rw [List.length_set] at hj
    rw [rget_set hi]
    by_cases e : i = j
    · subst e
      rw [if_pos rfl, hQ]; exact h1
    · rw [if_neg e]
      refine (h.rows j hj).move fun k hk => ?_
      refine Below.heap_setCell w ⟨g, t, none⟩ _ k (fun ek => ?_)
      simp only at ek
      subst ek
      exact h.apart j i hj hi (fun e2 => e e2.symm) k hk (by rw [hQ]; rfl)
end Go.Proofs.Ytmcncflieoolmaa

/- The walk of room.Links, for every flat. -/
namespace Go.Proofs.Ytmcncflieoolmaa
set_option linter.unusedVariables false
set_option linter.unusedSimpArgs false
open Go.ChangeShapes Go.WideShapes Go.ChangeAt Go.RowKit Go.Deep

theorem own_snocR {w : World} {base : Nat} {p : Option Addr} {c : Nat} {xs : List Int} {y : Int} (h : w.ownsRow base 3 1 (.slice p (xs.length + 1) c) (xs.length + 1) (xs.map (Value.int .i64) ++ [.int .i64 y]))
    (hx : ∀ j, j < xs.length → in64 (iget xs j)) (hy : in64 y) : Own w base p c (xs ++ [y]) := by
  refine ⟨by rw [List.length_append, List.map_append]; exact h, fun j hj => ?_⟩
  rw [List.length_append, List.length_singleton] at hj
  rw [iget_append]
  split
  · exact hx j ‹_›
  · rw [show j - xs.length = 0 by omega]; exact hy
/-- What Links hands back. -/
noncomputable def linksL (v : List (List Int)) (r : Int) : List (List Int) := if chkR v r = 0 then linkL v (bestA v) else []
/-- The call hands back a table, every row its own, and a number that is an error. -/
def GivesD2 (w : World) (v : List (List Int)) (k : Int) (e : Ending) (w' : World) : Prop := ∃ p c Q D, e = .returned (.tuple #[.slice p v.length c, .int .i64 k]) ∧ DMat w' w.heap.size p c v Q D ∧ Below w.heap.size w w'
theorem best_okR (p : Option Addr) (c : Nat) (v : List (List Int)) (w : World) (hx : Mat w p c v) (hv : Bids v) :
    Calls Try.prog 19 #[.slice p v.length c] w fun e w' => ∃ q d, e = .returned (.tuple #[.slice q v.length d, .int .i64 (worthI v (bestA v)), .int .i64 0]) ∧ Own w' w.heap.size q d (bestA v) ∧ Below w.heap.size w w' := by
  refine (bestTop_any p c v w hx).mono ?_
  rintro e w' ⟨q, d, rfl, hO, hb⟩
  have h1 : bestL v = bestA v := by unfold bestL; rw [if_pos hv]
  have h2 : bestN v = worthI v (bestA v) := by unfold bestN; rw [if_pos hv]
  have h3 := (bestA_best hv.1).1.1
  rw [h1] at hO
  exact ⟨q, d, by rw [h1, h2, chkI_bids hv, h3], hO, hb⟩
theorem prices_okR (p : Option Addr) (c : Nat) (v : List (List Int)) (w : World) (hx : Mat w p c v) (hv : Bids v) :
    Calls Try.prog 14 #[.slice p v.length c] w fun e w' => ∃ q d, e = .returned (.tuple #[.slice q v.length d, .int .i64 0]) ∧ Own w' w.heap.size q d (leastL v (bestA v)) ∧ Below w.heap.size w w' := by
  refine (prices_any p c v w hx).mono ?_
  rintro e w' ⟨q, d, rfl, hO, hb⟩
  have h1 : priceL v = leastL v (bestA v) := by unfold priceL; rw [if_pos hv]
  have h3 : (leastL v (bestA v)).length = v.length := by simp [leastL]
  rw [h1] at hO
  exact ⟨q, d, by rw [h1, chkI_bids hv, h3], hO, hb⟩

theorem _root_.Go.World.ownsRow.lower' {w : World} {base base' e n : Nat} {v : Value} {xs : List Value} (h : w.ownsRow base e 1 v n xs) (hb : base' ≤ base) : w.ownsRow base' e 1 v n xs := by
  refine ⟨h.1, ?_⟩
  rcases h.2 with h1 | ⟨g, cap, cur, h1, h2, r⟩
  · exact .inl h1
  · exact .inr ⟨g, cap, cur, h1, Nat.le_trans hb h2, r⟩
theorem link0_len (v : List (List Int)) (a : List Int) : (link0 v a).length = v.length := by simp [link0]
theorem link0_row {v : List (List Int)} {a : List Int} {k : Nat} (hk : k < v.length) : rget (link0 v a) k = (List.range v.length).map fun j => wl v a k j := by simp [link0, rget, hk]
theorem link0_row_len {v : List (List Int)} {a : List Int} {k : Nat} (hk : k < v.length) : (rget (link0 v a) k).length = v.length := by rw [link0_row hk]; simp
theorem link0_snoc {v : List (List Int)} {a : List Int} {k m : Nat} (hk : k < v.length) (hm : m < v.length) : (rget (link0 v a) k).take (m + 1) = (rget (link0 v a) k).take m ++ [wl v a k m] := by
  rw [List.take_succ_eq_append_getElem (by rw [link0_row_len hk]; exact hm)]
  simp [link0_row hk]
theorem take_rows (v : List (List Int)) {k : Nat} (h : k < v.length) : v.take (k + 1) = v.take k ++ [rget v k] := by
  rw [List.take_succ_eq_append_getElem h, rget_of h]
/-- The numbers that the closing comes by are small. -/
theorem fw_low {n : Nat} {D : List (List Int)} {M : Int} (h : Sq n D) (hl : ∀ x y, x < n → y < n → M ≤ bid D x y) {b j k : Nat} (hb : b ≤ n) (hj : j < n) (hk : k ≤ n) : ∀ x y, x < n → y < n → M ≤ bid (fwK (fwJ n (fwB n D b) b j) b j k) x y := by
  intro x y hx hy
  have h1 := fwK_ge (b := b) (fwJ_sq (fwB_sq h b) b j) hj x y k hk
  have h2 := fwJ_ge (b := b) (fwB_sq h b) x y j (by omega)
  have h3 : ∀ b, b ≤ n → M ≤ bid (fwB n D b) x y := by
    intro b
    induction b with
    | zero => intro _; exact hl x y hx hy
    | succ b ih => intro hb; exact Int.le_trans (ih (by omega)) (fwJ_ge (fwB_sq h b) x y n (Nat.le_refl _))
  have := h3 b hb
  omega
theorem fw_small {v : List (List Int)} (hv : Bids v) {b j k : Nat} (hb : b < v.length) (hj : j < v.length) (hk : k ≤ v.length) {x y : Nat} (hx : x < v.length) (hy : y < v.length) :
    -1000000 ≤ bid (fwK (fwJ v.length (fwB v.length (link0 v (bestA v)) b) b j) b j k) x y ∧ bid (fwK (fwJ v.length (fwB v.length (link0 v (bestA v)) b) b j) b j k) x y ≤ 6000000 := by
  have hB := bestA_best hv.1
  have hN := noGain_best hB hv.1
  have hC := lnkS_clo (wl v (bestA v)) v.length
  have hsq : Sq v.length (link0 v (bestA v)) := tab_sq _ _
  have he : ∀ x y, x < v.length → y < v.length → bid (link0 v (bestA v)) x y = wl v (bestA v) x y := fun x y hx hy => tab_bid _ hx hy
  refine ⟨fw_low hsq (fun x y hx hy => by rw [he x y hx hy]; exact (wl_bound hv hB.1 hx hy).1) (by omega) hj hk x y hx hy, ?_⟩
  have ht := fun x y z hx hy hz => hC.tri hN (x := x) (y := y) (z := z) hx hy hz
  have hu : UnderG v.length (lnkS (wl v (bestA v)) v.length) (link0 v (bestA v)) := fun x y hx hy => by
    rw [he x y hx hy]
    have h1 := hC.step hN hx hx hy
    rw [hC.self hx] at h1
    omega
  have h1 := fwK_under (fwJ_sq (fwB_sq hsq b) b j) ht (fwJ_under (fwB_sq hsq b) ht (fwB_under hsq ht hu b (by omega)) hb j (by omega)) hb hj k hk x y hx hy
  have := (lnkS_bound hv hB.1 y hx).2
  omega
theorem fwSt_eq (D : List (List Int)) (b j k : Nat) : fwK D b j (k + 1) = (fwK D b j k).set j ((rget (fwK D b j k) j).set k (max (iget (rget (fwK D b j k) j) k) (iget (rget (fwK D b j k) j) b + iget (rget (fwK D b j k) b) k))) := rfl

set_option maxHeartbeats 8000000 in
set_option maxRecDepth 100000 in
theorem roomLinks_any (p : Option Addr) (c : Nat) (v : List (List Int)) (r : Int) (w : World) (hx : Mat w p c v) :
    Calls Try.prog 39 #[.agg #[.slice p v.length c, .int .i64 r]] w (GivesD2 w (linksL v r) (chkR v r)) := by
  have hb0 : Below w.heap.size w (w.alloc (.cells #[.slice p v.length c, .int .i64 r] 24)) := (Below.refl _ _).alloc (Nat.le_refl _) _
  have hx1 := hx.below hb0 (Nat.le_refl _)
  obtain ⟨i0, hi0, hz0, hz1, hz2⟩ := info_parts infoInt
  by_cases hF : chkR v r = 0
  · obtain ⟨hv, hr1, hr2⟩ := chkR_zero.1 hF
    have h6 := hv.2.1
    have h0 := hv.1
    have hcz : (chkR v r != 0) = false := by rw [hF]; rfl
    have HL : Hid (linksL v r = linkL v (bestA v)) := by unfold Hid linksL; rw [if_pos hF]
    have HF := Lib.hid hF
    have Hv := Lib.hid hv
    have HB := Lib.hid (bestA_best hv.1)
    clear hF hv
    go_enter Try.func39, Try.ntmps39
    go_wp2_with fail
    refine (roomCheck_any p c v r _ hx1).mono ?_
    rintro e w1 ⟨rfl, hb1⟩
    have hx2 := hx1.below hb1 (Nat.le_refl _)
    have hB1 := hb0.trans (hb1.mono (by simp))
    have hbx : w1.cell? ⟨w.heap.size, 0, none⟩ = some (.slice p v.length c) := (hb1.cell (p := ⟨w.heap.size, 0, none⟩) (by simp)).trans (by simp)
    clear hb0 hx1 hb1
    go_wp2_with fail
    refine (best_okR p c v w1 hx2 Hv.out).mono ?_
    rintro e w2 ⟨pa, ca, rfl, hAo, hb2⟩
    have hA := hAo.ints
    clear hAo
    have hx3 := hx2.below hb2 (Nat.le_refl _)
    have hbx2 := (hb2.cell (p := ⟨w.heap.size, 0, none⟩) (World.block_lt_of_cell? _ _ hbx)).trans hbx
    have hB2 := hB1.trans (hb2.mono hB1.size)
    have hlt2 := World.block_lt_of_cell? _ _ hbx2
    simp only at hlt2
    clear hb2 hx2 hbx hB1
    obtain ⟨a, ha⟩ : ∃ a, bestA v = a := ⟨_, rfl⟩
    obtain ⟨B0, hB0⟩ : ∃ B0, w2.heap.size = B0 := ⟨_, rfl⟩
    have hle0 : w.heap.size ≤ B0 := by omega
    rw [ha] at hA HB HL
    have HB0 := Lib.hid hB0
    have Ha := Lib.hid ha
    clear hB0 ha
    go_wp2_with fail
    go_loopw [9, 32] (fun s i wr => ∃ k : Nat, k ≤ v.length ∧ i = .int .i64 k ∧ (∃ u p' c' Q D, Hid (u = (link0 v a).take k) ∧ s = .slice p' (u : List (List Int)).length c' ∧ DMat wr B0 p' c' u Q D) ∧ Below B0 w2 wr) (fun _ i _ => v.length - (intOf i).toNat)
    case atStart => exact ⟨0, by omega, rfl, ⟨[], none, 0, fun _ => none, fun _ => 0, rfl, rfl, DMat.ofNil _ _⟩, Below.refl _ _⟩
    case round =>
      obtain ⟨k, hk, rfl, ⟨u, p', c', Q, D, hu, rfl, hU⟩, hB⟩ := hrel
      have hxr := hx3.below hB (Nat.le_of_eq HB0.out)
      have hAr := hA.below hB (Nat.le_of_eq HB0.out)
      have hbr := (hB.cell (p := ⟨w.heap.size, 0, none⟩) (by have := HB0.out; simp only; omega)).trans hbx2
      have hszr := hB.size
      rw [HB0.out] at hszr
      by_cases hlt : k < v.length
      · have hk1 : (k : Int) < v.length := by omega
        obtain ⟨hw1, hw2, hw3⟩ := link_owner Hv.out HB.out.1 hlt
        obtain ⟨o1, _⟩ := (isA_per HB.out.1).inv_spec hlt
        obtain ⟨ow, how⟩ : ∃ ow, inv v.length (itm a) k = ow := ⟨_, rfl⟩
        rw [how] at o1 hw1 hw2 hw3
        clear how
        have Hw1 := Lib.hid hw1
        have Hw2 := Lib.hid hw2
        have Hw3 := Lib.hid hw3
        clear hw1 hw2 hw3
        have hcall : Calls Try.prog 56 #[.slice pa v.length ca, .int .i64 k] wr fun e w' => e = .returned (.int .i64 ow) ∧ w' = wr := by
          rw [← HB.out.1.1]; exact index_of pa ca a k ow wr hAr (by rw [HB.out.1.1]; exact o1) Hw1.out Hw2.out
        have Hcall := Lib.hid hcall
        clear hcall
        go_wp2_with fail
        refine Hcall.out.mono ?_
        rintro e w' ⟨rfl, rfl⟩
        obtain ⟨B1, hB1⟩ : ∃ B1, w'.heap.size = B1 := ⟨_, rfl⟩
        have hle1 : B0 ≤ B1 := by omega
        have HB1 := Lib.hid hB1
        clear hB1
        go_wp2_with fail
        go_loopw [12, 39] (fun s i wj => ∃ m : Nat, m ≤ v.length ∧ i = .int .i64 m ∧ (∃ rr q' d', Hid (rr = (rget (link0 v a) k).take m) ∧ s = .slice q' (rr : List Int).length d' ∧ Own wj B1 q' d' rr) ∧ Below B1 w' wj) (fun _ i _ => v.length - (intOf i).toNat)
        case atStart => exact ⟨0, by omega, rfl, ⟨[], none, 0, rfl, rfl, Own.ofNil _ _⟩, Below.refl _ _⟩
        case round =>
          obtain ⟨m, hm, rfl, ⟨rr, q', d', hr, rfl, hR⟩, hbj⟩ := hrel
          have hszj := hbj.size
          rw [HB1.out] at hszj
          by_cases hlt2 : m < v.length
          · have hm1 : (m : Int) < v.length := by omega
            have hbxj := (hbj.cell (p := ⟨w.heap.size, 0, none⟩) (by have := HB0.out; simp only; omega)).trans hbr
            obtain ⟨b, oo, rfl, _, q1, d1, hc, hi⟩ := (hxr.below hbj (Nat.le_of_eq HB1.out)).get o1
            have hrl : (rget v ow).length = v.length := (Hv.out.2.2 ow o1).1
            obtain ⟨b3, o3, rfl, _, hc3⟩ := hi.get (j := m) (by omega)
            have hc4 := hi.at (j := k) (by omega)
            have hr1 := (Hv.out.2.2 ow o1).2 m hlt2
            have hr2 := (Hv.out.2.2 ow o1).2 k hlt
            have hk2 : (m : Int) < (rget v ow).length := by omega
            have hk3 : (k : Int) < (rget v ow).length := by omega
            have hk4 : (ow : Int) < v.length := by omega
            have Hs := Lib.hid (link0_snoc (v := v) (a := a) hlt hlt2)
            rw [Hw3.out m] at Hs
            have hrr : rr.length ≤ 900000 := by rw [hr.out, List.length_take]; omega
            clear hrl
            obtain ⟨y1, e1⟩ : ∃ y, iget (rget v ow) m = y := ⟨_, rfl⟩
            obtain ⟨y2, e2⟩ : ∃ y, iget (rget v ow) k = y := ⟨_, rfl⟩
            rw [e1] at hc3 hr1 Hs
            rw [e2] at hc4 hr2 Hs
            clear e1 e2
            have hy64 : in64 (y1 - y2) := ⟨by omega, by omega⟩
            go_wp2_with fail
            have Hwr : Hid (IntKind.i64.wrap (y1 - y2) = y1 - y2) := IntWalk.i64_in _ (by omega)
            go_region_law (refine step_append_lies _ rfl (.tmp 42) (.tmp 60) 27 rfl B1 3 i0 (.int .i64 0) 1 8 Try.underlying27 hi0 hz0 hz1 hz2 rfl (by decide) (.slice q' rr.length d') rr.length (rr.map (Value.int .i64)) (by simp [Act.eval, Act.put]) (show Own _ B1 _ _ rr from by repeat (first | exact hR | apply Own.drewN | apply Own.drew1 | apply Own.alloc)).row ⟨wr.heap.size, 0, none⟩ 1 1 [.int .i64 (IntKind.i64.wrap (y1 - y2))] (by simp [Act.eval, Act.put]) rfl (cell_one_new _ _ _) (by simp [Value.oneCell']) (by decide) (by simp [maxLen]; omega) (by omega) (by simp; omega) _ rfl ?_; intro g cap w3 hown3 hg3 hor3 hlt3)
            all_goals
              rw [Hwr.out] at hown3
              have hb3 : Below B1 w' w3 := Below.grown (show Below B1 w' _ from by repeat (first | exact hbj | apply Below.drewN' | apply Below.drew | refine Below.alloc ?_ (by omega) _)) hg3 (by simp; omega) (fun k' e => by rw [ownBlock_slice] at e; exact (hR.lt k' e).1)
              go_wp2_with fail
              go_roundw
              case rel => exact ⟨m + 1, by omega, by go_num, ⟨rr ++ [y1 - y2], _, cap, by unfold Hid; rw [Hs.out, hr.out], by simp, own_snocR hown3 hR.rng hy64⟩, hb3⟩
              case measure => simp [intOf]; omega
          · have hm1 : ¬ (m : Int) < v.length := by omega
            obtain rfl : m = v.length := by omega
            have hrw : rr = rget (link0 v a) k := by rw [hr.out, List.take_of_length_le (by rw [link0_row_len hlt]; exact Nat.le_refl _)]
            have hU2 := hU.below hbj (Nat.le_of_eq HB1.out)
            have hul : u.length ≤ 900000 := by have := congrArg List.length hu.out; rw [List.length_take] at this; omega
            have hR2 := hR.lower hle1
            have hnew : ∀ j, j < u.length → ∀ k', blk (Q j) = some k' → blk q' ≠ some k' := fun j hj k' e1 e2 => by
              have h1 := (hU.lt j hj k' e1).2
              have h2 := (hR.lt k' e2).1
              have := HB1.out
              omega
            have hBj : Below B0 w2 wr := hB.trans (hbj.mono hle1)
            have Hrw := Lib.hid hrw
            clear hrw hr
            go_wp2_with (at_builtin; refine wpList_appOwnRow rfl (.tmp 63) (.tmp 65) rfl B0 _ _ _ Q D _ _ rr rfl rfl rfl hU2 hR2 hnew hul (by omega) ?_; intro p3 c3 w3 u3 hu3 hD3 hg3 hf3)
            go_roundw
            case rel => exact ⟨k + 1, by omega, by go_num, ⟨u3, _, _, _, _, by unfold Hid; rw [hu3.out, hu.out, Hrw.out, take_rows _ (by rw [link0_len]; exact hlt)], rfl, hD3⟩, hBj.grown hg3 (by omega) (fun k' e => (hU2.tmat.lt k' e).1)⟩
            case measure => simp [intOf]; omega
      · have hk1 : ¬ (k : Int) < v.length := by omega
        obtain rfl : k = v.length := by omega
        have hul : u = link0 v a := by rw [hu.out, List.take_of_length_le (by rw [link0_len]; exact Nat.le_refl _)]
        subst hul
        rw [link0_len]
        obtain ⟨g, rfl, hg1, hg2, _, _⟩ := hU.tmat.get (j := 0) (by rw [link0_len]; omega)
        have hsq : Sq v.length (link0 v a) := tab_sq _ _
        have Hsq := Lib.hid hsq
        have HU := Lib.hid hU
        have HBw := Lib.hid hB
        have Hfw : Hid (fwB v.length (link0 v a) v.length = linkL v a) := fw_links HB.out h0
        have Hsm : Hid (∀ b j k x y : Nat, b < v.length → j < v.length → k ≤ v.length → x < v.length → y < v.length → -1000000 ≤ bid (fwK (fwJ v.length (fwB v.length (link0 v a) b) b j) b j k) x y ∧ bid (fwK (fwJ v.length (fwB v.length (link0 v a) b) b j) b j k) x y ≤ 6000000) := by
          intro b j k x y hb hj hk hx hy
          have := fw_small Hv.out hb hj hk hx hy
          rwa [Ha.out] at this
        clear hu hsq hU hB hxr hAr hbr hx3 hA hbx2 hg1 hg2 HB Ha
        go_wp2_with fail
        go_loopw [69] (fun t wr => ∃ b : Nat, b ≤ v.length ∧ t = .int .i64 b ∧ DMat wr B0 (some ⟨g, 0, none⟩) c' (fwB v.length (link0 v a) b) Q D ∧ Below B0 w2 wr) (fun t _ => v.length - (intOf t).toNat)
        case atStart => exact ⟨0, by omega, rfl, HU.out, HBw.out⟩
        case round =>
          obtain ⟨b, hbn, rfl, hD, hBb⟩ := hrel
          have HD := Lib.hid hD
          have HBb := Lib.hid hBb
          clear hD hBb HU HBw
          by_cases hbl : b < v.length
          · have hb1 : (b : Int) < v.length := by omega
            go_wp2_with fail
            go_loopw [73] (fun t wr => ∃ j : Nat, j ≤ v.length ∧ t = .int .i64 j ∧ DMat wr B0 (some ⟨g, 0, none⟩) c' (fwJ v.length (fwB v.length (link0 v a) b) b j) Q D ∧ Below B0 w2 wr) (fun t _ => v.length - (intOf t).toNat)
            case atStart => exact ⟨0, by omega, rfl, HD.out, HBb.out⟩
            case round =>
              obtain ⟨j, hjn, rfl, hD, hBb⟩ := hrel
              have HDj := Lib.hid hD
              have HBj := Lib.hid hBb
              clear hD hBb
              by_cases hjl : j < v.length
              · have hj1 : (j : Int) < v.length := by omega
                go_wp2_with fail
                go_loopw [77] (fun t wr => ∃ k : Nat, k ≤ v.length ∧ t = .int .i64 k ∧ DMat wr B0 (some ⟨g, 0, none⟩) c' (fwK (fwJ v.length (fwB v.length (link0 v a) b) b j) b j k) Q D ∧ Below B0 w2 wr) (fun t _ => v.length - (intOf t).toNat)
                case atStart => exact ⟨0, by omega, rfl, HDj.out, HBj.out⟩
                case round =>
                  obtain ⟨k, hkn, rfl, hD, hBb⟩ := hrel
                  by_cases hkl : k < v.length
                  · have hk1 : (k : Int) < v.length := by omega
                    have hsqk := fwK_sq (fwJ_sq (fwB_sq Hsq.out b) b j) b j k
                    have Hst := Lib.hid (fwSt_eq (fwJ v.length (fwB v.length (link0 v a) b) b j) b j k)
                    have s1 := Hsm.out b j k j k hbl hjl hkn hjl hkl
                    have s2 := Hsm.out b j k j b hbl hjl hkn hjl hbl
                    have s3 := Hsm.out b j k b k hbl hjl hkn hbl hkl
                    unfold bid at s1 s2 s3
                    generalize fwK (fwJ v.length (fwB v.length (link0 v a) b) b j) b j k = M at *
                    obtain ⟨hl1, hl2⟩ := hsqk
                    have t1 := hD.tmat.at (j := j) (by rw [hl1]; exact hjl)
                    have t2 := hD.tmat.at (j := b) (by rw [hl1]; exact hbl)
                    have r1 := hD.rows j (by rw [hl1]; exact hjl)
                    have r2 := hD.rows b (by rw [hl1]; exact hbl)
                    rw [hl2 j hjl] at t1
                    rw [hl2 b hbl] at t2
                    obtain ⟨gj, hgj, _, _, c1, f1⟩ := r1.get (j := k) (by rw [hl2 j hjl]; exact hkl)
                    have hrj : Own wr B0 (some ⟨gj, 0, none⟩) (D j) (rget M j) := hgj ▸ r1
                    have c2 := hrj.at (j := b) (by rw [hl2 j hjl]; exact hbl)
                    obtain ⟨gb, hgb, _, _, c3, _⟩ := r2.get (j := k) (by rw [hl2 b hbl]; exact hkl)
                    rw [hgj] at t1
                    rw [hgb] at t2
                    have HDm := Lib.hid hD
                    have HBm := Lib.hid hBb
                    have Hl1 := Lib.hid hl1
                    have Hgj := Lib.hid hgj
                    clear hD hBb hl1 hl2 r1 r2 hrj hgj hgb
                    obtain ⟨y1, e1⟩ : ∃ y, iget (rget M j) k = y := ⟨_, rfl⟩
                    obtain ⟨y2, e2⟩ : ∃ y, iget (rget M j) b = y := ⟨_, rfl⟩
                    obtain ⟨y3, e3⟩ : ∃ y, iget (rget M b) k = y := ⟨_, rfl⟩
                    rw [e1] at c1 s1 Hst
                    rw [e2] at c2 s2 Hst
                    rw [e3] at c3 s3 Hst
                    clear e1 e2 e3
                    have hin3 : in64 y1 := ⟨by omega, by omega⟩
                    have hin4 : in64 (y2 + y3) := ⟨by omega, by omega⟩
                    by_cases hgt : y1 < y2 + y3
                    · have Hm : Hid (max y1 (y2 + y3) = y2 + y3) := by unfold Hid; omega
                      go_wp2_with fail
                      go_still_tail 29, (by kernel_rfl)
                      go_wp2_with fail
                      go_roundw
                      case rel => exact ⟨k + 1, by omega, by go_num, by rw [Hst.out, Hm.out]; exact (HDm.out.setElem (t := k) (by rw [Hl1.out]; exact hjl) Hgj.out hin4).below (below_drewN _ _ 1) (Nat.le_refl _), (HBm.out.setCell (p := ⟨gj, k, none⟩) (by have := (HDm.out.rows j (by rw [Hl1.out]; exact hjl)).lt gj (by rw [Hgj.out]; rfl); exact this.1) _).drew⟩
                      case measure => simp [intOf]; omega
                    · have Hm : Hid (max y1 (y2 + y3) = y1) := by unfold Hid; omega
                      have hle : y2 + y3 ≤ y1 := by omega
                      go_wp2_with fail
                      go_still_tail 29, (by kernel_rfl)
                      go_wp2_with fail
                      go_roundw
                      case rel => exact ⟨k + 1, by omega, by go_num, by rw [Hst.out, Hm.out]; exact (HDm.out.setElem (t := k) (by rw [Hl1.out]; exact hjl) Hgj.out hin3).below (below_drewN _ _ 1) (Nat.le_refl _), (HBm.out.setCell (p := ⟨gj, k, none⟩) (by have := (HDm.out.rows j (by rw [Hl1.out]; exact hjl)).lt gj (by rw [Hgj.out]; rfl); exact this.1) _).drew⟩
                      case measure => simp [intOf]; omega
                  · have hk1 : ¬ (k : Int) < v.length := by omega
                    obtain rfl : k = v.length := by omega
                    go_wp2_with fail
                    go_roundw
                    case rel => exact ⟨j + 1, by omega, by go_num, hD, hBb⟩
                    case measure => simp [intOf]; omega
              · have hj1 : ¬ (j : Int) < v.length := by omega
                obtain rfl : j = v.length := by omega
                go_wp2_with fail
                go_roundw
                case rel => exact ⟨b + 1, by omega, by go_num, HDj.out, HBj.out⟩
                case measure => simp [intOf]; omega
          · have hb1 : ¬ (b : Int) < v.length := by omega
            obtain rfl : b = v.length := by omega
            have hD := HD.out
            rw [Hfw.out] at hD
            have hll : (linkL v a).length = v.length := by simp [linkL]
            have Hll := Lib.hid hll
            clear hll
            have HDe := Lib.hid hD
            clear hD
            go_wp2_with fail
            go_ret2
            rw [HL.out, HF.out]
            exact ⟨some ⟨g, 0, none⟩, c', Q, D, by rw [Hll.out]; rfl, ⟨HDe.out.tmat.top.lower' hle0, fun i hi => (HDe.out.rows i hi).lower hle0, HDe.out.apart⟩, hB2.trans (HBb.out.mono hle0)⟩
  · have hcz : (chkR v r != 0) = true := by rw [bne_iff_ne]; exact hF
    have HL : Hid (linksL v r = []) := by unfold Hid linksL; rw [if_neg hF]
    clear hF
    go_enter Try.func39, Try.ntmps39
    go_wp2_with fail
    refine (roomCheck_any p c v r _ hx1).mono ?_
    rintro e w1 ⟨rfl, hb1⟩
    go_wp2_with fail
    go_ret2
    rw [HL.out]
    exact ⟨none, 0, fun _ => none, fun _ => 0, rfl, DMat.ofNil _ _, hb0.trans (hb1.mono (by simp))⟩
end Go.Proofs.Ytmcncflieoolmaa
