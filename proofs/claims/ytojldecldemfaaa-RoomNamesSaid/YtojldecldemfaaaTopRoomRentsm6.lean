/- Links closed over every item in turn come to the greatest sums along paths; plain, no program. -/
import Derived.Test.YtojldecldemfaaaTopRoomRentsm5
import Derived.Test.YtojldecldemfaaaTopRoomRentsm1
import Derived.Test.YtojldecldemfaaaTopRoomRentsm2
import Derived.Test.YtojldecldemfaaaTopRoomRentsm3
import Derived.WalkSpells
/- Links closed over every item in turn come to the greatest sums along paths; plain, no program. -/
namespace Go.Proofs.Ytojldecldemfaaa
set_option linter.unusedVariables false
set_option linter.unusedSimpArgs false

/-- A table of n rows of n numbers. -/
def Sq (n : Nat) (D : List (List Int)) : Prop := D.length = n ∧ ∀ j, j < n → (rget D j).length = n
def fwStep (D : List (List Int)) (b j k : Nat) : List (List Int) := D.set j ((rget D j).set k (max (bid D j k) (bid D j b + bid D b k)))
def fwK (D : List (List Int)) (b j : Nat) : Nat → List (List Int)
  | 0 => D
  | k + 1 => fwStep (fwK D b j k) b j k
def fwJ (n : Nat) (D : List (List Int)) (b : Nat) : Nat → List (List Int)
  | 0 => D
  | j + 1 => fwK (fwJ n D b j) b j n
def fwB (n : Nat) (D : List (List Int)) : Nat → List (List Int)
  | 0 => D
  | b + 1 => fwJ n (fwB n D b) b n
theorem fw_rget_set {v : List (List Int)} {r : List Int} {j k : Nat} (hj : j < v.length) : rget (v.set j r) k = if j = k then r else rget v k := by
  simp only [rget, List.getD, List.getElem?_set]
  split
  · rename_i h; subst h; simp [hj]
  · rfl
theorem fwStep_sq {n : Nat} {D : List (List Int)} (h : Sq n D) (b j k : Nat) : Sq n (fwStep D b j k) := by
  refine ⟨by unfold fwStep; rw [List.length_set]; exact h.1, fun i hi => ?_⟩
  unfold fwStep
  by_cases hj : j < D.length
  · rw [fw_rget_set hj]
    split
    · rw [List.length_set]; rename_i e; subst e; exact h.2 _ hi
    · exact h.2 i hi
  · rw [List.set_eq_of_length_le (by omega)]; exact h.2 i hi
theorem fwStep_bid {n : Nat} {D : List (List Int)} (h : Sq n D) {b j k : Nat} (hj : j < n) (hk : k < n) (x y : Nat) :
    bid (fwStep D b j k) x y = if x = j ∧ y = k then max (bid D j k) (bid D j b + bid D b k) else bid D x y := by
  show iget (rget (fwStep D b j k) x) y = _
  unfold fwStep
  rw [fw_rget_set (by rw [h.1]; exact hj)]
  by_cases e : j = x
  · subst e
    rw [if_pos rfl, iget_set (by rw [h.2 _ hj]; exact hk)]
    by_cases e2 : k = y
    · subst e2; rw [if_pos rfl, if_pos ⟨rfl, rfl⟩]
    · rw [if_neg e2, if_neg (fun h => e2 h.2.symm)]; rfl
  · rw [if_neg e, if_neg (fun h => e h.1.symm)]; rfl
theorem fwK_sq {n : Nat} {D : List (List Int)} (h : Sq n D) (b j : Nat) : ∀ k, Sq n (fwK D b j k)
  | 0 => h
  | k + 1 => fwStep_sq (fwK_sq h b j k) b j k
theorem fwJ_sq {n : Nat} {D : List (List Int)} (h : Sq n D) (b : Nat) : ∀ j, Sq n (fwJ n D b j)
  | 0 => h
  | j + 1 => fwK_sq (fwJ_sq h b j) b j n
theorem fwB_sq {n : Nat} {D : List (List Int)} (h : Sq n D) : ∀ b, Sq n (fwB n D b)
  | 0 => h
  | b + 1 => fwJ_sq (fwB_sq h b) b n

/-- Numbers only rise. -/
theorem fwStep_ge {n : Nat} {D : List (List Int)} (h : Sq n D) {b j k : Nat} (hj : j < n) (hk : k < n) (x y : Nat) : bid D x y ≤ bid (fwStep D b j k) x y := by
  rw [fwStep_bid h hj hk]
  split
  · rename_i e; obtain ⟨rfl, rfl⟩ := e; omega
  · exact Int.le_refl _
theorem fwK_ge {n : Nat} {D : List (List Int)} (h : Sq n D) {b j : Nat} (hj : j < n) (x y : Nat) : ∀ k, k ≤ n → bid D x y ≤ bid (fwK D b j k) x y
  | 0, _ => Int.le_refl _
  | k + 1, hk => Int.le_trans (fwK_ge h hj x y k (by omega)) (fwStep_ge (fwK_sq h b j k) hj (by omega) x y)
theorem fwJ_ge {n : Nat} {D : List (List Int)} (h : Sq n D) {b : Nat} (x y : Nat) : ∀ j, j ≤ n → bid D x y ≤ bid (fwJ n D b j) x y
  | 0, _ => Int.le_refl _
  | j + 1, hj => Int.le_trans (fwJ_ge h x y j (by omega)) (fwK_ge (fwJ_sq h b j) (by omega) x y n (Nat.le_refl _))
theorem fwK_tri {n : Nat} {D : List (List Int)} (h : Sq n D) {b j : Nat} (hj : j < n) (y : Nat) : ∀ k, k ≤ n → y < k → bid D j b + bid D b y ≤ bid (fwK D b j k) j y
  | 0, _, hy => by omega
  | k + 1, hk, hy => by
    show _ ≤ bid (fwStep (fwK D b j k) b j k) j y
    rw [fwStep_bid (fwK_sq h b j k) hj (by omega)]
    by_cases e : y = k
    · subst e
      rw [if_pos ⟨rfl, rfl⟩]
      have h1 := fwK_ge (b := b) h hj j b y (by omega)
      have h2 := fwK_ge (b := b) h hj b y y (by omega)
      omega
    · rw [if_neg (fun h => e h.2)]
      exact fwK_tri h hj y k (by omega) (by omega)
theorem fwJ_tri {n : Nat} {D : List (List Int)} (h : Sq n D) {b : Nat} {x y : Nat} (hy : y < n) : ∀ j, j ≤ n → x < j → bid D x b + bid D b y ≤ bid (fwJ n D b j) x y
  | 0, _, hx => by omega
  | j + 1, hj, hx => by
    show _ ≤ bid (fwK (fwJ n D b j) b j n) x y
    by_cases e : x = j
    · subst e
      have h1 := fwJ_ge (b := b) h x b x (by omega)
      have h2 := fwJ_ge (b := b) h b y x (by omega)
      have h3 := fwK_tri (b := b) (fwJ_sq h b x) (j := x) (by omega) y n (Nat.le_refl _) hy
      omega
    · exact Int.le_trans (fwJ_tri h hy j (by omega) (by omega)) (fwK_ge (fwJ_sq h b j) (by omega) x y n (Nat.le_refl _))

/-- What bounds the table from above goes on to do so. -/
def UnderG (n : Nat) (g : Nat → Nat → Int) (D : List (List Int)) : Prop := ∀ x y, x < n → y < n → bid D x y ≤ g x y
theorem fwStep_under {n : Nat} {D : List (List Int)} {g : Nat → Nat → Int} (h : Sq n D) (ht : ∀ x y z, x < n → y < n → z < n → g x y + g y z ≤ g x z) (hu : UnderG n g D) {b j k : Nat} (hb : b < n) (hj : j < n) (hk : k < n) : UnderG n g (fwStep D b j k) := by
  intro x y hx hy
  rw [fwStep_bid h hj hk]
  split
  · rename_i e
    obtain ⟨rfl, rfl⟩ := e
    have h1 := hu x y hx hy
    have h2 := hu x b hx hb
    have h3 := hu b y hb hy
    have h4 := ht x b y hx hb hy
    omega
  · exact hu x y hx hy
theorem fwK_under {n : Nat} {D : List (List Int)} {g : Nat → Nat → Int} (h : Sq n D) (ht : ∀ x y z, x < n → y < n → z < n → g x y + g y z ≤ g x z) (hu : UnderG n g D) {b j : Nat} (hb : b < n) (hj : j < n) : ∀ k, k ≤ n → UnderG n g (fwK D b j k)
  | 0, _ => hu
  | k + 1, hk => fwStep_under (fwK_sq h b j k) ht (fwK_under h ht hu hb hj k (by omega)) hb hj (by omega)
theorem fwJ_under {n : Nat} {D : List (List Int)} {g : Nat → Nat → Int} (h : Sq n D) (ht : ∀ x y z, x < n → y < n → z < n → g x y + g y z ≤ g x z) (hu : UnderG n g D) {b : Nat} (hb : b < n) : ∀ j, j ≤ n → UnderG n g (fwJ n D b j)
  | 0, _ => hu
  | j + 1, hj => fwK_under (fwJ_sq h b j) ht (fwJ_under h ht hu hb j (by omega)) hb (by omega) n (Nat.le_refl _)
theorem fwB_under {n : Nat} {D : List (List Int)} {g : Nat → Nat → Int} (h : Sq n D) (ht : ∀ x y z, x < n → y < n → z < n → g x y + g y z ≤ g x z) (hu : UnderG n g D) : ∀ b, b ≤ n → UnderG n g (fwB n D b)
  | 0, _ => hu
  | b + 1, hb => fwJ_under (fwB_sq h b) ht (fwB_under h ht hu b (by omega)) (by omega) n (Nat.le_refl _)

/-- The sums along paths whose inner nodes are below m are in the table. -/
def LowG (n m : Nat) (w : Nat → Nat → Int) (D : List (List Int)) : Prop := (∀ x, x < n → 0 ≤ bid D x x) ∧ ∀ x L z, Simple n x (L ++ [z]) → (∀ y, y ∈ L → y < m) → psum w x (L ++ [z]) ≤ bid D x z
theorem low_zero {n : Nat} {w : Nat → Nat → Int} {D : List (List Int)} (h : ∀ x y, x < n → y < n → bid D x y = w x y) (h0 : ∀ x, w x x = 0) : LowG n 0 w D := by
  refine ⟨fun x hx => by rw [h x x hx hx, h0]; exact Int.le_refl _, fun x L z hs hl => ?_⟩
  cases L with
  | nil =>
    have hx := hs.lt x (by simp)
    have hz := hs.lt z (by simp)
    simp only [List.nil_append, psum]
    rw [h x z hx hz]; omega
  | cons y L => have := hl y (by simp); omega
theorem low_step {n m : Nat} {w : Nat → Nat → Int} {D D' : List (List Int)} (h : LowG n m w D) (hge : ∀ x y, bid D x y ≤ bid D' x y) (ht : ∀ x y, x < n → y < n → bid D x m + bid D m y ≤ bid D' x y) : LowG n (m + 1) w D' := by
  refine ⟨fun x hx => Int.le_trans (h.1 x hx) (hge x x), fun x L z hs hl => ?_⟩
  by_cases hm : m ∈ L
  · obtain ⟨A, B, rfl⟩ := List.append_of_mem hm
    have hnd := hs.nodup
    have hx := hs.lt x (by simp)
    have hz := hs.lt z (by simp)
    have hmn := hs.lt m (by simp)
    rw [show A ++ m :: B ++ [z] = (A ++ [m]) ++ (B ++ [z]) by simp] at hnd hs ⊢
    have hs1 : Simple n x (A ++ [m]) := ⟨by
        refine hnd.sublist ?_
        exact List.Sublist.cons_cons _ (List.sublist_append_left _ _), fun y hy => hs.lt y (by
        simp only [List.mem_cons, List.mem_append] at hy ⊢
        rcases hy with h | h
        · exact .inl h
        · exact .inr (.inl h))⟩
    have hs2 : Simple n m (B ++ [z]) := ⟨by
        refine hnd.sublist ?_
        rw [List.append_assoc]
        refine List.Sublist.cons _ ?_
        exact List.sublist_append_right A _, fun y hy => hs.lt y (by
        simp only [List.mem_cons, List.mem_append, List.not_mem_nil, or_false] at hy ⊢
        rcases hy with h | h
        · exact .inr (.inl (.inr h))
        · exact .inr (.inr h))⟩
    have hA : ∀ y, y ∈ A → y < m := fun y hy => by
      have h1 := hl y (by simp [hy])
      have h2 : y ≠ m := fun e => by
        subst e
        have := (List.nodup_cons.1 hs1.nodup).2
        rw [List.nodup_append] at this
        exact this.2.2 y hy y (by simp) rfl
      omega
    have hB : ∀ y, y ∈ B → y < m := fun y hy => by
      have h1 := hl y (by simp [hy])
      have h2 : y ≠ m := fun e => by
        subst e
        exact (List.nodup_cons.1 hs2.nodup).1 (by simp [hy])
      omega
    have h1 := h.2 x A m hs1 hA
    have h2 := h.2 m B z hs2 hB
    have h3 := ht x z hx hz
    rw [psum_append, lastOf_append]
    simp only [lastOf]
    omega
  · exact Int.le_trans (h.2 x L z hs (fun y hy => by
      have h1 := hl y hy
      have h2 : y ≠ m := fun e => hm (e ▸ hy)
      omega)) (hge x z)
theorem fwB_low {n : Nat} {w : Nat → Nat → Int} {D : List (List Int)} (h : Sq n D) (hl : LowG n 0 w D) : ∀ b, b ≤ n → LowG n b w (fwB n D b)
  | 0, _ => hl
  | b + 1, hb => low_step (fwB_low h hl b (by omega)) (fun x y => fwJ_ge (fwB_sq h b) x y n (Nat.le_refl _)) (fun x y hx hy => fwJ_tri (fwB_sq h b) hy n (Nat.le_refl _) hx)

/-- The links of an assignment: by one edge, and by the best path. -/
noncomputable def link0 (v : List (List Int)) (a : List Int) : List (List Int) := (List.range v.length).map fun j => (List.range v.length).map fun k => wl v a j k
noncomputable def linkL (v : List (List Int)) (a : List Int) : List (List Int) := (List.range v.length).map fun j => (List.range v.length).map fun k => lnkS (wl v a) v.length j k
theorem tab_sq (n : Nat) (f : Nat → Nat → Int) : Sq n ((List.range n).map fun j => (List.range n).map fun k => f j k) :=
  ⟨by simp, fun j hj => by simp [rget, hj]⟩
theorem tab_bid {n : Nat} (f : Nat → Nat → Int) {j k : Nat} (hj : j < n) (hk : k < n) : bid ((List.range n).map fun j => (List.range n).map fun k => f j k) j k = f j k := by
  simp [bid, rget, iget, hj, hk]
theorem sq_ext {n : Nat} {D E : List (List Int)} (hD : Sq n D) (hE : Sq n E) (h : ∀ x y, x < n → y < n → bid D x y = bid E x y) : D = E := by
  refine rows_ext (fun j hj => ?_) (by rw [hD.1, hE.1])
  rw [hD.1] at hj
  refine ints_ext' (fun k hk => ?_) (by rw [hD.2 j hj, hE.2 j hj])
  rw [hD.2 j hj] at hk
  exact h j k hj hk
theorem fw_links {v : List (List Int)} {a : List Int} (hb : IsBest v a) (h0 : 0 < v.length) : fwB v.length (link0 v a) v.length = linkL v a := by
  have hN := noGain_best hb h0
  have hC := lnkS_clo (wl v a) v.length
  have hsq : Sq v.length (link0 v a) := tab_sq _ _
  have hww : ∀ x, wl v a x x = 0 := fun x => wt_self _ _ _ x
  refine sq_ext (fwB_sq hsq _) (tab_sq _ _) (fun x y hx hy => ?_)
  have e : bid (linkL v a) x y = lnkS (wl v a) v.length x y := tab_bid _ hx hy
  rw [e]
  have hu : UnderG v.length (lnkS (wl v a) v.length) (link0 v a) := fun x y hx hy => by
    have e : bid (link0 v a) x y = wl v a x y := tab_bid _ hx hy
    rw [e]
    have h1 := hC.step hN hx hx hy
    rw [hC.self hx] at h1
    omega
  have h1 := fwB_under (g := lnkS (wl v a) v.length) hsq (fun x y z hx hy hz => hC.tri hN hx hy hz) hu _ (Nat.le_refl _) x y hx hy
  have h2 := fwB_low hsq (low_zero (fun x y hx hy => tab_bid _ hx hy) hww) _ (Nat.le_refl _)
  refine Int.le_antisymm h1 ?_
  obtain ⟨L, hL, hl, hp⟩ := hC.path x y hx hy
  rcases List.eq_nil_or_concat L with rfl | ⟨L', z, rfl⟩
  · simp only [lastOf] at hl
    subst hl
    simp only [psum] at hp
    have := h2.1 x hx
    omega
  · rw [List.concat_eq_append] at hL hl hp
    rw [lastOf_append] at hl
    simp only [lastOf] at hl
    subst hl
    have := h2.2 x L' z hL (fun u hu => hL.lt u (by simp [hu]))
    omega
end Go.Proofs.Ytojldecldemfaaa

/- The greatest divisor that numbers have in common, sought from above, and by remainders; plain, no program. -/
namespace Go.Proofs.Ytojldecldemfaaa
set_option linter.unusedVariables false
set_option linter.unusedSimpArgs false

/-- The greatest common divisor of n and all numbers. -/
def gcdL (n : Nat) (l : List Int) : Nat := l.foldl (fun g x => Nat.gcd g x.natAbs) n
theorem gcdL_nil (n : Nat) : gcdL n [] = n := rfl
theorem gcdL_snoc (n : Nat) (l : List Int) (x : Int) : gcdL n (l ++ [x]) = Nat.gcd (gcdL n l) x.natAbs := by simp [gcdL]
theorem gcdL_dvd : ∀ (l : List Int) (n d : Nat), d ∣ gcdL n l ↔ d ∣ n ∧ ∀ x ∈ l, d ∣ x.natAbs
  | [], n, d => by simp [gcdL]
  | x :: l, n, d => by
    have h := gcdL_dvd l (Nat.gcd n x.natAbs) d
    show d ∣ gcdL (Nat.gcd n x.natAbs) l ↔ _
    rw [h, Nat.dvd_gcd_iff]
    constructor
    · rintro ⟨⟨h1, h2⟩, h3⟩
      refine ⟨h1, fun y hy => ?_⟩
      rcases List.mem_cons.1 hy with rfl | hy
      · exact h2
      · exact h3 y hy
    · rintro ⟨h1, h2⟩
      exact ⟨⟨h1, h2 x (by simp)⟩, fun y hy => h2 y (List.mem_cons_of_mem _ hy)⟩
theorem gcdL_pos {n : Nat} (l : List Int) (h : 0 < n) : 0 < gcdL n l := Nat.pos_of_dvd_of_pos ((gcdL_dvd l n _).1 (Nat.dvd_refl _)).1 h
theorem gcdL_le {n : Nat} (l : List Int) (h : 0 < n) : gcdL n l ≤ n := Nat.le_of_dvd h ((gcdL_dvd l n _).1 (Nat.dvd_refl _)).1
/-- d divides n and all numbers. -/
def Comm (n : Nat) (l : List Int) (d : Nat) : Prop := d ∣ n ∧ ∀ x ∈ l, d ∣ x.natAbs
theorem comm_gcd (n : Nat) (l : List Int) : Comm n l (gcdL n l) := (gcdL_dvd l n _).1 (Nat.dvd_refl _)
theorem comm_le {n : Nat} {l : List Int} {d : Nat} (hn : 0 < n) (h : Comm n l d) : d ≤ gcdL n l := Nat.le_of_dvd (gcdL_pos l hn) ((gcdL_dvd l n d).2 h)
theorem tmod_zero {x : Int} {d : Nat} : x.tmod d = 0 ↔ d ∣ x.natAbs := by
  rw [← Int.dvd_iff_tmod_eq_zero, ← Int.natAbs_dvd_natAbs]; simp
/-- The numbers, and the denominator, without what they have in common. -/
def lowL (n : Nat) (l : List Int) : List Int := l.map fun x => x.tdiv (gcdL n l)
def lowN (n : Nat) (l : List Int) : Int := ((n / gcdL n l : Nat) : Int)
theorem lowL_length (n : Nat) (l : List Int) : (lowL n l).length = l.length := by simp [lowL]
theorem low_one {n : Nat} {l : List Int} (h : gcdL n l = 1) : lowL n l = l ∧ lowN n l = n := by
  unfold lowL lowN; rw [h]; simp
end Go.Proofs.Ytojldecldemfaaa

/- Leases without envy and the links of the rooms, in plain words; no program. -/
namespace Go.Proofs.Ytojldecldemfaaa
set_option linter.unusedVariables false
set_option linter.unusedSimpArgs false

/-- Prices p over d under which nobody wants another's room. -/
def EF (v : List (List Int)) (a : List Int) (p : Nat → Int) (d : Int) : Prop := ∀ i, i < v.length → ∀ j, j < v.length → bid v i j * d - p j ≤ bid v i (itm a i) * d - p (itm a i)
theorem sum_gain {v : List (List Int)} {a : List Int} (h : IsA a v.length) (p : Nat → Int) (d : Int) :
    sumTo (fun i => bid v i (itm a i) * d - p (itm a i)) v.length = d * worthI v a - sumTo p v.length := by
  have hw : worthI v a = sumTo (fun i => bid v i (itm a i)) v.length := by unfold worthI; rw [h.1]
  rw [sumTo_sub, (isA_per h).sum p, hw, ← sumTo_mul]
  congr 1
  exact sumTo_congr fun i hi => Int.mul_comm _ _
theorem sum_zero {f : Nat → Int} {n : Nat} (h : ∀ i, i < n → 0 ≤ f i) (h0 : sumTo f n ≤ 0) : ∀ i, i < n → f i = 0 := fun i hi => by
  have := sumTo_single_le h hi
  have := h i hi
  omega
theorem mul_le_cancel {d x y : Int} (hd : 0 < d) (h : d * x ≤ d * y) : x ≤ y := Int.le_of_mul_le_mul_left h hd
/-- Without envy an assignment is one of the best; and its prices do for the best one. -/
theorem ef_best {v : List (List Int)} {a b : List Int} (hb : IsBest v b) (h0 : 0 < v.length) (ha : IsA a v.length) {p : Nat → Int} {d : Int} (hd : 0 < d) (h : EF v a p d) : worthI v a = worthI v b ∧ EF v b p d := by
  have hs1 := sum_gain ha p d
  have hs2 := sum_gain hb.1 p d
  have hle : sumTo (fun i => bid v i (itm b i) * d - p (itm b i)) v.length ≤ sumTo (fun i => bid v i (itm a i) * d - p (itm a i)) v.length := sumTo_le fun i hi => h i hi _ ((isA_lt hb.1 i hi).2)
  have hm := hb.max ha h0
  have hw : worthI v b ≤ worthI v a := mul_le_cancel hd (by omega)
  have he : worthI v a = worthI v b := by omega
  refine ⟨he, fun i hi j hj => ?_⟩
  have hz := sum_zero (f := fun i => (bid v i (itm a i) * d - p (itm a i)) - (bid v i (itm b i) * d - p (itm b i))) (n := v.length) (fun i hi => by
    have := h i hi _ ((isA_lt hb.1 i hi).2)
    omega) (by rw [sumTo_sub, hs1, hs2, he]; omega) i hi
  have := h i hi j hj
  have hz' : (bid v i (itm a i) * d - p (itm a i)) - (bid v i (itm b i) * d - p (itm b i)) = 0 := hz
  omega
theorem ef_other {v : List (List Int)} {a b : List Int} (hb : IsA b v.length) (ha : IsA a v.length) {p : Nat → Int} {d : Int} (h : EF v b p d) (he : worthI v a = worthI v b) : EF v a p d := by
  have hs1 := sum_gain ha p d
  have hs2 := sum_gain hb p d
  intro i hi j hj
  have hz := sum_zero (f := fun i => (bid v i (itm b i) * d - p (itm b i)) - (bid v i (itm a i) * d - p (itm a i))) (n := v.length) (fun i hi => by
    have := h i hi _ ((isA_lt ha i hi).2)
    omega) (by rw [sumTo_sub, hs1, hs2, he]; omega) i hi
  have := h i hi j hj
  have hz' : (bid v i (itm b i) * d - p (itm b i)) - (bid v i (itm a i) * d - p (itm a i)) = 0 := hz
  omega
/-- Prices that follow the links of neighbours. -/
def Pot (w : Nat → Nat → Int) (n : Nat) (p : Nat → Int) (d : Int) : Prop := ∀ y z, y < n → z < n → p y + w y z * d ≤ p z
theorem ef_pot {v : List (List Int)} {b : List Int} (hb : IsA b v.length) {p : Nat → Int} {d : Int} : EF v b p d ↔ Pot (wl v b) v.length p d := by
  constructor
  · intro h y z hy hz
    obtain ⟨i, hi, rfl⟩ := (isA_per hb).surj hy
    rw [wl_of hb hi, Int.sub_mul]
    have := h i hi z hz
    omega
  · intro h i hi j hj
    have := h (itm b i) j (isA_lt hb i hi).2 hj
    rw [wl_of hb hi, Int.sub_mul] at this
    omega
theorem psum_scale (w : Nat → Nat → Int) (d : Int) : ∀ (L : List Nat) (x : Nat), psum (fun x y => w x y * d) x L = psum w x L * d
  | [], _ => by simp [psum]
  | y :: L, x => by rw [psum, psum, psum_scale w d L y, Int.add_mul]
/-- .. follow the links of all. -/
theorem pot_link {w : Nat → Nat → Int} {n : Nat} {g : Nat → Nat → Int} (hC : Clo w n g) (hw : ∀ x, w x x = 0) {p : Nat → Int} {d : Int} (hd : 0 ≤ d) : Pot w n p d ↔ ∀ j k, j < n → k < n → g j k * d ≤ p k - p j := by
  constructor
  · intro h j k hj hk
    obtain ⟨L, hL, rfl, e⟩ := hC.path j k hj hk
    have := psum_le (w := fun x y => w x y * d) (n := n) (h := p) (fun y z hy hz => h y z hy hz) L j hL.lt
    rw [psum_scale, e] at this
    exact this
  · intro h y z hy hz
    by_cases e : y = z
    · subst e; rw [hw]; omega
    · have h1 := hC.most y [z] ⟨by simp [e], fun q hq => by
        rcases List.mem_cons.1 hq with rfl | hq
        · exact hy
        · simp at hq; subst hq; exact hz⟩
      have h2 : w y z ≤ g y z := by simpa [psum, lastOf] using h1
      have h3 := h y z hy hz
      have h4 := Int.mul_le_mul_of_nonneg_right h2 hd
      omega
theorem wl_self (v : List (List Int)) (a : List Int) (x : Nat) : wl v a x x = 0 := wt_self _ _ _ _
/-- The stage's theorem: without envy exactly if the assignment is one of the best and the prices follow the links. -/
theorem ef_iff {v : List (List Int)} {a : List Int} (h0 : 0 < v.length) (ha : IsA a v.length) {p : Nat → Int} {d : Int} (hd : 0 < d) :
    EF v a p d ↔ worthI v a = worthI v (bestA v) ∧ ∀ j k, j < v.length → k < v.length → lnkS (wl v (bestA v)) v.length j k * d ≤ p k - p j := by
  have hb := bestA_best h0
  rw [← pot_link (lnkS_clo (wl v (bestA v)) v.length) (wl_self v (bestA v)) (Int.le_of_lt hd), ← ef_pot hb.1]
  exact ⟨fun h => ef_best hb h0 ha hd h, fun h => ef_other hb.1 ha h.2 h.1⟩
/-- Prices may be raised together, and taken over another number. -/
theorem ef_scale {v : List (List Int)} {a : List Int} {p q : Nat → Int} {d e k c : Int} (hk : 0 < k) (hd : d = k * e) (hp : ∀ j, j < v.length → p j = k * q j + c) (ha : IsA a v.length) : EF v a p d ↔ EF v a q e := by
  subst hd
  have hx : ∀ i j, i < v.length → j < v.length → bid v i j * (k * e) - p j = k * (bid v i j * e - q j) - c := fun i j hi hj => by
    rw [hp j hj, Int.mul_sub, Int.mul_left_comm]; omega
  constructor
  · intro h i hi j hj
    have := h i hi j hj
    rw [hx i j hi hj, hx i _ hi (isA_lt ha i hi).2] at this
    exact mul_le_cancel hk (by omega)
  · intro h i hi j hj
    have := Int.mul_le_mul_of_nonneg_left (h i hi j hj) (Int.le_of_lt hk)
    rw [hx i j hi hj, hx i _ hi (isA_lt ha i hi).2]
    omega
/-- The least prices are without envy. -/
theorem ef_least {v : List (List Int)} (h0 : 0 < v.length) : EF v (bestA v) (fun j => leastP (wl v (bestA v)) v.length j) 1 := by
  have hb := bestA_best h0
  rw [ef_pot hb.1]
  intro y z hy hz
  have := leastP_step hb h0 hy hz
  show leastP (wl v (bestA v)) v.length y + wl v (bestA v) y z * 1 ≤ leastP (wl v (bestA v)) v.length z
  rw [Int.mul_one]; exact this
end Go.Proofs.Ytojldecldemfaaa

/- Boxes: blocks whose first cells are known, below what comes later; no condition. -/
namespace Go.Proofs.Ytojldecldemfaaa
set_option linter.unusedVariables false
set_option linter.unusedSimpArgs false
open Go.ChangeShapes Go.WideShapes Go.ChangeAt Go.RowKit Go.Deep

/-- A block whose first cells are known. -/
structure BoxV (w : World) (S : Nat) (vs : List Value) : Prop where
  lt : S < w.heap.size
  cell : ∀ (k : Nat) (v : Value), vs[k]? = some v → w.cell? ⟨S, k, none⟩ = some v
theorem BoxV.below {w w' : World} {S : Nat} {vs : List Value} (h : BoxV w S vs) (hb : Below w.heap.size w w') : BoxV w' S vs :=
  ⟨Nat.lt_of_lt_of_le h.lt hb.size, fun k v hk => (hb.cell (p := ⟨S, k, none⟩) h.lt).trans (h.cell k v hk)⟩
theorem BoxV.new {w w' : World} {S : Nat} {vs : List Value} {t : TypeId} (hS : w.heap.size = S) (hw : w.alloc (.cells vs.toArray t) = w') : BoxV w' S vs := by
  subst hS hw
  exact ⟨by simp, fun k v hk => (World.cell?_alloc_at _ _ _ _ rfl).trans (by simpa using hk)⟩
theorem below_alloc {w w' : World} {o : Obj} (hw : w.alloc o = w') : Below w.heap.size w w' := by subst hw; exact (Below.refl _ _).alloc (Nat.le_refl _) _
end Go.Proofs.Ytojldecldemfaaa

/- Lists that give each agent but one an item of its own, in their order, and the best of them; plain, no program. -/
namespace Go.Proofs.Ytojldecldemfaaa
set_option linter.unusedVariables false
set_option linter.unusedSimpArgs false

/-- The first i entries fit: -1 at the agent that is left out, else a number below n, no number twice. -/
def PartTo (n : Nat) (sk : Int) (x : List Int) (i : Nat) : Prop :=
  ∀ k, k < i → ((k : Int) = sk → iget x k = -1) ∧ ((k : Int) ≠ sk → 0 ≤ iget x k ∧ iget x k < n ∧ ∀ l, l < k → (l : Int) ≠ sk → iget x l ≠ iget x k)
/-- x gives each agent but sk an item of its own. -/
def Part (n : Nat) (sk : Int) (x : List Int) : Prop := x.length = n ∧ PartTo n sk x n
/-- The value of the first i entries. -/
def pvTo (v : List (List Int)) (sk : Int) (x : List Int) (i : Nat) : Int := sumTo (fun k => if (k : Int) = sk then 0 else bid v k (itm x k)) i
def pv (v : List (List Int)) (sk : Int) (x : List Int) : Int := pvTo v sk x v.length
/-- The lists that begin with pre. -/
def Comp (n : Nat) (sk : Int) (pre : List Int) (x : List Int) : Prop := Part n sk x ∧ ∀ k, k < pre.length → iget x k = iget pre k

theorem ints_ext {xs ys : List Int} (h : ∀ j, j < xs.length → iget xs j = iget ys j) (hl : xs.length = ys.length) : xs = ys := by
  apply List.ext_getElem hl
  intro i h1 h2
  have := h i h1
  rwa [iget_of h1, iget_of h2] at this
theorem comp_leaf {n : Nat} {sk : Int} {pre : List Int} (hl : pre.length = n) (hp : PartTo n sk pre n) (x : List Int) : Comp n sk pre x ↔ x = pre := by
  constructor
  · rintro ⟨⟨h1, _⟩, h3⟩
    exact ints_ext (fun j hj => h3 j (by omega)) (by omega)
  · rintro rfl
    exact ⟨⟨hl, hp⟩, fun _ _ => rfl⟩
theorem iget_snoc_lt {pre : List Int} {y : Int} {k : Nat} (h : k < pre.length) : iget (pre ++ [y]) k = iget pre k := by rw [iget_append, if_pos h]
theorem iget_snoc_eq (pre : List Int) (y : Int) : iget (pre ++ [y]) pre.length = y := by rw [iget_append, if_neg (by omega), Nat.sub_self]; rfl
theorem partTo_snoc {n : Nat} {sk : Int} {pre : List Int} {y : Int} (hp : PartTo n sk pre pre.length) (hy : ((pre.length : Int) = sk → y = -1) ∧ ((pre.length : Int) ≠ sk → 0 ≤ y ∧ y < n ∧ ∀ l, l < pre.length → (l : Int) ≠ sk → iget pre l ≠ y)) :
    PartTo n sk (pre ++ [y]) (pre ++ [y]).length := by
  rw [List.length_append, List.length_singleton]
  intro k hk
  by_cases e : k = pre.length
  · subst e
    rw [iget_snoc_eq]
    exact ⟨hy.1, fun h => ⟨(hy.2 h).1, (hy.2 h).2.1, fun l hl hs => by rw [iget_snoc_lt hl]; exact (hy.2 h).2.2 l hl hs⟩⟩
  · have hk' : k < pre.length := by omega
    rw [iget_snoc_lt hk']
    obtain ⟨h1, h2⟩ := hp k hk'
    exact ⟨h1, fun h => ⟨(h2 h).1, (h2 h).2.1, fun l hl hs => by rw [iget_snoc_lt (by omega)]; exact (h2 h).2.2 l hl hs⟩⟩
theorem pvTo_snoc {v : List (List Int)} {sk : Int} {pre : List Int} {y : Int} : pvTo v sk (pre ++ [y]) (pre ++ [y]).length = pvTo v sk pre pre.length + if (pre.length : Int) = sk then 0 else bid v pre.length y.toNat := by
  rw [List.length_append, List.length_singleton]
  unfold pvTo
  simp only [sumTo]
  rw [sumTo_congr (g := fun k => if (k : Int) = sk then 0 else bid v k (itm pre k)) (fun k hk => by simp only [itm, iget_snoc_lt hk])]
  congr 1
  simp only [itm, iget_snoc_eq]
theorem comp_snoc {n : Nat} {sk : Int} {pre : List Int} {y : Int} (x : List Int) : Comp n sk (pre ++ [y]) x ↔ Comp n sk pre x ∧ iget x pre.length = y := by
  constructor
  · rintro ⟨h1, h2⟩
    refine ⟨⟨h1, fun k hk => ?_⟩, ?_⟩
    · have := h2 k (by simp; omega); rwa [iget_snoc_lt hk] at this
    · have := h2 pre.length (by simp); rwa [iget_snoc_eq] at this
  · rintro ⟨⟨h1, h2⟩, h3⟩
    refine ⟨h1, fun k hk => ?_⟩
    simp at hk
    by_cases e : k = pre.length
    · subst e; rw [iget_snoc_eq, h3]
    · rw [iget_snoc_lt (by omega)]; exact h2 k (by omega)
theorem comp_skip {n : Nat} {sk : Int} {pre : List Int} (hi : pre.length < n) (e : (pre.length : Int) = sk) (x : List Int) : Comp n sk pre x ↔ Comp n sk (pre ++ [-1]) x := by
  rw [comp_snoc]
  exact ⟨fun h => ⟨h, (h.1.2 _ hi).1 e⟩, fun h => h.1⟩
/-- What a list that begins with pre has at the next place: a number that is free. -/
theorem comp_free {n : Nat} {sk : Int} {pre : List Int} (hi : pre.length < n) (e : (pre.length : Int) ≠ sk) {x : List Int} (h : Comp n sk pre x) :
    0 ≤ iget x pre.length ∧ iget x pre.length < n ∧ ∀ l, l < pre.length → (l : Int) ≠ sk → iget pre l ≠ iget x pre.length := by
  obtain ⟨h1, h2, h3⟩ := (h.1.2 _ hi).2 e
  exact ⟨h1, h2, fun l hl hs => by rw [← h.2 l hl]; exact h3 l hl hs⟩
/-- Of two lists that begin alike the one with the lesser number next comes first. -/
theorem comp_llt {n : Nat} {sk : Int} {pre : List Int} (hi : pre.length < n) {x y : List Int} (hx : Comp n sk pre x) (hy : Comp n sk pre y) (h : iget x pre.length < iget y pre.length) : llt x y :=
  ⟨pre.length, by rw [hx.1.1]; exact hi, fun j hj => by rw [hx.2 j hj, hy.2 j hj], h⟩

/-- The lists that begin with pre and have one of the first j numbers next. -/
def CompTo (n : Nat) (sk : Int) (pre : List Int) (j : Nat) (x : List Int) : Prop := Comp n sk pre x ∧ iget x pre.length < j
theorem compTo_zero {n : Nat} {sk : Int} {pre : List Int} (hi : pre.length < n) (e : (pre.length : Int) ≠ sk) (x : List Int) : ¬ CompTo n sk pre 0 x := fun h => by
  have := comp_free hi e h.1; have := h.2; omega
theorem compTo_all {n : Nat} {sk : Int} {pre : List Int} (hi : pre.length < n) (e : (pre.length : Int) ≠ sk) (x : List Int) : CompTo n sk pre n x ↔ Comp n sk pre x :=
  ⟨fun h => h.1, fun h => ⟨h, (comp_free hi e h).2.1⟩⟩
theorem compTo_succ {n : Nat} {sk : Int} {pre : List Int} {j : Nat} (x : List Int) : CompTo n sk pre (j + 1) x ↔ CompTo n sk pre j x ∨ Comp n sk (pre ++ [(j : Int)]) x := by
  rw [comp_snoc]
  unfold CompTo
  constructor
  · rintro ⟨h1, h2⟩
    by_cases e : iget x pre.length < j
    · exact .inl ⟨h1, e⟩
    · exact .inr ⟨h1, by omega⟩
  · rintro (⟨h1, h2⟩ | ⟨h1, h2⟩)
    · exact ⟨h1, by omega⟩
    · exact ⟨h1, by omega⟩
theorem comp_used {n : Nat} {sk : Int} {pre : List Int} {j : Nat} (hi : pre.length < n) (e : (pre.length : Int) ≠ sk) (hu : ∃ l, l < pre.length ∧ (l : Int) ≠ sk ∧ iget pre l = j) (x : List Int) : ¬ Comp n sk (pre ++ [(j : Int)]) x := by
  rw [comp_snoc]
  rintro ⟨h1, h2⟩
  obtain ⟨l, l1, l2, l3⟩ := hu
  exact (comp_free hi e h1).2.2 l l1 l2 (by rw [l3, h2])
/-- The item j is taken in pre. -/
def Used (sk : Int) (pre : List Int) (j : Nat) : Prop := ∃ l, l < pre.length ∧ (l : Int) ≠ sk ∧ iget pre l = j
theorem used_snoc {sk : Int} {pre : List Int} {y : Int} {j : Nat} : Used sk (pre ++ [y]) j ↔ Used sk pre j ∨ ((pre.length : Int) ≠ sk ∧ y = j) := by
  unfold Used
  constructor
  · rintro ⟨l, l1, l2, l3⟩
    simp at l1
    by_cases e : l = pre.length
    · subst e; rw [iget_snoc_eq] at l3; exact .inr ⟨l2, l3⟩
    · rw [iget_snoc_lt (by omega)] at l3; exact .inl ⟨l, by omega, l2, l3⟩
  · rintro (⟨l, l1, l2, l3⟩ | ⟨h1, h2⟩)
    · exact ⟨l, by simp; omega, l2, by rw [iget_snoc_lt l1]; exact l3⟩
    · exact ⟨pre.length, by simp, h1, by rw [iget_snoc_eq]; exact h2⟩

/-- What the search has found: the best of the lists that it has seen. -/
def Found (v : List (List Int)) (sk : Int) (V : List Int → Prop) (b : List Int) (m : Int) : Prop := FirstMax V (pv v sk) b ∧ (∀ x, V x → Part v.length sk x) ∧ ((b = [] ∧ m = 0) ∨ (b ≠ [] ∧ m = pv v sk b))
theorem found_leaf_take {v : List (List Int)} {sk : Int} {V : List Int → Prop} {b pre : List Int} {m : Int} (hv : 0 < v.length) (h : Found v sk V b m) (hl : pre.length = v.length) (hp : PartTo v.length sk pre v.length) (hV : ∀ x, V x → ∀ y, Comp v.length sk pre y → llt x y)
    (hgt : b = [] ∨ m < pv v sk pre) : Found v sk (fun x => V x ∨ Comp v.length sk pre x) pre (pv v sk pre) := by
  have hc : ∀ x, (V x ∨ x = pre) ↔ (V x ∨ Comp v.length sk pre x) := fun x => by rw [comp_leaf hl hp]
  refine ⟨(h.1.add (fun x hx => hV x hx pre ((comp_leaf hl hp pre).2 rfl)) ?_).congr hc (fun _ _ => rfl), ?_, .inr ⟨fun e => by rw [e] at hl; simp at hl; omega, rfl⟩⟩
  · rcases h.1 with h1 | ⟨h1, _⟩
    · exact .inl h1
    · rcases hgt with hb | hb
      · have := (h.2.1 b h1).1; rw [hb] at this; simp at this; omega
      · rcases h.2.2 with ⟨hb2, _⟩ | ⟨_, hm⟩
        · have := (h.2.1 b h1).1; rw [hb2] at this; simp at this; omega
        · exact .inr ⟨h1, by omega⟩
  · rintro x (hx | hx)
    · exact h.2.1 x hx
    · exact hx.1
theorem found_leaf_keep {v : List (List Int)} {sk : Int} {V : List Int → Prop} {b pre : List Int} {m : Int} (h : Found v sk V b m) (hl : pre.length = v.length) (hp : PartTo v.length sk pre v.length) (hV : ∀ x, V x → ∀ y, Comp v.length sk pre y → llt x y)
    (hb : b ≠ []) (hle : pv v sk pre ≤ m) : Found v sk (fun x => V x ∨ Comp v.length sk pre x) b m := by
  have hc : ∀ x, (V x ∨ x = pre) ↔ (V x ∨ Comp v.length sk pre x) := fun x => by rw [comp_leaf hl hp]
  have hm : m = pv v sk b := by
    rcases h.2.2 with ⟨hb2, _⟩ | ⟨_, hm⟩
    · exact absurd hb2 hb
    · exact hm
  have hVb : V b := by
    rcases h.1 with ⟨h1, _⟩ | ⟨h1, _⟩
    · exact absurd h1 hb
    · exact h1
  refine ⟨(h.1.keep (fun x hx => hV x hx pre ((comp_leaf hl hp pre).2 rfl)) ⟨hVb, by omega⟩).congr hc (fun _ _ => rfl), ?_, h.2.2⟩
  rintro x (hx | hx)
  · exact h.2.1 x hx
  · exact hx.1
theorem Found.congr {v : List (List Int)} {sk : Int} {V W : List Int → Prop} {b : List Int} {m : Int} (h : Found v sk V b m) (e : ∀ x, V x ↔ W x) : Found v sk W b m :=
  ⟨h.1.congr e (fun _ _ => rfl), fun x hx => h.2.1 x ((e x).2 hx), h.2.2⟩

theorem pvTo_bound {v : List (List Int)} {sk : Int} {pre : List Int} (hv : Bids v) (hp : PartTo v.length sk pre pre.length) (hl : pre.length ≤ v.length) : 0 ≤ pvTo v sk pre pre.length ∧ pvTo v sk pre pre.length ≤ 1000000 * pre.length := by
  refine sumTo_bound (n := pre.length) (fun k hk => ?_) _ (Nat.le_refl _)
  by_cases e : (k : Int) = sk
  · simp [e]
  · rw [if_neg e]
    obtain ⟨h1, h2, _⟩ := (hp k hk).2 e
    exact (hv.2.2 k (by omega)).2 _ (by simp only [itm]; omega)
theorem pv_eq {v : List (List Int)} {sk : Int} {pre : List Int} (hl : pre.length = v.length) : pv v sk pre = pvTo v sk pre pre.length := by unfold pv; rw [hl]

/-- Where nobody is left out the lists are the assignments. -/
theorem part_isA {n : Nat} {x : List Int} : Part n (-1) x ↔ IsA x n := by
  constructor
  · rintro ⟨h1, h2⟩
    have h3 : ∀ k, k < n → 0 ≤ iget x k ∧ iget x k < n ∧ ∀ l, l < k → iget x l ≠ iget x k := fun k hk => by
      obtain ⟨a, b, c⟩ := (h2 k hk).2 (by omega)
      exact ⟨a, b, fun l hl => c l hl (by omega)⟩
    refine isA_of h1 (fun i hi => (h3 i hi).1) ⟨fun i hi => ?_, fun i j hi hj e => ?_⟩
    · have := h3 i hi; simp only [itm]; omega
    · have hi3 := h3 i hi
      have hj3 := h3 j hj
      have e' : iget x i = iget x j := by simp only [itm] at e; omega
      rcases Nat.lt_trichotomy i j with h | h | h
      · exact absurd e' (hj3.2.2 i h)
      · exact h
      · exact absurd e'.symm (hi3.2.2 j h)
  · intro h
    refine ⟨h.1, fun k hk => ⟨fun e => by omega, fun _ => ?_⟩⟩
    have := isA_lt h k hk
    refine ⟨this.1, by simp only [itm] at this; omega, fun l hl _ e => ?_⟩
    have := isA_inj h (by omega) hk e
    omega
theorem pv_worth {v : List (List Int)} {x : List Int} (h : x.length = v.length) : pv v (-1) x = worthI v x := by
  unfold pv pvTo worthI
  rw [h]
  exact sumTo_congr fun i _ => by rw [if_neg (by omega)]
end Go.Proofs.Ytojldecldemfaaa

/- The walk of slices.Clone at slices of integers; at most 900000 numbers. -/
namespace Go.Proofs.Ytojldecldemfaaa
set_option linter.unusedVariables false
set_option linter.unusedSimpArgs false
open Go.ChangeShapes Go.WideShapes Go.ChangeAt Go.RowKit Go.Deep

theorem Own.some_of {w : World} {base : Nat} {p : Option Addr} {c : Nat} {xs : List Int} (h : Own w base p c xs) (hne : xs ≠ []) : ∃ g, p = some ⟨g, 0, none⟩ := by
  rcases h.shape with ⟨_, _, rfl⟩ | ⟨g, rfl, _⟩
  · exact absurd rfl hne
  · exact ⟨g, rfl⟩

set_option maxHeartbeats 400000 in
theorem clone_any (p : Option Addr) (c : Nat) (xs : List Int) (w : World) (hx : Ints w p c xs) (hlen : xs.length ≤ 900000) :
    Calls Try.prog 78 #[.slice p xs.length c] w (Gives w xs) := by
  cases p with
  | none =>
    have hc := hx.nil rfl
    subst hc
    have hl : xs.length = 0 := by have := hx.le; omega
    obtain rfl : xs = [] := List.eq_nil_of_length_eq_zero hl
    have hq := fun W => Lib.run_eql_slice_nil (P := Try.prog) W 26 3 none 0 0 0 0 Try.underlying26
    go_enter Try.func78, Try.ntmps78
    go_wp2_with fail
    go_ret
    exact ⟨none, 0, rfl, Own.ofNil _ _, Below.refl _ _⟩
  | some a =>
    have hq := fun W => Lib.run_eql_slice_nil (P := Try.prog) W 26 3 (some a) xs.length c 0 0 Try.underlying26
    go_enter Try.func78, Try.ntmps78
    go_wp2_with (at_builtin; refine wpList_app rfl (.tmp 5) (.tmp 6) rfl w.heap.size _ _ _ _ [] xs rfl rfl (Own.made _ _ (Nat.le_refl _)) (hx.below ((Below.refl _ _).alloc (Nat.le_refl _) _) (Nat.le_refl _)) (by simp; omega) (by simp) ?_; intro p2 c2 w2 zs hz hO hg hf)
    obtain rfl : zs = xs := hz.out
    go_ret
    exact ⟨p2, c2, rfl, hO, ((Below.refl w.heap.size w).alloc (Nat.le_refl _) _).grown hg (by simp) (fun k e => by simp [blk] at e; omega)⟩
end Go.Proofs.Ytojldecldemfaaa
