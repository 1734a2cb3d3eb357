/- Rounds and snakes of a first round that has each agent once: valid turns, and balanced; plain, no program. -/
import Derived.Test.YtmcncflieoolmaaGreatTopTopGoodsm3
import Derived.Test.YtmcncflieoolmaaGreatTopTopGoodsm9
import Derived.Test.YtmcncflieoolmaaGreatTopTopGoodsm5
import Derived.Test.YtmcncflieoolmaaGreatTopTopGoodsm6
import Derived.Test.YtmcncflieoolmaaGreatTopTopGoodsm8
import Derived.Test.YtmcncflieoolmaaGreatTopTopGoodsm7
import Derived.Test.YtmcncflieoolmaaGreatTopTopGoodsm2
/- Rounds and snakes of a first round that has each agent once: valid turns, and balanced; plain, no program. -/
namespace Go.Proofs.YtmcncflieoolmaaGreat
set_option linter.unusedVariables false
set_option linter.unusedSimpArgs false
theorem seqL_get {f : List Int} {b : Bool} {m t : Nat} (h : t < m) : iget (seqL f b m) t = seqI f b t := by simp [seqL, iget, h]
theorem seq_turn {f : List Int} {n : Nat} (hA : IsA f n) (hn : 1 ≤ n) (b : Bool) (m : Nat) : TurnsOk (n : Int) (seqL f b m) := by
  intro t ht
  rw [seqL_len] at ht
  rw [seqL_get ht]
  obtain ⟨j, hj, he⟩ := seqI_mem (f := f) (b := b) (t := t) (by rw [hA.1]; omega)
  rw [hA.1] at hj
  have := isA_lt hA j hj
  unfold itm at this
  rw [he]; omega
theorem seq_chkT {f : List Int} {n : Nat} (hA : IsA f n) (hn : 1 ≤ n) (hn6 : n ≤ 6) (b : Bool) {m : Nat} (hm : m ≤ 60) : chkT (n : Int) (seqL f b m) = 0 :=
  chkT_zero.2 ⟨by omega, by omega, by rw [seqL_len]; exact hm, seq_turn hA hn b m⟩
theorem seq_bal {f : List Int} {n : Nat} (hA : IsA f n) (hn : 1 ≤ n) (b : Bool) (m : Nat) : BalTo n (seqL f b m) (seqL f b m).length := by
  intro s hs t ht
  rw [seqL_len] at hs
  rw [seqL_get hs, seqL_get (by omega)]
  rintro ⟨h1, h2⟩
  have hl := hA.1
  have m1 := Nat.mod_lt s (show 0 < n by omega)
  have m2 := Nat.mod_lt t (show 0 < n by omega)
  have d1 := Nat.div_add_mod s n
  have d2 := Nat.div_add_mod t n
  rw [h2] at d1
  unfold seqI at h1
  rw [hl, h2] at h1
  by_cases hb : b = true ∧ t / n % 2 = 1
  · rw [if_pos hb, if_pos hb] at h1
    have := isA_inj hA (by omega) (by omega) h1
    omega
  · rw [if_neg hb, if_neg hb] at h1
    have := isA_inj hA m1 m2 h1
    omega
theorem seq_balB {f : List Int} {n : Nat} (hA : IsA f n) (hn : 1 ≤ n) (hn6 : n ≤ 6) (b : Bool) {m : Nat} (hm : m ≤ 60) : balB (n : Int) (seqL f b m) = true := by
  rw [balB_ok (seq_chkT hA hn hn6 b hm)]
  exact decide_eq_true (seq_bal hA hn b m)
end Go.Proofs.YtmcncflieoolmaaGreat

/- Who is content up to one good has its share, divided by the number of agents; plain, no program. -/
namespace Go.Proofs.YtmcncflieoolmaaGreat
set_option linter.unusedVariables false
set_option linter.unusedSimpArgs false

theorem worthUp_sum (v : List (List Int)) (a : List Int) (i : Nat) (k : Int) : ∀ m, worthUp v a i k m = sumTo (fun j => if iget a j = k then iget (rget v i) j else 0) m
  | 0 => rfl
  | m + 1 => by rw [worthUp, sumTo, worthUp_sum v a i k m]
theorem sum_swap2 (f : Nat → Nat → Int) (m : Nat) : ∀ n, sumTo (fun i => sumTo (f i) m) n = sumTo (fun k => sumTo (fun i => f i k) n) m
  | 0 => by
    have : sumTo (fun k => sumTo (fun i => f i k) 0) m = sumTo (fun _ => (0 : Int)) m := rfl
    rw [this, sumTo_const]; simp [sumTo]
  | n + 1 => by
    have e : sumTo (fun k => sumTo (fun i => f i k) (n + 1)) m = sumTo (fun k => sumTo (fun i => f i k) n + f n k) m := rfl
    rw [e, sumTo_add, ← sum_swap2 f m n]
    rfl
theorem sum_pick (x : Int) (y : Int) : ∀ n : Nat, 0 ≤ y → y < n → sumTo (fun k => if y = (k : Int) then x else 0) n = x
  | 0, _, h => by omega
  | n + 1, h0, h => by
    rw [sumTo]
    by_cases e : y = (n : Int)
    · rw [if_pos e]
      have : sumTo (fun k => if y = (k : Int) then x else 0) n = sumTo (fun _ => (0 : Int)) n := sumTo_congr fun k hk => by rw [if_neg (by omega)]
      rw [this, sumTo_const]; omega
    · rw [if_neg e, sum_pick x y n h0 (by omega)]; omega
/-- One of n bundles holds none of fewer goods. -/
theorem miss {n : Nat} (f : Nat → Nat) {i : Nat} (hi : i < n) : ∃ b, b < n ∧ ∀ k, k < n → k ≠ i → f k ≠ b := by
  apply Classical.byContradiction
  intro hno
  have h : ∀ b, ∃ k, b < n → k < n ∧ k ≠ i ∧ f k = b := fun b => by
    by_cases hb : b < n
    · apply Classical.byContradiction
      intro hk
      exact hno ⟨b, hb, fun k h1 h2 h3 => hk ⟨k, fun _ => ⟨h1, h2, h3⟩⟩⟩
    · exact ⟨0, fun h => absurd h hb⟩
  have hs := fun b => Classical.choose_spec (h b)
  have hp : Per n (fun b => Classical.choose (h b)) := ⟨fun b hb => (hs b hb).1, fun b c hb hc e => by
    have h1 := (hs b hb).2.2
    have h2 := (hs c hc).2.2
    have e' : Classical.choose (h b) = Classical.choose (h c) := e
    rw [e'] at h1
    omega⟩
  obtain ⟨b, hb, e⟩ := hp.surj hi
  exact (hs b hb).2.1 e
/-- A complete allocation. -/
def FullA (n : Nat) (a : List Int) : Prop := ∀ j, j < a.length → 0 ≤ iget a j ∧ iget a j < n
theorem calm_good {v : List (List Int)} {a : List Int} (hC : CalmOne v a) {i k : Nat} (hi : i < v.length) (hk : k < v.length) (hlt : worth v a i (i : Int) < worth v a i (k : Int)) : ∃ j, j < a.length ∧ iget a j = (k : Int) ∧ worth v a i (k : Int) - worth v a i (i : Int) ≤ iget (rget v i) j := by
  have hm : (i, k, worth v a i (k : Int) - worth v a i (i : Int)) ∈ envT v a := by
    unfold envT
    refine List.mem_map.2 ⟨(i, k), prTo_mem.2 ⟨hi, hk, ?_⟩, rfl⟩
    unfold gP; rw [decide_eq_true_iff]; exact hlt
  have h := hC _ hm
  rw [anyN_true] at h
  obtain ⟨j, hj, h⟩ := h
  unfold fgP at h
  rw [decide_eq_true_iff] at h
  exact ⟨j, hj, h.1, h.2⟩
theorem share_le {v : List (List Int)} {a P : List Int} (hg : Gds v) (ha : AlcOk v a) (hf : FullA v.length a) (hC : CalmOne v a) (hPl : P.length = a.length) {i : Nat} (hi : i < v.length) :
    ∃ b, b < v.length ∧ worth v P i (b : Int) ≤ v.length * worth v a i (i : Int) := by
  have hx : ∀ j, j < a.length → 0 ≤ iget (rget v i) j := fun j hj => (gds_bid hg hi (by rw [← ha.1]; exact hj)).1
  have hex : ∀ k, ∃ j, k < v.length → worth v a i (i : Int) < worth v a i (k : Int) → j < a.length ∧ iget a j = (k : Int) ∧ worth v a i (k : Int) - worth v a i (i : Int) ≤ iget (rget v i) j := fun k => by
    by_cases h : k < v.length ∧ worth v a i (i : Int) < worth v a i (k : Int)
    · obtain ⟨j, hj⟩ := calm_good hC hi h.1 h.2
      exact ⟨j, fun _ _ => hj⟩
    · exact ⟨0, fun h1 h2 => absurd ⟨h1, h2⟩ h⟩
  obtain ⟨b, hb, hmiss⟩ := miss (fun k => (iget P (Classical.choose (hex k))).toNat) hi
  refine ⟨b, hb, ?_⟩
  have e1 : worth v P i (b : Int) = sumTo (fun j => sumTo (fun k : Nat => if iget a j = (k : Int) then (if iget P j = (b : Int) then iget (rget v i) j else 0) else 0) v.length) a.length := by
    unfold worth
    rw [worthUp_sum, hPl]
    exact sumTo_congr fun j hj => (sum_pick _ _ _ (hf j hj).1 (hf j hj).2).symm
  rw [e1, sum_swap2 (fun j (k : Nat) => if iget a j = (k : Int) then (if iget P j = (b : Int) then iget (rget v i) j else 0) else 0)]
  have hT : ∀ k, k < v.length → sumTo (fun j => if iget a j = (k : Int) then (if iget P j = (b : Int) then iget (rget v i) j else 0) else 0) a.length ≤ worth v a i (i : Int) := fun k hk => by
    have hle : ∀ j, j < a.length → (if iget a j = (k : Int) then (if iget P j = (b : Int) then iget (rget v i) j else 0) else 0) ≤ if iget a j = (k : Int) then iget (rget v i) j else 0 := fun j hj => by
      have := hx j hj
      split
      · split <;> omega
      · omega
    have hw : worth v a i (k : Int) = sumTo (fun j => if iget a j = (k : Int) then iget (rget v i) j else 0) a.length := by unfold worth; rw [worthUp_sum]
    by_cases hki : k = i
    · subst hki; rw [hw]; exact sumTo_le hle
    · by_cases hlt : worth v a i (i : Int) < worth v a i (k : Int)
      · obtain ⟨h1, h2, h3⟩ := Classical.choose_spec (hex k) hk hlt
        have hne := hmiss k hk hki
        have hPne : iget P (Classical.choose (hex k)) ≠ (b : Int) := fun e => hne (by rw [e]; simp)
        have h4 := sumTo_single_le (f := fun j => (if iget a j = (k : Int) then iget (rget v i) j else 0) - (if iget a j = (k : Int) then (if iget P j = (b : Int) then iget (rget v i) j else 0) else 0)) (n := a.length) (fun j hj => by have := hle j hj; omega) h1
        rw [sumTo_sub, ← hw] at h4
        simp only [if_pos h2, if_neg hPne] at h4
        omega
      · have := sumTo_le hle
        rw [← hw] at this
        omega
  have := sumTo_le hT
  rw [sumTo_const, Int.mul_comm] at this
  exact this
end Go.Proofs.YtmcncflieoolmaaGreat

/- The values of the own bundles; better allocations; plain, no program. -/
namespace Go.Proofs.YtmcncflieoolmaaGreat
set_option linter.unusedVariables false
set_option linter.unusedSimpArgs false

/-- What each one owns of the first m goods is worth to itself. -/
def ownUp (v : List (List Int)) (a : List Int) (m : Nat) : List Int := (List.range v.length).map fun (k : Nat) => worthUp v a k (Int.ofNat k) m
def ownL (v : List (List Int)) (a : List Int) : List Int := ownUp v a a.length
theorem ownUp_len (v : List (List Int)) (a : List Int) (m : Nat) : (ownUp v a m).length = v.length := by simp [ownUp]
theorem ownUp_get {v : List (List Int)} {a : List Int} {m k : Nat} (hk : k < v.length) : iget (ownUp v a m) k = worthUp v a k (k : Int) m := by simp [ownUp, iget, hk]
theorem ownL_len (v : List (List Int)) (a : List Int) : (ownL v a).length = v.length := ownUp_len ..
theorem ownL_get {v : List (List Int)} {a : List Int} {k : Nat} (hk : k < v.length) : iget (ownL v a) k = worth v a k (k : Int) := ownUp_get hk
theorem ownUp_zero (v : List (List Int)) (a : List Int) : ownUp v a 0 = List.replicate v.length 0 := by
  refine List.ext_getElem (by simp [ownUp]) fun k h1 h2 => ?_
  simp [ownUp, worthUp]
theorem ownUp_set {v : List (List Int)} {a : List Int} {m x : Nat} (hx : iget a m = (x : Int)) (hxl : x < v.length) :
    ownUp v a (m + 1) = (ownUp v a m).set x (iget (ownUp v a m) x + iget (rget v x) m) := by
  refine ext_iget (by rw [List.length_set, ownUp_len, ownUp_len]) fun j hj => ?_
  rw [ownUp_len] at hj
  rw [iget_set (by rw [ownUp_len]; exact hxl), ownUp_get hj, ownUp_get hxl]
  by_cases e : x = j
  · subst e
    rw [if_pos rfl, worthUp_eq hx]
  · rw [if_neg e, worthUp_ne (by rw [hx]; omega), ownUp_get hj]
theorem ownUp_none {v : List (List Int)} {a : List Int} {m : Nat} (hx : iget a m < 0) : ownUp v a (m + 1) = ownUp v a m := by
  refine ext_iget (by rw [ownUp_len, ownUp_len]) fun j hj => ?_
  rw [ownUp_len] at hj
  rw [ownUp_get hj, ownUp_get hj, worthUp_ne (by omega)]
/-- Values that are better than others. -/
def AboveP (now next : List Int) : Prop := (∀ i, i < now.length → iget now i ≤ iget next i) ∧ now ≠ next
instance (now next : List Int) : Decidable (AboveP now next) := by unfold AboveP; infer_instance
def aboveB (now next : List Int) : Bool := decide (AboveP now next)
end Go.Proofs.YtmcncflieoolmaaGreat

/- Lists of digits in order: their places; plain, no program. -/
namespace Go.Proofs.YtmcncflieoolmaaGreat
set_option linter.unusedVariables false
set_option linter.unusedSimpArgs false

/-- A list of m digits below n. -/
def DigL (n m : Nat) (a : List Int) : Prop := a.length = m ∧ ∀ j, j < m → 0 ≤ iget a j ∧ iget a j < n
/-- The place of the first k digits. -/
def vlN (n : Nat) (a : List Int) : Nat → Nat
  | 0 => 0
  | k + 1 => vlN n a k * n + (iget a k).toNat
theorem vlN_lt {n : Nat} {a : List Int} : ∀ k, (∀ j, j < k → 0 ≤ iget a j ∧ iget a j < n) → vlN n a k < n ^ k
  | 0, _ => by simp [vlN]
  | k + 1, h => by
    have ih := vlN_lt k (fun j hj => h j (by omega))
    have hk := h k (by omega)
    have h1 : (vlN n a k + 1) * n ≤ n ^ k * n := Nat.mul_le_mul_right n ih
    rw [Nat.add_mul, Nat.one_mul] at h1
    rw [vlN, Nat.pow_succ]
    omega
theorem vlN_inj {n : Nat} {a b : List Int} : ∀ k, (∀ j, j < k → 0 ≤ iget a j ∧ iget a j < n) → (∀ j, j < k → 0 ≤ iget b j ∧ iget b j < n) → vlN n a k = vlN n b k → ∀ j, j < k → iget a j = iget b j
  | 0, _, _, _ => fun j hj => by omega
  | k + 1, ha, hb, e => by
    have h1 := ha k (by omega)
    have h2 := hb k (by omega)
    rw [vlN, vlN] at e
    have hn : 0 < n := by omega
    have e1 : (iget a k).toNat = (iget b k).toNat := by
      have := congrArg (· % n) e
      simp only [Nat.mul_add_mod_self_right] at this
      rwa [Nat.mod_eq_of_lt (by omega), Nat.mod_eq_of_lt (by omega)] at this
    have e2 : vlN n a k = vlN n b k := Nat.eq_of_mul_eq_mul_right hn (by omega)
    intro j hj
    by_cases ej : j = k
    · subst ej; omega
    · exact vlN_inj k (fun j hj => ha j (by omega)) (fun j hj => hb j (by omega)) e2 j (by omega)
theorem vlN_congr {n : Nat} {a b : List Int} : ∀ k, (∀ j, j < k → iget a j = iget b j) → vlN n a k = vlN n b k
  | 0, _ => rfl
  | k + 1, h => by rw [vlN, vlN, vlN_congr k (fun j hj => h j (by omega)), h k (by omega)]
theorem vlN_succ {n : Nat} (hn : 0 < n) {a b : List Int} {k : Nat} (h0 : ∀ j, j < k → iget b j = iget a j) (hk0 : 0 ≤ iget a k) (hk : iget b k = iget a k + 1) : ∀ d, (∀ j, k < j → j ≤ k + d → iget a j = (n : Int) - 1 ∧ iget b j = 0) → vlN n b (k + 1 + d) = vlN n a (k + 1 + d) + 1
  | 0, _ => by
    show vlN n b (k + 1) = vlN n a (k + 1) + 1
    rw [vlN, vlN, vlN_congr k h0, hk]
    omega
  | d + 1, h => by
    have ih := vlN_succ hn h0 hk0 hk d (fun j h1 h2 => h j h1 (by omega))
    obtain ⟨e1, e2⟩ := h (k + 1 + d) (by omega) (by omega)
    show vlN n b (k + 1 + d + 1) = vlN n a (k + 1 + d + 1) + 1
    rw [vlN, vlN, ih, e1, e2, Nat.add_mul, Nat.one_mul]
    omega
theorem vlN_top {n : Nat} (hn : 0 < n) {a : List Int} : ∀ k, (∀ j, j < k → iget a j = (n : Int) - 1) → vlN n a k + 1 = n ^ k
  | 0, _ => by simp [vlN]
  | k + 1, h => by
    have ih := vlN_top hn k (fun j hj => h j (by omega))
    rw [vlN, h k (by omega), Nat.pow_succ, ← ih, Nat.add_mul, Nat.one_mul]
    omega
/-- The first k digits, zeros behind. -/
def zf (a : List Int) (k : Nat) : List Int := (List.range a.length).map fun j => if j < k then iget a j else 0
theorem zf_len (a : List Int) (k : Nat) : (zf a k).length = a.length := by simp [zf]
theorem zf_get {a : List Int} {k j : Nat} (hj : j < a.length) : iget (zf a k) j = if j < k then iget a j else 0 := by simp [zf, iget, hj]
theorem zf_full (a : List Int) : zf a a.length = a := ext_iget (zf_len _ _) fun j hj => by
  rw [zf_len] at hj
  rw [zf_get hj, if_pos hj]
theorem zf_step {a : List Int} {k : Nat} (hk : k < a.length) : (zf a (k + 1)).set k 0 = zf a k := ext_iget (by rw [List.length_set, zf_len, zf_len]) fun j hj => by
  rw [List.length_set, zf_len] at hj
  rw [iget_set (by rw [zf_len]; exact hk), zf_get hj, zf_get hj]
  by_cases e : k = j
  · subst e; rw [if_pos rfl, if_neg (by omega)]
  · rw [if_neg e]
    by_cases h : j < k
    · rw [if_pos (by omega), if_pos h]
    · rw [if_neg (by omega), if_neg h]
/-- The next list. -/
def upL (a : List Int) (k : Nat) : List Int := (zf a (k + 1)).set k (iget a k + 1)
theorem upL_get {a : List Int} {k j : Nat} (hk : k < a.length) (hj : j < a.length) : iget (upL a k) j = if j < k then iget a j else if j = k then iget a k + 1 else 0 := by
  unfold upL
  rw [iget_set (by rw [zf_len]; exact hk), zf_get hj]
  by_cases e : k = j
  · subst e; rw [if_pos rfl, if_neg (by omega), if_pos rfl]
  · rw [if_neg e]
    by_cases h : j < k
    · rw [if_pos (by omega), if_pos h]
    · rw [if_neg (by omega), if_neg h, if_neg (by omega)]
theorem upL_dig {n m : Nat} {a : List Int} {k : Nat} (h : DigL n m a) (hk : k < m) (hlt : iget a k ≠ (n : Int) - 1) : DigL n m (upL a k) := by
  refine ⟨by unfold upL; rw [List.length_set, zf_len]; exact h.1, fun j hj => ?_⟩
  have h1 := h.2 j hj
  have h2 := h.2 k hk
  rw [upL_get (by rw [h.1]; exact hk) (by rw [h.1]; exact hj)]
  split
  · exact h1
  · split
    · omega
    · omega
theorem upL_next {n m : Nat} {a : List Int} {k : Nat} (h : DigL n m a) (hk : k < m) (ht : ∀ j, k + 1 ≤ j → j < m → iget a j = (n : Int) - 1) : vlN n (upL a k) m = vlN n a m + 1 := by
  have h2 := h.2 k hk
  have hg : ∀ j, j < m → iget (upL a k) j = if j < k then iget a j else if j = k then iget a k + 1 else 0 := fun j hj => upL_get (by rw [h.1]; exact hk) (by rw [h.1]; exact hj)
  have := vlN_succ (n := n) (by omega) (a := a) (b := upL a k) (k := k) (fun j hj => by rw [hg j (by omega), if_pos hj]) h2.1 (by rw [hg k hk, if_neg (by omega), if_pos rfl]) (m - (k + 1)) (fun j h1 h3 => ⟨ht j (by omega) (by omega), by rw [hg j (by omega), if_neg (by omega), if_neg (by omega)]⟩)
  rwa [show k + 1 + (m - (k + 1)) = m by omega] at this
theorem dig_ext {n m : Nat} {a b : List Int} (ha : DigL n m a) (hb : DigL n m b) (e : vlN n a m = vlN n b m) : a = b :=
  ext_iget (by rw [ha.1, hb.1]) fun j hj => vlN_inj m ha.2 hb.2 e j (by rw [← ha.1]; exact hj)
/-- All lists up to one are among these. -/
def CovTo (n m : Nat) (pre : List (List Int)) (V : Nat) : Prop := ∀ b, DigL n m b → vlN n b m < V → b ∈ pre
theorem CovTo.more {n m : Nat} {pre : List (List Int)} {a : List Int} (h : CovTo n m pre (vlN n a m)) (ha : DigL n m a) : CovTo n m (pre ++ [a]) (vlN n a m + 1) := fun b hb hlt => by
  rw [List.mem_append, List.mem_singleton]
  by_cases e : vlN n b m = vlN n a m
  · exact .inr (dig_ext hb ha e)
  · exact .inl (h b hb (by omega))
def CovX (n m : Nat) (xs : List (List Int)) : Prop := ∀ b, DigL n m b → b ∈ xs
theorem CovTo.all {n m : Nat} {pre : List (List Int)} {a : List Int} (hn : 0 < n) (h : CovTo n m pre (vlN n a m + 1)) (ht : ∀ j, j < m → iget a j = (n : Int) - 1) : CovX n m pre := fun b hb => by
  refine h b hb ?_
  rw [vlN_top hn m ht]
  exact vlN_lt m hb.2
theorem zero_dig (n m : Nat) (hn : 0 < n) : DigL n m (List.replicate m 0) := ⟨by simp, fun j hj => by simp [iget, hj]; omega⟩
theorem zero_val (n m : Nat) : vlN n (List.replicate m 0) m = 0 := by
  have : ∀ k, k ≤ m → vlN n (List.replicate m 0) k = 0 := fun k => by
    induction k with
    | zero => intro _; rfl
    | succ k ih =>
      intro hk
      have : iget (List.replicate m (0 : Int)) k = 0 := by simp [iget, show k < m by omega]
      rw [vlN, ih (by omega), this]; simp
  exact this m (Nat.le_refl _)
end Go.Proofs.YtmcncflieoolmaaGreat

/- Ranging over an iterator that would go on for ever and that writes rows of its own between the rounds; it gives rows of numbers; the loop's body writes one box and the row that it names. -/
namespace Go.Proofs.YtmcncflieoolmaaGreat
set_option linter.unusedSimpArgs false
open Go.ChangeShapes Go.WideShapes Go.ChangeAt Go.RowKit Go.Deep
set_option linter.unusedVariables false

/-- The block of the slice in box O. -/
def outB (O : Nat) (W : World) : Option Nat := match W.cell? ⟨O, 0, none⟩ with
  | some (.slice p _ _) => blk p
  | _ => none
theorem outB_same {O : Nat} {W W' : World} (h : W'.heap[O]? = W.heap[O]?) : outB O W' = outB O W := by unfold outB; rw [World.cell?_of_block (w := W) (a := ⟨O, 0, none⟩) h]
def IsCells (W : World) (k : Nat) : Prop := ∃ o : Obj, W.heap[k]? = some o ∧ o.isCells = true
theorem IsCells.of_cell {W : World} {k j : Nat} {v : Value} (h : W.cell? ⟨k, j, none⟩ = some v) : IsCells W k := by
  unfold World.cell? at h
  cases hk : W.heap[k]? with
  | none => simp [hk] at h
  | some o =>
    refine ⟨o, hk, ?_⟩
    cases o <;> simp [hk, Obj.isCells] at h ⊢
/-- What the loop's body does: it writes box O and the row that it names. -/
structure KpO (O : Nat) (A B : World) : Prop where
  size : A.heap.size ≤ B.heap.size
  same : ∀ k, k < A.heap.size → IsCells A k → k ≠ O → outB O A ≠ some k → B.heap[k]? = A.heap[k]?
  fresh : ∀ k, outB O B = some k → outB O A = some k ∨ A.heap.size ≤ k
  lt : (∀ k, outB O A = some k → k < A.heap.size) → ∀ k, outB O B = some k → k < B.heap.size
theorem KpO.trans {O : Nat} {A B C : World} (h : KpO O A B) (k : KpO O B C) : KpO O A C := by
  refine ⟨Nat.le_trans h.size k.size, fun i hi hc hO ho => ?_, fun i hi => ?_, fun hl => k.lt (h.lt hl)⟩
  · have e := h.same i hi hc hO ho
    refine (k.same i (Nat.lt_of_lt_of_le hi h.size) ?_ hO fun e2 => ?_).trans e
    · obtain ⟨o, h1, h2⟩ := hc; exact ⟨o, e.trans h1, h2⟩
    · rcases h.fresh i e2 with h3 | h3
      · exact ho h3
      · omega
  · rcases k.fresh i hi with h1 | h1
    · exact h.fresh i h1
    · exact .inr (Nat.le_trans h.size h1)
theorem KpO.putObj {O : Nat} {W : World} {l : Nat} {o o' : Obj} (h : W.heap[l]? = some o) (hc : o.isCells = false) (hl : l ≠ O) : KpO O W (W.putObj l o') := by
  have e : outB O (W.putObj l o') = outB O W := outB_same (World.putObj_heap_other hl.symm)
  have hs : (W.putObj l o').heap.size = W.heap.size := by simp [World.putObj]
  refine ⟨by omega, fun k hk hc2 hO ho => World.putObj_heap_other fun e2 => ?_, fun k hk => .inl (e ▸ hk), fun h2 k hk => by rw [hs]; exact h2 k (e ▸ hk)⟩
  subst e2
  obtain ⟨o2, h1, h2⟩ := hc2
  rw [h] at h1; cases h1; rw [hc] at h2; cases h2
/-- What stands while only others' blocks turn. -/
def Stab (n O : Nat) (J : List (Nat × List Int) → World → Prop) : Prop :=
  ∀ s A B, J s A → A.heap.size ≤ B.heap.size → (B.os = A.os ∧ B.tape = A.tape ∧ B.output = A.output) → (∀ k, k < A.heap.size → (k < n ∨ (IsCells A k ∧ (outB O A = some k ∨ k ∈ s.map (·.1)))) → B.heap[k]? = A.heap[k]?) → J s B
theorem Stab.below {n O : Nat} {J : List (Nat × List Int) → World → Prop} (h : Stab n O J) {s : List (Nat × List Int)} {A B : World} (hJ : J s A) (hb : Below A.heap.size A B) : J s B :=
  h s A B hJ hb.size ⟨hb.os, hb.tape, hb.output⟩ fun k hk _ => hb.block k hk
theorem Stab.putObj {n O : Nat} {J : List (Nat × List Int) → World → Prop} (h : Stab n O J) {s : List (Nat × List Int)} {A : World} {l : Nat} {o o' : Obj} (hJ : J s A) (hn : n ≤ l) (ho : A.heap[l]? = some o) (hc : o.isCells = false) : J s (A.putObj l o') := by
  refine h s A _ hJ (by simp [World.putObj]) ⟨rfl, rfl, rfl⟩ fun k hk hq => World.putObj_heap_other fun e => ?_
  subst e
  rcases hq with h1 | ⟨⟨o2, h1, h2⟩, _⟩
  · omega
  · rw [ho] at h1; cases h1; rw [hc] at h2; cases h2
/-- A row that is given. -/
structure OkX (n O : Nat) (x : Nat × List Int) (W : World) : Prop where
  ge : n ≤ x.1
  ints : Ints W (some ⟨x.1, 0, none⟩) x.2.length x.2
  pos : 0 < x.2.length
  ne : outB O W ≠ some x.1
theorem OkX.cells {n O : Nat} {x : Nat × List Int} {W : World} (h : OkX n O x W) : IsCells W x.1 := IsCells.of_cell (j := 0 + 0) (h.ints.at h.pos)
end Go.Proofs.YtmcncflieoolmaaGreat

/- Ranging over an iterator that comes to its end, gives rows of numbers and writes rows of its own between the rounds; the loop's body writes only what lay before the loop, and what it makes. -/
namespace Go.Proofs.YtmcncflieoolmaaGreat
set_option linter.unusedSimpArgs false
open Go.ChangeShapes Go.WideShapes Go.ChangeAt Go.RowKit Go.Deep
set_option linter.unusedVariables false

theorem roundIn_any {m m' l : Nat} {f : FuncId} {tmps : Array Value} {assign body : Code} {w : World} {R : Ending → World → Prop} (h : RoundIn Fence.wide m Tryz.prog l f tmps assign body w R) : RoundIn Fence.wide m' Tryz.prog l f tmps assign body w R :=
  ⟨h.1, fun c cs _ => h.2 c cs (room_wide _)⟩
theorem yieldAt_any {m m' l : Nat} {args : Array Value} {W : World} {R : Ending → World → Prop} (h : YieldAt Fence.wide m Tryz.prog l args W R) : YieldAt Fence.wide m' Tryz.prog l args W R := by
  obtain ⟨fn, tmps, assign, body, h1, h2⟩ := h
  exact ⟨fn, tmps, assign, body, h1, roundIn_any h2⟩
/-- A row that is given: where it lies, its room, its numbers. -/
abbrev RX := Option Addr × Nat × List Int
def encR (x : RX) : Array Value := #[.slice x.1 x.2.2.length x.2.1]
/-- The cells from block n on lie as they lay. -/
structure KpR (n : Nat) (A B : World) : Prop where
  size : A.heap.size ≤ B.heap.size
  same : ∀ k, n ≤ k → k < A.heap.size → IsCells A k → B.heap[k]? = A.heap[k]?
theorem KpR.refl (n : Nat) (A : World) : KpR n A A := ⟨Nat.le_refl _, fun _ _ _ _ => rfl⟩
theorem KpR.trans {n : Nat} {A B C : World} (h : KpR n A B) (k : KpR n B C) : KpR n A C :=
  ⟨Nat.le_trans h.size k.size, fun i h1 h2 hc => by
    have e := h.same i h1 h2 hc
    refine (k.same i h1 (Nat.lt_of_lt_of_le h2 h.size) ?_).trans e
    obtain ⟨o, a, b⟩ := hc
    exact ⟨o, e.trans a, b⟩⟩
theorem KpR.mono {n n' : Nat} {A B : World} (h : KpR n A B) (hn : n ≤ n') : KpR n' A B := ⟨h.size, fun k h1 => h.same k (by omega)⟩
theorem KpR.below {n : Nat} {A B : World} (h : Below A.heap.size A B) : KpR n A B := ⟨h.size, fun k _ h2 _ => h.block k h2⟩
theorem KpR.putObj {n : Nat} {W : World} {l : Nat} {o o' : Obj} (h : W.heap[l]? = some o) (hc : o.isCells = false) : KpR n W (W.putObj l o') :=
  ⟨by simp [World.putObj], fun k _ _ hk => World.putObj_heap_other fun e => by
    subst e
    obtain ⟨o2, h1, h2⟩ := hk
    rw [h] at h1; cases h1; rw [hc] at h2; cases h2⟩
theorem KpR.setLow {n : Nat} {W : World} {O : Nat} {v : Value} (hO : O < n) : KpR n W (W.setCell ⟨O, 0, none⟩ v) :=
  ⟨(grownBy_setCell' W O v).size, fun k h1 _ _ => Below.heap_setCell W ⟨O, 0, none⟩ v k (fun e => by simp only at e; omega)⟩
/-- What stands while only blocks from n on turn. -/
def StabR (n : Nat) (J : List (List Int) → World → Prop) : Prop := ∀ s A B, J s A → Below n A B → J s B
/-- What stands while all cells lie as they lay. -/
structure SameC (n : Nat) (A B : World) : Prop where
  bel : Below n A B
  same : ∀ k, k < A.heap.size → IsCells A k → B.heap[k]? = A.heap[k]?
theorem SameC.below {n : Nat} {A B : World} (h : Below A.heap.size A B) (hn : n ≤ A.heap.size) : SameC n A B := ⟨h.mono hn, fun k h1 _ => h.block k h1⟩
theorem SameC.putObj {n : Nat} {W : World} {l : Nat} {o o' : Obj} (h : W.heap[l]? = some o) (hc : o.isCells = false) (hb : Below n W (W.putObj l o')) : SameC n W (W.putObj l o') :=
  ⟨hb, fun k _ hk => World.putObj_heap_other fun e => by
    subst e
    obtain ⟨o2, h1, h2⟩ := hk
    rw [h] at h1; cases h1; rw [hc] at h2; cases h2⟩
def StabX (n : Nat) (J : List (List Int) → World → Prop) : Prop := ∀ s A B, J s A → SameC n A B → J s B
def StabA (J : List (List Int) → World → Prop) : Prop := ∀ s A B, J s A → Below A.heap.size A B → J s B
/-- The iterator's contract. -/
def SeqR (gf : Nat) (lb : Array Value) (Pre : World → Prop) (P : List Int → Prop) (S : List (List Int) → Prop) : Prop :=
  ∀ (l : Nat) (J Jx : List (List Int) → World → Prop) (W : World), StabR W.heap.size J → StabA Jx → (∀ s A, J s A → Pre A) →
    (∀ pre (x : RX) W1, J pre W1 → W.heap.size ≤ W1.heap.size → Ints W1 x.1 x.2.1 x.2.2 → P x.2.2 → YieldAt Fence.wide 0 Tryz.prog l (encR x) W1 fun e W' =>
      (e = .returned (.bool true) ∧ J (pre ++ [x.2.2]) W' ∧ KpR W.heap.size W1 W') ∨ (e = .returned (.bool false) ∧ Jx (pre ++ [x.2.2]) W')) →
    J [] W → Calls Tryz.prog gf (#[.func (.yield l) #[] #[]] ++ lb) W fun e W' => (∃ v, e = .returned v) ∧ ((∃ xs, S xs ∧ J xs W') ∨ ∃ pre, Jx pre W')
/-- How a round may be left: at its end, or by a return. -/
def rowPost (n : Nat) (I Ix : List (List Int) → World → Prop) (xs : List (List Int)) (W : World) : Exit → Act → World → Prop
  | .normal, _, W' => KeepsOthers W W' ∧ KpR n W W' ∧ I xs W'
  | .ret, _, W' => KeepsOthers W W' ∧ Ix xs W'
  | _, _, _ => False

set_option maxHeartbeats 1000000 in
theorem range_row {n : Nat} {g : Operand} {ps : Array Tmp} {assign body : Code} {Q : Exit → Act → World → Prop} {a : Act} {w : World} (h1 : 1 ≤ n) {gf : Nat} {lb : Array Value}
    (hg : a.eval g = .func (.func gf) #[] lb) (eg : ∀ args W, (callFunc gf args).run Tryz.prog W = .ok (.enter gf args) W) {Pre : World → Prop} {P : List Int → Prop} {S : List (List Int) → Prop}
    (hseq : SeqR gf lb Pre P S) (hps : ps.size = 1)
    (I Ix : List (List Int) → World → Prop) (hI : StabR w.heap.size I) (hIx : StabX w.heap.size Ix) (hPre : ∀ s A, I s A → Pre A) (h0 : I [] w) (a₁ : RX → Act)
    (hassign : ∀ (l : Nat) (x : RX) (W : World) (K : Act → World → Prop), K (a₁ x) W →
      assign.wpIn (Fence.wide.inRound l) (n - 1 - 1) Tryz.prog (Exit.then K (fun _ _ _ => False)) { tmps := (ps.zip (encR x)).foldl (fun t (p, v) => t.setIfInBounds p v) a.tmps, defers := [] } W)
    (hbody : ∀ (l : Nat) (pre : List (List Int)) (x : RX) (W : World), I pre W → w.heap.size ≤ W.heap.size → Ints W x.1 x.2.1 x.2.2 → P x.2.2 → body.wpIn (Fence.wide.inRound l) (n - 1 - 1) Tryz.prog (rowPost w.heap.size I Ix (pre ++ [x.2.2]) W) (a₁ x) W)
    (hdone : ∀ (D : Nat) (xs : List (List Int)) (W : World), w.heap.size ≤ D → S xs → I xs W → W.heap[D]? = some (.deferred (some [])) → Q .normal { a with defers := { target := .collected D, args := #[] } :: a.defers } W)
    (hstop : ∀ (D : Nat) (pre : List (List Int)) (W : World), w.heap.size ≤ D → Ix pre W → W.heap[D]? = some (.deferred (some [])) → Code.ret.wpIn Fence.wide n Tryz.prog Q { a with defers := { target := .collected D, args := #[] } :: a.defers } W) :
    (Code.rangeFunc g ps assign body).wpIn Fence.wide n Tryz.prog Q a w := by
  refine wpIn_rangeFunc fun fn hfn => ?_
  obtain ⟨R, hR⟩ : ∃ R : LoopState → Option Code → Loop, R = fun st pe => { state := st, pending := pe, fn, tmps := a.tmps, params := ps, assign, body, defers := w.heap.size } := ⟨_, rfl⟩
  obtain ⟨V, hV⟩ : ∃ V, (w.alloc (.deferred (some []))).alloc (.loop (R .ready none)) = V := ⟨_, rfl⟩
  obtain ⟨L, hL⟩ : ∃ L, w.heap.size + 1 = L := ⟨_, rfl⟩
  have hvs : V.heap.size = w.heap.size + 2 := by rw [← hV]; simp
  have vL : V.heap[L]? = some (.loop (R .ready none)) := by
    have := World.alloc_heap_new (w.alloc (.deferred (some []))) (.loop (R .ready none))
    rw [World.size_alloc, hL, hV] at this
    exact this
  have vD : V.heap[w.heap.size]? = some (.deferred (some [])) := by
    rw [← hV]; exact (Below.heap_alloc _ _ _ (by simp)).trans (World.alloc_heap_new w _)
  have vB : Below w.heap.size w V := by rw [← hV]; exact ((Below.refl _ w).alloc (Nat.le_refl _) _).alloc (by simp) _
  have vI : I [] V := hI _ _ _ h0 vB
  have hLD : L ≠ w.heap.size := by omega
  have put : ∀ {A : World} {o o' : Obj}, A.heap[L]? = some o → Below w.heap.size A (A.putObj L o') := fun {A o o'} h =>
    (Below.refl w.heap.size A).grown (grownBy_putObj' A L o') (by have := (Array.getElem?_eq_some_iff.1 h).1; omega) (fun k e => by cases e; omega)
  let At : Loop → World → Prop := fun r W => W.heap[L]? = some (.loop r) ∧ W.heap[w.heap.size]? = some (.deferred (some []))
  have at_others : ∀ {r : Loop} {A B : World}, At r A → KeepsOthers A B → At r B := fun ha hk => ⟨hk.same _ _ ha.1 rfl, hk.same _ _ ha.2 rfl⟩
  have at_put : ∀ {r r' : Loop} {A : World}, At r A → At r' (A.putObj L (.loop r')) := fun ha =>
    ⟨World.putObj_heap_same (Array.getElem?_eq_some_iff.1 ha.1).1, (World.putObj_heap_other hLD.symm).trans ha.2⟩
  have at_stab : ∀ {r : Loop} {A B : World}, At r A → Below V.heap.size A B → At r B := fun ha hb => ⟨(hb.block L (by omega)).trans ha.1, (hb.block _ (by omega)).trans ha.2⟩
  refine ⟨L, [{ target := .collected w.heap.size, args := #[] }], V, { target := .fn (.func gf) lb, args := #[.func (.yield L) #[] #[]] }, V, gf, #[.func (.yield L) #[] #[]] ++ lb, V, ?_, ?_, fun f' _ => trivial, ?_, fun _ => h1, ?_⟩
  · have := run_enterLoop_outer (P := Tryz.prog) (w := w) fn a.tmps ps assign body
    rw [hL] at this
    rw [← hV, hR]
    exact this
  · simp only [resolve, hg]; simp [go_sem]
  · simp [invoke, go_sem, eg]
  refine callsIn_wide.2 ((hseq L (fun pre W => I pre W ∧ At (R .ready none) W) (fun pre W => Ix pre W ∧ At (R .done (some .ret)) W) V
    (fun s A B hs hb => ⟨hI s A B hs.1 (hb.mono (by omega)), at_stab hs.2 hb⟩)
    (fun s A B hs hb => ⟨hIx s A B hs.1 (SameC.below hb (by have := (Array.getElem?_eq_some_iff.1 hs.2.1).1; omega)), (hb.block L (Array.getElem?_eq_some_iff.1 hs.2.1).1).trans hs.2.1, (hb.block _ (Array.getElem?_eq_some_iff.1 hs.2.2).1).trans hs.2.2⟩)
    (fun s A hs => hPre s A hs.1) ?round ⟨vI, vL, vD⟩).mono ?behind)
  case round =>
    rintro pre x W ⟨hi, ha⟩ hsz hok hP
    refine yieldAt_any (m := n - 1 - 1) ?_
    have hy := run_yield (P := Tryz.prog) (args := encR x) ha.1 (by rw [hR]; exact hps.symm)
    rw [hR] at hy
    refine ⟨fn, _, assign, body, hy, roundIn_of_wpIn hfn (hassign _ x W _ ⟨_, run_beginRound ha.1 (by rw [hR]), ?_⟩)⟩
    have ha2 := at_put (r' := { R .ready none with state := .busy }) ha
    have hk2 : KpR V.heap.size W (W.putObj L (.loop { R .ready none with state := .busy })) := KpR.putObj ha.1 rfl
    have hx2 : Ints (W.putObj L (.loop { R .ready none with state := .busy })) x.1 x.2.1 x.2.2 := by
      refine hok.keep (by simp [World.putObj]) (fun ad e hpos => World.putObj_heap_other fun e2 => ?_)
      obtain ⟨b, o, e3, _, hc⟩ := hok.get hpos
      rw [e] at e3
      cases e3
      obtain ⟨ob, h1, h2⟩ := IsCells.of_cell hc
      rw [show b = L from e2, ha.1] at h1
      cases h1; cases h2
    refine wpIn_mono (hbody _ pre x _ (hI _ _ _ hi (put ha.1)) (by simp [World.putObj]; omega) hx2 hP) fun e a3 W3 hp => ?_
    cases e with
    | normal =>
      obtain ⟨k1, k2, k3⟩ := hp
      have ha3 := at_others ha2 k1
      have hr := run_endRound (P := Tryz.prog) none ha3.1
      have ha4 := at_put (r' := R .ready none) ha3
      rw [hR] at hr ha3 ha4
      refine ⟨_, _, hr, .inl ⟨rfl, ⟨hI _ _ _ k3 (put ha3.1), ?_⟩, (hk2.trans (k2.mono (by omega))).trans (KpR.putObj ha3.1 rfl)⟩⟩
      rw [hR]; exact ha4
    | ret =>
      obtain ⟨k1, k3⟩ := hp
      have ha3 := at_others ha2 k1
      have hr := run_endRound (P := Tryz.prog) (some .ret) ha3.1
      have ha4 := at_put (r' := R .done (some .ret)) ha3
      rw [hR] at hr ha3 ha4
      refine ⟨_, _, hr, .inr ⟨rfl, hIx _ _ _ k3 (SameC.putObj ha3.1 rfl (put ha3.1)), ?_⟩⟩
      rw [hR]; exact ha4
    | exit i => exact hp.elim
    | goto t => exact hp.elim
    | panic ch => exact hp.elim
    | outgrown => exact hp.elim
  case behind =>
    rintro e W2 ⟨⟨v, rfl⟩, ⟨xs, hS, hi, ha⟩ | ⟨pre, hi, ha⟩⟩
    · have hr := run_endLoop (P := Tryz.prog) ha.1 (by rw [hR]; simp)
      rw [hR] at hr
      exact ⟨none, _, hr, hdone _ xs _ (Nat.le_refl _) hS (hI _ _ _ hi (put ha.1)) ((World.putObj_heap_other hLD.symm).trans ha.2)⟩
    · have hr := run_endLoop (P := Tryz.prog) ha.1 (by rw [hR]; simp)
      rw [hR] at hr
      exact ⟨some .ret, _, hr, hstop _ pre _ (Nat.le_refl _) (hIx _ _ _ hi (SameC.putObj ha.1 rfl (put ha.1))) ((World.putObj_heap_other hLD.symm).trans ha.2)⟩
end Go.Proofs.YtmcncflieoolmaaGreat

/- Matrices of the call's own, beside others: what stays, and a store into one number; no condition. -/
namespace Go.Proofs.YtmcncflieoolmaaGreat
open Go.ChangeShapes Go.WideShapes Go.ChangeAt Go.RowKit Go.Deep
set_option linter.unusedVariables false
set_option linter.unusedSimpArgs false

theorem ownsRow_move {w w' : World} {base e n : Nat} {v : Value} {xs : List Value} (h : w.ownsRow base e 1 v n xs) (hk : ∀ k, v.ownBlock = some k → w'.heap[k]? = w.heap[k]?) : w'.ownsRow base e 1 v n xs := by
  refine ⟨h.1, ?_⟩
  rcases h.2 with h1 | ⟨g, cap, cur, rfl, h3, h5, r⟩
  · exact .inl h1
  · exact .inr ⟨g, cap, cur, rfl, h3, (hk g rfl).trans h5, r⟩
theorem Own.move {w w' : World} {base : Nat} {p : Option Addr} {c : Nat} {xs : List Int} (h : Own w base p c xs) (hk : ∀ k, blk p = some k → w'.heap[k]? = w.heap[k]?) : Own w' base p c xs :=
  ⟨ownsRow_move h.row (by rw [ownBlock_slice]; exact hk), h.rng⟩
/-- All its blocks lie below B. -/
def Within (B : Nat) (p : Option Addr) (n : Nat) (Q : Nat → Option Addr) : Prop := (∀ k, blk p = some k → k < B) ∧ ∀ j, j < n → ∀ k, blk (Q j) = some k → k < B
theorem DMat.within {w : World} {base : Nat} {p : Option Addr} {c : Nat} {v : List (List Int)} {Q : Nat → Option Addr} {D : Nat → Nat} (h : DMat w base p c v Q D) : Within w.heap.size p v.length Q :=
  ⟨fun k hk => (h.tmat.lt k hk).2, fun j hj k hk => ((h.rows j hj).lt k hk).2⟩
theorem DMat.move {w w' : World} {base : Nat} {p : Option Addr} {c : Nat} {v : List (List Int)} {Q : Nat → Option Addr} {D : Nat → Nat} (h : DMat w base p c v Q D)
    (h1 : ∀ k, blk p = some k → w'.heap[k]? = w.heap[k]?) (h2 : ∀ j, j < v.length → ∀ k, blk (Q j) = some k → w'.heap[k]? = w.heap[k]?) : DMat w' base p c v Q D :=
  ⟨ownsRow_move h.top (by rw [ownBlock_slice]; exact h1), fun j hj => (h.rows j hj).move (h2 j hj), h.apart⟩
/-- All its blocks lie from base on: what turns only blocks below base leaves it. -/
theorem DMat.above {w w' : World} {base : Nat} {p : Option Addr} {c : Nat} {v : List (List Int)} {Q : Nat → Option Addr} {D : Nat → Nat} (h : DMat w base p c v Q D) (hk : ∀ k, base ≤ k → w'.heap[k]? = w.heap[k]?) : DMat w' base p c v Q D :=
  h.move (fun k e => hk k (h.tmat.lt k e).1) (fun j hj k e => hk k ((h.rows j hj).lt k e).1)
end Go.Proofs.YtmcncflieoolmaaGreat
