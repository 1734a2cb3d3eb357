/- Lists of digits in their order, and the first list of the greatest value; plain, no program. -/
import Derived.Test.YtmcncflieoolmaaGreatTopTopGoodsm8
import Derived.Test.YtmcncflieoolmaaGreatTopTopGoodsm7
import Derived.Test.YtmcncflieoolmaaGreatTopTopGoodsm2
import Derived.Test.YtmcncflieoolmaaGreatTopTopGoodsm1
/- Lists of digits in their order, and the first list of the greatest value; plain, no program. -/
namespace Go.Proofs.YtmcncflieoolmaaGreat
set_option linter.unusedVariables false
set_option linter.unusedSimpArgs false

/-- a comes before b in the order of lists. -/
def llt (a b : List Int) : Prop := ∃ i, i < a.length ∧ (∀ j, j < i → iget a j = iget b j) ∧ iget a i < iget b i
theorem llt_asymm {a b : List Int} (h : llt a b) : ¬ llt b a := by
  obtain ⟨i, hi, h1, h2⟩ := h
  rintro ⟨j, hj, k1, k2⟩
  rcases Nat.lt_trichotomy i j with h | h | h
  · have := k1 i h; omega
  · subst h; omega
  · have := h1 j h; omega

/-- The first list of the greatest value among those that meet S; the empty list: there is none. -/
def FirstMax (S : List Int → Prop) (f : List Int → Int) (b : List Int) : Prop :=
  (b = [] ∧ ∀ x, ¬ S x) ∨ (S b ∧ ∀ x, S x → f x < f b ∨ (f x = f b ∧ (x = b ∨ llt b x)))
theorem FirstMax.uniq {S : List Int → Prop} {f : List Int → Int} {a b : List Int} (h : FirstMax S f a) (k : FirstMax S f b) : a = b := by
  rcases h with ⟨rfl, h⟩ | ⟨h1, h2⟩
  · rcases k with ⟨rfl, _⟩ | ⟨k1, _⟩
    · rfl
    · exact absurd k1 (h b)
  · rcases k with ⟨rfl, k⟩ | ⟨k1, k2⟩
    · exact absurd h1 (k a)
    · rcases h2 b k1 with e1 | ⟨e1, e2⟩
      · rcases k2 a h1 with e3 | ⟨e3, _⟩ <;> omega
      · rcases k2 a h1 with e3 | ⟨e3, e4⟩
        · omega
        · rcases e2 with rfl | e2
          · rfl
          · rcases e4 with rfl | e4
            · rfl
            · exact absurd e4 (llt_asymm e2)
theorem FirstMax.congr {S T : List Int → Prop} {f g : List Int → Int} {a : List Int} (h : FirstMax S f a) (e : ∀ x, S x ↔ T x) (eg : ∀ x, S x → f x = g x) : FirstMax T g a := by
  rcases h with ⟨rfl, h⟩ | ⟨h1, h2⟩
  · exact .inl ⟨rfl, fun x hx => h x ((e x).2 hx)⟩
  · refine .inr ⟨(e a).1 h1, fun x hx => ?_⟩
    rw [← eg x ((e x).2 hx), ← eg a h1]
    exact h2 x ((e x).2 hx)
/-- One list more, behind all others in the order. -/
theorem FirstMax.add {S : List Int → Prop} {f : List Int → Int} {b c : List Int} (h : FirstMax S f b) (hb : ∀ x, S x → llt x c) (hgt : (b = [] ∧ ∀ x, ¬ S x) ∨ (S b ∧ f b < f c)) : FirstMax (fun x => S x ∨ x = c) f c := by
  refine .inr ⟨.inr rfl, ?_⟩
  rintro x (hx | rfl)
  · rcases hgt with ⟨_, hn⟩ | ⟨_, hgt⟩
    · exact absurd hx (hn x)
    · rcases h with ⟨_, h⟩ | ⟨h1, h2⟩
      · exact absurd hx (h x)
      · rcases h2 x hx with h3 | ⟨h3, _⟩
        · exact .inl (by omega)
        · exact .inl (by omega)
  · exact .inr ⟨rfl, .inl rfl⟩
theorem FirstMax.keep {S : List Int → Prop} {f : List Int → Int} {b c : List Int} (h : FirstMax S f b) (hb : ∀ x, S x → llt x c) (hle : S b ∧ f c ≤ f b) : FirstMax (fun x => S x ∨ x = c) f b := by
  refine .inr ⟨.inl hle.1, ?_⟩
  rcases h with ⟨_, h⟩ | ⟨_, h2⟩
  · exact absurd hle.1 (h b)
  · rintro x (hx | rfl)
    · exact h2 x hx
    · by_cases e : f x < f b
      · exact .inl e
      · exact .inr ⟨by omega, .inr (hb b hle.1)⟩
theorem FirstMax.skip {S : List Int → Prop} {f : List Int → Int} {b : List Int} {T : List Int → Prop} (h : FirstMax S f b) (e : ∀ x, T x ↔ S x) : FirstMax T f b := h.congr (fun x => (e x).symm) (fun _ _ => rfl)

/-! ### Assignments as lists -/
theorem isA_lt {a : List Int} {n : Nat} (h : IsA a n) : ∀ i, i < n → 0 ≤ iget a i ∧ itm a i < n := by
  -- each number below n stands once; there is no room for another
  intro i hi
  have hnd : ((List.range n).map fun j : Nat => (j : Int)).Nodup := by
    rw [List.nodup_iff_pairwise_ne, List.pairwise_map]
    have := List.nodup_range (n := n)
    rw [List.nodup_iff_pairwise_ne] at this
    exact this.imp (fun hne e => hne (by omega))
  have hsub : ∀ x, x ∈ (List.range n).map (fun j : Nat => (j : Int)) → x ∈ a := by
    intro x hx
    obtain ⟨j, hj, rfl⟩ := List.mem_map.1 hx
    have := h.2 j (List.mem_range.1 hj)
    exact List.count_pos_iff.1 (by omega)
  have hp : ((List.range n).map fun j : Nat => (j : Int)).Perm a := by
    obtain ⟨l, hl⟩ : ∃ l, a.Perm ((List.range n).map (fun j : Nat => (j : Int)) ++ l) := by
      have : ∀ (u v : List Int), u.Nodup → (∀ x, x ∈ u → x ∈ v) → ∃ l, v.Perm (u ++ l) := by
        intro u
        induction u with
        | nil => intro v _ _; exact ⟨v, by simp⟩
        | cons x u ih =>
          intro v hu hv
          have hx := hv x (by simp)
          have hnx := (List.nodup_cons.1 hu).1
          obtain ⟨l, hl⟩ := ih (v.erase x) (List.nodup_cons.1 hu).2 (fun y hy => by
            have hne : y ≠ x := fun e => hnx (e ▸ hy)
            exact (List.mem_erase_of_ne hne).2 (hv y (List.mem_cons_of_mem _ hy)))
          exact ⟨l, (List.perm_cons_erase hx).trans (hl.cons x)⟩
      exact this _ _ hnd hsub
    have hlen := hl.length_eq
    rw [h.1, List.length_append, List.length_map, List.length_range] at hlen
    obtain rfl : l = [] := List.eq_nil_of_length_eq_zero (by omega)
    rw [List.append_nil] at hl
    exact hl.symm
  have hm := iget_mem (xs := a) (k := i) (by rw [h.1]; exact hi)
  obtain ⟨j, hj, e⟩ := List.mem_map.1 (hp.symm.mem_iff.1 hm)
  have := List.mem_range.1 hj
  simp only [itm, ← e]; omega
theorem isA_inj {a : List Int} {n : Nat} (h : IsA a n) {i j : Nat} (hi : i < n) (hj : j < n) (e : iget a i = iget a j) : i = j := by
  apply Classical.byContradiction
  intro hne
  obtain ⟨h0, h1⟩ := isA_lt h i hi
  have hc := h.2 (itm a i) h1
  have e1 : ((itm a i : Nat) : Int) = iget a i := by simp only [itm]; omega
  rw [e1] at hc
  have key : ∀ (l : List Int) (i j : Nat) (x : Int), i < j → l[i]? = some x → l[j]? = some x → 2 ≤ l.count x := by
    intro l
    induction l with
    | nil => intro i j x _ h _; simp at h
    | cons y l ih =>
      intro i j x hlt h1 h2
      cases j with
      | zero => omega
      | succ j =>
        rw [List.getElem?_cons_succ] at h2
        cases i with
        | zero =>
          simp at h1; subst h1
          rw [List.count_cons_self]
          have : 0 < l.count y := List.count_pos_iff.2 (List.mem_of_getElem? h2)
          omega
        | succ i =>
          rw [List.getElem?_cons_succ] at h1
          have := ih i j x (by omega) h1 h2
          have h3 : l.count x ≤ (y :: l).count x := List.count_le_count_cons
          omega
  have g1 : a[i]? = some (iget a i) := by rw [iget_of (by rw [h.1]; exact hi)]; simp [h.1, hi]
  have g2 : a[j]? = some (iget a i) := by rw [e, iget_of (by rw [h.1]; exact hj)]; simp [h.1, hj]
  rcases Nat.lt_or_gt_of_ne hne with h3 | h3
  · have := key a i j _ h3 g1 g2; omega
  · have := key a j i _ h3 g2 g1; omega
theorem isA_per {a : List Int} {n : Nat} (h : IsA a n) : Per n (itm a) := ⟨fun i hi => (isA_lt h i hi).2, fun i j hi hj e => isA_inj h hi hj (by
  have := isA_lt h i hi; have := isA_lt h j hj; simp only [itm] at e; omega)⟩
theorem isA_of {a : List Int} {n : Nat} (hl : a.length = n) (h0 : ∀ i, i < n → 0 ≤ iget a i) (hp : Per n (itm a)) : IsA a n := by
  refine ⟨hl, fun j hj => ?_⟩
  have hnd : a.Nodup := by
    rw [List.nodup_iff_pairwise_ne, List.pairwise_iff_getElem]
    intro i k hi hk hik e
    have := hp.inj i k (by omega) (by omega) (by simp only [itm]; rw [iget_of hi, iget_of hk, e])
    omega
  rw [hnd.count, if_pos]
  obtain ⟨i, hi, e⟩ := hp.surj hj
  have : iget a i = (j : Int) := by have := h0 i hi; simp only [itm] at e; omega
  rw [← this]
  exact iget_mem (by omega)
/-- The best assignment of valid bids: the first of the greatest value. -/
def IsBest (v : List (List Int)) (a : List Int) : Prop := IsA a v.length ∧ FirstMax (fun x => IsA x v.length) (worthI v) a
theorem IsBest.uniq {v : List (List Int)} {a b : List Int} (h : IsBest v a) (k : IsBest v b) : a = b := h.2.uniq k.2
theorem IsBest.max {v : List (List Int)} {a b : List Int} (h : IsBest v a) (hb : IsA b v.length) (h0 : 0 < v.length) : worthI v b ≤ worthI v a := by
  rcases h.2 with ⟨rfl, h2⟩ | ⟨_, h2⟩
  · exact absurd hb (h2 b)
  · rcases h2 b hb with h3 | ⟨h3, _⟩ <;> omega
end Go.Proofs.YtmcncflieoolmaaGreat

/- A list whose sorted form is 0, 1, .. n-1 is a list that has each number below n once; no program in sight. -/
namespace Go.Proofs.YtmcncflieoolmaaGreat
set_option linter.unusedVariables false
set_option linter.unusedSimpArgs false

/-- What assign.assignment answers. -/
def AsgP (a : List Int) (n : Nat) : Prop := (∀ j, j < (srt a).length → iget (srt a) j = j) ∧ (srt a).length = n

/-- 0, 1, .. n-1. -/
def upto (n : Nat) : List Int := (List.range n).map fun (k : Nat) => (k : Int)
theorem count_upto (n : Nat) : ∀ j : Nat, (upto n).count (j : Int) = if j < n then 1 else 0 := by
  induction n with
  | zero => intro j; simp [upto]
  | succ n ih =>
    intro j
    unfold upto at *
    rw [List.range_succ, List.map_append, List.count_append, ih j]
    simp only [List.map_cons, List.map_nil, List.count_cons, List.count_nil]
    by_cases h : j = n
    · subst h; simp
    · have : ((n : Int) == (j : Int)) = false := by rw [beq_eq_false_iff_ne]; omega
      rw [this]
      by_cases h2 : j < n
      · rw [if_pos h2, if_pos (show j < n + 1 by omega)]; simp
      · rw [if_neg h2, if_neg (show ¬ j < n + 1 by omega)]; simp

theorem sorted_upto : ∀ (n : Nat) , (upto n).Pairwise (· ≤ ·) := by
  intro n
  unfold upto
  rw [List.pairwise_map]
  exact List.pairwise_lt_range.imp (fun h => by omega)

theorem asgP_iff (a : List Int) (n : Nat) : AsgP a n ↔ IsA a n := by
  constructor
  · rintro ⟨h1, h2⟩
    rw [srt_length] at h2
    refine ⟨h2, fun j hj => ?_⟩
    have he : srt a = upto n := by
      apply List.ext_getElem
      · rw [srt_length, h2]; simp [upto]
      · intro i h3 h4
        rw [← iget_of h3, h1 i h3]; simp [upto]
    rw [← (srt_perm a).count_eq, he, count_upto, if_pos hj]
  · intro h
    have hp : (upto n).Perm a := by
      rw [List.perm_iff_count]
      intro x
      by_cases hx : 0 ≤ x ∧ x < n
      · obtain ⟨k, rfl⟩ : ∃ k : Nat, x = k := ⟨x.toNat, by omega⟩
        have hk : k < n := by omega
        rw [count_upto, if_pos hk, h.2 k hk]
      · rw [List.count_eq_zero.2 (fun hm => ?_), List.count_eq_zero.2 (fun hm => ?_)]
        · obtain ⟨i, hi, rfl⟩ := List.getElem_of_mem hm
          have := isA_lt h i (by rw [← h.1]; exact hi)
          unfold itm at this
          rw [iget_of hi] at this
          omega
        · unfold upto at hm
          obtain ⟨k, hk, rfl⟩ := List.mem_map.1 hm
          rw [List.mem_range] at hk
          omega
    have he : srt a = upto n :=
      List.Perm.eq_of_pairwise (le := (· ≤ ·)) (fun x y _ _ h1 h2 => Int.le_antisymm h1 h2) (srt_sorted a) (sorted_upto n) ((srt_perm a).trans hp.symm)
    refine ⟨fun j hj => ?_, by rw [srt_length, h.1]⟩
    rw [iget_of hj]
    simp [he, upto]

end Go.Proofs.YtmcncflieoolmaaGreat

/- The walks of robin.some, Rounds and Snake, for every first round and number; no condition but sizes. -/
namespace Go.Proofs.YtmcncflieoolmaaGreat
set_option linter.unusedSimpArgs false
open Go.ChangeShapes Go.WideShapes Go.ChangeAt Go.RowKit Go.Deep
set_option linter.unusedVariables false
attribute [local go_sem] Oper.semAt_some

/-- What is answered of a first round and a number of turns. -/
def rndE (f : List Int) (many : Int) : Int := if 6 < f.length then 4 else if f.length = 0 ∨ ¬ IsA f f.length then 8 else if many < 0 ∨ 60 < many then 2 else 0
def rndL (f : List Int) (b : Bool) (many : Int) : List Int := if rndE f many = 0 then seqL f b many.toNat else []
theorem rndE_many {f : List Int} {m : Int} (h : 6 < f.length) : rndE f m = 4 := if_pos h
theorem rndE_bad {f : List Int} {m : Int} (h : ¬ 6 < f.length) (h2 : f.length = 0 ∨ ¬ IsA f f.length) : rndE f m = 8 := by unfold rndE; rw [if_neg h, if_pos h2]
theorem rndE_arg {f : List Int} {m : Int} (h : ¬ 6 < f.length) (h2 : ¬ (f.length = 0 ∨ ¬ IsA f f.length)) (h3 : m < 0 ∨ 60 < m) : rndE f m = 2 := by unfold rndE; rw [if_neg h, if_neg h2, if_pos h3]
theorem rndE_ok {f : List Int} {m : Int} (h : ¬ 6 < f.length) (h2 : ¬ (f.length = 0 ∨ ¬ IsA f f.length)) (h3 : ¬ (m < 0 ∨ 60 < m)) : rndE f m = 0 := by unfold rndE; rw [if_neg h, if_neg h2, if_neg h3]
theorem rndL_bad {f : List Int} {b : Bool} {m : Int} (h : ¬ rndE f m = 0) : rndL f b m = [] := if_neg h

/-- Between two rounds: box O holds a row of the call's own, from n on, with what has come. -/
def Got2 (w2 : World) (O n : Nat) (pre : List Int) (W : World) : Prop :=
  ∃ p c, OneV W O (.slice p pre.length c) 25 ∧ W.ownsRow n 3 1 (.slice p pre.length c) pre.length (pre.map (Value.int .i64)) ∧ Keeps O n w2 W ∧ n ≤ W.heap.size
theorem got2_own (w2 : World) (O n : Nat) (hO : O < n) : OwnFrom n (Got2 w2 O n) := by
  rintro s W W' row ⟨p, c, h1, h2, h3, h4⟩ hg hr
  refine ⟨p, c, h1.kept hg (fun r e => (hr r e).2), h2.kept hg ?_, h3.grown h4 hO hg (fun k e => (hr k e).1), Nat.le_trans h4 hg.size⟩
  cases hk : (Value.slice p s.length c).ownBlock with
  | none => exact .inl rfl
  | some k =>
    refine .inr fun e => ?_
    obtain ⟨_, o, ho, hc⟩ := hr k e.symm
    obtain ⟨_, o', ho', hc'⟩ := row_cells h2 hk
    rw [ho] at ho'; cases ho'; rw [hc] at hc'; cases hc'
/-- A round's store into the box. -/
theorem got2_stored {w2 W w3 : World} {O n : Nat} {p1 p' : Option Addr} {c1 c' : Nat} {pre : List Int} {x : Int} {vs : Array Value} {t' : TypeId} (hO : O < n)
    (g1 : OneV W O (.slice p1 pre.length c1) 25) (g2 : W.ownsRow n 3 1 (.slice p1 pre.length c1) pre.length (pre.map (Value.int .i64))) (g3 : Keeps O n w2 W) (g4 : n ≤ W.heap.size)
    (hg3 : (W.alloc (.cells vs t')).grownBy w3 (Value.slice p1 pre.length c1).ownBlock) (hown : w3.ownsRow n 3 1 (.slice p' (pre.length + 1) c') (pre.length + 1) (pre.map (Value.int .i64) ++ [.int .i64 x])) :
    KeepsOthers W (w3.setCell ⟨O, 0, none⟩ (.slice p' (pre.length + 1) c')) ∧ Keeps O n W (w3.setCell ⟨O, 0, none⟩ (.slice p' (pre.length + 1) c')) ∧ Got2 w2 O n (pre ++ [x]) (w3.setCell ⟨O, 0, none⟩ (.slice p' (pre.length + 1) c')) := by
  have hrow : ∀ k, (Value.slice p1 pre.length c1).ownBlock = some k → n ≤ k := fun k e => (row_cells g2 e).1
  have hK : KeepsOthers W w3 := (KeepsOthers.alloc W _).trans (keepsOthers_own (g2.alloc _) hg3)
  have hka : Keeps O n W (W.alloc (.cells vs t')) := ⟨(Below.refl _ _).alloc (by omega) _, fun k h1 h2 => Below.heap_alloc _ _ _ (by omega)⟩
  have hk3 : Keeps O n W w3 := hka.grown (by simp; omega) hO hg3 hrow
  have hkf : Keeps O n W (w3.setCell ⟨O, 0, none⟩ (.slice p' (pre.length + 1) c')) := hk3.setO
  have h1 : OneV w3 O (.slice p1 pre.length c1) 25 := by
    have ha : OneV (W.alloc (.cells vs t')) O (.slice p1 pre.length c1) 25 := (Below.heap_alloc _ _ _ (by omega)).trans g1
    exact (hg3.block O ha.lt (fun e => by have := hrow O e.symm; omega)).trans ha
  have hgs : w3.grownBy (w3.setCell ⟨O, 0, none⟩ (.slice p' (pre.length + 1) c')) (some O) := grownBy_setCell' _ _ _
  have hsz : n ≤ w3.heap.size := by have := hg3.size; simp at this; omega
  refine ⟨hK.trans (KeepsOthers.setCell _ _ _), hkf, p', c', ?_, ?_, g3.trans hkf, Nat.le_trans hsz hgs.size⟩
  · rw [List.length_append]; exact h1.set
  · rw [List.length_append, List.map_append]
    refine hown.kept hgs ?_
    cases hk : (Value.slice p' (pre.length + 1) c').ownBlock with
    | none => exact .inl rfl
    | some k => exact .inr fun e => by have := (row_cells hown hk).1; cases e; omega
theorem box2_after {W w3 : World} {O n : Nat} {p1 : Option Addr} {c1 m : Nat} {xs : List Value} {vs : Array Value} {t' : TypeId} (hO : O < n)
    (g1 : OneV W O (.slice p1 m c1) 25) (g2 : W.ownsRow n 3 1 (.slice p1 m c1) m xs) (g4 : n ≤ W.heap.size) (hg3 : (W.alloc (.cells vs t')).grownBy w3 (Value.slice p1 m c1).ownBlock) :
    w3.cell? ⟨O, 0, none⟩ = some (.slice p1 m c1) ∧ w3.frozen? ⟨O, 0, none⟩ = false := by
  have ha : OneV (W.alloc (.cells vs t')) O (.slice p1 m c1) 25 := (Below.heap_alloc _ _ _ (by omega)).trans g1
  have h1 : OneV w3 O (.slice p1 m c1) 25 := (hg3.block O ha.lt (fun e => by have := (row_cells g2 e.symm).1; omega)).trans ha
  exact ⟨h1.cell, h1.free⟩
theorem seqI_mem {f : List Int} {b : Bool} {t : Nat} (hf : 0 < f.length) : ∃ j, j < f.length ∧ seqI f b t = iget f j := by
  have := Nat.mod_lt t hf
  unfold seqI
  split
  · exact ⟨_, by omega, rfl⟩
  · exact ⟨_, this, rfl⟩

set_option maxRecDepth 100000 in
set_option maxHeartbeats 8000000 in
theorem robinSome_any (p : Option Addr) (c : Nat) (f : List Int) (many : Int) (b : Bool) (w : World) (hx : Ints w p c f) (hl : f.length ≤ 1000000) :
    Calls Tryz.prog 26 #[.slice p f.length c, .int .i64 many, .bool b] w (Gives2 w (rndL f b many) (rndE f many)) := by
  obtain ⟨i0, hi0, hz0, hz1, hz2⟩ := info_parts infoInt
  obtain ⟨W0, hW0⟩ : ∃ W, w.alloc (.cells #[.int .i64 many] 3) = W := ⟨_, rfl⟩
  have hB0 := below_alloc hW0
  have k0 : OneV W0 w.heap.size (.int .i64 many) 3 := OneV.new rfl hW0
  have hs0 : W0.heap.size = w.heap.size + 1 := by rw [← hW0]; simp
  have hx0 := hx.below hB0 (Nat.le_refl _)
  have HW0 := Lib.hid hW0
  have Hs0 := Lib.hid hs0
  clear hW0 hs0 hx
  have hlen := hx0.length_le
  refine (callsIn_wide (n := 8)).1 ?_
  refine callsIn_of_wp_marks Tryz.func26 rfl trivial ?_ rfl
  simp only [Tryz.ntmps26, List.size_toArray, List.length_cons, List.length_nil, Nat.reduceAdd, Nat.reduceSub, Array.replicate_succ, Array.replicate_zero, List.push_toArray, List.append_toArray, List.nil_append, List.cons_append]
  by_cases h6 : 6 < f.length
  · have hd : decide (6 < (f.length : Int)) = true := by simp; omega
    have HE := Lib.hid (rndE_many (m := many) h6)
    have HL : Hid (rndL f b many = []) := rndL_bad (by rw [HE.out]; omega)
    gi_wp2
    refine ⟨_, results_tmp2 rfl _ _ _, ?_⟩
    rw [HW0.out, HL.out, HE.out]
    exact ⟨none, 0, rfl, Own.ofNil _ _, hB0⟩
  have hd : decide (6 < (f.length : Int)) = false := by simp; omega
  gi_wp2
  rw [HW0.out]
  refine ⟨trivial, (callsIn_wide.2 (values_any p f.length c W0)).mono ?_⟩
  rintro e w1 ⟨rfl, hw1⟩
  have hb1 : Below W0.heap.size W0 w1 := by rw [hw1]; exact (Below.refl _ _).alloc (Nat.le_refl _) _
  have kV : OneV w1 W0.heap.size (.slice p f.length c) 25 := OneV.new rfl hw1.symm
  have hx1 := hx0.below hb1 (Nat.le_refl _)
  clear hw1
  gi_wp2
  refine ⟨trivial, (callsIn_wide.2 (sorted_any W0.heap.size p c f hl w1 kV.lt kV.cell hx1)).mono ?_⟩
  rintro e w2 ⟨ps, cs, rfl, hS, hb2⟩
  have hsl := srt_length f
  have hIs := hS.ints
  have hB2 : Below W0.heap.size W0 w2 := hb1.trans (hb2.mono hb1.size)
  have k2 := k0.below hB2 (by rw [Hs0.out]; omega)
  have hx2 := hx0.below hB2 (Nat.le_refl _)
  have hBw : Below w.heap.size w w2 := hB0.trans (hB2.mono hB0.size)
  obtain ⟨Z, hZ⟩ : ∃ Z, srt f = Z := ⟨_, rfl⟩
  rw [hZ] at hIs hsl ⊢
  have HZ := Lib.hid hZ
  have Hsl := Lib.hid hsl
  have hZl : Z.length ≤ 6 := by omega
  clear hsl hS hb1 hb2 kV hx1 hZ
  gi_wp2
  gi_loop [21] (fun t => ∃ k : Nat, k ≤ Z.length ∧ t = .int .i64 k ∧ Hid (∀ j, j < k → iget Z j = j)) (fun t => Z.length - (intOf t).toNat)
  case atStart => exact ⟨0, by omega, rfl, fun j hj => by omega⟩
  case round =>
    obtain ⟨k, hk, rfl, hok⟩ := hrel
    by_cases hkZ : k < Z.length
    · have hk1 : (k : Int) < Z.length := by omega
      obtain ⟨bz, oz, rfl, _, hcz⟩ := hIs.get hkZ
      by_cases he : iget Z k = k
      · have hd1 : (iget Z k != (k : Int)) = false := by rw [he]; simp
        have HP := Lib.hid he
        clear he
        gi_wp2
        go_round
        case rel => exact ⟨k + 1, by omega, by go_num, snoc_all' hok.out HP.out⟩
        case measure => simp [intOf]; omega
      · have hd1 : (iget Z k != (k : Int)) = true := by rw [bne_iff_ne]; exact he
        have HE : Hid (rndE f many = 8) := rndE_bad h6 (.inr fun hA => he (by
          have := ((asgP_iff f f.length).2 hA).1 k
          rw [HZ.out] at this
          exact this hkZ))
        have HL : Hid (rndL f b many = []) := rndL_bad (by rw [HE.out]; omega)
        clear he
        gi_wp2
        refine ⟨_, results_tmp2 rfl _ _ _, ?_⟩
        rw [HL.out, HE.out]
        exact ⟨none, 0, rfl, Own.ofNil _ _, hBw⟩
    · have hk1 : ¬ (k : Int) < Z.length := by omega
      have hA : IsA f f.length := (asgP_iff f f.length).1 ⟨fun j hj => by rw [HZ.out] at hj ⊢; exact hok.out j (by omega), srt_length f⟩
      by_cases h0 : f.length = 0
      · have hd1 : ((Z.length : Int) == 0) = true := by rw [beq_iff_eq]; have := Hsl.out; omega
        have HE : Hid (rndE f many = 8) := rndE_bad h6 (.inl h0)
        have HL : Hid (rndL f b many = []) := rndL_bad (by rw [HE.out]; omega)
        clear h0
        gi_wp2
        refine ⟨_, results_tmp2 rfl _ _ _, ?_⟩
        rw [HL.out, HE.out]
        exact ⟨none, 0, rfl, Own.ofNil _ _, hBw⟩
      have hd1 : ((Z.length : Int) == 0) = false := by rw [beq_eq_false_iff_ne]; have := Hsl.out; omega
      have hno : Hid (¬ (f.length = 0 ∨ ¬ IsA f f.length)) := fun h => by
        rcases h with h | h
        · exact h0 h
        · exact h hA
      have hf1 : 1 ≤ f.length := by omega
      have c0 := k2.cell
      clear h0 hA hok
      by_cases hm0 : many < 0
      · have hd2 : decide (many < 0) = true := by simpa using hm0
        have HE : Hid (rndE f many = 2) := rndE_arg h6 hno.out (.inl hm0)
        have HL : Hid (rndL f b many = []) := rndL_bad (by rw [HE.out]; omega)
        gi_wp2
        refine ⟨_, results_tmp2 rfl _ _ _, ?_⟩
        rw [HL.out, HE.out]
        exact ⟨none, 0, rfl, Own.ofNil _ _, hBw⟩
      have hd2 : decide (many < 0) = false := by simpa using hm0
      by_cases hm6 : 60 < many
      · have hd3 : decide (60 < many) = true := by simpa using hm6
        have HE : Hid (rndE f many = 2) := rndE_arg h6 hno.out (.inr hm6)
        have HL : Hid (rndL f b many = []) := rndL_bad (by rw [HE.out]; omega)
        gi_wp2
        refine ⟨_, results_tmp2 rfl _ _ _, ?_⟩
        rw [HL.out, HE.out]
        exact ⟨none, 0, rfl, Own.ofNil _ _, hBw⟩
      have hd3 : decide (60 < many) = false := by simpa using hm6
      obtain ⟨M, rfl⟩ : ∃ M : Nat, many = M := ⟨many.toNat, by omega⟩
      have hM : M ≤ 60 := by omega
      have HE : Hid (rndE f M = 0) := rndE_ok h6 hno.out (by omega)
      have HL : Hid (rndL f b M = seqL f b M) := by unfold Hid rndL; rw [if_pos HE.out, Int.toNat_natCast]
      gi_wp2
      obtain ⟨W3, hW3⟩ : ∃ W, w2.alloc (.cells #[.slice none 0 0] 25) = W := ⟨_, rfl⟩
      rw [hW3]
      refine ⟨trivial, (callsIn_wide.2 (turns_any p f.length c b W3)).mono ?_⟩
      rintro e w4 ⟨rfl, hw4⟩
      have kO3 : OneV W3 w2.heap.size (.slice none 0 0) 25 := OneV.new rfl hW3
      have hs3 : W3.heap.size = w2.heap.size + 1 := by rw [← hW3]; simp
      have hs4 : w4.heap.size = w2.heap.size + 3 := by rw [hw4]; simp [hs3]
      have hB34 : Below W3.heap.size W3 w4 := by rw [hw4]; exact ((Below.refl _ _).alloc (Nat.le_refl _) _).alloc (by simp) _
      have hB24 : Below w2.heap.size w2 w4 := (below_alloc hW3).trans (hB34.mono (by omega))
      have kO : OneV w4 w2.heap.size (.slice none 0 0) 25 := kO3.below hB34 (by omega)
      have kS : OneV w4 W3.heap.size (.slice p f.length c) 25 := by
        rw [hw4]; exact OneV.below (B := W3.heap.size + 1) (OneV.new rfl rfl) ((Below.refl _ _).alloc (by simp) _) (by omega)
      have kB : OneV w4 (W3.heap.size + 1) (.bool b) 4 := by rw [hw4]; exact OneV.new (by simp) rfl
      have km : OneV w4 w.heap.size (.int .i64 M) 3 := k2.below hB24 (by have := k2.lt; omega)
      have hlm := k2.lt
      have hx4 := hx2.below hB24 (Nat.le_refl _)
      have hpb : ∀ b' o', p = some ⟨b', o', none⟩ → b' < w2.heap.size := fun b' o' e => (hx2.plain _ e (by have := hx2.le; omega)).2
      have hw0 : w.heap.size < w2.heap.size := hlm
      obtain ⟨O, hO⟩ : ∃ O, w2.heap.size = O := ⟨_, rfl⟩
      obtain ⟨n4, hn4⟩ : ∃ n4, w4.heap.size = n4 := ⟨_, rfl⟩
      obtain ⟨s3, hsx⟩ : ∃ s3, W3.heap.size = s3 := ⟨_, rfl⟩
      rw [hO] at kO hpb hw0 hs3 hs4
      rw [hsx] at kS kB hs3 ⊢
      rw [hn4] at hs4
      have hB5 : Below w.heap.size w w4 := hBw.trans (hB24.mono hBw.size)
      have hOn : O < n4 := by omega
      have hwO : w.heap.size ≤ O := by omega
      have hSt := turns1_ends (8 - 1) (by omega) s3 (s3 + 1) O n4 p (by omega) (by omega) hpb c f b M hf1 (by omega) (by omega) w4 (by omega) (by omega) hn4 kS.cell kB.cell hx4
      have HSt := Lib.hid hSt
      have Hn4 := Lib.hid hn4
      have HK := Lib.hid (Keeps.putObj (w := w4) (O := O) (n := n4) (by omega) hOn)
      have hgo := got2_own w4 O n4 hOn
      have h00 : Got2 w4 O n4 [] w4 := ⟨none, 0, kO, World.ownsRow_nil _ _ _ _, Keeps.refl _ _ _, by omega⟩
      have hgo' : OwnFrom w4.heap.size (Got2 w4 O n4) := by rw [hn4]; exact hgo
      have Hgo := Lib.hid hgo'
      have H00 := Lib.hid h00
      have HO := Lib.hid hO
      clear hSt hn4 hgo hgo' h00 hB34 hB24 kO3 kO kS kB hs3 hs4 hsx hO hw4 hW3 hx4 hlm hpb
      gi_wp2
      rw [HO.out]
      refine range_ends (by omega) (gf := 102) (lb := #[.pointer (some ⟨s3, 0, none⟩), .pointer (some ⟨s3 + 1, 0, none⟩)]) rfl (enters_of Tryz.func102 (by kernel_rfl) rfl) HSt.out (fun h k => h.trans k) HK.out (fun _ => rfl)
        (fun pre W => Got2 w4 O n4 pre W ∧ pre.length ≤ M) (fun pre W => ∃ pre' x, pre = pre' ++ [x] ∧ Got2 w4 O n4 pre' W ∧ pre'.length = M) 2
        (fun s A B row hs hg hr => ⟨Hgo.out s A B row hs.1 hg hr, hs.2⟩)
        (fun s A B row hs hg hr => by obtain ⟨pre', x, e, h, hl⟩ := hs; exact ⟨pre', x, e, Hgo.out pre' A B row h hg hr, hl⟩)
        (fun pre W h => h.2) ⟨H00.out, Nat.zero_le _⟩
        (fun x => { tmps := #[.slice p f.length c, .int .i64 M, .bool b, undef, .pointer (some ⟨w.heap.size, 0, none⟩), undef, u6, u7, .slice ps Z.length cs, u9, u10, .pointer (some ⟨O, 0, none⟩), .int .i64 x, .slice p f.length c, .int .i64 f.length, .bool false, .slice p f.length c, .func (.func 101) #[] #[.pointer (some ⟨W0.heap.size, 0, none⟩)], .slice ps Z.length cs, .slice ps Z.length cs, .int .i64 Z.length, .int .i64 k, .bool false, u23, u24, u25, u26, u27, u28, u29, .slice ps Z.length cs, .int .i64 Z.length, .bool false, .int .i64 M, .bool false, .bool false, .int .i64 M, .bool false, .bool false, .slice p f.length c, .bool b, .func (.func 102) #[] #[.pointer (some ⟨s3, 0, none⟩), .pointer (some ⟨s3 + 1, 0, none⟩)], .int .i64 x, undef, undef, undef, undef, undef, undef, undef, undef, undef], defers := [] }) ?assign ?body ?stop
      case assign =>
        intro l x W K hK
        gi_wp2
        exact hK
      case body =>
        rintro l pre x W ⟨⟨q, d, g1, g2, g3, g4⟩, hpre⟩
        have cO := g1.cell
        have fO := g1.free
        have cm : W.cell? ⟨w.heap.size, 0, none⟩ = some (.int .i64 M) := (g3.cell (by omega) (by omega)).trans km.cell
        by_cases hfull : pre.length = M
        · have hdl : (((pre.length : Int)) == (M : Int)) = true := by rw [hfull]; simp
          have HG : Hid (Got2 w4 O n4 pre W) := ⟨q, d, g1, g2, g3, g4⟩
          have Hf := Lib.hid hfull
          clear hfull
          gi_wp2
          exact ⟨rfl, KeepsOthers.refl _, pre, x, rfl, HG.out, Hf.out⟩
        · have hdl : (((pre.length : Int)) == (M : Int)) = false := by rw [beq_eq_false_iff_ne]; omega
          have hpl : pre.length + 1 ≤ M := by omega
          clear hfull
          gi_wp2_with (first
            | (gi_at_builtin; refine wpListIn_append_own _ rfl _ _ 25 rfl n4 3 i0 (.int .i64 0) 1 8 Tryz.underlying25 hi0 hz0 hz1 hz2 rfl (by decide) _ pre.length _ rfl (g2.alloc _) ⟨W.heap.size, 0, none⟩ 1 1 [.int .i64 x] rfl rfl (cell_one_new _ _ _) (by simp [Value.oneCell']) (by simp [maxLen]; omega) (by omega) (by simp; omega) ?_; intro v' w3 hown' hg3 hnil3; obtain ⟨p', c', rfl⟩ := own_value hown'; have hst := Lib.hid (got2_stored hOn g1 g2 g3 g4 hg3 hown'); obtain ⟨hc3, hf3⟩ := box2_after hOn g1 g2 g4 hg3; go_frame))
          exact ⟨hst.out.1, hst.out.2.1, hst.out.2.2, by rw [List.length_append]; exact hpl⟩
      case stop =>
        rintro D pre W hD hpre ⟨pre', x, rfl, hg, hl⟩ hK
        have hnD : n4 ≤ D := by rw [← Hn4.out]; exact hD
        have hp' : pre' = seqL f b M := by
          rw [List.length_append, List.length_singleton, seqL_succ, hl] at hpre
          exact (List.append_inj' hpre rfl).1
        obtain ⟨q2, d2, e1, e2, e3, e4⟩ := Hgo.out.putObj (.deferred none) hg (by omega) hK rfl
        obtain ⟨q, d, g1, g2, g3, g4⟩ := hg
        have cO := g1.cell
        have he : q = q2 ∧ d = d2 := by
          have h1 : OneV (W.putObj D (.deferred none)) O (.slice q pre'.length d) 25 := g1.putObj (by omega)
          unfold OneV at h1 e1
          rw [h1] at e1
          simp at e1; exact e1
        obtain ⟨rfl, rfl⟩ := he
        have Hp := Lib.hid hp'
        have HK2 := Lib.hid hK
        clear hK hp' hl hpre g1
        gi_wp2
        refine ⟨by simp, .inl ⟨_, _, rfl, run_takeDeferred HK2.out, ?_⟩⟩
        refine ⟨_, results_tmp2 rfl _ _ _, ?_⟩
        rw [HL.out, HE.out, ← Hp.out]
        refine ⟨q, d, rfl, Own.lower ⟨e2, fun j hj => ?_⟩ (by omega), (hB5.trans (e3.bel.mono (by omega)))⟩
        rw [Hp.out] at hj ⊢
        rw [seqL_len] at hj
        have hgj : iget (seqL f b M) j = seqI f b j := by simp [seqL, iget, hj]
        obtain ⟨i, hi, hie⟩ := seqI_mem (f := f) (b := b) (t := j) (by omega)
        rw [hgj, hie]
        exact hx0.rng i hi
end Go.Proofs.YtmcncflieoolmaaGreat

/- The walks of the reference's functions that only read: Great, Same, SameLists, Check, Assigned, Worth, Priced, Content; the slices read as lists. -/
namespace Go.Proofs.YtmcncflieoolmaaGreat
set_option linter.unusedVariables false
set_option linter.unusedSimpArgs false
open Go.ChangeShapes Go.WideShapes Go.ChangeAt Go.RowKit Go.Deep

def sameB (xs ys : List Int) : Bool := decide (xs = ys)
theorem sameB_true {xs ys : List Int} (h : xs = ys) : sameB xs ys = true := by simp [sameB, h]
theorem take_ext {xs ys : List Int} (h : ∀ j, j < xs.length → iget xs j = iget ys j) (hl : xs.length = ys.length) : xs = ys := by
  apply List.ext_getElem hl
  intro i h1 h2
  have := h i h1
  rwa [iget_of h1, iget_of h2] at this

theorem snoc_all {P : Nat → Prop} {k : Nat} (h : ∀ j, j < k → P j) (hk : P k) : ∀ j, j < k + 1 → P j := fun j hj => by
  by_cases e : j = k
  · exact e ▸ hk
  · exact h j (by omega)

set_option maxHeartbeats 400000 in
theorem same_any (p q : Option Addr) (c d : Nat) (xs ys : List Int) (w : World) (hx : Ints w p c xs) (hy : Ints w q d ys) :
    Calls Tryz.prog 23 #[.slice p xs.length c, .slice q ys.length d] w fun e w' => e = .returned (.bool (sameB xs ys)) ∧ ∃ n, w' = w.drewN n := by
  by_cases hl : xs.length = ys.length
  · have hb : ((xs.length : Int) != ys.length) = false := by simp [hl]
    have Hl := Lib.hid hl
    clear hl
    go_enter Tryz.func23, Tryz.ntmps23
    go_wp2
    go_loopw [5] (fun i wr => ∃ k : Nat, k ≤ xs.length ∧ i = .int .i64 k ∧ (Hid (∀ j, j < k → iget xs j = iget ys j)) ∧ ∃ n, wr = w.drewN n) (fun i _ => xs.length - (intOf i).toNat)
    case atStart => exact ⟨0, Nat.zero_le _, rfl, fun j hj => by omega, 0, rfl⟩
    case round =>
      obtain ⟨k, hk, rfl, ht, n, rfl⟩ := hrel
      by_cases hlt : k < xs.length
      · obtain ⟨b, o, rfl, _, hc⟩ := hx.get hlt
        have hlt' : k < ys.length := by rw [← Hl.out]; exact hlt
        obtain ⟨b', o', rfl, _, hc'⟩ := hy.get hlt'
        have hk1 : (k : Int) < xs.length := by omega
        have hk2 : (k : Int) < ys.length := by omega
        have hl1 := hx.length_le
        go_wp2
        go_quiet (fail)
        go_wp2
        · have hne : (iget xs k != iget ys k) = true := by assumption
          go_ret
          refine ⟨ret_bool ?_, drew_drewN _ ⟨_, rfl⟩⟩
          simp only [sameB]
          symm
          rw [decide_eq_false_iff_not]
          rintro rfl
          simp at hne
        · have he : (iget xs k != iget ys k) = false := by assumption
          go_roundw
          case rel => exact ⟨k + 1, by omega, by go_num, snoc_all ht.out (by simpa using he), _, rfl⟩
          case measure => simp [intOf]; omega
      · have hk1 : ¬ (k : Int) < xs.length := by omega
        go_wp2
        go_ret
        refine ⟨ret_bool ?_, _, rfl⟩
        rw [sameB_true]
        exact take_ext (fun j hj => ht.out j (by omega)) Hl.out
  · have hb : ((xs.length : Int) != ys.length) = true := by simp; omega
    have Hl := Lib.hid hl
    clear hl
    go_enter Tryz.func23, Tryz.ntmps23
    go_wp2
    go_ret
    refine ⟨ret_bool ?_, 0, rfl⟩
    simp only [sameB]
    symm
    rw [decide_eq_false_iff_not]
    rintro rfl
    exact Hl.out rfl

end Go.Proofs.YtmcncflieoolmaaGreat

/- The walks of the reference's functions Assigned, Worth, Priced, Content; Worth and Content where every index is in range. -/
namespace Go.Proofs.YtmcncflieoolmaaGreat
set_option linter.unusedVariables false
set_option linter.unusedSimpArgs false
open Go.ChangeShapes Go.WideShapes Go.ChangeAt Go.RowKit Go.Deep

theorem isAB_false {a : List Int} {n : Nat} (h : ¬ IsA a n) : isAB a n = false := by simp [isAB, h]
theorem isAB_true {a : List Int} {n : Nat} (h : IsA a n) : isAB a n = true := by simp [isAB, h]

set_option maxHeartbeats 400000 in
theorem assigned_any (p : Option Addr) (c : Nat) (a : List Int) (n : Nat) (w : World) (hn : n ≤ 9223372036854775807) (hx : Ints w p c a) :
    Calls Tryz.prog 8 #[.slice p a.length c, .int .i64 n] w fun e w' => e = .returned (.bool (isAB a n)) ∧ w' = w := by
  have hl1 := hx.length_le
  by_cases hl : a.length = n
  · have hb : ((a.length : Int) != n) = false := by simp [hl]
    have hle : n ≤ a.length := by omega
    have Hl := Lib.hid hl
    clear hl
    go_enter Tryz.func8, Tryz.ntmps8
    go_wp2
    go_loop [5] (fun i => ∃ k : Nat, k ≤ n ∧ i = .int .i64 k ∧ Hid (∀ j, j < k → a.count (j : Int) = 1)) (fun i => n - (intOf i).toNat)
    case atStart => exact ⟨0, by omega, rfl, fun j hj => by omega⟩
    case round =>
      obtain ⟨k, hk, rfl, ht⟩ := hrel
      by_cases hlt : k < n
      · have hk1 : (k : Int) < n := by omega
        go_wp2
        go_loop [6, 7] (fun t i => ∃ m : Nat, m ≤ n ∧ i = .int .i64 m ∧ t = .int .i64 ((a.take m).count (k : Int) : Nat)) (fun _ i => n - (intOf i).toNat)
        case atStart => exact ⟨0, by omega, rfl, rfl⟩
        case round =>
          obtain ⟨m, hm, rfl, rfl⟩ := hrel
          have hcb : (a.take m).count (k : Int) ≤ m := Nat.le_trans List.count_le_length (by rw [List.length_take]; omega)
          by_cases hlt2 : m < n
          · have hlt3 : m < a.length := by omega
            obtain ⟨b, o, rfl, _, hc⟩ := hx.get hlt3
            have hk2 : (m : Int) < n := by omega
            have hk3 : (m : Int) < a.length := by omega
            have Hs := Lib.hid (count_take_succ a m (k : Int) hlt3)
            generalize (a.take m).count (k : Int) = cm at *
            go_wp2
            · have he : (iget a m == (k : Int)) = true := by assumption
              go_round
              case rel => exact ⟨m + 1, by omega, by go_num, by rw [Hs.out, if_pos (by simpa using he)]; go_num⟩
              case measure => simp [intOf]; omega
            · have he : (iget a m == (k : Int)) = false := by assumption
              go_round
              case rel => exact ⟨m + 1, by omega, by go_num, by rw [Hs.out, if_neg (by simpa using he)]; go_num⟩
              case measure => simp [intOf]; omega
          · have hk2 : ¬ (m : Int) < n := by omega
            have Hc : Hid ((a.take m).count (k : Int) = a.count (k : Int)) := by
              have : a.take m = a := List.take_of_length_le (by have := Hl.out; omega)
              rw [this]; rfl
            generalize (a.take m).count (k : Int) = cm at *
            go_wp2
            · have he : ((cm : Int) != 1) = true := by assumption
              go_ret
              refine ⟨ret_bool (isAB_false fun hA => ?_).symm, rfl⟩
              have := hA.2 k hlt
              rw [Hc.out] at he
              simp [this] at he
            · have he : ((cm : Int) != 1) = false := by assumption
              go_round
              case rel => exact ⟨k + 1, by omega, by go_num, snoc_all ht.out (by rw [← Hc.out]; simp at he; omega)⟩
              case measure => simp [intOf]; omega
      · have hk1 : ¬ (k : Int) < n := by omega
        go_wp2
        go_ret
        exact ⟨ret_bool (isAB_true ⟨Hl.out, fun j hj => ht.out j (by omega)⟩).symm, rfl⟩
  · have hb : ((a.length : Int) != n) = true := by rw [bne_iff_ne]; omega
    have Hl := Lib.hid hl
    clear hl
    go_enter Tryz.func8, Tryz.ntmps8
    go_wp2
    go_ret
    exact ⟨ret_bool (isAB_false fun hA => Hl.out hA.1).symm, rfl⟩

/-- Each agent's item is one of the row's, and bids are small: what the walks of Worth ask. -/
structure Fits (v : List (List Int)) (a : List Int) : Prop where
  len : a.length ≤ 6
  rows : a.length ≤ v.length
  item : ∀ i, i < a.length → 0 ≤ iget a i ∧ itm a i < (rget v i).length
  val : ∀ i, i < a.length → 0 ≤ bid v i (itm a i) ∧ bid v i (itm a i) ≤ 1000000

/-- What the walks of Content ask: all indices in range, small numbers. -/
structure Fits2 (v : List (List Int)) (a p : List Int) : Prop where
  rows : ∀ i, i < v.length → (rget v i).length = v.length
  alen : a.length = v.length
  plen : p.length = v.length
  item : ∀ i, i < v.length → 0 ≤ iget a i ∧ itm a i < v.length
  val : ∀ i, i < v.length → ∀ j, j < v.length → 0 ≤ bid v i j ∧ bid v i j ≤ 1000000
  price : ∀ j, j < v.length → 0 ≤ iget p j ∧ iget p j ≤ 10000000

end Go.Proofs.YtmcncflieoolmaaGreat

/- The walks of robin.Rounds, Snake and of the reference's round, Rounds, Snake; no condition but sizes. -/
namespace Go.Proofs.YtmcncflieoolmaaGreat
set_option linter.unusedSimpArgs false
open Go.ChangeShapes Go.WideShapes Go.ChangeAt Go.RowKit Go.Deep
set_option linter.unusedVariables false

set_option maxHeartbeats 800000 in
theorem robinRounds_any (p : Option Addr) (c : Nat) (f : List Int) (many : Int) (w : World) (hx : Ints w p c f) (hl : f.length ≤ 1000000) :
    Calls Tryz.prog 10 #[.slice p f.length c, .int .i64 many] w (Gives2 w (rndL f false many) (rndE f many)) := by
  go_enter Tryz.func10, Tryz.ntmps10
  go_wp2_with fail
  refine (robinSome_any p c f many false w hx hl).mono ?_
  rintro e w' ⟨q, d, rfl, hO, hb⟩
  go_wp2_with fail
  go_ret2
  exact ⟨q, d, rfl, hO, hb⟩

theorem seqI_false (f : List Int) (t : Nat) : seqI f false t = iget f (t % f.length) := by unfold seqI; simp
end Go.Proofs.YtmcncflieoolmaaGreat
