/- Rows of steps (a row of ints, two ints) that a call itself makes: read, appended to, compared; no condition but sizes. -/
import Derived.Test.YtiohehofnlmenaaTopChoresRunsm2
import Derived.Test.YtiohehofnlmenaaTopChoresRunsm12
import Derived.BigQuiet
import Derived.Deep.AppendLies
import Derived.Test.YtiohehofnlmenaaTopChoresRunsm4
import Derived.Test.YtiohehofnlmenaaTopChoresRunsm9
import Derived.Test.YtiohehofnlmenaaTopChoresRunsm10
import Derived.Test.YtiohehofnlmenaaTopChoresRunsm11
/- Rows of steps (a row of ints, two ints) that a call itself makes: read, appended to, compared; no condition but sizes. -/
namespace Go.Proofs.Ytiohehofnlmenaa
set_option linter.unusedVariables false
set_option linter.unusedSimpArgs false
open Go.ChangeShapes Go.WideShapes Go.ChangeAt Go.RowKit Go.Deep

theorem infoStep : (Try.prog.info? 89).map (fun i => (i.zero, i.size, i.bytes)) = some (some (.agg #[.slice none 0 0, .int .i64 0, .int .i64 0]), 3, 40) := by kernel_rfl
def sget (xs : List (List Int × Int × Int)) (j : Nat) : List Int × Int × Int := xs.getD j ([], 0, 0)
/-- The cells of a list of steps whose rows lie at Q, with room D, from the k-th on. -/
def cellsS (Q : Nat → Option Addr) (D : Nat → Nat) : Nat → List (List Int × Int × Int) → List Value
  | _, [] => []
  | k, x :: xs => .slice (Q k) x.1.length (D k) :: .int .i64 x.2.1 :: .int .i64 x.2.2 :: cellsS Q D (k + 1) xs
theorem cellsS_append (Q : Nat → Option Addr) (D : Nat → Nat) : ∀ (xs ys : List (List Int × Int × Int)) (k : Nat), cellsS Q D k (xs ++ ys) = cellsS Q D k xs ++ cellsS Q D (k + xs.length) ys
  | [], ys, k => rfl
  | x :: xs, ys, k => by
    have := cellsS_append Q D xs ys (k + 1)
    simp only [List.cons_append, cellsS, this, List.length_cons]
    rw [show k + 1 + xs.length = k + (xs.length + 1) by omega]
theorem cellsS_congr (Q Q' : Nat → Option Addr) (D D' : Nat → Nat) : ∀ (xs : List (List Int × Int × Int)) (k : Nat), (∀ j, k ≤ j → j < k + xs.length → Q j = Q' j ∧ D j = D' j) → cellsS Q D k xs = cellsS Q' D' k xs
  | [], k, _ => rfl
  | x :: xs, k, h => by
    obtain ⟨h1, h2⟩ := h k (Nat.le_refl _) (by simp)
    simp only [cellsS, h1, h2]
    rw [cellsS_congr Q Q' D D' xs (k + 1) (fun j a b => h j (by omega) (by simp; omega))]
theorem cellsS_get (Q : Nat → Option Addr) (D : Nat → Nat) : ∀ (xs : List (List Int × Int × Int)) (k j : Nat), j < xs.length → (cellsS Q D k xs)[j * 3]? = some (.slice (Q (k + j)) (sget xs j).1.length (D (k + j))) ∧ (cellsS Q D k xs)[j * 3 + 1]? = some (.int .i64 (sget xs j).2.1) ∧ (cellsS Q D k xs)[j * 3 + 2]? = some (.int .i64 (sget xs j).2.2)
  | x :: xs, k, 0, _ => ⟨rfl, rfl, rfl⟩
  | x :: xs, k, j + 1, h => by
    have ih := cellsS_get Q D xs (k + 1) j (by simpa using h)
    have e : cellsS Q D k (x :: xs) = Value.slice (Q k) x.1.length (D k) :: Value.int .i64 x.2.1 :: Value.int .i64 x.2.2 :: cellsS Q D (k + 1) xs := rfl
    have e1 : (j + 1) * 3 = j * 3 + 1 + 1 + 1 := by omega
    have e2 : sget (x :: xs) (j + 1) = sget xs j := rfl
    rw [show k + 1 + j = k + (j + 1) by omega] at ih
    rw [e, e1, e2]
    exact ih
theorem sget_append (xs ys : List (List Int × Int × Int)) (j : Nat) : sget (xs ++ ys) j = if j < xs.length then sget xs j else sget ys (j - xs.length) := by
  simp only [sget, List.getD, List.getElem?_append]
  split <;> rfl

/-- The slice (p, xs.length, c) is a row of the call's own, and holds the steps xs, whose rows lie at Q. -/
structure OwnS (w : World) (base : Nat) (p : Option Addr) (c : Nat) (xs : List (List Int × Int × Int)) (Q : Nat → Option Addr) (D : Nat → Nat) : Prop where
  row : w.ownsRow base 89 3 (.slice p xs.length c) xs.length (cellsS Q D 0 xs)
  circ : ∀ j, j < xs.length → Ints w (Q j) (D j) (sget xs j).1
  sep : ∀ j, j < xs.length → 0 < (sget xs j).1.length → ∀ k, blk (Q j) = some k → blk p ≠ some k
section
variable {w : World} {base : Nat} {p : Option Addr} {c : Nat} {xs : List (List Int × Int × Int)} {Q : Nat → Option Addr} {D : Nat → Nat}
theorem OwnS.ofNil (w : World) (base : Nat) : OwnS w base none 0 [] Q D := ⟨World.ownsRow_nil w base _ _, fun j h => (by simp at h), fun j h => (by simp at h)⟩
theorem OwnS.lt (h : OwnS w base p c xs Q D) : ∀ k, blk p = some k → base ≤ k ∧ k < w.heap.size := fun k hk => h.row.lt k (by rw [ownBlock_slice]; exact hk)
theorem OwnS.lower {base' : Nat} (h : OwnS w base p c xs Q D) (hb : base' ≤ base) : OwnS w base' p c xs Q D := by
  refine ⟨⟨h.row.1, ?_⟩, h.circ, h.sep⟩
  rcases h.row.2 with h1 | ⟨g, cap, cur, h1, h2, r⟩
  · exact .inl h1
  · exact .inr ⟨g, cap, cur, h1, Nat.le_trans hb h2, r⟩
theorem OwnS.kept {w' : World} (h : OwnS w base p c xs Q D) {row : Option Nat} (hg : w.grownBy w' row) (hne : ∀ k, blk p = some k → row ≠ some k) (hq : ∀ j, j < xs.length → 0 < (sget xs j).1.length → ∀ k, blk (Q j) = some k → row ≠ some k) : OwnS w' base p c xs Q D :=
  ⟨h.row.kept hg (by
    rw [ownBlock_slice]
    cases hb : blk p with
    | none => exact .inl rfl
    | some k => exact .inr fun e => hne k hb e.symm),
   fun j hj => (h.circ j hj).keep hg.size fun a ha hl => by
     refine hg.block _ ((h.circ j hj).plain a ha (by have := (h.circ j hj).le; omega)).2 (fun e => hq j hj hl a.block (by rw [ha]; rfl) e.symm), h.sep⟩
theorem OwnS.below {w' : World} {B : Nat} (h : OwnS w base p c xs Q D) (hb : Below B w w') (hB : w.heap.size ≤ B) : OwnS w' base p c xs Q D :=
  h.kept (grownBy_of_below hb hB none) (fun _ _ h => by cases h) (fun _ _ _ _ _ h => by cases h)
theorem OwnS.drew {w' : World} (h : OwnS w base p c xs Q D) (hw : ∃ n, w' = w.drewN n) : OwnS w' base p c xs Q D := by
  obtain ⟨n, rfl⟩ := hw
  exact h.below (below_drewN w.heap.size w n) (Nat.le_refl _)
theorem OwnS.cap (h : OwnS w base p c xs Q D) : xs.length ≤ 9223372036854775807 := by
  rcases h.row.2 with ⟨_, h2⟩ | ⟨g, cap, cur, _, _, _, h4, h5, _, _⟩
  · omega
  · simp only [maxLen] at h5; omega
theorem OwnS.get (h : OwnS w base p c xs Q D) {j : Nat} (hj : j < xs.length) :
    ∃ g, p = some ⟨g, 0, none⟩ ∧ base ≤ g ∧ g < w.heap.size ∧ w.cell? ⟨g, j * 3, none⟩ = some (.slice (Q j) (sget xs j).1.length (D j)) ∧ w.cell? ⟨g, j * 3 + 1, none⟩ = some (.int .i64 (sget xs j).2.1) ∧ w.cell? ⟨g, j * 3 + 2, none⟩ = some (.int .i64 (sget xs j).2.2) ∧ Ints w (Q j) (D j) (sget xs j).1 := by
  obtain ⟨g, cap, hv, hb, hlt⟩ := h.row.form (by omega)
  simp only [Value.slice.injEq] at hv
  obtain ⟨rfl, _, rfl⟩ := hv
  obtain ⟨e1, e2, e3⟩ := cellsS_get Q D xs 0 j hj
  rw [Nat.zero_add] at e1
  exact ⟨g, rfl, hb, hlt, (h.row.cellAt (j * 3) (by omega)).trans e1, (h.row.cellAt (j * 3 + 1) (by omega)).trans e2, (h.row.cellAt (j * 3 + 2) (by omega)).trans e3, h.circ j hj⟩
end
theorem cellsS_snoc {xs : List (List Int × Int × Int)} {Q : Nat → Option Addr} {D : Nat → Nat} {q : Option Addr} {d : Nat} {r : List Int} {y z : Int} :
    cellsS (fun j => if j < xs.length then Q j else q) (fun j => if j < xs.length then D j else d) 0 (xs ++ [(r, y, z)]) = cellsS Q D 0 xs ++ [.slice q r.length d, .int .i64 y, .int .i64 z] := by
  rw [cellsS_append, Nat.zero_add]
  congr 1
  · exact cellsS_congr _ _ _ _ _ _ fun j _ hj => by
      have : j < xs.length := by omega
      simp [this]
  · simp [cellsS]
/-- 'append(s, Step{r, y, z})', the step laid in a new block. -/
theorem wpList_appS {w : World} {ops : Array Oper} {rest : List Oper} {o : Oper} {a : Act} {K : Exit → Act → World → Prop} (hgd : o.guard = none) (s x : Operand)
    (ho : o.op = .call { callee := .builtin .append, args := #[s, x], argTypes := #[52, 52] })
    (base : Nat) (p : Option Addr) (c : Nat) (xs : List (List Int × Int × Int)) (Q : Nat → Option Addr) (D : Nat → Nat) (q : Option Addr) (d m : Nat) (r : List Int) (hm : r.length = m) (y z : Int) (hs : a.eval s = .slice p xs.length c) {B : Nat} (hx : a.eval x = .slice (some ⟨B, 0, none⟩) 1 1) (hB : w.heap.size = B) (hown : OwnS w base p c xs Q D)
    (hr : Ints w q d r) (hsep : 0 < r.length → ∀ k, blk q = some k → blk p ≠ some k)
    (hsz : xs.length ≤ 900000) (hbase : base ≤ w.heap.size)
    (h : ∀ p' c' w' zs, Hid (zs = xs ++ [(r, y, z)]) → OwnS w' base p' c' zs (fun j => if j < xs.length then Q j else q) (fun j => if j < xs.length then D j else d) → w.grownBy w' (blk p) → Fresh w p p' → wpList Try.prog ops K rest (a.put o.dst (.slice p' zs.length c')) w') : wpList Try.prog ops K (o :: rest) a (w.alloc (.cells #[.slice q m d, .int .i64 y, .int .i64 z] 89)) := by
  subst hB hm
  refine wpList_appG (w := w.alloc (.cells #[.slice q r.length d, .int .i64 y, .int .i64 z] 89)) hgd s x 52 89 ho (.agg #[.slice none 0 0, .int .i64 0, .int .i64 0]) 3 40 Try.underlying52 infoStep (by kernel_rfl) (by decide) base p (some ⟨w.heap.size, 0, none⟩) xs.length 1 c 1 (cellsS Q D 0 xs) [.slice q r.length d, .int .i64 y, .int .i64 z] hs hx (hown.row.alloc _)
    (fun e => (by cases e)) rfl ?_ (by simp [Value.oneCell']) (by simp [maxLen]; omega) (by omega) (by simp; omega) ?_
  · rintro ad ⟨⟩ j u hu
    rw [add_plain, World.cell?_alloc_at _ _ _ _ rfl]
    simpa using hu
  · intro p' c' w' h2 h3 h4
    have hg : w.grownBy w' (blk p) := ⟨h3.os, h3.tape, h3.output, by have := h3.size; simp at this; omega, fun k hk hne => by
      rw [h3.block k (by simp; omega) hne]
      exact Below.heap_alloc _ _ _ hk⟩
    have hfr : Fresh w p p' := fun k hk => by
      rcases h4 k hk with h5 | h5
      · exact .inl h5
      · exact .inr (by simp at h5; omega)
    have hkeep : ∀ (q' : Option Addr) (d' : Nat) (ys : List Int), Ints w q' d' ys → (0 < ys.length → ∀ k, blk q' = some k → blk p ≠ some k) → Ints w' q' d' ys := by
      intro q' d' ys hi hne
      refine hi.keep hg.size fun ad had hd => ?_
      refine hg.block _ (hi.plain ad had (by have := hi.le; omega)).2 ?_
      intro e
      exact hne hd ad.block (by rw [had]; rfl) e.symm
    have hsep2 : ∀ (q' : Option Addr) (d' : Nat) (ys : List Int), Ints w q' d' ys → (0 < ys.length → ∀ k, blk q' = some k → blk p ≠ some k) → 0 < ys.length → ∀ k, blk q' = some k → blk p' ≠ some k := by
      intro q' d' ys hi hne hlen k hk hp
      rcases hfr k hp with h5 | h5
      · exact hne hlen k hk h5
      · obtain ⟨b, o, rfl, hb, _⟩ := hi.get hlen
        simp [blk] at hk
        omega
    have hget : ∀ j, j < (xs ++ [(r, y, z)]).length → (j < xs.length ∧ sget (xs ++ [(r, y, z)]) j = sget xs j) ∨ (¬ j < xs.length ∧ sget (xs ++ [(r, y, z)]) j = (r, y, z)) := by
      intro j hj
      rw [List.length_append, List.length_singleton] at hj
      rw [sget_append]
      by_cases hlt : j < xs.length
      · exact .inl ⟨hlt, by rw [if_pos hlt]⟩
      · exact .inr ⟨hlt, by rw [if_neg hlt, show j - xs.length = 0 by omega]; rfl⟩
    have := h p' c' w' (xs ++ [(r, y, z)]) rfl ⟨by rw [List.length_append, cellsS_snoc]; exact h2, ?_, ?_⟩ hg hfr
    · rw [List.length_append] at this
      exact this
    · intro j hj
      rcases hget j hj with ⟨hlt, e⟩ | ⟨hlt, e⟩ <;> rw [e] <;> simp only [hlt, if_true, if_false]
      · exact hkeep _ _ _ (hown.circ j hlt) (hown.sep j hlt)
      · exact hkeep _ _ _ hr hsep
    · intro j hj
      rcases hget j hj with ⟨hlt, e⟩ | ⟨hlt, e⟩ <;> rw [e] <;> simp only [hlt, if_true, if_false]
      · exact hsep2 _ _ _ (hown.circ j hlt) (hown.sep j hlt)
      · exact hsep2 _ _ _ hr hsep
/-- A row of ints and a row of steps of the call's own, and an error. -/
def GivesLS (w : World) (xs : List Int) (ss : List (List Int × Int × Int)) (k : Int) (e : Ending) (w' : World) : Prop :=
  ∃ p c q d Q D, e = .returned (.tuple #[.slice p xs.length c, .slice q ss.length d, .int .i64 k]) ∧ Own w' w.heap.size p c xs ∧ OwnS w' w.heap.size q d ss Q D ∧ Below w.heap.size w w'
end Go.Proofs.Ytiohehofnlmenaa

/- Picking chores in turns: the first least one that is left; plain, no program. -/
namespace Go.Proofs.Ytiohehofnlmenaa
set_option linter.unusedVariables false
set_option linter.unusedSimpArgs false
/-- x is the first least of those from lo to hi that count, or -1. -/
def IsLeast (r : List Int) (P : Nat → Bool) (lo hi : Nat) (x : Int) : Prop :=
  (x = -1 ∧ ∀ y, lo ≤ y → y < hi → P y = false) ∨ ∃ m : Nat, x = m ∧ lo ≤ m ∧ m < hi ∧ P m = true ∧ ∀ y, lo ≤ y → y < hi → P y = true → iget r m < iget r y ∨ (iget r m = iget r y ∧ m ≤ y)
theorem isLeast_uniq {r : List Int} {P : Nat → Bool} {lo hi : Nat} {x y : Int} (h : IsLeast r P lo hi x) (h' : IsLeast r P lo hi y) : x = y := by
  rcases h with ⟨rfl, h1⟩ | ⟨m, rfl, h1, h2, h3, h4⟩ <;> rcases h' with ⟨rfl, k1⟩ | ⟨n, rfl, k1, k2, k3, k4⟩
  · rfl
  · rw [h1 n k1 k2] at k3; cases k3
  · rw [k1 m h1 h2] at h3; cases h3
  · have a := h4 n k1 k2 k3
    have b := k4 m h1 h2 h3
    rcases a with a | a <;> rcases b with b | b <;> omega
theorem leastTo_is (r : List Int) (P : Nat → Bool) : ∀ k, IsLeast r P 0 k (leastTo r P k)
  | 0 => .inl ⟨rfl, fun y _ h => by omega⟩
  | k + 1 => by
    have ih := leastTo_is r P k
    rw [leastTo]
    by_cases hc : P k = true ∧ (leastTo r P k < 0 ∨ iget r k < iget r (leastTo r P k).toNat)
    · rw [if_pos hc]
      refine .inr ⟨k, rfl, by omega, by omega, hc.1, fun y _ hy hP => ?_⟩
      by_cases e : y = k
      · subst e; right; exact ⟨rfl, Nat.le_refl _⟩
      · left
        rcases ih with ⟨h1, h2⟩ | ⟨m, h1, h2, h3, h4, h5⟩
        · rw [h2 y (by omega) (by omega)] at hP; cases hP
        · rw [h1, Int.toNat_natCast] at hc
          have hlt : iget r k < iget r m := by rcases hc.2 with h | h; omega; exact h
          have := h5 y (by omega) (by omega) hP
          omega
    · rw [if_neg hc]
      rcases ih with ⟨h1, h2⟩ | ⟨m, h1, h2, h3, h4, h5⟩
      · refine .inl ⟨h1, fun y _ hy => ?_⟩
        by_cases e : y = k
        · subst e
          cases hP : P y with
          | false => rfl
          | true => exact absurd ⟨hP, .inl (by omega)⟩ hc
        · exact h2 y (by omega) (by omega)
      · refine .inr ⟨m, h1, h2, by omega, h4, fun y _ hy hP => ?_⟩
        by_cases e : y = k
        · subst e
          rw [h1, Int.toNat_natCast] at hc
          have : ¬ iget r y < iget r m := fun h => hc ⟨hP, .inr h⟩
          omega
        · exact h5 y (by omega) (by omega) hP
/-- The same, looked for from the end: after the last k of n. -/
def backTo (r : List Int) (P : Nat → Bool) (n : Nat) : Nat → Int
  | 0 => -1
  | k + 1 => if P (n - 1 - k) = true ∧ (backTo r P n k < 0 ∨ iget r (n - 1 - k) ≤ iget r (backTo r P n k).toNat) then ((n - 1 - k : Nat) : Int) else backTo r P n k
theorem backTo_is (r : List Int) (P : Nat → Bool) (n : Nat) : ∀ k, k ≤ n → IsLeast r P (n - k) n (backTo r P n k)
  | 0, _ => .inl ⟨rfl, fun y _ h => by omega⟩
  | k + 1, hk => by
    have ih := backTo_is r P n k (by omega)
    have e1 : n - (k + 1) = n - 1 - k := by omega
    rw [backTo, e1]
    have e2 : n - k = n - 1 - k + 1 := by omega
    rw [e2] at ih
    generalize hj : n - 1 - k = j at *
    by_cases hc : P j = true ∧ (backTo r P n k < 0 ∨ iget r j ≤ iget r (backTo r P n k).toNat)
    · rw [if_pos hc]
      refine .inr ⟨j, rfl, by omega, by omega, hc.1, fun y hl hy hP => ?_⟩
      by_cases e : y = j
      · subst e; right; exact ⟨rfl, Nat.le_refl _⟩
      · rcases ih with ⟨h1, h2⟩ | ⟨m, h1, h2, h3, h4, h5⟩
        · rw [h2 y (by omega) (by omega)] at hP; cases hP
        · rw [h1, Int.toNat_natCast] at hc
          have hlt : iget r j ≤ iget r m := by rcases hc.2 with h | h; omega; exact h
          have := h5 y (by omega) (by omega) hP
          omega
    · rw [if_neg hc]
      rcases ih with ⟨h1, h2⟩ | ⟨m, h1, h2, h3, h4, h5⟩
      · refine .inl ⟨h1, fun y hl hy => ?_⟩
        by_cases e : y = j
        · subst e
          cases hP : P y with
          | false => rfl
          | true => exact absurd ⟨hP, .inl (by omega)⟩ hc
        · exact h2 y (by omega) (by omega)
      · refine .inr ⟨m, h1, by omega, by omega, h4, fun y hl hy hP => ?_⟩
        by_cases e : y = j
        · subst e
          rw [h1, Int.toNat_natCast] at hc
          have : ¬ iget r y ≤ iget r m := fun h => hc ⟨hP, .inr h⟩
          omega
        · exact h5 y (by omega) (by omega) hP
theorem backTo_full (r : List Int) (P : Nat → Bool) (n : Nat) : backTo r P n n = leastTo r P n := by
  have h := backTo_is r P n n (Nat.le_refl _)
  rw [Nat.sub_self] at h
  exact isLeast_uniq h (leastTo_is r P n)
theorem backTo_range (r : List Int) (P : Nat → Bool) (n : Nat) {k : Nat} (hk : k ≤ n) : -1 ≤ backTo r P n k ∧ backTo r P n k < n := by
  rcases backTo_is r P n k hk with ⟨h1, _⟩ | ⟨m, h1, _, h2, _⟩ <;> omega

def freeP (a : List Int) (j : Nat) : Bool := decide (iget a j < 0)
def cpick (r a : List Int) : Int := leastTo r (freeP a) a.length
theorem cpick_range (r a : List Int) : -1 ≤ cpick r a ∧ cpick r a < a.length := leastTo_range r (freeP a) a.length
/-- Who has what after one turn; after k turns; what was taken. -/
def cstep (v : List (List Int)) (a : List Int) (i : Int) : List Int := if 0 ≤ cpick (rget v i.toNat) a then a.set (cpick (rget v i.toNat) a).toNat i else a
def cpA (v : List (List Int)) (ts : List Int) : Nat → List Int
  | 0 => List.replicate (wid v) (-1)
  | k + 1 => cstep v (cpA v ts k) (iget ts k)
def cpT (v : List (List Int)) (ts : List Int) : Nat → List Int
  | 0 => []
  | k + 1 => cpT v ts k ++ [cpick (rget v (iget ts k).toNat) (cpA v ts k)]
theorem cstep_len (v : List (List Int)) (a : List Int) (i : Int) : (cstep v a i).length = a.length := by unfold cstep; split <;> simp
theorem cpA_len (v : List (List Int)) (ts : List Int) : ∀ k, (cpA v ts k).length = wid v
  | 0 => by simp [cpA]
  | k + 1 => by rw [cpA, cstep_len, cpA_len v ts k]
theorem cpT_len (v : List (List Int)) (ts : List Int) : ∀ k, (cpT v ts k).length = k
  | 0 => rfl
  | k + 1 => by rw [cpT, List.length_append, cpT_len v ts k]; rfl
def cpickL (v : List (List Int)) (ts : List Int) : List Int := if pickE v ts = 0 then cpA v ts ts.length else []
def cpickT (v : List (List Int)) (ts : List Int) : List Int := if pickE v ts = 0 then cpT v ts ts.length else []
end Go.Proofs.Ytiohehofnlmenaa

/- The walk of chores.Pick, for every chores and turns; no condition. -/
namespace Go.Proofs.Ytiohehofnlmenaa
set_option linter.unusedVariables false
set_option linter.unusedSimpArgs false
open Go.ChangeShapes Go.WideShapes Go.ChangeAt Go.RowKit Go.Deep

theorem enter_cpick1 (args : Array Value) (W : World) : (callFunc 49 args).run Try.prog W = .ok (.enter 49 args) W := by kernel_rfl
set_option maxHeartbeats 400000 in
theorem cpick1_any (S : Nat) (p : Option Addr) (c j : Nat) (a : List Int) (w : World) (hS : w.cell? ⟨S, 0, none⟩ = some (.slice p a.length c)) (hI : Ints w p c a) (hj : j < a.length) :
    Calls Try.prog 49 #[.int .i64 (j : Nat), .pointer (some ⟨S, 0, none⟩)] w fun e w' => e = .returned (.bool (freeP a j)) ∧ w' = w := by
  have hl := hI.length_le
  obtain ⟨b, o, rfl, _, hc⟩ := hI.get hj
  have hj1 : (j : Int) < a.length := by omega
  have HF : Hid (freeP a j = decide (iget a j < 0)) := rfl
  go_enter Try.func49, Try.ntmps49
  go_wp2_with fail
  go_ret
  exact ⟨ret_bool HF.out.symm, rfl⟩

set_option maxHeartbeats 8000000 in
set_option maxRecDepth 100000 in
theorem choresPick_any (p q : Option Addr) (c d : Nat) (v : List (List Int)) (ts : List Int) (w : World) (hx : Mat w p c v) (hy : Ints w q d ts) :
    Calls Try.prog 24 #[.agg #[.slice p v.length c], .slice q ts.length d] w (GivesLL w (cpickL v ts) (cpickT v ts) (pickE v ts)) := by
  obtain ⟨W00, hW00⟩ : ∃ W0, w.alloc (.cells #[.slice p v.length c] 24) = W0 := ⟨_, rfl⟩
  obtain ⟨W0, hW0⟩ : ∃ W0, W00.alloc (.cells #[.slice none 0 0] 25) = W0 := ⟨_, rfl⟩
  have hB1 : Below w.heap.size w W00 := below_alloc hW00
  have hB2 := below_alloc hW0
  have hs : W00.heap.size = w.heap.size + 1 := by rw [← hW00]; simp
  have bX : BoxV W0 w.heap.size [.slice p v.length c] := (BoxV.new rfl hW00).below hB2
  have bA : OneV W0 (w.heap.size + 1) (.slice none 0 0) 25 := OneV.new hs hW0
  have hB : Below w.heap.size w W0 := hB1.trans (hB2.mono hB1.size)
  have mX := hx.below hB (Nat.le_refl _)
  have mT := hy.below hB (Nat.le_refl _)
  have x0 := bX.cell 0 _ rfl
  have HW00 := Lib.hid hW00
  have HW0 := Lib.hid hW0
  clear hW0 hW00 hB1 hB2 hs
  have hl1 := mX.length_le
  have hl2 := mT.length_le
  have a0 := bA.cell
  have f0 := bA.free
  go_enter Try.func24, Try.ntmps24
  go_wp2_with fail
  rw [HW00.out, HW0.out]
  refine (goodsCheck_any p c v _ mX).mono ?_
  rintro e w1 ⟨rfl, hb1⟩
  by_cases hG : chkG v = 0
  · have hgz : (chkG v != 0) = false := by rw [hG]; rfl
    have HG := Lib.hid hG
    clear hG
    clear x0
    replace bX := bX.below hb1
    replace bA := bA.below hb1 bA.lt
    replace hB := hB.trans (hb1.mono hB.size)
    clear hb1 mX mT a0 f0
    have x0 := bX.cell 0 _ rfl
    go_wp2_with fail
    refine (robinCheck_any v.length q d ts _ (hy.below hB (Nat.le_refl _))).mono ?_
    rintro e w2 ⟨rfl, hb⟩
    clear x0
    replace bX := bX.below hb
    replace bA := bA.below hb bA.lt
    replace hB := hB.trans (hb.mono hB.size)
    clear hb
    have x0 := bX.cell 0 _ rfl
    have lX := bX.lt
    have lA := bA.lt
    by_cases hT : chkT v.length ts = 0
    · have htz : (chkT v.length ts != 0) = false := by rw [hT]; rfl
      have HT := Lib.hid hT
      have HP := Lib.hid (picks_of HG.out hT)
      have HE : Hid (pickE v ts = 0) := (pickE_ok HG.out).trans HT.out
      clear hT
      have Hx := Lib.hid hx
      have Hy := Lib.hid hy
      obtain ⟨b, o, rfl, _, q0, d0, hc0, hi0⟩ := (hx.below hB (Nat.le_refl _)).get (j := 0) HP.out.n1
      rw [Nat.add_zero] at hc0
      obtain ⟨m, hm⟩ : ∃ m, wid v = m := ⟨_, rfl⟩
      have hm0 : (rget v 0).length = m := hm
      rw [hm0] at hc0
      have Hm := Lib.hid hm
      have hm10 : m ≤ 10 := by have := HP.out.m10; omega
      have hv1 : (0 : Int) < v.length := by have := HP.out.n1; omega
      clear hm hm0 hi0 hx hy
      have hI1 := ints_one w2 (x := -1) ⟨by omega, by omega⟩ 3
      have hBa : Below w2.heap.size w2 (w2.alloc (.cells #[.int .i64 (-1)] 3)) := (Below.refl _ _).alloc (Nat.le_refl _) _
      have hc0' : (w2.alloc (.cells #[.int .i64 (-1)] 3)).cell? ⟨b, o, none⟩ = _ := (hBa.cell (p := ⟨b, o, none⟩) (World.block_lt_of_cell? _ _ hc0)).trans hc0
      have x0' : (w2.alloc (.cells #[.int .i64 (-1)] 3)).cell? ⟨w.heap.size, 0, none⟩ = _ := (hBa.cell (p := ⟨w.heap.size, 0, none⟩) (World.block_lt_of_cell? _ _ x0)).trans x0
      go_wp2_with fail
      refine (repeat1_any _ _ (-1) m _ hI1 (by omega) ⟨by omega, by omega⟩).mono ?_
      rintro e w3 ⟨g, c1, rfl, hO, hb'⟩
      have hb := hBa.trans (hb'.mono hBa.size)
      have hgs := hO.lt g rfl
      have hbs := hBa.size
      have hgA : w.heap.size + 1 < g := by omega
      replace hO := hO.lower (base' := w.heap.size + 2) (by omega)
      clear x0 x0' hc0 hc0' hI1 hb' hBa hbs lX lA
      replace bX := bX.below hb
      replace bA := bA.below hb bA.lt
      replace hB := hB.trans (hb.mono hB.size)
      clear hb
      have fA := bA.free
      have aA := bA.cell
      have lA := bA.lt
      have bX4 := Lib.hid (bX.heap (w' := w3.setCell ⟨w.heap.size + 1, 0, none⟩ (.slice (some ⟨g, 0, none⟩) m c1)) (by rw [size_set]; exact Nat.le_refl _) (heap_set_ne _ (by omega)))
      have bA4 := Lib.hid (bA.set (u := .slice (some ⟨g, 0, none⟩) m c1))
      have hO4 := Lib.hid (hO.beside (g := w.heap.size + 1) (x := 0) (u := .slice (some ⟨g, 0, none⟩) m c1) (by simp [blk]; omega))
      have hB4 := Lib.hid (hB.setCell (p := ⟨w.heap.size + 1, 0, none⟩) (by simp) (.slice (some ⟨g, 0, none⟩) m c1))
      obtain ⟨W4, hW4⟩ : ∃ W4, w3.setCell ⟨w.heap.size + 1, 0, none⟩ (.slice (some ⟨g, 0, none⟩) m c1) = W4 := ⟨_, rfl⟩
      have hs4 : W4.heap.size = w3.heap.size := by rw [← hW4]; exact size_set _
      rw [hW4] at bX4 bA4 hO4 hB4
      have HW4 := Lib.hid hW4
      obtain ⟨G, hGe⟩ : ∃ G, W4.heap.size = G := ⟨_, rfl⟩
      have HGs := Lib.hid hGe
      have hgG : g < G := by omega
      clear hW4 hGe hs4 hgs bX bA hB hO
      have hO0 : Hid (Own W4 (w.heap.size + 2) (some ⟨g, 0, none⟩) c1 (cpA v ts 0)) := by
        unfold Hid cpA; rw [Hm.out]; exact hO4.out
      clear hO4
      have Hgs : Hid (w.heap.size + 1 < g) := hgA
      go_wp2_with fail
      rw [HW4.out]
      go_loopw [5, 34] (fun s i wr => ∃ k : Nat, k ≤ ts.length ∧ i = .int .i64 k ∧ (∃ zs pz cz, Hid (zs = cpT v ts k) ∧ s = .slice pz (zs : List Int).length cz ∧ Own wr G pz cz zs) ∧ Own wr (w.heap.size + 2) (some ⟨g, 0, none⟩) c1 (cpA v ts k) ∧ BoxV wr w.heap.size [.slice (some ⟨b, o, none⟩) v.length c] ∧ OneV wr (w.heap.size + 1) (.slice (some ⟨g, 0, none⟩) m c1) 25 ∧ Below w.heap.size w wr ∧ G ≤ wr.heap.size) (fun _ i _ => ts.length - (intOf i).toNat)
      case atStart => exact ⟨0, by omega, rfl, ⟨[], none, 0, rfl, rfl, Own.ofNil _ _⟩, hO0.out, bX4.out, bA4.out, hB4.out, by rw [HGs.out]; exact Nat.le_refl _⟩
      case round =>
        clear hO0 bX4 bA4 hB4 fA lA aA
        obtain ⟨k, hk, rfl, ⟨zs, pz, cz, hzz, rfl, hZ⟩, hO, bX, bA, hBr, hGw⟩ := hrel
        by_cases hkl : k < ts.length
        · have hk1 : (k : Int) < ts.length := by omega
          obtain ⟨i, hti, hiv⟩ := HP.out.turn k hkl
          obtain ⟨bt, ot, rfl, hbt, hct⟩ := (Hy.out.below hBr (Nat.le_refl _)).get hkl
          rw [hti] at hct
          have Hti := Lib.hid hti
          obtain ⟨qi, di, hci, hri⟩ := (Hx.out.below hBr (Nat.le_refl _)).at hiv
          have hrow : (rget v i).length = m := (HP.out.row i hiv).trans Hm.out
          have hiv1 : (i : Int) < v.length := by omega
          obtain ⟨A, hA⟩ : ∃ A, cpA v ts k = A := ⟨_, rfl⟩
          have hAl : A.length = m := by rw [← hA, cpA_len]; exact Hm.out
          rw [hA] at hO
          have HA := Lib.hid hA
          have HAl := Lib.hid hAl
          have Hrow := Lib.hid hrow
          rw [hrow] at hci
          have x0 := bX.cell 0 _ rfl
          have a0 := bA.cell
          have a0' := a0
          rw [← hAl] at a0'
          have HC := least1_any 49 (.pointer (some ⟨w.heap.size + 1, 0, none⟩)) (freeP A) (fun W => W = wr) enter_cpick1 qi di (rget v i) wr rfl (Lib.hid (fun W h => h ▸ hri)) (fun j W hj hR => by
            subst hR
            exact cpick1_any (w.heap.size + 1) (some ⟨g, 0, none⟩) c1 j A _ a0' hO.ints (by omega))
          rw [show leastTo (rget v i) (freeP A) (rget v i).length = cpick (rget v i) A by unfold cpick; rw [hrow, hAl], hrow] at HC
          have hpr := cpick_range (rget v i) A
          rw [hAl] at hpr
          obtain ⟨y, hyy⟩ : ∃ y, cpick (rget v i) A = y := ⟨_, rfl⟩
          rw [hyy] at HC hpr
          have HTk : Hid (cpT v ts (k + 1) = zs ++ [y]) := by unfold Hid; rw [cpT, ← hzz.out, HA.out, Hti.out, Int.toNat_natCast, hyy]
          have HAk : Hid (cpA v ts (k + 1) = if 0 ≤ y then A.set y.toNat i else A) := by unfold Hid; rw [cpA, cstep, HA.out, Hti.out, Int.toNat_natCast, hyy]
          have hyr : in64 y := ⟨by omega, by omega⟩
          have hzl : zs.length ≤ 900000 := by rw [hzz.out, cpT_len]; have := HP.out.few; omega
          have hzg : Hid (blk pz ≠ some g) := fun e => by have := (hZ.lt g e).1; omega
          have HC := Lib.hid HC
          clear hA hAl hrow hti hyy a0' hri
          go_wp2_with fail
          refine HC.out.mono ?_
          rintro e w' ⟨rfl, rfl⟩
          clear HC
          by_cases h0 : 0 ≤ y
          · obtain ⟨x, rfl⟩ : ∃ x : Nat, y = x := ⟨y.toNat, by omega⟩
            have hxm : (x : Int) < m := by omega
            have hx0 : (0 : Int) ≤ x := by omega
            have hyr := Lib.hid hyr
            unfold Hid at HAk
            rw [if_pos h0, Int.toNat_natCast] at HAk
            have HAk := Lib.hid HAk
            obtain ⟨g', hg', _, _, hcA, hfA⟩ := hO.get (j := x) (by rw [HAl.out]; omega)
            obtain rfl : g = g' := by simpa using hg'
            clear hg' h0
            have HO2 := Lib.hid (hO.set x (x := i) ⟨by omega, by omega⟩).1
            have HZ2 := Lib.hid (hZ.beside (x := x) (u := .int .i64 i) hzg.out)
            have HB2 := Lib.hid (hBr.setCell (p := ⟨g, x, none⟩) (by have := Hgs.out; simp only; omega) (.int .i64 i))
            have HX2 := Lib.hid (bX.heap (Nat.le_of_eq (size_set _).symm) (heap_set_ne _ (g := g) (x := x) (u := .int .i64 i) (by have := Hgs.out; omega)))
            have HA2 := Lib.hid (bA.heap (heap_set_ne _ (g := g) (x := x) (u := .int .i64 i) (by have := Hgs.out; omega)))
            obtain ⟨W5, hW5⟩ : ∃ W5, w'.setCell ⟨g, x, none⟩ (.int .i64 i) = W5 := ⟨_, rfl⟩
            have hG2 : G ≤ W5.heap.size := by rw [← hW5, size_set]; exact hGw
            have hsz2 : w'.heap.size = W5.heap.size := by rw [← hW5, size_set]
            rw [hW5] at HO2 HZ2 HB2 HX2 HA2
            have Hsz2 := Lib.hid hsz2.symm
            have HW5 := Lib.hid hW5
            clear hO hZ hBr hsz2 hW5 bX bA
            go_wp2_with (at_builtin; rw [HW5.out]; refine wpList_app1 rfl (.tmp 51) (.tmp 53) rfl G _ _ zs x rfl rfl Hsz2.out HZ2.out hyr.out hzl hG2 ?_; intro p2 c2 w2 r2 hr2 hO3 hg3 hf3)
            go_roundw
            case rel =>
              have hz := HZ2.out.lt
              have hg5 := hzg.out
              have hgs := Hgs.out
              exact ⟨k + 1, by omega, by go_num, ⟨r2, p2, c2, by unfold Hid; rw [hr2.out, HTk.out], rfl, hO3⟩, by rw [HAk.out]; exact HO2.out.keptBy hg3 (fun k' e => by simp [blk] at e; subst e; exact hg5),
                HX2.out.heap hg3.size (hg3.block _ (by omega) (fun e => by have := (hz _ e.symm).1; omega)), HA2.out.heap (hg3.block _ (by omega) (fun e => by have := (hz _ e.symm).1; omega)), below_grown HB2.out hg3 (by omega) hz (by omega), Nat.le_trans hG2 hg3.size⟩
            case measure => simp [intOf]; omega
          · have hd0 : decide (0 ≤ y) = false := by simpa using h0
            unfold Hid at HAk
            rw [if_neg h0] at HAk
            have HAk := Lib.hid HAk
            have hZ2 := Lib.hid hZ
            have hyr := Lib.hid hyr
            clear h0
            go_wp2_with (at_builtin; refine wpList_app1 rfl (.tmp 51) (.tmp 53) rfl G _ _ zs y rfl rfl rfl hZ2.out hyr.out hzl hGw ?_; intro p2 c2 w2 r2 hr2 hO3 hg3 hf3)
            go_roundw
            case rel =>
              have hz := hZ2.out.lt
              have hg5 := hzg.out
              have hgs := Hgs.out
              exact ⟨k + 1, by omega, by go_num, ⟨r2, p2, c2, by unfold Hid; rw [hr2.out, HTk.out], rfl, hO3⟩, by rw [HAk.out]; exact hO.keptBy hg3 (fun k' e => by simp [blk] at e; subst e; exact hg5),
                bX.heap hg3.size (hg3.block _ (by omega) (fun e => by have := (hz _ e.symm).1; omega)), bA.heap (hg3.block _ (by omega) (fun e => by have := (hz _ e.symm).1; omega)), below_grown hBr hg3 (by omega) hz (by omega), Nat.le_trans hGw hg3.size⟩
            case measure => simp [intOf]; omega
        · have hk1 : ¬ (k : Int) < ts.length := by omega
          obtain rfl : k = ts.length := by omega
          have HL : Hid (cpickL v ts = cpA v ts ts.length) := by unfold Hid cpickL; rw [if_pos HE.out]
          have HLT : Hid (cpickT v ts = zs) := by unfold Hid cpickT; rw [if_pos HE.out, hzz.out]
          have hAl : Hid ((cpA v ts ts.length).length = m) := by unfold Hid; rw [cpA_len]; exact Hm.out
          have a0 := bA.cell
          have f0 := bA.free
          have a2 := bA.set (u := .slice (some ⟨g, 0, none⟩) m c1)
          have Ha2 := a2.cell
          have hgs := Hgs.out
          have hO5 := Lib.hid ((hO.beside (g := w.heap.size + 1) (x := 0) (u := .slice (some ⟨g, 0, none⟩) m c1) (by simp [blk]; omega)).lower (base' := w.heap.size) (by omega))
          have hZ5 := Lib.hid ((hZ.beside (g := w.heap.size + 1) (x := 0) (u := .slice (some ⟨g, 0, none⟩) m c1) (fun e => by have := (hZ.lt _ e).1; omega)).lower (base' := w.heap.size) (by omega))
          have hB5 := Lib.hid (hBr.setCell (p := ⟨w.heap.size + 1, 0, none⟩) (by simp) (.slice (some ⟨g, 0, none⟩) m c1))
          clear a2 hO hZ hBr hgs
          go_wp2_with fail
          refine bodyPost_ret (v := .tuple #[.slice (some ⟨g, 0, none⟩) m c1, .slice pz zs.length cz, .int .i64 0]) (by simp [results, Try.results24, go_sem, Ha2]) rfl ?_
          rw [HL.out, HLT.out, HE.out]
          exact ⟨some ⟨g, 0, none⟩, c1, pz, cz, by rw [hAl.out], hO5.out, hZ5.out, hB5.out⟩
    · have htz : (chkT v.length ts != 0) = true := by rw [bne_iff_ne]; exact hT
      have HE : Hid (pickE v ts = chkT v.length ts) := pickE_ok HG.out
      have HL : Hid (cpickL v ts = []) := by unfold Hid cpickL; rw [HE.out, if_neg hT]
      have HLT : Hid (cpickT v ts = []) := by unfold Hid cpickT; rw [HE.out, if_neg hT]
      clear hT
      have a1 := bA.cell
      have f1 := bA.free
      have a2 := bA.set (u := .slice none 0 0)
      have Ha2 := a2.cell
      clear a2
      go_wp2_with fail
      refine bodyPost_ret (v := .tuple #[.slice none 0 0, .slice none 0 0, .int .i64 (chkT v.length ts)]) (by simp [results, Try.results24, go_sem, Ha2]) rfl ?_
      rw [HL.out, HLT.out, HE.out]
      exact ⟨none, 0, none, 0, rfl, Own.ofNil _ _, Own.ofNil _ _, hB.setCell (p := ⟨w.heap.size + 1, 0, none⟩) (by simp) _⟩
  · have hgz : (chkG v != 0) = true := by rw [bne_iff_ne]; exact hG
    have HE : Hid (pickE v ts = chkG v) := pickE_bad hG
    have HL : Hid (cpickL v ts = []) := by unfold Hid cpickL; rw [HE.out, if_neg hG]
    have HLT : Hid (cpickT v ts = []) := by unfold Hid cpickT; rw [HE.out, if_neg hG]
    clear hG
    have bA1 := bA.below hb1 bA.lt
    have a1 := bA1.cell
    have f1 := bA1.free
    have a2 := bA1.set (u := .slice none 0 0)
    have Ha2 := a2.cell
    clear a2
    go_wp2_with fail
    refine bodyPost_ret (v := .tuple #[.slice none 0 0, .slice none 0 0, .int .i64 (chkG v)]) (by simp [results, Try.results24, go_sem, Ha2]) rfl ?_
    rw [HL.out, HLT.out, HE.out]
    exact ⟨none, 0, none, 0, rfl, Own.ofNil _ _, Own.ofNil _ _, (hB.trans (hb1.mono hB.size)).setCell (p := ⟨w.heap.size + 1, 0, none⟩) (by simp) _⟩
end Go.Proofs.Ytiohehofnlmenaa
