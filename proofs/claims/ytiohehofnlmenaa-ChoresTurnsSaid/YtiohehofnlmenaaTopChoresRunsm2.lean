/- Slices of rows that a call itself makes: the top row its own (TMat), or every row its own (DMat); no condition but sizes. -/
import Derived.Test.YtiohehofnlmenaaTopChoresRunsm1
/- Slices of rows that a call itself makes: the top row its own (TMat), or every row its own (DMat); no condition but sizes. -/
namespace Go.Proofs.Ytiohehofnlmenaa
set_option linter.unusedVariables false
set_option linter.unusedSimpArgs false
open Go.ChangeShapes Go.WideShapes Go.ChangeAt Go.RowKit Go.Deep

theorem rget_append {v : List (List Int)} {r : List Int} {k : Nat} : rget (v ++ [r]) k = if k < v.length then rget v k else if k = v.length then r else [] := by
  simp only [rget, List.getD, List.getElem?_append]
  split
  · rfl
  · rename_i h
    by_cases e : k = v.length
    · subst e; simp
    · rw [if_neg e, List.getElem?_eq_none (by simp; omega)]; rfl
theorem rget_set {v : List (List Int)} {r : List Int} {j k : Nat} (hj : j < v.length) : rget (v.set j r) k = if j = k then r else rget v k := by
  simp only [rget, List.getD, List.getElem?_set]
  split
  · rename_i h; subst h; simp [hj]
  · rfl

def rowsV (Q : Nat → Option Addr) (D : Nat → Nat) (v : List (List Int)) : List Value := (List.range v.length).map fun j => .slice (Q j) (rget v j).length (D j)
theorem rowsV_get {Q : Nat → Option Addr} {D : Nat → Nat} {v : List (List Int)} {j : Nat} (hj : j < v.length) : (rowsV Q D v)[j]? = some (.slice (Q j) (rget v j).length (D j)) := by simp [rowsV, hj]
theorem rowsV_length (Q : Nat → Option Addr) (D : Nat → Nat) (v : List (List Int)) : (rowsV Q D v).length = v.length := by simp [rowsV]

/-- The top row is the call's own; each row reads as a list. -/
structure TMat (w : World) (base : Nat) (p : Option Addr) (c : Nat) (v : List (List Int)) (Q : Nat → Option Addr) (D : Nat → Nat) : Prop where
  top : w.ownsRow base 25 1 (.slice p v.length c) v.length (rowsV Q D v)
  rows : ∀ j, j < v.length → Ints w (Q j) (D j) (rget v j)
  sep : ∀ j, j < v.length → 0 < (rget v j).length → ∀ k, blk (Q j) = some k → blk p ≠ some k
/-- Every row is the call's own, each in a block of its own. -/
structure DMat (w : World) (base : Nat) (p : Option Addr) (c : Nat) (v : List (List Int)) (Q : Nat → Option Addr) (D : Nat → Nat) : Prop where
  top : w.ownsRow base 25 1 (.slice p v.length c) v.length (rowsV Q D v)
  rows : ∀ j, j < v.length → Own w base (Q j) (D j) (rget v j)
  apart : ∀ i j, i < v.length → j < v.length → i ≠ j → ∀ k, blk (Q i) = some k → blk (Q j) ≠ some k

section
variable {w : World} {base : Nat} {p : Option Addr} {c : Nat} {v : List (List Int)} {Q : Nat → Option Addr} {D : Nat → Nat}
/-- The block of the top row is not a block of numbers. -/
theorem top_not_row {g : Nat} {q : Option Addr} {d : Nat} {xs : List Int} (h : w.ownsRow base 25 1 (.slice (some ⟨g, 0, none⟩) v.length c) v.length (rowsV Q D v)) {base' : Nat} (hq : Own w base' q d xs) : blk q ≠ some g := by
  intro e
  rcases hq.row.2 with ⟨h1, _⟩ | ⟨g', cap, cur, h1, _, h3, _⟩
  · simp only [Value.slice.injEq] at h1
    rw [h1.1] at e; simp [blk] at e
  · simp only [Value.slice.injEq] at h1
    rw [h1.1] at e
    simp [blk] at e
    subst e
    rcases h.2 with ⟨h4, _⟩ | ⟨g2, cap2, cur2, h4, _, h6, _⟩
    · simp at h4
    · simp only [Value.slice.injEq, Option.some.injEq, Addr.mk.injEq] at h4
      obtain ⟨⟨rfl, _⟩, _⟩ := h4
      rw [h6] at h3
      simp at h3
theorem DMat.tmat (h : DMat w base p c v Q D) : TMat w base p c v Q D := ⟨h.top, fun j hj => (h.rows j hj).ints, fun j hj _ k hk hp => by
  rcases h.top.2 with ⟨h1, _⟩ | ⟨g, cap, cur, h1, _⟩
  · simp only [Value.slice.injEq] at h1
    rw [h1.1] at hp; simp [blk] at hp
  · have h2 := h.top
    simp only [Value.slice.injEq] at h1
    rw [h1.1] at hp h2
    simp [blk] at hp
    subst hp
    exact top_not_row h2 (h.rows j hj) hk⟩

theorem TMat.shape (h : TMat w base p c v Q D) : (p = none ∧ c = 0 ∧ v = []) ∨ ∃ g, p = some ⟨g, 0, none⟩ ∧ base ≤ g ∧ g < w.heap.size ∧ v.length ≤ c ∧ c ≤ 9223372036854775807 := by
  rcases h.top.2 with ⟨h1, h2⟩ | ⟨g, cap, cur, h1, h2, h3, h4, h5, _, _⟩
  · simp only [Value.slice.injEq] at h1
    exact .inl ⟨h1.1, h1.2.2, List.eq_nil_of_length_eq_zero h2⟩
  · simp only [Value.slice.injEq] at h1
    obtain ⟨rfl, _, rfl⟩ := h1
    exact .inr ⟨g, rfl, h2, (Array.getElem?_eq_some_iff.1 h3).1, h4, h5⟩
theorem TMat.at {g : Nat} (h : TMat w base (some ⟨g, 0, none⟩) c v Q D) {j : Nat} (hj : j < v.length) : w.cell? ⟨g, j, none⟩ = some (.slice (Q j) (rget v j).length (D j)) := by
  rw [h.top.cellAt j (by omega), rowsV_get hj]
theorem TMat.free {g : Nat} (h : TMat w base (some ⟨g, 0, none⟩) c v Q D) (j : Nat) : w.frozen? ⟨g, j, none⟩ = false := h.top.frozenAt j
theorem TMat.get (h : TMat w base p c v Q D) {j : Nat} (hj : j < v.length) : ∃ g, p = some ⟨g, 0, none⟩ ∧ base ≤ g ∧ g < w.heap.size ∧ w.cell? ⟨g, j, none⟩ = some (.slice (Q j) (rget v j).length (D j)) ∧ w.frozen? ⟨g, j, none⟩ = false := by
  rcases h.shape with ⟨rfl, rfl, rfl⟩ | ⟨g, rfl, h1, h2, h3, h4⟩
  · simp at hj
  · exact ⟨g, rfl, h1, h2, h.at hj, h.free j⟩
theorem TMat.mat (h : TMat w base p c v Q D) : Mat w p c v := by
  rcases h.shape with ⟨rfl, rfl, rfl⟩ | ⟨g, rfl, h1, h2, h3, h4⟩
  · exact Mat.ofNil w
  · refine ⟨h3, h4, fun h => (by cases h), ?_, ?_⟩
    · rintro a ⟨⟩ _; exact ⟨rfl, h2⟩
    · rintro b o ⟨⟩ j hj
      rw [Nat.zero_add]; exact ⟨_, _, h.at hj, h.rows j hj⟩
theorem TMat.lt (h : TMat w base p c v Q D) : ∀ k, blk p = some k → base ≤ k ∧ k < w.heap.size := fun k hk => h.top.lt k (by rw [ownBlock_slice]; exact hk)
theorem TMat.ofNil (w : World) (base : Nat) : TMat w base none 0 [] Q D := ⟨World.ownsRow_nil w base _ _, fun _ h => (by simp at h), fun _ h => (by simp at h)⟩
theorem DMat.ofNil (w : World) (base : Nat) : DMat w base none 0 [] Q D := ⟨World.ownsRow_nil w base _ _, fun _ h => (by simp at h), fun _ _ h => (by simp at h)⟩
theorem DMat.mat (h : DMat w base p c v Q D) : Mat w p c v := h.tmat.mat

theorem top_kept {w' : World} (h : w.ownsRow base 25 1 (.slice p v.length c) v.length (rowsV Q D v)) {row : Option Nat} (hg : w.grownBy w' row) (hne : ∀ k, blk p = some k → row ≠ some k) :
    w'.ownsRow base 25 1 (.slice p v.length c) v.length (rowsV Q D v) :=
  h.kept hg (by
    rw [ownBlock_slice]
    cases hb : blk p with
    | none => exact .inl rfl
    | some k => exact .inr fun e => hne k hb e.symm)
theorem TMat.below {w' : World} {B : Nat} (h : TMat w base p c v Q D) (hb : Below B w w') (hB : w.heap.size ≤ B) : TMat w' base p c v Q D :=
  ⟨top_kept h.top (grownBy_of_below hb hB none) (fun _ _ e => by cases e), fun j hj => (h.rows j hj).below hb hB, h.sep⟩
theorem DMat.below {w' : World} {B : Nat} (h : DMat w base p c v Q D) (hb : Below B w w') (hB : w.heap.size ≤ B) : DMat w' base p c v Q D :=
  ⟨top_kept h.top (grownBy_of_below hb hB none) (fun _ _ e => by cases e), fun j hj => (h.rows j hj).below hb hB, h.apart⟩
theorem DMat.lt (h : DMat w base p c v Q D) : ∀ j, j < v.length → ∀ k, blk (Q j) = some k → base ≤ k ∧ k < w.heap.size := fun j hj k hk => (h.rows j hj).lt k hk
theorem DMat.keptBy {w' : World} {row : Option Nat} (h : DMat w base p c v Q D) (hg : w.grownBy w' row) (hne : ∀ k, blk p = some k → row ≠ some k) (hne2 : ∀ j, j < v.length → ∀ k, blk (Q j) = some k → row ≠ some k) : DMat w' base p c v Q D :=
  ⟨top_kept h.top hg hne, fun j hj => (h.rows j hj).keptBy hg (hne2 j hj), h.apart⟩

end

/-- 'append(out, row)', the row's value laid in a new block. -/
theorem wpList_appRow {w : World} {ops : Array Oper} {rest : List Oper} {o : Oper} {a : Act} {K : Exit → Act → World → Prop} (hgd : o.guard = none) (s x : Operand)
    (ho : o.op = .call { callee := .builtin .append, args := #[s, x], argTypes := #[22, 22] })
    (base : Nat) (p : Option Addr) (c : Nat) (v : List (List Int)) (Q : Nat → Option Addr) (D : Nat → Nat) (q : Option Addr) (d : Nat) (r : List Int)
    (hs : a.eval s = .slice p v.length c) {B : Nat} (hx : a.eval x = .slice (some ⟨B, 0, none⟩) 1 1) (hB : w.heap.size = B) (hown : TMat w base p c v Q D) (hr : Ints w q d r) (hsep : 0 < r.length → ∀ k, blk q = some k → blk p ≠ some k)
    (hsz : v.length ≤ 900000) (hbase : base ≤ w.heap.size)
    (h : ∀ p' c' w' u, Hid (u = v ++ [r]) → TMat w' base p' c' u (fun j => if j < v.length then Q j else q) (fun j => if j < v.length then D j else d) → w.grownBy w' (blk p) → Fresh w p p' →
      wpList Try.prog ops K rest (a.put o.dst (.slice p' u.length c')) w') :
    wpList Try.prog ops K (o :: rest) a (w.alloc (.cells #[.slice q r.length d] 25)) := by
  subst hB
  refine wpList_appG (w := w.alloc (.cells #[.slice q r.length d] 25)) hgd s x 22 25 ho (.slice none 0 0) 1 24 Try.underlying22 infoRow rfl (by decide) base p (some ⟨w.heap.size, 0, none⟩) v.length 1 c 1 (rowsV Q D v) [.slice q r.length d] hs hx (hown.top.alloc _)
    (fun e => (by cases e)) (by simp) ?_ (by simp [Value.oneCell']) (by simp [maxLen]; omega) (by omega) (by simp; omega) ?_
  · rintro ad ⟨⟩ j u hu
    have hj : j = 0 := by
      have := (List.getElem?_eq_some_iff.1 hu).1
      simpa using this
    subst hj
    simp at hu; subst hu
    rw [add_plain, World.cell?_alloc_at _ _ _ _ rfl]; rfl
  · intro p' c' w' h2 h3 h4
    have hg : w.grownBy w' (blk p) := ⟨h3.os, h3.tape, h3.output, by have := h3.size; simp at this; omega, fun k hk hne => by
      rw [h3.block k (by simp; omega) hne]
      exact Below.heap_alloc _ _ _ hk⟩
    have hfr : Fresh w p p' := fun k hk => by
      rcases h4 k hk with h5 | h5
      · exact .inl h5
      · exact .inr (by simp at h5; omega)
    have hkeep : ∀ (q' : Option Addr) (d' : Nat) (xs : List Int), Ints w q' d' xs → (0 < xs.length → ∀ k, blk q' = some k → blk p ≠ some k) → Ints w' q' d' xs := by
      intro q' d' xs hi hne
      refine hi.keep hg.size fun ad had hd => ?_
      refine hg.block _ (hi.plain ad had (by have := hi.le; omega)).2 ?_
      intro e
      exact hne hd ad.block (by rw [had]; rfl) e.symm
    have hsep2 : ∀ (q' : Option Addr) (d' : Nat) (xs : List Int), Ints w q' d' xs → (0 < xs.length → ∀ k, blk q' = some k → blk p ≠ some k) → 0 < xs.length → ∀ k, blk q' = some k → blk p' ≠ some k := by
      intro q' d' xs hi hne hlen k hk hp
      rcases hfr k hp with h5 | h5
      · exact hne hlen k hk h5
      · obtain ⟨b, o, rfl, hb, _⟩ := hi.get hlen
        simp [blk] at hk
        omega
    have hget : ∀ j, j < (v ++ [r]).length → (j < v.length ∧ rget (v ++ [r]) j = rget v j) ∨ (¬ j < v.length ∧ rget (v ++ [r]) j = r) := by
      intro j hj
      rw [List.length_append, List.length_singleton] at hj
      rw [rget_append]
      by_cases hlt : j < v.length
      · exact .inl ⟨hlt, by rw [if_pos hlt]⟩
      · exact .inr ⟨hlt, by rw [if_neg hlt, if_pos (by omega)]⟩
    have := h p' c' w' (v ++ [r]) rfl ⟨by
        rw [List.length_append]
        have e : rowsV (fun j => if j < v.length then Q j else q) (fun j => if j < v.length then D j else d) (v ++ [r]) = rowsV Q D v ++ [.slice q r.length d] := by
          unfold rowsV
          rw [List.length_append, List.length_singleton, List.range_succ, List.map_append]
          congr 1
          · refine List.map_congr_left fun j hj => ?_
            have := List.mem_range.1 hj
            simp [this, rget_append]
          · simp [rget_append]
        rw [e]; exact h2, ?_, ?_⟩ hg hfr
    · rw [List.length_append] at this; exact this
    · intro j hj
      rcases hget j hj with ⟨hlt, e⟩ | ⟨hlt, e⟩ <;> rw [e] <;> simp only [hlt, if_true, if_false]
      · exact hkeep _ _ _ (hown.rows j hlt) (hown.sep j hlt)
      · exact hkeep _ _ _ hr hsep
    · intro j hj
      rcases hget j hj with ⟨hlt, e⟩ | ⟨hlt, e⟩ <;> rw [e] <;> simp only [hlt, if_true, if_false]
      · exact hsep2 _ _ _ (hown.rows j hlt) (hown.sep j hlt)
      · exact hsep2 _ _ _ hr hsep
/-- .. where every row is the call's own, the new one in a block of its own. -/
theorem wpList_appOwnRow {w : World} {ops : Array Oper} {rest : List Oper} {o : Oper} {a : Act} {K : Exit → Act → World → Prop} (hgd : o.guard = none) (s x : Operand)
    (ho : o.op = .call { callee := .builtin .append, args := #[s, x], argTypes := #[22, 22] })
    (base : Nat) (p : Option Addr) (c : Nat) (v : List (List Int)) (Q : Nat → Option Addr) (D : Nat → Nat) (q : Option Addr) (d : Nat) (r : List Int)
    (hs : a.eval s = .slice p v.length c) {B : Nat} (hx : a.eval x = .slice (some ⟨B, 0, none⟩) 1 1) (hB : w.heap.size = B) (hown : DMat w base p c v Q D) (hr : Own w base q d r)
    (hnew : ∀ j, j < v.length → ∀ k, blk (Q j) = some k → blk q ≠ some k)
    (hsz : v.length ≤ 900000) (hbase : base ≤ w.heap.size)
    (h : ∀ p' c' w' u, Hid (u = v ++ [r]) → DMat w' base p' c' u (fun j => if j < v.length then Q j else q) (fun j => if j < v.length then D j else d) → w.grownBy w' (blk p) → Fresh w p p' →
      wpList Try.prog ops K rest (a.put o.dst (.slice p' u.length c')) w') :
    wpList Try.prog ops K (o :: rest) a (w.alloc (.cells #[.slice q r.length d] 25)) := by
  have hpne : ∀ {q' : Option Addr} {d' : Nat} {xs : List Int}, Own w base q' d' xs → ∀ k, blk q' = some k → blk p ≠ some k := by
    intro q' d' xs hq k hk hp
    have h2 := hown.top
    rcases hown.tmat.shape with ⟨rfl, _⟩ | ⟨g, rfl, _⟩
    · simp [blk] at hp
    · simp [blk] at hp
      subst hp
      exact top_not_row h2 hq hk
  refine wpList_appRow hgd s x ho base p c v Q D q d r hs hx hB hown.tmat hr.ints (fun _ => hpne hr) hsz hbase ?_
  intro p' c' w' u hu h2 h3 h4
  obtain rfl := hu.out
  refine h p' c' w' _ rfl ⟨h2.top, ?_, ?_⟩ h3 h4
  · intro j hj
    rw [List.length_append, List.length_singleton] at hj
    rw [rget_append]
    by_cases hlt : j < v.length
    · simp only [hlt, if_true]
      exact (hown.rows j hlt).keptBy h3 (fun k hk e => hpne (hown.rows j hlt) k hk e)
    · simp only [hlt, if_false]
      rw [if_pos (by omega)]
      exact hr.keptBy h3 (fun k hk e => hpne hr k hk e)
  · intro i j hi hj hne k hk
    rw [List.length_append, List.length_singleton] at hi hj
    by_cases hi2 : i < v.length
    · by_cases hj2 : j < v.length
      · simp only [hi2, hj2, if_true] at hk ⊢
        exact hown.apart i j hi2 hj2 hne k hk
      · simp only [hi2, hj2, if_true, if_false] at hk ⊢
        exact hnew i hi2 k hk
    · by_cases hj2 : j < v.length
      · simp only [hi2, hj2, if_true, if_false] at hk ⊢
        exact fun e => hnew j hj2 k e hk
      · omega
theorem rowsV_set {Q : Nat → Option Addr} {D : Nat → Nat} {v : List (List Int)} {i : Nat} (hi : i < v.length) (q : Option Addr) (d : Nat) (r : List Int) :
    rowsV (fun j => if j = i then q else Q j) (fun j => if j = i then d else D j) (v.set i r) = (rowsV Q D v).set i (.slice q r.length d) := by
  apply List.ext_getElem
  · simp [rowsV]
  · intro j h1 h2
    rw [List.getElem_set]
    simp only [rowsV, List.getElem_map, List.getElem_range]
    by_cases e : i = j
    · subst e; simp [rget_set hi]
    · rw [rget_set hi, if_neg e, if_neg e, if_neg (fun h => e h.symm), if_neg (fun h => e h.symm)]
/-- One row is another one. -/
theorem TMat.set {w : World} {base g c : Nat} {v : List (List Int)} {Q : Nat → Option Addr} {D : Nat → Nat} (h : TMat w base (some ⟨g, 0, none⟩) c v Q D) {i : Nat} (hi : i < v.length) {q : Option Addr} {d : Nat} {r : List Int} (hr : Ints w q d r)
    (hsep : 0 < r.length → blk q ≠ some g) :
    TMat (w.setCell ⟨g, i, none⟩ (.slice q r.length d)) base (some ⟨g, 0, none⟩) c (v.set i r) (fun j => if j = i then q else Q j) (fun j => if j = i then d else D j) := by
  obtain ⟨h1, h2⟩ := h.top.stored i (.slice q r.length d)
  have hk : ∀ (q' : Option Addr) (d' : Nat) (xs : List Int), Ints w q' d' xs → (0 < xs.length → blk q' ≠ some g) → Ints (w.setCell ⟨g, i, none⟩ (.slice q r.length d)) q' d' xs := by
    intro q' d' xs hI hs
    refine hI.keep (by simp [World.setCell]) fun ad had hd => ?_
    refine h2.block _ (hI.plain ad had (by have := hI.le; omega)).2 ?_
    intro e
    exact hs hd (by rw [had, ← e]; rfl)
  have hsep' : ∀ j, j < v.length → 0 < (rget v j).length → blk (Q j) ≠ some g := fun j hj hl e => h.sep j hj hl g e rfl
  refine ⟨by rw [List.length_set, rowsV_set hi]; exact h1, fun j hj => ?_, fun j hj => ?_⟩
  · rw [List.length_set] at hj
    rw [rget_set hi]
    by_cases e : j = i
    · subst e; simp only [if_true]; exact hk _ _ _ hr hsep
    · simp only [if_neg e, if_neg (fun h : i = j => e h.symm)]; exact hk _ _ _ (h.rows j hj) (hsep' j hj)
  · rw [List.length_set] at hj
    rw [rget_set hi]
    intro hl k hk2 e2
    have e3 : k = g := by simp [blk] at e2; exact e2.symm
    subst e3
    by_cases e : j = i
    · subst e; simp only [if_true] at hk2 hl; exact hsep hl hk2
    · simp only [if_neg e, if_neg (fun h : i = j => e h.symm)] at hk2 hl; exact hsep' j hj hl hk2

/-- The call hands back a row of its own that holds xs; what lay before lies as it lay. -/
def Gives (w : World) (xs : List Int) (e : Ending) (w' : World) : Prop := ∃ p c, e = .returned (.slice p xs.length c) ∧ Own w' w.heap.size p c xs ∧ Below w.heap.size w w'
/-- .. a slice of rows, each its own. -/
def GivesD (w : World) (v : List (List Int)) (e : Ending) (w' : World) : Prop := ∃ p c Q D, e = .returned (.slice p v.length c) ∧ DMat w' w.heap.size p c v Q D ∧ Below w.heap.size w w'
/-- .. a row of its own and a number that is an error. -/
def Gives2 (w : World) (xs : List Int) (k : Int) (e : Ending) (w' : World) : Prop := ∃ p c, e = .returned (.tuple #[.slice p xs.length c, .int .i64 k]) ∧ Own w' w.heap.size p c xs ∧ Below w.heap.size w w'
/-- .. a row of its own, and two numbers. -/
def Gives3 (w : World) (xs : List Int) (m k : Int) (e : Ending) (w' : World) : Prop := ∃ p c, e = .returned (.tuple #[.slice p xs.length c, .int .i64 m, .int .i64 k]) ∧ Own w' w.heap.size p c xs ∧ Below w.heap.size w w'
end Go.Proofs.Ytiohehofnlmenaa

/- Allocations of goods, and what bundles are worth, in plain words; no program. -/
namespace Go.Proofs.Ytiohehofnlmenaa
set_option linter.unusedVariables false
set_option linter.unusedSimpArgs false

/-- Every good of the allocation goes to an agent, or to nobody (-1). -/
def AllOk (n : Nat) (a : List Int) : Prop := ∀ j, j < a.length → -1 ≤ iget a j ∧ iget a j < n
instance (n : Nat) (a : List Int) : Decidable (AllOk n a) := by unfold AllOk; infer_instance
def AlcOk (v : List (List Int)) (a : List Int) : Prop := a.length = wid v ∧ AllOk v.length a
instance (v : List (List Int)) (a : List Int) : Decidable (AlcOk v a) := by unfold AlcOk; infer_instance
/-- What Valid answers. -/
def chkA (v : List (List Int)) (a : List Int) : Int := if chkG v ≠ 0 then chkG v else if AlcOk v a then 0 else 8
theorem chkA_ok {v : List (List Int)} {a : List Int} (h : Gds v) (ha : AlcOk v a) : chkA v a = 0 := by unfold chkA; rw [chkG_ok h]; simp [ha]
theorem chkA_bad {v : List (List Int)} {a : List Int} (h : chkG v = 0) (ha : ¬ AlcOk v a) : chkA v a = 8 := by unfold chkA; rw [h]; simp [ha]
theorem chkA_err {v : List (List Int)} {a : List Int} (h : chkG v ≠ 0) : chkA v a = chkG v := by unfold chkA; rw [if_pos h]
theorem chkA_zero {v : List (List Int)} {a : List Int} : chkA v a = 0 ↔ Gds v ∧ AlcOk v a := by
  constructor
  · intro h
    by_cases hg : chkG v = 0
    · by_cases ha : AlcOk v a
      · exact ⟨chkG_zero.1 hg, ha⟩
      · rw [chkA_bad hg ha] at h; cases h
    · rw [chkA_err hg] at h; exact absurd h hg
  · rintro ⟨h1, h2⟩; exact chkA_ok h1 h2

def worthUp (v : List (List Int)) (a : List Int) (i : Nat) (k : Int) : Nat → Int
  | 0 => 0
  | m + 1 => worthUp v a i k m + (if iget a m = k then iget (rget v i) m else 0)
/-- What k's bundle is worth for i. -/
def worth (v : List (List Int)) (a : List Int) (i : Nat) (k : Int) : Int := worthUp v a i k a.length
theorem worthUp_eq {v : List (List Int)} {a : List Int} {i m : Nat} {k : Int} (h : iget a m = k) : worthUp v a i k (m + 1) = worthUp v a i k m + iget (rget v i) m := by simp [worthUp, h]
theorem worthUp_ne {v : List (List Int)} {a : List Int} {i m : Nat} {k : Int} (h : ¬ iget a m = k) : worthUp v a i k (m + 1) = worthUp v a i k m := by simp [worthUp, h]
theorem worthUp_in {v : List (List Int)} {a : List Int} (hg : Gds v) {i : Nat} (hi : i < v.length) (k : Int) : ∀ m, m ≤ wid v → 0 ≤ worthUp v a i k m ∧ worthUp v a i k m ≤ 1000 * m
  | 0, _ => by simp [worthUp]
  | m + 1, hm => by
    have h1 := worthUp_in hg hi k m (by omega) (a := a)
    have h2 := gds_bid hg hi (j := m) (by omega)
    by_cases h : iget a m = k
    · rw [worthUp_eq h]; omega
    · rw [worthUp_ne h]; omega
theorem worth_in {v : List (List Int)} {a : List Int} (hg : Gds v) (ha : AlcOk v a) {i : Nat} (hi : i < v.length) (k : Int) : 0 ≤ worth v a i k ∧ worth v a i k ≤ 10000 := by
  have h1 := worthUp_in hg hi k a.length (by have := ha.1; omega) (a := a)
  have h2 := hg.2.2.1
  have h3 := ha.1
  unfold worth
  omega
/-- After m goods: what the bundles are worth for i. -/
def rowUp (v : List (List Int)) (a : List Int) (i m : Nat) : List Int := (List.range v.length).map fun (k : Nat) => worthUp v a i (Int.ofNat k) m
theorem rowUp_len (v : List (List Int)) (a : List Int) (i m : Nat) : (rowUp v a i m).length = v.length := by simp [rowUp]
theorem rowUp_get {v : List (List Int)} {a : List Int} {i m k : Nat} (hk : k < v.length) : iget (rowUp v a i m) k = worthUp v a i (k : Int) m := by simp [rowUp, iget, hk]
theorem rowUp_zero (v : List (List Int)) (a : List Int) (i : Nat) : rowUp v a i 0 = List.replicate v.length 0 := by
  apply List.ext_getElem
  · simp [rowUp]
  · intro k h1 h2; simp [rowUp, worthUp]
theorem ext_iget {xs ys : List Int} (hl : xs.length = ys.length) (h : ∀ k, k < xs.length → iget xs k = iget ys k) : xs = ys := by
  apply List.ext_getElem hl
  intro k h1 h2
  have := h k h1
  rwa [iget_of h1, iget_of h2] at this
theorem ext_rget {xs ys : List (List Int)} (hl : xs.length = ys.length) (h : ∀ k, k < xs.length → rget xs k = rget ys k) : xs = ys := by
  apply List.ext_getElem hl
  intro k h1 h2
  have := h k h1
  rwa [rget_of h1, rget_of h2] at this
theorem rowUp_set {v : List (List Int)} {a : List Int} {i m x : Nat} (hx : iget a m = (x : Int)) (hxl : x < v.length) :
    rowUp v a i (m + 1) = (rowUp v a i m).set x (iget (rowUp v a i m) x + iget (rget v i) m) := by
  apply ext_iget
  · simp [rowUp]
  · intro k hk
    rw [rowUp_len] at hk
    rw [iget_set (by rw [rowUp_len]; exact hxl), rowUp_get hk, rowUp_get hxl]
    split
    · rename_i h; subst h; exact worthUp_eq hx
    · rename_i h; rw [worthUp_ne (by rw [hx]; omega), rowUp_get hk]
theorem rowUp_none {v : List (List Int)} {a : List Int} {i m : Nat} (hx : iget a m < 0) : rowUp v a i (m + 1) = rowUp v a i m := by
  apply ext_iget
  · simp [rowUp]
  · intro k hk
    rw [rowUp_len] at hk
    rw [rowUp_get hk, rowUp_get hk, worthUp_ne (by omega)]
def worthRow (v : List (List Int)) (a : List Int) (i : Nat) : List Int := rowUp v a i a.length
/-- What Values answers of valid ones. -/
def valsG (v : List (List Int)) (a : List Int) : List (List Int) := (List.range v.length).map (worthRow v a)
theorem valsG_len (v : List (List Int)) (a : List Int) : (valsG v a).length = v.length := by simp [valsG]
theorem valsG_row {v : List (List Int)} {a : List Int} {i : Nat} (hi : i < v.length) : rget (valsG v a) i = worthRow v a i := by simp [valsG, rget, hi]
theorem worthRow_len (v : List (List Int)) (a : List Int) (i : Nat) : (worthRow v a i).length = v.length := rowUp_len ..
theorem worthRow_get {v : List (List Int)} {a : List Int} {i k : Nat} (hk : k < v.length) : iget (worthRow v a i) k = worth v a i (k : Int) := rowUp_get hk
theorem valsG_take {v : List (List Int)} {a : List Int} {i : Nat} (hi : i < v.length) : (valsG v a).take (i + 1) = (valsG v a).take i ++ [worthRow v a i] := by
  rw [List.take_add_one]
  simp [valsG, hi]
/-- What Values answers. -/
def valsL (v : List (List Int)) (a : List Int) : List (List Int) := if chkA v a = 0 then valsG v a else []
theorem valsL_ok {v : List (List Int)} {a : List Int} (h : chkA v a = 0) : valsL v a = valsG v a := by simp [valsL, h]
theorem valsL_err {v : List (List Int)} {a : List Int} (h : chkA v a ≠ 0) : valsL v a = [] := by simp [valsL, h]

/-- The pairs (i, k) of which P tells, in order: the first i rows, and k of the next. -/
def pairsUp (n : Nat) (P : Nat → Nat → Bool) : List (List Int) := (List.range n).flatMap fun (i : Nat) => ((List.range n).filter (P i)).map fun (k : Nat) => [Int.ofNat i, Int.ofNat k]
end Go.Proofs.Ytiohehofnlmenaa

/- A map of n numbers into themselves: the circle that one comes to; plain, no program. -/
namespace Go.Proofs.Ytiohehofnlmenaa
set_option linter.unusedVariables false
set_option linter.unusedSimpArgs false
/-- f, k times. -/
def itN (f : Nat → Nat) : Nat → Nat → Nat
  | 0, x => x
  | k + 1, x => f (itN f k x)
theorem itN_add (f : Nat → Nat) (a : Nat) : ∀ b x, itN f (a + b) x = itN f b (itN f a x)
  | 0, _ => rfl
  | b + 1, x => by rw [← Nat.add_assoc, itN, itN, itN_add f a b x]
theorem itN_lt {f : Nat → Nat} {n : Nat} (hf : ∀ x, x < n → f x < n) : ∀ k x, x < n → itN f k x < n
  | 0, _, h => h
  | k + 1, x, h => hf _ (itN_lt hf k x h)
theorem pigeonC : ∀ (n m : Nat) (g : Nat → Nat), (∀ j, j < n → g j < m) → (∀ a b, a < b → b < n → g a ≠ g b) → n ≤ m
  | 0, _, _, _, _ => Nat.zero_le _
  | n + 1, m, g, h1, h2 => by
    have hm := h1 n (by omega)
    have := pigeonC n (m - 1) (fun j => if g n < g j then g j - 1 else g j) (fun j hj => by
      have a := h1 j (by omega)
      have b := h2 j n hj (by omega)
      split <;> omega) (fun a b hab hb => by
      have c := h2 a b hab (by omega)
      have d := h2 a n (by omega) (by omega)
      have e := h2 b n hb (by omega)
      split <;> split <;> omega)
    omega
/-- After n steps one is on the circle. -/
theorem it_back {f : Nat → Nat} {n : Nat} (hf : ∀ x, x < n → f x < n) {x : Nat} (hx : x < n) : ∃ L, 1 ≤ L ∧ L ≤ n ∧ itN f L (itN f n x) = itN f n x := by
  apply Classical.byContradiction
  intro hn
  have h := pigeonC (n + 1) n (fun k => itN f k x) (fun j _ => itN_lt hf j x hx) (fun a b hab hb e => by
    apply hn
    refine ⟨b - a, by omega, by omega, ?_⟩
    have e1 : itN f (n + (b - a)) x = itN f (n - a) (itN f b x) := by rw [← itN_add]; congr 1; omega
    have e2 : itN f n x = itN f (n - a) (itN f a x) := by rw [← itN_add]; congr 1; omega
    rw [← itN_add, e1, e2]
    exact congrArg _ e.symm)
  omega
/-- L is the length of z's circle. -/
def PerC (f : Nat → Nat) (z L : Nat) : Prop := 1 ≤ L ∧ itN f L z = z ∧ ∀ k, 1 ≤ k → k < L → itN f k z ≠ z
theorem per_ex {f : Nat → Nat} {z M : Nat} (h1 : 1 ≤ M) (h2 : itN f M z = z) : ∃ L, L ≤ M ∧ PerC f z L := by
  induction M using Nat.strongRecOn with
  | ind M ih =>
    by_cases h : ∃ k, 1 ≤ k ∧ k < M ∧ itN f k z = z
    · obtain ⟨k, a, b, c⟩ := h
      obtain ⟨L, l1, l2⟩ := ih k b a c
      exact ⟨L, by omega, l2⟩
    · exact ⟨M, Nat.le_refl _, h1, h2, fun k a b c => h ⟨k, a, b, c⟩⟩
theorem per_step {f : Nat → Nat} {z L : Nat} (h : PerC f z L) (k : Nat) : itN f L (itN f k z) = itN f k z := by
  rw [← itN_add, Nat.add_comm, itN_add, h.2.1]
theorem per_inj {f : Nat → Nat} {z L : Nat} (h : PerC f z L) {a b : Nat} (hab : a < b) (hb : b < L) : itN f a z ≠ itN f b z := fun e => by
  have e1 : itN f (L - b + a) z = itN f (L - b) (itN f b z) := by rw [Nat.add_comm, itN_add, e]
  rw [← itN_add, show b + (L - b) = L by omega, h.2.1] at e1
  exact h.2.2 (L - b + a) (by omega) (by omega) e1
theorem per_mod {f : Nat → Nat} {z L : Nat} (h : PerC f z L) : ∀ k, itN f k z = itN f (k % L) z := by
  intro k
  induction k using Nat.strongRecOn with
  | ind k ih =>
    by_cases hk : k < L
    · rw [Nat.mod_eq_of_lt hk]
    · have h1 := h.1
      have e : itN f k z = itN f (k - L) z := by
        have := itN_add f L (k - L) z
        rw [show L + (k - L) = k by omega, h.2.1] at this
        exact this
      rw [e, ih (k - L) (by omega), Nat.mod_eq_sub_mod (a := k) (b := L) (by omega)]
/-- Every one of the circle has it. -/
theorem per_any {f : Nat → Nat} {z L : Nat} (h : PerC f z L) (a : Nat) : PerC f (itN f a z) L := by
  refine ⟨h.1, per_step h a, fun k h1 h2 e => ?_⟩
  have h3 := congrArg (itN f (L - a % L)) e
  have hm := Nat.mod_lt a (show 0 < L from h.1)
  rw [per_mod h a, ← itN_add, ← itN_add, ← itN_add, show a % L + (L - a % L) = L by omega, h.2.1,
    show a % L + (k + (L - a % L)) = L + k by omega, itN_add, h.2.1] at h3
  exact h.2.2 k h1 h2 h3
/-- The circle, from z on. -/
def orb (f : Nat → Nat) (z L : Nat) : List Int := (List.range L).map fun (k : Nat) => Int.ofNat (itN f k z)
theorem orb_len (f : Nat → Nat) (z L : Nat) : (orb f z L).length = L := by simp [orb]
theorem orb_get {f : Nat → Nat} {z L k : Nat} (h : k < L) : iget (orb f z L) k = (itN f k z : Int) := by simp [orb, iget, h]
/-- Turned: from its a-th on. -/
theorem orb_turn {f : Nat → Nat} {z L a : Nat} (h : PerC f z L) (ha : a < L) : (orb f z L).drop a ++ (orb f z L).take a = orb f (itN f a z) L := by
  apply ext_iget
  · simp [orb]; omega
  · intro k hk
    have hkl : k < L := by simp [orb] at hk; omega
    rw [orb_get hkl, iget_append]
    have hd : ((orb f z L).drop a).length = L - a := by simp [orb]
    rw [hd, ← itN_add]
    split
    · have : iget ((orb f z L).drop a) k = iget (orb f z L) (a + k) := by simp [iget, List.getElem?_drop]
      rw [this, orb_get (by omega)]
    · rename_i hge
      have : iget ((orb f z L).take a) (k - (L - a)) = iget (orb f z L) (k - (L - a)) := by
        simp only [iget, List.getD, List.getElem?_take]
        rw [if_pos (by omega)]
      rw [this, orb_get (by omega), show a + k = L + (k - (L - a)) by omega, itN_add, h.2.1]
end Go.Proofs.Ytiohehofnlmenaa

/- The walks of slices.IndexFunc and slices.ContainsFunc at slices of integers, for a function that only computes. -/
namespace Go.Proofs.Ytiohehofnlmenaa
set_option linter.unusedVariables false
set_option linter.unusedSimpArgs false
open Go.ChangeShapes Go.WideShapes Go.ChangeAt Go.RowKit Go.Deep

/-- The first index at which P holds, or -1. -/
def firstIdx (P : Int → Bool) (xs : List Int) : Int := match xs.findIdx? P with
  | some k => k
  | none => -1
def anyB (P : Int → Bool) (xs : List Int) : Bool := xs.any P
theorem findIdx?_of {P : Int → Bool} {xs : List Int} {k : Nat} (hk : k < xs.length) (h : P (iget xs k) = true) (hb : ∀ j, j < k → P (iget xs j) = false) : xs.findIdx? P = some k := by
  rw [List.findIdx?_eq_some_iff_getElem]
  refine ⟨hk, by rw [← iget_of hk]; exact h, fun j hj => ?_⟩
  have := hb j hj
  rw [iget_of (by omega)] at this
  simp [this]
theorem findIdx?_none {P : Int → Bool} {xs : List Int} (hb : ∀ j, j < xs.length → P (iget xs j) = false) : xs.findIdx? P = none := by
  rw [List.findIdx?_eq_none_iff]
  intro x hx
  obtain ⟨j, hj, rfl⟩ := List.getElem_of_mem hx
  have := hb j hj
  rwa [iget_of hj] at this
theorem anyB_of {P : Int → Bool} {xs : List Int} {k : Nat} (hk : k < xs.length) (h : P (iget xs k) = true) : anyB P xs = true := List.any_eq_true.2 ⟨_, iget_mem hk, h⟩
theorem anyB_none {P : Int → Bool} {xs : List Int} (hb : ∀ j, j < xs.length → P (iget xs j) = false) : anyB P xs = false := by
  unfold anyB
  rw [List.any_eq_false]
  intro x hx
  obtain ⟨j, hj, rfl⟩ := List.getElem_of_mem hx
  have := hb j hj
  rw [iget_of hj] at this
  simp [this]
theorem firstIdx_any (P : Int → Bool) (xs : List Int) : decide (0 ≤ firstIdx P xs) = anyB P xs := by
  unfold firstIdx anyB
  cases h : xs.findIdx? P with
  | none =>
    rw [List.findIdx?_eq_none_iff] at h
    symm
    simp
    intro x hx; simpa using h x hx
  | some k =>
    rw [List.findIdx?_eq_some_iff_getElem] at h
    obtain ⟨h1, h2, _⟩ := h
    have : (xs.any P) = true := List.any_eq_true.2 ⟨_, List.getElem_mem h1, h2⟩
    simp [this]

set_option maxHeartbeats 800000 in
theorem indexFunc_any (K : Nat) (P : Int → Bool) (hcf : ∀ args W, (callFunc K args).run Try.prog W = .ok (.enter K args) W) (hf : ∀ x W, in64 x → Calls Try.prog K #[.int .i64 x] W fun e w' => e = .returned (.bool (P x)) ∧ w' = W) (p : Option Addr) (c : Nat) (xs : List Int) (w : World) (hx : Ints w p c xs) :
    Calls Try.prog 78 #[.slice p xs.length c, .func (.func K) #[] #[]] w fun e w' => e = .returned (.int .i64 (firstIdx P xs)) ∧ w' = w := by
  have hl1 := hx.length_le
  have Hf := Lib.hid hf
  clear hf
  go_enter Try.func78, Try.ntmps78
  go_wp2_with fail
  go_loop [8] (fun t => ∃ k : Nat, k ≤ xs.length ∧ t = .int .i64 k ∧ Hid (∀ j, j < k → P (iget xs j) = false)) (fun t => xs.length - (intOf t).toNat)
  case atStart => exact ⟨0, Nat.zero_le _, rfl, fun j hj => absurd hj (Nat.not_lt_zero j)⟩
  case round =>
    obtain ⟨k, hk, rfl, ht⟩ := hrel
    by_cases hlt : k < xs.length
    · obtain ⟨b, o, rfl, _, hc⟩ := hx.get hlt
      have hk1 : (k : Int) < xs.length := by omega
      have hin := hx.rng k hlt
      go_wp2_with fail
      refine (Hf.out _ _ hin).mono ?_
      rintro e w' ⟨rfl, rfl⟩
      cases hP : P (iget xs k) with
      | true =>
        have HP := Lib.hid hP
        clear hP
        go_wp2_with fail
        go_ret
        refine ⟨ret_int ?_, rfl⟩
        simp only [firstIdx, findIdx?_of hlt HP.out ht.out]
      | false =>
        have HP := Lib.hid hP
        clear hP
        go_wp2_with fail
        go_round
        case rel => exact ⟨k + 1, by omega, by go_num, snoc_all' ht.out HP.out⟩
        case measure => simp [intOf]; omega
    · have hk1 : ¬ (k : Int) < xs.length := by omega
      go_wp2_with fail
      go_ret
      refine ⟨ret_int ?_, rfl⟩
      simp only [firstIdx, findIdx?_none (fun j hj => ht.out j (by omega))]

set_option maxHeartbeats 400000 in
theorem containsFunc_any (K : Nat) (P : Int → Bool) (hcf : ∀ args W, (callFunc K args).run Try.prog W = .ok (.enter K args) W) (hf : ∀ x W, in64 x → Calls Try.prog K #[.int .i64 x] W fun e w' => e = .returned (.bool (P x)) ∧ w' = W) (p : Option Addr) (c : Nat) (xs : List Int) (w : World) (hx : Ints w p c xs) :
    Calls Try.prog 69 #[.slice p xs.length c, .func (.func K) #[] #[]] w fun e w' => e = .returned (.bool (anyB P xs)) ∧ w' = w := by
  have HA := Lib.hid (firstIdx_any P xs)
  go_enter Try.func69, Try.ntmps69
  go_wp2_with fail
  refine (indexFunc_any K P hcf hf p c xs w hx).mono ?_
  rintro e w' ⟨rfl, rfl⟩
  go_wp2_with fail
  go_ret
  exact ⟨ret_bool HA.out, rfl⟩
def oddBid (x : Int) : Bool := decide (x < 0 ∨ 1000000 < x)
end Go.Proofs.Ytiohehofnlmenaa
