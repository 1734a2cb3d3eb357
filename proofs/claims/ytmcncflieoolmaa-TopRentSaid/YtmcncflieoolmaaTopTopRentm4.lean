/- Slices of rows that a call itself makes: the top row its own (TMat), or every row its own (DMat); no condition but sizes. -/
import Derived.Test.YtmcncflieoolmaaTopTopRentm2
import Derived.WalkSpells
/- Slices of rows that a call itself makes: the top row its own (TMat), or every row its own (DMat); no condition but sizes. -/
namespace Go.Proofs.Ytmcncflieoolmaa
set_option linter.unusedVariables false
set_option linter.unusedSimpArgs false
open Go.ChangeShapes Go.WideShapes Go.ChangeAt Go.RowKit Go.Deep

theorem rget_append {v : List (List Int)} {r : List Int} {k : Nat} : rget (v ++ [r]) k = if k < v.length then rget v k else if k = v.length then r else [] := by
  simp only [rget, List.getD, List.getElem?_append]
  split
  · rfl
  · rename_i h
    by_cases e : k = v.length
    · subst e; simp
    · rw [if_neg e, List.getElem?_eq_none (by simp; omega)]; rfl
theorem rget_set {v : List (List Int)} {r : List Int} {j k : Nat} (hj : j < v.length) : rget (v.set j r) k = if j = k then r else rget v k := by
  simp only [rget, List.getD, List.getElem?_set]
  split
  · rename_i h; subst h; simp [hj]
  · rfl

def rowsV (Q : Nat → Option Addr) (D : Nat → Nat) (v : List (List Int)) : List Value := (List.range v.length).map fun j => .slice (Q j) (rget v j).length (D j)
theorem rowsV_get {Q : Nat → Option Addr} {D : Nat → Nat} {v : List (List Int)} {j : Nat} (hj : j < v.length) : (rowsV Q D v)[j]? = some (.slice (Q j) (rget v j).length (D j)) := by simp [rowsV, hj]
theorem rowsV_length (Q : Nat → Option Addr) (D : Nat → Nat) (v : List (List Int)) : (rowsV Q D v).length = v.length := by simp [rowsV]

/-- The top row is the call's own; each row reads as a list. -/
structure TMat (w : World) (base : Nat) (p : Option Addr) (c : Nat) (v : List (List Int)) (Q : Nat → Option Addr) (D : Nat → Nat) : Prop where
  top : w.ownsRow base 27 1 (.slice p v.length c) v.length (rowsV Q D v)
  rows : ∀ j, j < v.length → Ints w (Q j) (D j) (rget v j)
  sep : ∀ j, j < v.length → 0 < (rget v j).length → ∀ k, blk (Q j) = some k → blk p ≠ some k
/-- Every row is the call's own, each in a block of its own. -/
structure DMat (w : World) (base : Nat) (p : Option Addr) (c : Nat) (v : List (List Int)) (Q : Nat → Option Addr) (D : Nat → Nat) : Prop where
  top : w.ownsRow base 27 1 (.slice p v.length c) v.length (rowsV Q D v)
  rows : ∀ j, j < v.length → Own w base (Q j) (D j) (rget v j)
  apart : ∀ i j, i < v.length → j < v.length → i ≠ j → ∀ k, blk (Q i) = some k → blk (Q j) ≠ some k

section
variable {w : World} {base : Nat} {p : Option Addr} {c : Nat} {v : List (List Int)} {Q : Nat → Option Addr} {D : Nat → Nat}
/-- The block of the top row is not a block of numbers. -/
theorem top_not_row {g : Nat} {q : Option Addr} {d : Nat} {xs : List Int} (h : w.ownsRow base 27 1 (.slice (some ⟨g, 0, none⟩) v.length c) v.length (rowsV Q D v)) {base' : Nat} (hq : Own w base' q d xs) : blk q ≠ some g := by
  intro e
  rcases hq.row.2 with ⟨h1, _⟩ | ⟨g', cap, cur, h1, _, h3, _⟩
  · simp only [Value.slice.injEq] at h1
    rw [h1.1] at e; simp [blk] at e
  · simp only [Value.slice.injEq] at h1
    rw [h1.1] at e
    simp [blk] at e
    subst e
    rcases h.2 with ⟨h4, _⟩ | ⟨g2, cap2, cur2, h4, _, h6, _⟩
    · simp at h4
    · simp only [Value.slice.injEq, Option.some.injEq, Addr.mk.injEq] at h4
      obtain ⟨⟨rfl, _⟩, _⟩ := h4
      rw [h6] at h3
      simp at h3
theorem DMat.tmat (h : DMat w base p c v Q D) : TMat w base p c v Q D := ⟨h.top, fun j hj => (h.rows j hj).ints, fun j hj _ k hk hp => by
  rcases h.top.2 with ⟨h1, _⟩ | ⟨g, cap, cur, h1, _⟩
  · simp only [Value.slice.injEq] at h1
    rw [h1.1] at hp; simp [blk] at hp
  · have h2 := h.top
    simp only [Value.slice.injEq] at h1
    rw [h1.1] at hp h2
    simp [blk] at hp
    subst hp
    exact top_not_row h2 (h.rows j hj) hk⟩

theorem TMat.shape (h : TMat w base p c v Q D) : (p = none ∧ c = 0 ∧ v = []) ∨ ∃ g, p = some ⟨g, 0, none⟩ ∧ base ≤ g ∧ g < w.heap.size ∧ v.length ≤ c ∧ c ≤ 9223372036854775807 := by
  rcases h.top.2 with ⟨h1, h2⟩ | ⟨g, cap, cur, h1, h2, h3, h4, h5, _, _⟩
  · simp only [Value.slice.injEq] at h1
    exact .inl ⟨h1.1, h1.2.2, List.eq_nil_of_length_eq_zero h2⟩
  · simp only [Value.slice.injEq] at h1
    obtain ⟨rfl, _, rfl⟩ := h1
    exact .inr ⟨g, rfl, h2, (Array.getElem?_eq_some_iff.1 h3).1, h4, h5⟩
theorem TMat.at {g : Nat} (h : TMat w base (some ⟨g, 0, none⟩) c v Q D) {j : Nat} (hj : j < v.length) : w.cell? ⟨g, j, none⟩ = some (.slice (Q j) (rget v j).length (D j)) := by
  rw [h.top.cellAt j (by omega), rowsV_get hj]
theorem TMat.free {g : Nat} (h : TMat w base (some ⟨g, 0, none⟩) c v Q D) (j : Nat) : w.frozen? ⟨g, j, none⟩ = false := h.top.frozenAt j
theorem TMat.get (h : TMat w base p c v Q D) {j : Nat} (hj : j < v.length) : ∃ g, p = some ⟨g, 0, none⟩ ∧ base ≤ g ∧ g < w.heap.size ∧ w.cell? ⟨g, j, none⟩ = some (.slice (Q j) (rget v j).length (D j)) ∧ w.frozen? ⟨g, j, none⟩ = false := by
  rcases h.shape with ⟨rfl, rfl, rfl⟩ | ⟨g, rfl, h1, h2, h3, h4⟩
  · simp at hj
  · exact ⟨g, rfl, h1, h2, h.at hj, h.free j⟩
theorem TMat.mat (h : TMat w base p c v Q D) : Mat w p c v := by
  rcases h.shape with ⟨rfl, rfl, rfl⟩ | ⟨g, rfl, h1, h2, h3, h4⟩
  · exact Mat.ofNil w
  · refine ⟨h3, h4, fun h => (by cases h), ?_, ?_⟩
    · rintro a ⟨⟩ _; exact ⟨rfl, h2⟩
    · rintro b o ⟨⟩ j hj
      rw [Nat.zero_add]; exact ⟨_, _, h.at hj, h.rows j hj⟩
theorem TMat.lt (h : TMat w base p c v Q D) : ∀ k, blk p = some k → base ≤ k ∧ k < w.heap.size := fun k hk => h.top.lt k (by rw [ownBlock_slice]; exact hk)
theorem TMat.ofNil (w : World) (base : Nat) : TMat w base none 0 [] Q D := ⟨World.ownsRow_nil w base _ _, fun _ h => (by simp at h), fun _ h => (by simp at h)⟩
theorem DMat.ofNil (w : World) (base : Nat) : DMat w base none 0 [] Q D := ⟨World.ownsRow_nil w base _ _, fun _ h => (by simp at h), fun _ _ h => (by simp at h)⟩
theorem DMat.mat (h : DMat w base p c v Q D) : Mat w p c v := h.tmat.mat

theorem top_kept {w' : World} (h : w.ownsRow base 27 1 (.slice p v.length c) v.length (rowsV Q D v)) {row : Option Nat} (hg : w.grownBy w' row) (hne : ∀ k, blk p = some k → row ≠ some k) :
    w'.ownsRow base 27 1 (.slice p v.length c) v.length (rowsV Q D v) :=
  h.kept hg (by
    rw [ownBlock_slice]
    cases hb : blk p with
    | none => exact .inl rfl
    | some k => exact .inr fun e => hne k hb e.symm)
theorem TMat.below {w' : World} {B : Nat} (h : TMat w base p c v Q D) (hb : Below B w w') (hB : w.heap.size ≤ B) : TMat w' base p c v Q D :=
  ⟨top_kept h.top (grownBy_of_below hb hB none) (fun _ _ e => by cases e), fun j hj => (h.rows j hj).below hb hB, h.sep⟩
theorem DMat.below {w' : World} {B : Nat} (h : DMat w base p c v Q D) (hb : Below B w w') (hB : w.heap.size ≤ B) : DMat w' base p c v Q D :=
  ⟨top_kept h.top (grownBy_of_below hb hB none) (fun _ _ e => by cases e), fun j hj => (h.rows j hj).below hb hB, h.apart⟩
theorem DMat.lt (h : DMat w base p c v Q D) : ∀ j, j < v.length → ∀ k, blk (Q j) = some k → base ≤ k ∧ k < w.heap.size := fun j hj k hk => (h.rows j hj).lt k hk
theorem DMat.keptBy {w' : World} {row : Option Nat} (h : DMat w base p c v Q D) (hg : w.grownBy w' row) (hne : ∀ k, blk p = some k → row ≠ some k) (hne2 : ∀ j, j < v.length → ∀ k, blk (Q j) = some k → row ≠ some k) : DMat w' base p c v Q D :=
  ⟨top_kept h.top hg hne, fun j hj => (h.rows j hj).keptBy hg (hne2 j hj), h.apart⟩

end

/-- 'append(out, row)', the row's value laid in a new block. -/
theorem wpList_appRow {w : World} {ops : Array Oper} {rest : List Oper} {o : Oper} {a : Act} {K : Exit → Act → World → Prop} (hgd : o.guard = none) (s x : Operand)
    (ho : o.op = .call { callee := .builtin .append, args := #[s, x], argTypes := #[22, 22] })
    (base : Nat) (p : Option Addr) (c : Nat) (v : List (List Int)) (Q : Nat → Option Addr) (D : Nat → Nat) (q : Option Addr) (d : Nat) (r : List Int)
    (hs : a.eval s = .slice p v.length c) {B : Nat} (hx : a.eval x = .slice (some ⟨B, 0, none⟩) 1 1) (hB : w.heap.size = B) (hown : TMat w base p c v Q D) (hr : Ints w q d r) (hsep : 0 < r.length → ∀ k, blk q = some k → blk p ≠ some k)
    (hsz : v.length ≤ 900000) (hbase : base ≤ w.heap.size)
    (h : ∀ p' c' w' u, Hid (u = v ++ [r]) → TMat w' base p' c' u (fun j => if j < v.length then Q j else q) (fun j => if j < v.length then D j else d) → w.grownBy w' (blk p) → Fresh w p p' →
      wpList Try.prog ops K rest (a.put o.dst (.slice p' u.length c')) w') :
    wpList Try.prog ops K (o :: rest) a (w.alloc (.cells #[.slice q r.length d] 27)) := by
  subst hB
  refine wpList_appG (w := w.alloc (.cells #[.slice q r.length d] 27)) hgd s x 22 27 ho (.slice none 0 0) 1 24 Try.underlying22 infoRow rfl (by decide) base p (some ⟨w.heap.size, 0, none⟩) v.length 1 c 1 (rowsV Q D v) [.slice q r.length d] hs hx (hown.top.alloc _)
    (fun e => (by cases e)) (by simp) ?_ (by simp [Value.oneCell']) (by simp [maxLen]; omega) (by omega) (by simp; omega) ?_
  · rintro ad ⟨⟩ j u hu
    have hj : j = 0 := by
      have := (List.getElem?_eq_some_iff.1 hu).1
      simpa using this
    subst hj
    simp at hu; subst hu
    rw [add_plain, World.cell?_alloc_at _ _ _ _ rfl]; rfl
  · intro p' c' w' h2 h3 h4
    have hg : w.grownBy w' (blk p) := ⟨h3.os, h3.tape, h3.output, by have := h3.size; simp at this; omega, fun k hk hne => by
      rw [h3.block k (by simp; omega) hne]
      exact Below.heap_alloc _ _ _ hk⟩
    have hfr : Fresh w p p' := fun k hk => by
      rcases h4 k hk with h5 | h5
      · exact .inl h5
      · exact .inr (by simp at h5; omega)
    have hkeep : ∀ (q' : Option Addr) (d' : Nat) (xs : List Int), Ints w q' d' xs → (0 < xs.length → ∀ k, blk q' = some k → blk p ≠ some k) → Ints w' q' d' xs := by
      intro q' d' xs hi hne
      refine hi.keep hg.size fun ad had hd => ?_
      refine hg.block _ (hi.plain ad had (by have := hi.le; omega)).2 ?_
      intro e
      exact hne hd ad.block (by rw [had]; rfl) e.symm
    have hsep2 : ∀ (q' : Option Addr) (d' : Nat) (xs : List Int), Ints w q' d' xs → (0 < xs.length → ∀ k, blk q' = some k → blk p ≠ some k) → 0 < xs.length → ∀ k, blk q' = some k → blk p' ≠ some k := by
      intro q' d' xs hi hne hlen k hk hp
      rcases hfr k hp with h5 | h5
      · exact hne hlen k hk h5
      · obtain ⟨b, o, rfl, hb, _⟩ := hi.get hlen
        simp [blk] at hk
        omega
    have hget : ∀ j, j < (v ++ [r]).length → (j < v.length ∧ rget (v ++ [r]) j = rget v j) ∨ (¬ j < v.length ∧ rget (v ++ [r]) j = r) := by
      intro j hj
      rw [List.length_append, List.length_singleton] at hj
      rw [rget_append]
      by_cases hlt : j < v.length
      · exact .inl ⟨hlt, by rw [if_pos hlt]⟩
      · exact .inr ⟨hlt, by rw [if_neg hlt, if_pos (by omega)]⟩
    have := h p' c' w' (v ++ [r]) rfl ⟨by
        rw [List.length_append]
        have e : rowsV (fun j => if j < v.length then Q j else q) (fun j => if j < v.length then D j else d) (v ++ [r]) = rowsV Q D v ++ [.slice q r.length d] := by
          unfold rowsV
          rw [List.length_append, List.length_singleton, List.range_succ, List.map_append]
          congr 1
          · refine List.map_congr_left fun j hj => ?_
            have := List.mem_range.1 hj
            simp [this, rget_append]
          · simp [rget_append]
        rw [e]; exact h2, ?_, ?_⟩ hg hfr
    · rw [List.length_append] at this; exact this
    · intro j hj
      rcases hget j hj with ⟨hlt, e⟩ | ⟨hlt, e⟩ <;> rw [e] <;> simp only [hlt, if_true, if_false]
      · exact hkeep _ _ _ (hown.rows j hlt) (hown.sep j hlt)
      · exact hkeep _ _ _ hr hsep
    · intro j hj
      rcases hget j hj with ⟨hlt, e⟩ | ⟨hlt, e⟩ <;> rw [e] <;> simp only [hlt, if_true, if_false]
      · exact hsep2 _ _ _ (hown.rows j hlt) (hown.sep j hlt)
      · exact hsep2 _ _ _ hr hsep
/-- .. where every row is the call's own, the new one in a block of its own. -/
theorem wpList_appOwnRow {w : World} {ops : Array Oper} {rest : List Oper} {o : Oper} {a : Act} {K : Exit → Act → World → Prop} (hgd : o.guard = none) (s x : Operand)
    (ho : o.op = .call { callee := .builtin .append, args := #[s, x], argTypes := #[22, 22] })
    (base : Nat) (p : Option Addr) (c : Nat) (v : List (List Int)) (Q : Nat → Option Addr) (D : Nat → Nat) (q : Option Addr) (d : Nat) (r : List Int)
    (hs : a.eval s = .slice p v.length c) {B : Nat} (hx : a.eval x = .slice (some ⟨B, 0, none⟩) 1 1) (hB : w.heap.size = B) (hown : DMat w base p c v Q D) (hr : Own w base q d r)
    (hnew : ∀ j, j < v.length → ∀ k, blk (Q j) = some k → blk q ≠ some k)
    (hsz : v.length ≤ 900000) (hbase : base ≤ w.heap.size)
    (h : ∀ p' c' w' u, Hid (u = v ++ [r]) → DMat w' base p' c' u (fun j => if j < v.length then Q j else q) (fun j => if j < v.length then D j else d) → w.grownBy w' (blk p) → Fresh w p p' →
      wpList Try.prog ops K rest (a.put o.dst (.slice p' u.length c')) w') :
    wpList Try.prog ops K (o :: rest) a (w.alloc (.cells #[.slice q r.length d] 27)) := by
  have hpne : ∀ {q' : Option Addr} {d' : Nat} {xs : List Int}, Own w base q' d' xs → ∀ k, blk q' = some k → blk p ≠ some k := by
    intro q' d' xs hq k hk hp
    have h2 := hown.top
    rcases hown.tmat.shape with ⟨rfl, _⟩ | ⟨g, rfl, _⟩
    · simp [blk] at hp
    · simp [blk] at hp
      subst hp
      exact top_not_row h2 hq hk
  refine wpList_appRow hgd s x ho base p c v Q D q d r hs hx hB hown.tmat hr.ints (fun _ => hpne hr) hsz hbase ?_
  intro p' c' w' u hu h2 h3 h4
  obtain rfl := hu.out
  refine h p' c' w' _ rfl ⟨h2.top, ?_, ?_⟩ h3 h4
  · intro j hj
    rw [List.length_append, List.length_singleton] at hj
    rw [rget_append]
    by_cases hlt : j < v.length
    · simp only [hlt, if_true]
      exact (hown.rows j hlt).keptBy h3 (fun k hk e => hpne (hown.rows j hlt) k hk e)
    · simp only [hlt, if_false]
      rw [if_pos (by omega)]
      exact hr.keptBy h3 (fun k hk e => hpne hr k hk e)
  · intro i j hi hj hne k hk
    rw [List.length_append, List.length_singleton] at hi hj
    by_cases hi2 : i < v.length
    · by_cases hj2 : j < v.length
      · simp only [hi2, hj2, if_true] at hk ⊢
        exact hown.apart i j hi2 hj2 hne k hk
      · simp only [hi2, hj2, if_true, if_false] at hk ⊢
        exact hnew i hi2 k hk
    · by_cases hj2 : j < v.length
      · simp only [hi2, hj2, if_true, if_false] at hk ⊢
        exact fun e => hnew j hj2 k e hk
      · omega
theorem rowsV_set {Q : Nat → Option Addr} {D : Nat → Nat} {v : List (List Int)} {i : Nat} (hi : i < v.length) (q : Option Addr) (d : Nat) (r : List Int) :
    rowsV (fun j => if j = i then q else Q j) (fun j => if j = i then d else D j) (v.set i r) = (rowsV Q D v).set i (.slice q r.length d) := by
  apply List.ext_getElem
  · simp [rowsV]
  · intro j h1 h2
    rw [List.getElem_set]
    simp only [rowsV, List.getElem_map, List.getElem_range]
    by_cases e : i = j
    · subst e; simp [rget_set hi]
    · rw [rget_set hi, if_neg e, if_neg e, if_neg (fun h => e h.symm), if_neg (fun h => e h.symm)]
/-- One row is another one. -/
theorem TMat.set {w : World} {base g c : Nat} {v : List (List Int)} {Q : Nat → Option Addr} {D : Nat → Nat} (h : TMat w base (some ⟨g, 0, none⟩) c v Q D) {i : Nat} (hi : i < v.length) {q : Option Addr} {d : Nat} {r : List Int} (hr : Ints w q d r)
    (hsep : 0 < r.length → blk q ≠ some g) :
    TMat (w.setCell ⟨g, i, none⟩ (.slice q r.length d)) base (some ⟨g, 0, none⟩) c (v.set i r) (fun j => if j = i then q else Q j) (fun j => if j = i then d else D j) := by
  obtain ⟨h1, h2⟩ := h.top.stored i (.slice q r.length d)
  have hk : ∀ (q' : Option Addr) (d' : Nat) (xs : List Int), Ints w q' d' xs → (0 < xs.length → blk q' ≠ some g) → Ints (w.setCell ⟨g, i, none⟩ (.slice q r.length d)) q' d' xs := by
    intro q' d' xs hI hs
    refine hI.keep (by simp [World.setCell]) fun ad had hd => ?_
    refine h2.block _ (hI.plain ad had (by have := hI.le; omega)).2 ?_
    intro e
    exact hs hd (by rw [had, ← e]; rfl)
  have hsep' : ∀ j, j < v.length → 0 < (rget v j).length → blk (Q j) ≠ some g := fun j hj hl e => h.sep j hj hl g e rfl
  refine ⟨by rw [List.length_set, rowsV_set hi]; exact h1, fun j hj => ?_, fun j hj => ?_⟩
  · rw [List.length_set] at hj
    rw [rget_set hi]
    by_cases e : j = i
    · subst e; simp only [if_true]; exact hk _ _ _ hr hsep
    · simp only [if_neg e, if_neg (fun h : i = j => e h.symm)]; exact hk _ _ _ (h.rows j hj) (hsep' j hj)
  · rw [List.length_set] at hj
    rw [rget_set hi]
    intro hl k hk2 e2
    have e3 : k = g := by simp [blk] at e2; exact e2.symm
    subst e3
    by_cases e : j = i
    · subst e; simp only [if_true] at hk2 hl; exact hsep hl hk2
    · simp only [if_neg e, if_neg (fun h : i = j => e h.symm)] at hk2 hl; exact hsep' j hj hl hk2

/-- The call hands back a row of its own that holds xs; what lay before lies as it lay. -/
def Gives (w : World) (xs : List Int) (e : Ending) (w' : World) : Prop := ∃ p c, e = .returned (.slice p xs.length c) ∧ Own w' w.heap.size p c xs ∧ Below w.heap.size w w'
/-- .. a slice of rows, each its own. -/
def GivesD (w : World) (v : List (List Int)) (e : Ending) (w' : World) : Prop := ∃ p c Q D, e = .returned (.slice p v.length c) ∧ DMat w' w.heap.size p c v Q D ∧ Below w.heap.size w w'
/-- .. a row of its own and a number that is an error. -/
def Gives2 (w : World) (xs : List Int) (k : Int) (e : Ending) (w' : World) : Prop := ∃ p c, e = .returned (.tuple #[.slice p xs.length c, .int .i64 k]) ∧ Own w' w.heap.size p c xs ∧ Below w.heap.size w w'
/-- .. a row of its own, and two numbers. -/
def Gives3 (w : World) (xs : List Int) (m k : Int) (e : Ending) (w' : World) : Prop := ∃ p c, e = .returned (.tuple #[.slice p xs.length c, .int .i64 m, .int .i64 k]) ∧ Own w' w.heap.size p c xs ∧ Below w.heap.size w w'
end Go.Proofs.Ytmcncflieoolmaa

/- The walk of slices.Clone at slices of integers; at most 900000 numbers. -/
namespace Go.Proofs.Ytmcncflieoolmaa
set_option linter.unusedVariables false
set_option linter.unusedSimpArgs false
open Go.ChangeShapes Go.WideShapes Go.ChangeAt Go.RowKit Go.Deep

theorem Own.some_of {w : World} {base : Nat} {p : Option Addr} {c : Nat} {xs : List Int} (h : Own w base p c xs) (hne : xs ≠ []) : ∃ g, p = some ⟨g, 0, none⟩ := by
  rcases h.shape with ⟨_, _, rfl⟩ | ⟨g, rfl, _⟩
  · exact absurd rfl hne
  · exact ⟨g, rfl⟩

set_option maxHeartbeats 400000 in
theorem clone_any (p : Option Addr) (c : Nat) (xs : List Int) (w : World) (hx : Ints w p c xs) (hlen : xs.length ≤ 900000) :
    Calls Try.prog 64 #[.slice p xs.length c] w (Gives w xs) := by
  cases p with
  | none =>
    have hc := hx.nil rfl
    subst hc
    have hl : xs.length = 0 := by have := hx.le; omega
    obtain rfl : xs = [] := List.eq_nil_of_length_eq_zero hl
    have hq := fun W => Lib.run_eql_slice_nil (P := Try.prog) W 27 3 none 0 0 0 0 Try.underlying27
    go_enter Try.func64, Try.ntmps64
    go_wp2_with fail
    go_ret
    exact ⟨none, 0, rfl, Own.ofNil _ _, Below.refl _ _⟩
  | some a =>
    have hq := fun W => Lib.run_eql_slice_nil (P := Try.prog) W 27 3 (some a) xs.length c 0 0 Try.underlying27
    go_enter Try.func64, Try.ntmps64
    go_wp2_with (at_builtin; refine wpList_app rfl (.tmp 5) (.tmp 6) rfl w.heap.size _ _ _ _ [] xs rfl rfl (Own.made _ _ (Nat.le_refl _)) (hx.below ((Below.refl _ _).alloc (Nat.le_refl _) _) (Nat.le_refl _)) (by simp; omega) (by simp) ?_; intro p2 c2 w2 zs hz hO hg hf)
    obtain rfl : zs = xs := hz.out
    go_ret
    exact ⟨p2, c2, rfl, hO, ((Below.refl w.heap.size w).alloc (Nat.le_refl _) _).grown hg (by simp) (fun k e => by simp [blk] at e; omega)⟩
end Go.Proofs.Ytmcncflieoolmaa
