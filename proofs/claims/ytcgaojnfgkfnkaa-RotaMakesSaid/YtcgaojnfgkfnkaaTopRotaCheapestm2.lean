/- Slices of rows that a call itself makes: the top row its own (TMat), or every row its own (DMat); no condition but sizes. -/
import Derived.Test.YtcgaojnfgkfnkaaTopRotaCheapestm1
/- Slices of rows that a call itself makes: the top row its own (TMat), or every row its own (DMat); no condition but sizes. -/
namespace Go.Proofs.Ytcgaojnfgkfnkaa
set_option linter.unusedVariables false
set_option linter.unusedSimpArgs false
open Go.ChangeShapes Go.WideShapes Go.ChangeAt Go.RowKit Go.Deep

theorem rget_append {v : List (List Int)} {r : List Int} {k : Nat} : rget (v ++ [r]) k = if k < v.length then rget v k else if k = v.length then r else [] := by
  simp only [rget, List.getD, List.getElem?_append]
  split
  · rfl
  · rename_i h
    by_cases e : k = v.length
    · subst e; simp
    · rw [if_neg e, List.getElem?_eq_none (by simp; omega)]; rfl
theorem rget_set {v : List (List Int)} {r : List Int} {j k : Nat} (hj : j < v.length) : rget (v.set j r) k = if j = k then r else rget v k := by
  simp only [rget, List.getD, List.getElem?_set]
  split
  · rename_i h; subst h; simp [hj]
  · rfl

def rowsV (Q : Nat → Option Addr) (D : Nat → Nat) (v : List (List Int)) : List Value := (List.range v.length).map fun j => .slice (Q j) (rget v j).length (D j)
theorem rowsV_get {Q : Nat → Option Addr} {D : Nat → Nat} {v : List (List Int)} {j : Nat} (hj : j < v.length) : (rowsV Q D v)[j]? = some (.slice (Q j) (rget v j).length (D j)) := by simp [rowsV, hj]
theorem rowsV_length (Q : Nat → Option Addr) (D : Nat → Nat) (v : List (List Int)) : (rowsV Q D v).length = v.length := by simp [rowsV]

/-- The top row is the call's own; each row reads as a list. -/
structure TMat (w : World) (base : Nat) (p : Option Addr) (c : Nat) (v : List (List Int)) (Q : Nat → Option Addr) (D : Nat → Nat) : Prop where
  top : w.ownsRow base 23 1 (.slice p v.length c) v.length (rowsV Q D v)
  rows : ∀ j, j < v.length → Ints w (Q j) (D j) (rget v j)
  sep : ∀ j, j < v.length → 0 < (rget v j).length → ∀ k, blk (Q j) = some k → blk p ≠ some k
/-- Every row is the call's own, each in a block of its own. -/
structure DMat (w : World) (base : Nat) (p : Option Addr) (c : Nat) (v : List (List Int)) (Q : Nat → Option Addr) (D : Nat → Nat) : Prop where
  top : w.ownsRow base 23 1 (.slice p v.length c) v.length (rowsV Q D v)
  rows : ∀ j, j < v.length → Own w base (Q j) (D j) (rget v j)
  apart : ∀ i j, i < v.length → j < v.length → i ≠ j → ∀ k, blk (Q i) = some k → blk (Q j) ≠ some k

section
variable {w : World} {base : Nat} {p : Option Addr} {c : Nat} {v : List (List Int)} {Q : Nat → Option Addr} {D : Nat → Nat}
/-- The block of the top row is not a block of numbers. -/
theorem top_not_row {g : Nat} {q : Option Addr} {d : Nat} {xs : List Int} (h : w.ownsRow base 23 1 (.slice (some ⟨g, 0, none⟩) v.length c) v.length (rowsV Q D v)) {base' : Nat} (hq : Own w base' q d xs) : blk q ≠ some g := by
  intro e
  rcases hq.row.2 with ⟨h1, _⟩ | ⟨g', cap, cur, h1, _, h3, _⟩
  · simp only [Value.slice.injEq] at h1
    rw [h1.1] at e; simp [blk] at e
  · simp only [Value.slice.injEq] at h1
    rw [h1.1] at e
    simp [blk] at e
    subst e
    rcases h.2 with ⟨h4, _⟩ | ⟨g2, cap2, cur2, h4, _, h6, _⟩
    · simp at h4
    · simp only [Value.slice.injEq, Option.some.injEq, Addr.mk.injEq] at h4
      obtain ⟨⟨rfl, _⟩, _⟩ := h4
      rw [h6] at h3
      simp at h3
theorem DMat.tmat (h : DMat w base p c v Q D) : TMat w base p c v Q D := ⟨h.top, fun j hj => (h.rows j hj).ints, fun j hj _ k hk hp => by
  rcases h.top.2 with ⟨h1, _⟩ | ⟨g, cap, cur, h1, _⟩
  · simp only [Value.slice.injEq] at h1
    rw [h1.1] at hp; simp [blk] at hp
  · have h2 := h.top
    simp only [Value.slice.injEq] at h1
    rw [h1.1] at hp h2
    simp [blk] at hp
    subst hp
    exact top_not_row h2 (h.rows j hj) hk⟩

theorem TMat.shape (h : TMat w base p c v Q D) : (p = none ∧ c = 0 ∧ v = []) ∨ ∃ g, p = some ⟨g, 0, none⟩ ∧ base ≤ g ∧ g < w.heap.size ∧ v.length ≤ c ∧ c ≤ 9223372036854775807 := by
  rcases h.top.2 with ⟨h1, h2⟩ | ⟨g, cap, cur, h1, h2, h3, h4, h5, _, _⟩
  · simp only [Value.slice.injEq] at h1
    exact .inl ⟨h1.1, h1.2.2, List.eq_nil_of_length_eq_zero h2⟩
  · simp only [Value.slice.injEq] at h1
    obtain ⟨rfl, _, rfl⟩ := h1
    exact .inr ⟨g, rfl, h2, (Array.getElem?_eq_some_iff.1 h3).1, h4, h5⟩
theorem TMat.at {g : Nat} (h : TMat w base (some ⟨g, 0, none⟩) c v Q D) {j : Nat} (hj : j < v.length) : w.cell? ⟨g, j, none⟩ = some (.slice (Q j) (rget v j).length (D j)) := by
  rw [h.top.cellAt j (by omega), rowsV_get hj]
theorem TMat.free {g : Nat} (h : TMat w base (some ⟨g, 0, none⟩) c v Q D) (j : Nat) : w.frozen? ⟨g, j, none⟩ = false := h.top.frozenAt j
theorem TMat.get (h : TMat w base p c v Q D) {j : Nat} (hj : j < v.length) : ∃ g, p = some ⟨g, 0, none⟩ ∧ base ≤ g ∧ g < w.heap.size ∧ w.cell? ⟨g, j, none⟩ = some (.slice (Q j) (rget v j).length (D j)) ∧ w.frozen? ⟨g, j, none⟩ = false := by
  rcases h.shape with ⟨rfl, rfl, rfl⟩ | ⟨g, rfl, h1, h2, h3, h4⟩
  · simp at hj
  · exact ⟨g, rfl, h1, h2, h.at hj, h.free j⟩
theorem TMat.mat (h : TMat w base p c v Q D) : Mat w p c v := by
  rcases h.shape with ⟨rfl, rfl, rfl⟩ | ⟨g, rfl, h1, h2, h3, h4⟩
  · exact Mat.ofNil w
  · refine ⟨h3, h4, fun h => (by cases h), ?_, ?_⟩
    · rintro a ⟨⟩ _; exact ⟨rfl, h2⟩
    · rintro b o ⟨⟩ j hj
      rw [Nat.zero_add]; exact ⟨_, _, h.at hj, h.rows j hj⟩
theorem TMat.lt (h : TMat w base p c v Q D) : ∀ k, blk p = some k → base ≤ k ∧ k < w.heap.size := fun k hk => h.top.lt k (by rw [ownBlock_slice]; exact hk)
theorem TMat.ofNil (w : World) (base : Nat) : TMat w base none 0 [] Q D := ⟨World.ownsRow_nil w base _ _, fun _ h => (by simp at h), fun _ h => (by simp at h)⟩
theorem DMat.ofNil (w : World) (base : Nat) : DMat w base none 0 [] Q D := ⟨World.ownsRow_nil w base _ _, fun _ h => (by simp at h), fun _ _ h => (by simp at h)⟩
theorem DMat.mat (h : DMat w base p c v Q D) : Mat w p c v := h.tmat.mat

theorem top_kept {w' : World} (h : w.ownsRow base 23 1 (.slice p v.length c) v.length (rowsV Q D v)) {row : Option Nat} (hg : w.grownBy w' row) (hne : ∀ k, blk p = some k → row ≠ some k) :
    w'.ownsRow base 23 1 (.slice p v.length c) v.length (rowsV Q D v) :=
  h.kept hg (by
    rw [ownBlock_slice]
    cases hb : blk p with
    | none => exact .inl rfl
    | some k => exact .inr fun e => hne k hb e.symm)
theorem TMat.below {w' : World} {B : Nat} (h : TMat w base p c v Q D) (hb : Below B w w') (hB : w.heap.size ≤ B) : TMat w' base p c v Q D :=
  ⟨top_kept h.top (grownBy_of_below hb hB none) (fun _ _ e => by cases e), fun j hj => (h.rows j hj).below hb hB, h.sep⟩
theorem DMat.below {w' : World} {B : Nat} (h : DMat w base p c v Q D) (hb : Below B w w') (hB : w.heap.size ≤ B) : DMat w' base p c v Q D :=
  ⟨top_kept h.top (grownBy_of_below hb hB none) (fun _ _ e => by cases e), fun j hj => (h.rows j hj).below hb hB, h.apart⟩
theorem DMat.lt (h : DMat w base p c v Q D) : ∀ j, j < v.length → ∀ k, blk (Q j) = some k → base ≤ k ∧ k < w.heap.size := fun j hj k hk => (h.rows j hj).lt k hk
theorem DMat.keptBy {w' : World} {row : Option Nat} (h : DMat w base p c v Q D) (hg : w.grownBy w' row) (hne : ∀ k, blk p = some k → row ≠ some k) (hne2 : ∀ j, j < v.length → ∀ k, blk (Q j) = some k → row ≠ some k) : DMat w' base p c v Q D :=
  ⟨top_kept h.top hg hne, fun j hj => (h.rows j hj).keptBy hg (hne2 j hj), h.apart⟩

end

/-- 'append(out, row)', the row's value laid in a new block. -/
theorem wpList_appRow {w : World} {ops : Array Oper} {rest : List Oper} {o : Oper} {a : Act} {K : Exit → Act → World → Prop} (hgd : o.guard = none) (s x : Operand)
    (ho : o.op = .call { callee := .builtin .append, args := #[s, x], argTypes := #[22, 22] })
    (base : Nat) (p : Option Addr) (c : Nat) (v : List (List Int)) (Q : Nat → Option Addr) (D : Nat → Nat) (q : Option Addr) (d : Nat) (r : List Int)
    (hs : a.eval s = .slice p v.length c) {B : Nat} (hx : a.eval x = .slice (some ⟨B, 0, none⟩) 1 1) (hB : w.heap.size = B) (hown : TMat w base p c v Q D) (hr : Ints w q d r) (hsep : 0 < r.length → ∀ k, blk q = some k → blk p ≠ some k)
    (hsz : v.length ≤ 900000) (hbase : base ≤ w.heap.size)
    (h : ∀ p' c' w' u, Hid (u = v ++ [r]) → TMat w' base p' c' u (fun j => if j < v.length then Q j else q) (fun j => if j < v.length then D j else d) → w.grownBy w' (blk p) → Fresh w p p' →
      wpList Try.prog ops K rest (a.put o.dst (.slice p' u.length c')) w') :
    wpList Try.prog ops K (o :: rest) a (w.alloc (.cells #[.slice q r.length d] 23)) := by
  subst hB
  refine wpList_appG (w := w.alloc (.cells #[.slice q r.length d] 23)) hgd s x 22 23 ho (.slice none 0 0) 1 24 Try.underlying22 infoRow rfl (by decide) base p (some ⟨w.heap.size, 0, none⟩) v.length 1 c 1 (rowsV Q D v) [.slice q r.length d] hs hx (hown.top.alloc _)
    (fun e => (by cases e)) (by simp) ?_ (by simp [Value.oneCell']) (by simp [maxLen]; omega) (by omega) (by simp; omega) ?_
  · rintro ad ⟨⟩ j u hu
    have hj : j = 0 := by
      have := (List.getElem?_eq_some_iff.1 hu).1
      simpa using this
    subst hj
    simp at hu; subst hu
    rw [add_plain, World.cell?_alloc_at _ _ _ _ rfl]; rfl
  · intro p' c' w' h2 h3 h4
    have hg : w.grownBy w' (blk p) := ⟨h3.os, h3.tape, h3.output, by have := h3.size; simp at this; omega, fun k hk hne => by
      rw [h3.block k (by simp; omega) hne]
      exact Below.heap_alloc _ _ _ hk⟩
    have hfr : Fresh w p p' := fun k hk => by
      rcases h4 k hk with h5 | h5
      · exact .inl h5
      · exact .inr (by simp at h5; omega)
    have hkeep : ∀ (q' : Option Addr) (d' : Nat) (xs : List Int), Ints w q' d' xs → (0 < xs.length → ∀ k, blk q' = some k → blk p ≠ some k) → Ints w' q' d' xs := by
      intro q' d' xs hi hne
      refine hi.keep hg.size fun ad had hd => ?_
      refine hg.block _ (hi.plain ad had (by have := hi.le; omega)).2 ?_
      intro e
      exact hne hd ad.block (by rw [had]; rfl) e.symm
    have hsep2 : ∀ (q' : Option Addr) (d' : Nat) (xs : List Int), Ints w q' d' xs → (0 < xs.length → ∀ k, blk q' = some k → blk p ≠ some k) → 0 < xs.length → ∀ k, blk q' = some k → blk p' ≠ some k := by
      intro q' d' xs hi hne hlen k hk hp
      rcases hfr k hp with h5 | h5
      · exact hne hlen k hk h5
      · obtain ⟨b, o, rfl, hb, _⟩ := hi.get hlen
        simp [blk] at hk
        omega
    have hget : ∀ j, j < (v ++ [r]).length → (j < v.length ∧ rget (v ++ [r]) j = rget v j) ∨ (¬ j < v.length ∧ rget (v ++ [r]) j = r) := by
      intro j hj
      rw [List.length_append, List.length_singleton] at hj
      rw [rget_append]
      by_cases hlt : j < v.length
      · exact .inl ⟨hlt, by rw [if_pos hlt]⟩
      · exact .inr ⟨hlt, by rw [if_neg hlt, if_pos (by omega)]⟩
    have := h p' c' w' (v ++ [r]) rfl ⟨by
        rw [List.length_append]
        have e : rowsV (fun j => if j < v.length then Q j else q) (fun j => if j < v.length then D j else d) (v ++ [r]) = rowsV Q D v ++ [.slice q r.length d] := by
          unfold rowsV
          rw [List.length_append, List.length_singleton, List.range_succ, List.map_append]
          congr 1
          · refine List.map_congr_left fun j hj => ?_
            have := List.mem_range.1 hj
            simp [this, rget_append]
          · simp [rget_append]
        rw [e]; exact h2, ?_, ?_⟩ hg hfr
    · rw [List.length_append] at this; exact this
    · intro j hj
      rcases hget j hj with ⟨hlt, e⟩ | ⟨hlt, e⟩ <;> rw [e] <;> simp only [hlt, if_true, if_false]
      · exact hkeep _ _ _ (hown.rows j hlt) (hown.sep j hlt)
      · exact hkeep _ _ _ hr hsep
    · intro j hj
      rcases hget j hj with ⟨hlt, e⟩ | ⟨hlt, e⟩ <;> rw [e] <;> simp only [hlt, if_true, if_false]
      · exact hsep2 _ _ _ (hown.rows j hlt) (hown.sep j hlt)
      · exact hsep2 _ _ _ hr hsep
/-- .. where every row is the call's own, the new one in a block of its own. -/
theorem wpList_appOwnRow {w : World} {ops : Array Oper} {rest : List Oper} {o : Oper} {a : Act} {K : Exit → Act → World → Prop} (hgd : o.guard = none) (s x : Operand)
    (ho : o.op = .call { callee := .builtin .append, args := #[s, x], argTypes := #[22, 22] })
    (base : Nat) (p : Option Addr) (c : Nat) (v : List (List Int)) (Q : Nat → Option Addr) (D : Nat → Nat) (q : Option Addr) (d : Nat) (r : List Int)
    (hs : a.eval s = .slice p v.length c) {B : Nat} (hx : a.eval x = .slice (some ⟨B, 0, none⟩) 1 1) (hB : w.heap.size = B) (hown : DMat w base p c v Q D) (hr : Own w base q d r)
    (hnew : ∀ j, j < v.length → ∀ k, blk (Q j) = some k → blk q ≠ some k)
    (hsz : v.length ≤ 900000) (hbase : base ≤ w.heap.size)
    (h : ∀ p' c' w' u, Hid (u = v ++ [r]) → DMat w' base p' c' u (fun j => if j < v.length then Q j else q) (fun j => if j < v.length then D j else d) → w.grownBy w' (blk p) → Fresh w p p' →
      wpList Try.prog ops K rest (a.put o.dst (.slice p' u.length c')) w') :
    wpList Try.prog ops K (o :: rest) a (w.alloc (.cells #[.slice q r.length d] 23)) := by
  have hpne : ∀ {q' : Option Addr} {d' : Nat} {xs : List Int}, Own w base q' d' xs → ∀ k, blk q' = some k → blk p ≠ some k := by
    intro q' d' xs hq k hk hp
    have h2 := hown.top
    rcases hown.tmat.shape with ⟨rfl, _⟩ | ⟨g, rfl, _⟩
    · simp [blk] at hp
    · simp [blk] at hp
      subst hp
      exact top_not_row h2 hq hk
  refine wpList_appRow hgd s x ho base p c v Q D q d r hs hx hB hown.tmat hr.ints (fun _ => hpne hr) hsz hbase ?_
  intro p' c' w' u hu h2 h3 h4
  obtain rfl := hu.out
  refine h p' c' w' _ rfl ⟨h2.top, ?_, ?_⟩ h3 h4
  · intro j hj
    rw [List.length_append, List.length_singleton] at hj
    rw [rget_append]
    by_cases hlt : j < v.length
    · simp only [hlt, if_true]
      exact (hown.rows j hlt).keptBy h3 (fun k hk e => hpne (hown.rows j hlt) k hk e)
    · simp only [hlt, if_false]
      rw [if_pos (by omega)]
      exact hr.keptBy h3 (fun k hk e => hpne hr k hk e)
  · intro i j hi hj hne k hk
    rw [List.length_append, List.length_singleton] at hi hj
    by_cases hi2 : i < v.length
    · by_cases hj2 : j < v.length
      · simp only [hi2, hj2, if_true] at hk ⊢
        exact hown.apart i j hi2 hj2 hne k hk
      · simp only [hi2, hj2, if_true, if_false] at hk ⊢
        exact hnew i hi2 k hk
    · by_cases hj2 : j < v.length
      · simp only [hi2, hj2, if_true, if_false] at hk ⊢
        exact fun e => hnew j hj2 k e hk
      · omega
theorem rowsV_set {Q : Nat → Option Addr} {D : Nat → Nat} {v : List (List Int)} {i : Nat} (hi : i < v.length) (q : Option Addr) (d : Nat) (r : List Int) :
    rowsV (fun j => if j = i then q else Q j) (fun j => if j = i then d else D j) (v.set i r) = (rowsV Q D v).set i (.slice q r.length d) := by
  apply List.ext_getElem
  · simp [rowsV]
  · intro j h1 h2
    rw [List.getElem_set]
    simp only [rowsV, List.getElem_map, List.getElem_range]
    by_cases e : i = j
    · subst e; simp [rget_set hi]
    · rw [rget_set hi, if_neg e, if_neg e, if_neg (fun h => e h.symm), if_neg (fun h => e h.symm)]
/-- One row is another one. -/
theorem TMat.set {w : World} {base g c : Nat} {v : List (List Int)} {Q : Nat → Option Addr} {D : Nat → Nat} (h : TMat w base (some ⟨g, 0, none⟩) c v Q D) {i : Nat} (hi : i < v.length) {q : Option Addr} {d : Nat} {r : List Int} (hr : Ints w q d r)
    (hsep : 0 < r.length → blk q ≠ some g) :
    TMat (w.setCell ⟨g, i, none⟩ (.slice q r.length d)) base (some ⟨g, 0, none⟩) c (v.set i r) (fun j => if j = i then q else Q j) (fun j => if j = i then d else D j) := by
  obtain ⟨h1, h2⟩ := h.top.stored i (.slice q r.length d)
  have hk : ∀ (q' : Option Addr) (d' : Nat) (xs : List Int), Ints w q' d' xs → (0 < xs.length → blk q' ≠ some g) → Ints (w.setCell ⟨g, i, none⟩ (.slice q r.length d)) q' d' xs := by
    intro q' d' xs hI hs
    refine hI.keep (by simp [World.setCell]) fun ad had hd => ?_
    refine h2.block _ (hI.plain ad had (by have := hI.le; omega)).2 ?_
    intro e
    exact hs hd (by rw [had, ← e]; rfl)
  have hsep' : ∀ j, j < v.length → 0 < (rget v j).length → blk (Q j) ≠ some g := fun j hj hl e => h.sep j hj hl g e rfl
  refine ⟨by rw [List.length_set, rowsV_set hi]; exact h1, fun j hj => ?_, fun j hj => ?_⟩
  · rw [List.length_set] at hj
    rw [rget_set hi]
    by_cases e : j = i
    · subst e; simp only [if_true]; exact hk _ _ _ hr hsep
    · simp only [if_neg e, if_neg (fun h : i = j => e h.symm)]; exact hk _ _ _ (h.rows j hj) (hsep' j hj)
  · rw [List.length_set] at hj
    rw [rget_set hi]
    intro hl k hk2 e2
    have e3 : k = g := by simp [blk] at e2; exact e2.symm
    subst e3
    by_cases e : j = i
    · subst e; simp only [if_true] at hk2 hl; exact hsep hl hk2
    · simp only [if_neg e, if_neg (fun h : i = j => e h.symm)] at hk2 hl; exact hsep' j hj hl hk2

/-- The call hands back a row of its own that holds xs; what lay before lies as it lay. -/
def Gives (w : World) (xs : List Int) (e : Ending) (w' : World) : Prop := ∃ p c, e = .returned (.slice p xs.length c) ∧ Own w' w.heap.size p c xs ∧ Below w.heap.size w w'
/-- .. a slice of rows, each its own. -/
def GivesD (w : World) (v : List (List Int)) (e : Ending) (w' : World) : Prop := ∃ p c Q D, e = .returned (.slice p v.length c) ∧ DMat w' w.heap.size p c v Q D ∧ Below w.heap.size w w'
/-- .. a row of its own and a number that is an error. -/
def Gives2 (w : World) (xs : List Int) (k : Int) (e : Ending) (w' : World) : Prop := ∃ p c, e = .returned (.tuple #[.slice p xs.length c, .int .i64 k]) ∧ Own w' w.heap.size p c xs ∧ Below w.heap.size w w'
/-- .. a row of its own, and two numbers. -/
def Gives3 (w : World) (xs : List Int) (m k : Int) (e : Ending) (w' : World) : Prop := ∃ p c, e = .returned (.tuple #[.slice p xs.length c, .int .i64 m, .int .i64 k]) ∧ Own w' w.heap.size p c xs ∧ Below w.heap.size w w'
end Go.Proofs.Ytcgaojnfgkfnkaa

/- The walk of the laws' zeros. -/
namespace Go.Proofs.Ytcgaojnfgkfnkaa
set_option linter.unusedVariables false
set_option linter.unusedSimpArgs false
open Go.ChangeShapes Go.WideShapes Go.ChangeAt Go.RowKit Go.Deep

/-- Counts of n agents that are 0 everywhere. -/
def zeroL (n : Nat) : List (List Int) := List.replicate n (List.replicate n 0)
set_option maxHeartbeats 1600000 in
theorem zeros_any0 (R : List Int) (w : World) (hn : R.length ≤ 1000) (hR : Hid (List.replicate R.length 0 = R)) :
    Calls Try.prog 30 #[.int .i64 (R.length : Int)] w (GivesD w (List.replicate R.length R)) := by
  have HR : Hid (∀ k, List.replicate (k + 1) R = List.replicate k R ++ [R]) := fun k => List.replicate_succ'
  go_enter Try.func30, Try.ntmps30
  go_wp2_with fail
  go_loopw [3, 4] (fun t i wr => ∃ k : Nat, k ≤ R.length ∧ i = .int .i64 k ∧ (∃ u p' c' Q D, Hid (u = List.replicate k R) ∧ t = .slice p' (u : List (List Int)).length c' ∧ DMat wr w.heap.size p' c' u Q D) ∧ Below w.heap.size w wr) (fun _ i _ => R.length - (intOf i).toNat)
  case atStart => exact ⟨0, by omega, rfl, ⟨[], none, 0, fun _ => none, fun _ => 0, rfl, rfl, DMat.ofNil _ _⟩, Below.refl _ _⟩
  case round =>
    obtain ⟨k, hk, rfl, ⟨u, p', c', Q, D, hu, rfl, hD⟩, hb⟩ := hrel
    by_cases hlt : k < R.length
    · have hk1 : (k : Int) < R.length := by omega
      have hsz := hb.size
      have hul : u.length ≤ 900000 := by rw [hu.out, List.length_replicate]; omega
      go_wp2_with (first
        | (at_make; refine wpList_mk rfl (.tmp 11) (.tmp 11) rfl w.heap.size R.length rfl rfl (by omega) hsz ?_; intro w2 hO2 hg2 hs2; have hO3 : Own w2 w.heap.size (some ⟨wr.heap.size, 0, none⟩) R.length R := by { have h := hO2; rw [hR.out] at h; exact h }; have hb2 : Below wr.heap.size wr w2 := (Below.refl _ _).grown hg2 (Nat.le_refl _) (fun _ e => by cases e); have hD2 := hD.below hb2 (Nat.le_refl _); have hn2 : ∀ j, j < u.length → ∀ b, blk (Q j) = some b → blk (some (⟨wr.heap.size, 0, none⟩ : Addr)) ≠ some b := (fun j hj b hbq e => by { have h1 := (hD.lt j hj b hbq).2; simp [blk] at e; omega }); have hsz2 : w.heap.size ≤ w2.heap.size := Nat.le_trans hsz hb2.size; have hbw2 := hb.trans (hb2.mono hsz))
        | (at_builtin; refine wpList_appOwnRow rfl (.tmp 10) (.tmp 13) rfl w.heap.size _ _ u Q D _ R.length R rfl rfl hs2 hD2 hO3 hn2 hul hsz2 ?_; intro p3 c3 w3 u3 hu3 hD3 hg3 hf3))
      have hb3 : Below w.heap.size w w3 := hbw2.grown hg3 hsz2 (fun x e => (hD2.tmat.lt x e).1)
      go_wp2_with fail
      go_roundw
      case rel => exact ⟨k + 1, by omega, by go_num, ⟨_, _, _, _, _, by rw [HR.out, ← hu.out]; exact hu3, rfl, hD3⟩, hb3⟩
      case measure => simp [intOf]; omega
    · have hk1 : ¬ (k : Int) < R.length := by omega
      obtain rfl : k = R.length := by omega
      obtain rfl := hu.out
      go_wp2_with fail
      go_ret
      refine ⟨p', c', Q, D, ?_, hD, hb⟩
      first | rfl | (rw [List.length_replicate]; rfl)
theorem zeros_any (n : Nat) (w : World) (hn : n ≤ 1000) : Calls Try.prog 30 #[.int .i64 (n : Int)] w (GivesD w (zeroL n)) := by
  have := zeros_any0 (List.replicate n 0) w (by simp; omega) (by unfold Hid; rw [List.length_replicate])
  rw [List.length_replicate] at this
  exact this
end Go.Proofs.Ytcgaojnfgkfnkaa

/- The plain words of chapter 13: valid bids, assignments, their worth, prices; no program in sight. -/
namespace Go.Proofs.Ytcgaojnfgkfnkaa
set_option linter.unusedVariables false
set_option linter.unusedSimpArgs false

theorem dec_congr {p q : Prop} [Decidable p] [Decidable q] (h : p ↔ q) : decide p = decide q := by rw [Bool.eq_iff_iff, decide_eq_true_iff, decide_eq_true_iff]; exact h

def Bids (v : List (List Int)) : Prop := 0 < v.length ∧ v.length ≤ 6 ∧ ∀ i, i < v.length → (rget v i).length = v.length ∧ ∀ j, j < v.length → 0 ≤ iget (rget v i) j ∧ iget (rget v i) j ≤ 1000000
instance (v : List (List Int)) : Decidable (Bids v) := by unfold Bids; infer_instance
/-- What Check answers. -/
def chkI (v : List (List Int)) : Int := if 6 < v.length then 4 else if Bids v then 0 else 8
theorem chkI_bids {v : List (List Int)} (h : Bids v) : chkI v = 0 := by unfold chkI; rw [if_neg (by have := h.2.1; omega), if_pos h]
theorem chkI_zero {v : List (List Int)} : chkI v = 0 ↔ Bids v := by
  constructor
  · intro h
    unfold chkI at h
    by_cases h6 : 6 < v.length
    · simp [h6] at h
    · by_cases hb : Bids v
      · exact hb
      · simp [h6, hb] at h
  · exact chkI_bids
theorem chkI_many {v : List (List Int)} (h : 6 < v.length) : chkI v = 4 := by simp [chkI, h]
theorem chkI_bad {v : List (List Int)} (h : ¬ 6 < v.length) (hb : ¬ Bids v) : chkI v = 8 := by simp [chkI, h, hb]

def GreatP (v : List (List Int)) : Prop := (∃ i, i < v.length ∧ i < 20 ∧ 50 < (rget v i).length) ∨ v.length = 6 ∨ 20 < v.length
instance (v : List (List Int)) : Decidable (GreatP v) := by
  have : Decidable (∃ i, i < v.length ∧ i < 20 ∧ 50 < (rget v i).length) := decidable_of_iff (∃ i, ∃ _ : i < v.length, i < 20 ∧ 50 < (rget v i).length) ⟨fun ⟨i, h, h'⟩ => ⟨i, h, h'⟩, fun ⟨i, h, h'⟩ => ⟨i, h, h'⟩⟩
  unfold GreatP; infer_instance
def greatB (v : List (List Int)) : Bool := decide (GreatP v)

/-- A list that has each number below n once. -/
def IsA (a : List Int) (n : Nat) : Prop := a.length = n ∧ ∀ j, j < n → a.count (j : Int) = 1
instance (a : List Int) (n : Nat) : Decidable (IsA a n) := by unfold IsA; infer_instance
def isAB (a : List Int) (n : Nat) : Bool := decide (IsA a n)

theorem count_take_succ (a : List Int) (k : Nat) (j : Int) (h : k < a.length) : (a.take (k + 1)).count j = (a.take k).count j + if iget a k = j then 1 else 0 := by
  rw [List.take_succ_eq_append_getElem h, List.count_append, iget_of h]
  simp [List.count_singleton]

/-- The sum of f 0 .. f (n - 1). -/
def sumTo (f : Nat → Int) : Nat → Int
  | 0 => 0
  | n + 1 => sumTo f n + f n
/-- What agent i bids for item j. -/
def bid (v : List (List Int)) (i j : Nat) : Int := iget (rget v i) j
/-- The item of agent i. -/
def itm (a : List Int) (i : Nat) : Nat := (iget a i).toNat
def worthI (v : List (List Int)) (a : List Int) : Int := sumTo (fun i => bid v i (itm a i)) a.length

def PricedP (p : List Int) (n : Nat) : Prop := p.length = n ∧ ∀ j, j < p.length → 0 ≤ iget p j ∧ iget p j ≤ 10000000
instance (p : List Int) (n : Nat) : Decidable (PricedP p n) := by unfold PricedP; infer_instance
def pricedB (p : List Int) (n : Nat) : Bool := decide (PricedP p n)
def ContentP (v : List (List Int)) (a p : List Int) : Prop := ∀ i, i < v.length → ∀ j, j < v.length → bid v i j - iget p j ≤ bid v i (itm a i) - iget p (itm a i)
instance (v : List (List Int)) (a p : List Int) : Decidable (ContentP v a p) := by unfold ContentP; infer_instance
def contentB (v : List (List Int)) (a p : List Int) : Bool := decide (ContentP v a p)

theorem sumTo_bound {f : Nat → Int} {m : Int} {n : Nat} (h : ∀ i, i < n → 0 ≤ f i ∧ f i ≤ m) : ∀ k, k ≤ n → 0 ≤ sumTo f k ∧ sumTo f k ≤ m * k := by
  intro k
  induction k with
  | zero => intro _; simp [sumTo]
  | succ k ih =>
    intro hk
    have h1 := ih (by omega)
    have h2 := h k (by omega)
    simp only [sumTo]
    have : m * ((k + 1 : Nat) : Int) = m * k + m := by rw [Int.natCast_succ, Int.mul_add, Int.mul_one]
    omega
end Go.Proofs.Ytcgaojnfgkfnkaa

/- The walk of the reference's SameInts; equal lists compared: true; no condition. -/
namespace Go.Proofs.Ytcgaojnfgkfnkaa
set_option linter.unusedVariables false
set_option linter.unusedSimpArgs false
open Go.ChangeShapes Go.WideShapes Go.ChangeAt Go.RowKit Go.Deep

theorem drew_below25 {w w' : World} (h : ∃ n, w' = w.drewN n) : Below w.heap.size w w' := by obtain ⟨n, rfl⟩ := h; exact below_drewN _ _ _
def sameB (xs ys : List Int) : Bool := decide (xs = ys)
theorem sameB_true {xs ys : List Int} (h : xs = ys) : sameB xs ys = true := by simp [sameB, h]
theorem take_ext {xs ys : List Int} (h : ∀ j, j < xs.length → iget xs j = iget ys j) (hl : xs.length = ys.length) : xs = ys := by
  apply List.ext_getElem hl
  intro i h1 h2
  have := h i h1
  rwa [iget_of h1, iget_of h2] at this

theorem snoc_all {P : Nat → Prop} {k : Nat} (h : ∀ j, j < k → P j) (hk : P k) : ∀ j, j < k + 1 → P j := fun j hj => by
  by_cases e : j = k
  · exact e ▸ hk
  · exact h j (by omega)

set_option maxHeartbeats 400000 in
theorem same25_any (p q : Option Addr) (c d : Nat) (xs ys : List Int) (w : World) (hx : Ints w p c xs) (hy : Ints w q d ys) :
    Calls Try.prog 23 #[.slice p xs.length c, .slice q ys.length d] w fun e w' => e = .returned (.bool (sameB xs ys)) ∧ ∃ n, w' = w.drewN n := by
  by_cases hl : xs.length = ys.length
  · have hb : ((xs.length : Int) != ys.length) = false := by simp [hl]
    have Hl := Lib.hid hl
    clear hl
    go_enter Try.func23, Try.ntmps23
    go_wp2
    go_loopw [5] (fun i wr => ∃ k : Nat, k ≤ xs.length ∧ i = .int .i64 k ∧ (Hid (∀ j, j < k → iget xs j = iget ys j)) ∧ ∃ n, wr = w.drewN n) (fun i _ => xs.length - (intOf i).toNat)
    case atStart => exact ⟨0, Nat.zero_le _, rfl, fun j hj => by omega, 0, rfl⟩
    case round =>
      obtain ⟨k, hk, rfl, ht, n, rfl⟩ := hrel
      by_cases hlt : k < xs.length
      · obtain ⟨b, o, rfl, _, hc⟩ := hx.get hlt
        have hlt' : k < ys.length := by rw [← Hl.out]; exact hlt
        obtain ⟨b', o', rfl, _, hc'⟩ := hy.get hlt'
        have hk1 : (k : Int) < xs.length := by omega
        have hk2 : (k : Int) < ys.length := by omega
        have hl1 := hx.length_le
        go_wp2
        go_quiet (fail)
        go_wp2
        · have hne : (iget xs k != iget ys k) = true := by assumption
          go_ret
          refine ⟨ret_bool ?_, drew_drewN _ ⟨_, rfl⟩⟩
          simp only [sameB]
          symm
          rw [decide_eq_false_iff_not]
          rintro rfl
          simp at hne
        · have he : (iget xs k != iget ys k) = false := by assumption
          go_roundw
          case rel => exact ⟨k + 1, by omega, by go_num, snoc_all ht.out (by simpa using he), _, rfl⟩
          case measure => simp [intOf]; omega
      · have hk1 : ¬ (k : Int) < xs.length := by omega
        go_wp2
        go_ret
        refine ⟨ret_bool ?_, _, rfl⟩
        rw [sameB_true]
        exact take_ext (fun j hj => ht.out j (by omega)) Hl.out
  · have hb : ((xs.length : Int) != ys.length) = true := by simp; omega
    have Hl := Lib.hid hl
    clear hl
    go_enter Try.func23, Try.ntmps23
    go_wp2
    go_ret
    refine ⟨ret_bool ?_, 0, rfl⟩
    simp only [sameB]
    symm
    rw [decide_eq_false_iff_not]
    rintro rfl
    exact Hl.out rfl

/-- Equal lists, laid twice. -/
theorem eq25_true {p q : Option Addr} {c d : Nat} {xs : List Int} {w : World} (hx : Ints w p c xs) (hy : Ints w q d xs) :
    Calls Try.prog 23 #[.slice p xs.length c, .slice q xs.length d] w fun e w' => e = .returned (.bool true) ∧ ∃ n, w' = w.drewN n := by
  refine (same25_any p q c d xs xs w hx hy).mono ?_
  rintro e w' ⟨he, hw⟩
  exact ⟨by rw [he, sameB_true rfl], hw⟩
end Go.Proofs.Ytcgaojnfgkfnkaa

/- The walks of the reference's Same and Great and of the laws' zeros; no condition. -/
namespace Go.Proofs.Ytcgaojnfgkfnkaa
set_option linter.unusedVariables false
set_option linter.unusedSimpArgs false
open Go.ChangeShapes Go.WideShapes Go.ChangeAt Go.RowKit Go.Deep

def sameMB (u v : List (List Int)) : Bool := decide (u = v)
theorem rows_extS {u v : List (List Int)} (h : ∀ j, j < u.length → rget u j = rget v j) (hl : u.length = v.length) : u = v := by
  apply List.ext_getElem hl
  intro i h1 h2
  have := h i h1
  rwa [rget_of h1, rget_of h2] at this
theorem sameB_eqS {xs ys : List Int} (h : sameB xs ys = true) : xs = ys := by simpa [sameB] using h
set_option maxHeartbeats 400000 in
theorem same32_any (p q : Option Addr) (c d : Nat) (u v : List (List Int)) (w : World) (hx : Mat w p c u) (hy : Mat w q d v) :
    Calls Try.prog 24 #[.slice p u.length c, .slice q v.length d] w fun e w' => e = .returned (.bool (sameMB u v)) ∧ ∃ n, w' = w.drewN n := by
  by_cases hl : u.length = v.length
  · have hb : ((u.length : Int) != v.length) = false := by simp [hl]
    have Hl := Lib.hid hl
    clear hl
    go_enter Try.func24, Try.ntmps24
    go_wp2
    go_loopw [5] (fun i wr => ∃ k : Nat, k ≤ u.length ∧ i = .int .i64 k ∧ (Hid (∀ j, j < k → rget u j = rget v j)) ∧ ∃ n, wr = w.drewN n) (fun i _ => u.length - (intOf i).toNat)
    case atStart => exact ⟨0, Nat.zero_le _, rfl, fun j hj => by omega, 0, rfl⟩
    case round =>
      obtain ⟨k, hk, rfl, ht, hw⟩ := hrel
      have hx := hx.drew hw
      have hy := hy.drew hw
      have Hw := Lib.hid hw
      clear hw
      by_cases hlt : k < u.length
      · obtain ⟨b, o, rfl, _, q1, d1, hc, hi⟩ := hx.get hlt
        have hlt' : k < v.length := by rw [← Hl.out]; exact hlt
        obtain ⟨b', o', rfl, _, q2, d2, hc', hi'⟩ := hy.get hlt'
        have hk1 : (k : Int) < u.length := by omega
        have hk2 : (k : Int) < v.length := by omega
        have hl1 := hx.length_le
        go_wp2_with fail
        go_quiet ((go_at_call 23; exact Calls.quiet_of (same25_any _ _ _ _ _ _ _ (hi.drewN _) (hi'.drewN _))))
        go_wp2_with fail
        · have hne : (!sameB (rget u k) (rget v k)) = true := by assumption
          go_ret
          refine ⟨ret_bool ?_, drew_drewN _ Hw.out⟩
          simp only [sameMB]
          symm
          rw [decide_eq_false_iff_not]
          rintro rfl
          simp [sameB] at hne
        · have he : (!sameB (rget u k) (rget v k)) = false := by assumption
          go_roundw
          case rel => exact ⟨k + 1, by omega, by go_num, snoc_all ht.out (sameB_eqS (by simpa using he)), drew_drewN _ Hw.out⟩
          case measure => simp [intOf]; omega
      · have hk1 : ¬ (k : Int) < u.length := by omega
        go_wp2
        go_ret
        refine ⟨ret_bool ?_, Hw.out⟩
        simp only [sameMB]
        symm
        rw [decide_eq_true_iff]
        exact rows_extS (fun j hj => ht.out j (by omega)) Hl.out
  · have hb : ((u.length : Int) != v.length) = true := by simp; omega
    have Hl := Lib.hid hl
    clear hl
    go_enter Try.func24, Try.ntmps24
    go_wp2
    go_ret
    refine ⟨ret_bool ?_, 0, rfl⟩
    simp only [sameMB]
    symm
    rw [decide_eq_false_iff_not]
    rintro rfl
    exact Hl.out rfl
/-- Larger than the statements consider. -/
def G1 (c r : List (List Int)) : Prop := (7 < c.length ∧ c.length ≤ 12) ∨ 40 < c.length ∨ (40 < r.length ∧ r.length ≤ 400) ∨ 410 < r.length
def GreatP32 (c r : List (List Int)) : Prop := G1 c r ∨ (∃ i, i < c.length ∧ 40 < (rget c i).length) ∨ ∃ i, i < r.length ∧ 40 < (rget r i).length
open Classical in
noncomputable def great32 (c r : List (List Int)) : Bool := decide (GreatP32 c r)
open Classical in
theorem great32_true {c r : List (List Int)} (h : GreatP32 c r) : great32 c r = true := by unfold great32; exact decide_eq_true h
open Classical in
theorem great32_false {c r : List (List Int)} : great32 c r = false ↔ ¬ GreatP32 c r := by unfold great32; rw [decide_eq_false_iff_not]
set_option maxHeartbeats 3200000 in
theorem great32_any (p q : Option Addr) (c d : Nat) (u v : List (List Int)) (w : World) (hx : Mat w p c u) (hy : Mat w q d v) :
    Calls Try.prog 11 #[.slice p u.length c, .slice q v.length d] w fun e w' => e = .returned (.bool (great32 u v)) ∧ w' = w := by
  have hl1 := hx.length_le
  have hl2 := hy.length_le
  have big : G1 u v → Calls Try.prog 11 #[.slice p u.length c, .slice q v.length d] w fun e w' => e = .returned (.bool (great32 u v)) ∧ w' = w := by
    intro hG
    have HE := Lib.hid (great32_true (c := u) (r := v) (.inl hG))
    obtain ⟨n, en⟩ : ∃ n, u.length = n := ⟨_, rfl⟩
    obtain ⟨m, em⟩ : ∃ m, v.length = m := ⟨_, rfl⟩
    have hG2 : (7 < n ∧ n ≤ 12) ∨ 40 < n ∨ (40 < m ∧ m ≤ 400) ∨ 410 < m := by rw [← en, ← em]; exact hG
    rw [en, em]
    clear hx hy hl1 hl2 en em hG
    by_cases h1 : 7 < (n : Int) <;> by_cases h2 : (n : Int) ≤ 12 <;> by_cases h3 : 40 < (n : Int) <;> by_cases h4 : 40 < (m : Int) <;> by_cases h5 : (m : Int) ≤ 400 <;> by_cases h6 : 410 < (m : Int) <;> first
      | (exfalso; omega)
      | (clear hG2
         go_enter Try.func11, Try.ntmps11
         go_wp2_with fail
         go_ret
         exact ⟨ret_bool HE.out.symm, rfl⟩)
  by_cases hG : G1 u v
  · exact big hG
  clear big
  have hG2 : ¬ ((7 < u.length ∧ u.length ≤ 12) ∨ 40 < u.length ∨ (40 < v.length ∧ v.length ≤ 400) ∨ 410 < v.length) := hG
  have HG := Lib.hid hG
  clear hG
  by_cases h1 : 7 < (u.length : Int) <;> by_cases h2 : (u.length : Int) ≤ 12 <;> by_cases h3 : 40 < (u.length : Int) <;> by_cases h4 : 40 < (v.length : Int) <;> by_cases h5 : (v.length : Int) ≤ 400 <;> by_cases h6 : 410 < (v.length : Int) <;> first
    | (exfalso; omega)
    | (clear hG2
       go_enter Try.func11, Try.ntmps11
       go_wp2_with fail
       go_loop [5] (fun i => ∃ k : Nat, k ≤ u.length ∧ i = .int .i64 k ∧ Hid (∀ j, j < k → ¬ 40 < (rget u j).length)) (fun i => u.length - (intOf i).toNat)
       case atStart => exact ⟨0, by omega, rfl, fun j hj => absurd hj (Nat.not_lt_zero j)⟩
       case round =>
         obtain ⟨k, hk, rfl, ht⟩ := hrel
         by_cases hlt : k < u.length
         · obtain ⟨b, o, rfl, _, q1, d1, hc, hi⟩ := hx.get hlt
           have hk1 : (k : Int) < u.length := by omega
           by_cases hg : 40 < (rget u k).length
           · have hg1 : 40 < ((rget u k).length : Int) := by omega
             have HE := Lib.hid (great32_true (c := u) (r := v) (.inr (.inl ⟨k, hlt, hg⟩)))
             clear hg
             go_wp2_with fail
             go_ret
             exact ⟨ret_bool HE.out.symm, rfl⟩
           · have hg1 : ¬ 40 < ((rget u k).length : Int) := by omega
             go_wp2_with fail
             go_round
             case rel => exact ⟨k + 1, by omega, by go_num, snoc_all' ht.out hg⟩
             case measure => simp [intOf]; omega
         · have hk1 : ¬ (k : Int) < u.length := by omega
           go_wp2_with fail
           go_loop [6] (fun i => ∃ k : Nat, k ≤ v.length ∧ i = .int .i64 k ∧ Hid (∀ j, j < k → ¬ 40 < (rget v j).length)) (fun i => v.length - (intOf i).toNat)
           case atStart => exact ⟨0, by omega, rfl, fun j hj => absurd hj (Nat.not_lt_zero j)⟩
           case round =>
             obtain ⟨m, hm, rfl, hs⟩ := hrel
             by_cases hlm : m < v.length
             · obtain ⟨b, o, rfl, _, q1, d1, hc, hi⟩ := hy.get hlm
               have hm1 : (m : Int) < v.length := by omega
               by_cases hg : 40 < (rget v m).length
               · have hg1 : 40 < ((rget v m).length : Int) := by omega
                 have HE := Lib.hid (great32_true (c := u) (r := v) (.inr (.inr ⟨m, hlm, hg⟩)))
                 clear hg
                 go_wp2_with fail
                 go_ret
                 exact ⟨ret_bool HE.out.symm, rfl⟩
               · have hg1 : ¬ 40 < ((rget v m).length : Int) := by omega
                 go_wp2_with fail
                 go_round
                 case rel => exact ⟨m + 1, by omega, by go_num, snoc_all' hs.out hg⟩
                 case measure => simp [intOf]; omega
             · have hm1 : ¬ (m : Int) < v.length := by omega
               have HE := Lib.hid ((great32_false (c := u) (r := v)).2 (fun h => by
                 rcases h with h | ⟨i, h1, h2⟩ | ⟨i, h1, h2⟩
                 · exact HG.out h
                 · exact ht.out i (by omega) h2
                 · exact hs.out i (by omega) h2))
               go_wp2_with fail
               go_ret
               exact ⟨ret_bool HE.out.symm, rfl⟩)
end Go.Proofs.Ytcgaojnfgkfnkaa
