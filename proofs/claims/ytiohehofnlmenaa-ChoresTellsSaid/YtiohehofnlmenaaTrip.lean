/- Rows of structs of three ints that a call itself makes: how they are read and appended to; no condition but sizes. -/
import Derived.Test.YtiohehofnlmenaaPairs
namespace Go.Proofs.Ytiohehofnlmenaa
set_option linter.unusedVariables false
set_option linter.unusedSimpArgs false
open Go.ChangeShapes Go.WideShapes Go.ChangeAt Go.RowKit Go.Deep

abbrev Trip := Nat × Nat × Int
/-- The cells of a list of triples. -/
def cellsT (xs : List Trip) : List Value := xs.flatMap fun x => [.int .i64 x.1, .int .i64 x.2.1, .int .i64 x.2.2]
def tget (xs : List Trip) (j : Nat) : Trip := xs.getD j (0, 0, 0)
theorem cellsT_append (xs ys : List Trip) : cellsT (xs ++ ys) = cellsT xs ++ cellsT ys := by simp [cellsT]
theorem cellsT_get : ∀ (xs : List Trip) (j : Nat), j < xs.length → (cellsT xs)[j * 3]? = some (.int .i64 (tget xs j).1) ∧ (cellsT xs)[j * 3 + 1]? = some (.int .i64 (tget xs j).2.1) ∧ (cellsT xs)[j * 3 + 2]? = some (.int .i64 (tget xs j).2.2)
  | x :: xs, 0, _ => ⟨rfl, rfl, rfl⟩
  | x :: xs, j + 1, h => by
    have ih := cellsT_get xs j (by simpa using h)
    have e : cellsT (x :: xs) = Value.int .i64 x.1 :: Value.int .i64 x.2.1 :: Value.int .i64 x.2.2 :: cellsT xs := rfl
    have e1 : (j + 1) * 3 = j * 3 + 1 + 1 + 1 := by omega
    have e2 : tget (x :: xs) (j + 1) = tget xs j := rfl
    rw [e, e1, e2]
    exact ih
/-- The slice (p, xs.length, c) is a row of the call's own, of structs E, in a block from base on, and holds the triples xs. -/
structure OwnT (E : TypeId) (w : World) (base : Nat) (p : Option Addr) (c : Nat) (xs : List Trip) : Prop where
  row : w.ownsRow base E 3 (.slice p xs.length c) xs.length (cellsT xs)
section
variable {E : TypeId}
theorem OwnT.ofNil (w : World) (base : Nat) : OwnT E w base none 0 [] := ⟨World.ownsRow_nil w base _ _⟩
theorem OwnT.lt {w : World} {base : Nat} {p : Option Addr} {c : Nat} {xs : List Trip} (h : OwnT E w base p c xs) : ∀ k, blk p = some k → base ≤ k ∧ k < w.heap.size := fun k hk => h.row.lt k (by rw [ownBlock_slice]; exact hk)
theorem OwnT.lower {w : World} {base base' : Nat} {p : Option Addr} {c : Nat} {xs : List Trip} (h : OwnT E w base p c xs) (hb : base' ≤ base) : OwnT E w base' p c xs := by
  refine ⟨⟨h.row.1, ?_⟩⟩
  rcases h.row.2 with h1 | ⟨g, cap, cur, h1, h2, r⟩
  · exact .inl h1
  · exact .inr ⟨g, cap, cur, h1, Nat.le_trans hb h2, r⟩
theorem OwnT.keptBy {w w' : World} {base : Nat} {p : Option Addr} {c : Nat} {xs : List Trip} (h : OwnT E w base p c xs) {row : Option Nat} (hg : w.grownBy w' row) (hne : ∀ k, blk p = some k → row ≠ some k) : OwnT E w' base p c xs :=
  ⟨h.row.kept hg (by
    rw [ownBlock_slice]
    cases hb : blk p with
    | none => exact .inl rfl
    | some k => exact .inr fun e => hne k hb e.symm)⟩
theorem OwnT.below {w w' : World} {base B : Nat} {p : Option Addr} {c : Nat} {xs : List Trip} (h : OwnT E w base p c xs) (hb : Below B w w') (hB : w.heap.size ≤ B) : OwnT E w' base p c xs :=
  h.keptBy (grownBy_of_below hb hB none) (fun _ _ h => by cases h)
theorem OwnT.drew {w w' : World} {base : Nat} {p : Option Addr} {c : Nat} {xs : List Trip} (h : OwnT E w base p c xs) (hw : ∃ n, w' = w.drewN n) : OwnT E w' base p c xs := by
  obtain ⟨n, rfl⟩ := hw
  exact h.below (below_drewN w.heap.size w n) (Nat.le_refl _)
theorem OwnT.alloc {w : World} {base : Nat} {p : Option Addr} {c : Nat} {xs : List Trip} (h : OwnT E w base p c xs) (o : Obj) : OwnT E (w.alloc o) base p c xs := ⟨h.row.alloc o⟩
theorem OwnT.cap {w : World} {base : Nat} {p : Option Addr} {c : Nat} {xs : List Trip} (h : OwnT E w base p c xs) : xs.length ≤ 9223372036854775807 := by
  rcases h.row.2 with ⟨_, h2⟩ | ⟨g, cap, cur, _, _, _, h4, h5, _, _⟩
  · omega
  · simp only [maxLen] at h5; omega
theorem OwnT.get {w : World} {base : Nat} {p : Option Addr} {c : Nat} {xs : List Trip} (h : OwnT E w base p c xs) {j : Nat} (hj : j < xs.length) :
    ∃ g, p = some ⟨g, 0, none⟩ ∧ base ≤ g ∧ g < w.heap.size ∧ w.cell? ⟨g, j * 3, none⟩ = some (.int .i64 (tget xs j).1) ∧ w.cell? ⟨g, j * 3 + 1, none⟩ = some (.int .i64 (tget xs j).2.1) ∧ w.cell? ⟨g, j * 3 + 2, none⟩ = some (.int .i64 (tget xs j).2.2) := by
  obtain ⟨g, cap, hv, hb, hlt⟩ := h.row.form (by omega)
  simp only [Value.slice.injEq] at hv
  obtain ⟨rfl, _, rfl⟩ := hv
  obtain ⟨e1, e2, e3⟩ := cellsT_get xs j hj
  exact ⟨g, rfl, hb, hlt, (h.row.cellAt (j * 3) (by omega)).trans e1, (h.row.cellAt (j * 3 + 1) (by omega)).trans e2, (h.row.cellAt (j * 3 + 2) (by omega)).trans e3⟩

/-- 'append(s, E{x, y, z})', the struct laid in a new block. -/
theorem wpList_appT {w : World} {ops : Array Oper} {rest : List Oper} {o : Oper} {a : Act} {Q : Exit → Act → World → Prop} (hgd : o.guard = none) (s x : Operand) (T : TypeId)
    (ho : o.op = .call { callee := .builtin .append, args := #[s, x], argTypes := #[T, T] }) (ht : Try.prog.underlying T = some (.slice E))
    (hinfo : (Try.prog.info? E).map (fun i => (i.zero, i.size, i.bytes)) = some (some (.agg #[.int .i64 0, .int .i64 0, .int .i64 0]), 3, 24))
    (base : Nat) (p : Option Addr) (c : Nat) (xs : List Trip) (y0 y1 : Nat) (y2 : Int) (hs : a.eval s = .slice p xs.length c) {B : Nat} (hx : a.eval x = .slice (some ⟨B, 0, none⟩) 1 1) (hB : w.heap.size = B) (hown : OwnT E w base p c xs)
    (hsz : xs.length ≤ 900000) (hbase : base ≤ w.heap.size)
    (h : ∀ p' c' w' zs, Hid (zs = xs ++ [(y0, y1, y2)]) → OwnT E w' base p' c' zs → w.grownBy w' (blk p) → Fresh w p p' → wpList Try.prog ops Q rest (a.put o.dst (.slice p' zs.length c')) w') : wpList Try.prog ops Q (o :: rest) a (w.alloc (.cells #[.int .i64 y0, .int .i64 y1, .int .i64 y2] E)) := by
  subst hB
  refine wpList_appG (w := w.alloc (.cells #[.int .i64 y0, .int .i64 y1, .int .i64 y2] E)) hgd s x T E ho (.agg #[.int .i64 0, .int .i64 0, .int .i64 0]) 3 24 ht hinfo (by kernel_rfl) (by decide) base p (some ⟨w.heap.size, 0, none⟩) xs.length 1 c 1 (cellsT xs) [.int .i64 y0, .int .i64 y1, .int .i64 y2] hs hx (hown.row.alloc _)
    (fun e => (by cases e)) rfl ?_ (by simp [Value.oneCell']) (by simp [maxLen]; omega) (by omega) (by simp; omega) ?_
  · rintro ad ⟨⟩ j u hu
    rw [add_plain, World.cell?_alloc_at _ _ _ _ rfl]
    simpa using hu
  · intro p' c' w' h2 h3 h4
    have hg : w.grownBy w' (blk p) := ⟨h3.os, h3.tape, h3.output, by have := h3.size; simp at this; omega, fun k hk hne => by
      rw [h3.block k (by simp; omega) hne]
      exact Below.heap_alloc _ _ _ hk⟩
    have hfr : Fresh w p p' := fun k hk => by
      rcases h4 k hk with h5 | h5
      · exact .inl h5
      · exact .inr (by simp at h5; omega)
    have := h p' c' w' (xs ++ [(y0, y1, y2)]) rfl ⟨by rw [List.length_append, cellsT_append]; exact h2⟩ hg hfr
    rw [List.length_append] at this
    exact this
end
end Go.Proofs.Ytiohehofnlmenaa
