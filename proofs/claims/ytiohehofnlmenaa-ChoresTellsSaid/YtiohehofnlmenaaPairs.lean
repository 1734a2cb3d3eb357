/- Rows of pairs that a call itself makes: how they are read, appended to, compared; no condition but sizes. -/
import Derived.Test.YtiohehofnlmenaaOwnMat
import Derived.Deep.AppendLies
import Derived.Laws.StructEq
namespace Go.Proofs.Ytiohehofnlmenaa
set_option linter.unusedVariables false
set_option linter.unusedSimpArgs false
open Go.ChangeShapes Go.WideShapes Go.ChangeAt Go.RowKit Go.Deep

theorem infoPair : (Try.prog.info? 63).map (fun i => (i.zero, i.size, i.bytes)) = some (some (.agg #[.int .i64 0, .int .i64 0]), 2, 16) := by kernel_rfl
/-- The cells of a list of pairs. -/
def cellsP (xs : List (Nat × Nat)) : List Value := xs.flatMap fun x => [.int .i64 x.1, .int .i64 x.2]
def pget (xs : List (Nat × Nat)) (j : Nat) : Nat × Nat := xs.getD j (0, 0)
theorem cellsP_append (xs ys : List (Nat × Nat)) : cellsP (xs ++ ys) = cellsP xs ++ cellsP ys := by simp [cellsP]
theorem cellsP_get : ∀ (xs : List (Nat × Nat)) (j : Nat), j < xs.length → (cellsP xs)[j * 2]? = some (.int .i64 (pget xs j).1) ∧ (cellsP xs)[j * 2 + 1]? = some (.int .i64 (pget xs j).2)
  | x :: xs, 0, _ => ⟨rfl, rfl⟩
  | x :: xs, j + 1, h => by
    have ih := cellsP_get xs j (by simpa using h)
    have e : cellsP (x :: xs) = Value.int .i64 x.1 :: Value.int .i64 x.2 :: cellsP xs := rfl
    have e1 : (j + 1) * 2 = j * 2 + 1 + 1 := by omega
    have e2 : pget (x :: xs) (j + 1) = pget xs j := rfl
    rw [e, e1, e2, List.getElem?_cons_succ, List.getElem?_cons_succ, List.getElem?_cons_succ, List.getElem?_cons_succ]
    exact ih

/-- The slice (p, xs.length, c) is a row of the call's own, in a block from base on, and holds the pairs xs. -/
structure OwnP (w : World) (base : Nat) (p : Option Addr) (c : Nat) (xs : List (Nat × Nat)) : Prop where
  row : w.ownsRow base 63 2 (.slice p xs.length c) xs.length (cellsP xs)
theorem OwnP.ofNil (w : World) (base : Nat) : OwnP w base none 0 [] := ⟨World.ownsRow_nil w base _ _⟩
theorem OwnP.lt {w : World} {base : Nat} {p : Option Addr} {c : Nat} {xs : List (Nat × Nat)} (h : OwnP w base p c xs) : ∀ k, blk p = some k → base ≤ k ∧ k < w.heap.size := fun k hk => h.row.lt k (by rw [ownBlock_slice]; exact hk)
theorem OwnP.lower {w : World} {base base' : Nat} {p : Option Addr} {c : Nat} {xs : List (Nat × Nat)} (h : OwnP w base p c xs) (hb : base' ≤ base) : OwnP w base' p c xs := by
  refine ⟨⟨h.row.1, ?_⟩⟩
  rcases h.row.2 with h1 | ⟨g, cap, cur, h1, h2, r⟩
  · exact .inl h1
  · exact .inr ⟨g, cap, cur, h1, Nat.le_trans hb h2, r⟩
theorem OwnP.keptBy {w w' : World} {base : Nat} {p : Option Addr} {c : Nat} {xs : List (Nat × Nat)} (h : OwnP w base p c xs) {row : Option Nat} (hg : w.grownBy w' row) (hne : ∀ k, blk p = some k → row ≠ some k) : OwnP w' base p c xs :=
  ⟨h.row.kept hg (by
    rw [ownBlock_slice]
    cases hb : blk p with
    | none => exact .inl rfl
    | some k => exact .inr fun e => hne k hb e.symm)⟩
theorem OwnP.below {w w' : World} {base B : Nat} {p : Option Addr} {c : Nat} {xs : List (Nat × Nat)} (h : OwnP w base p c xs) (hb : Below B w w') (hB : w.heap.size ≤ B) : OwnP w' base p c xs :=
  h.keptBy (grownBy_of_below hb hB none) (fun _ _ h => by cases h)
theorem OwnP.drew {w w' : World} {base : Nat} {p : Option Addr} {c : Nat} {xs : List (Nat × Nat)} (h : OwnP w base p c xs) (hw : ∃ n, w' = w.drewN n) : OwnP w' base p c xs := by
  obtain ⟨n, rfl⟩ := hw
  exact h.below (below_drewN w.heap.size w n) (Nat.le_refl _)
theorem OwnP.alloc {w : World} {base : Nat} {p : Option Addr} {c : Nat} {xs : List (Nat × Nat)} (h : OwnP w base p c xs) (o : Obj) : OwnP (w.alloc o) base p c xs := ⟨h.row.alloc o⟩
theorem OwnP.cap {w : World} {base : Nat} {p : Option Addr} {c : Nat} {xs : List (Nat × Nat)} (h : OwnP w base p c xs) : xs.length ≤ 9223372036854775807 := by
  rcases h.row.2 with ⟨_, h2⟩ | ⟨g, cap, cur, _, _, _, h4, h5, _, _⟩
  · omega
  · simp only [maxLen] at h5; omega
theorem OwnP.get {w : World} {base : Nat} {p : Option Addr} {c : Nat} {xs : List (Nat × Nat)} (h : OwnP w base p c xs) {j : Nat} (hj : j < xs.length) :
    ∃ g, p = some ⟨g, 0, none⟩ ∧ base ≤ g ∧ g < w.heap.size ∧ w.cell? ⟨g, j * 2, none⟩ = some (.int .i64 (pget xs j).1) ∧ w.cell? ⟨g, j * 2 + 1, none⟩ = some (.int .i64 (pget xs j).2) := by
  obtain ⟨g, cap, hv, hb, hlt⟩ := h.row.form (by omega)
  simp only [Value.slice.injEq] at hv
  obtain ⟨rfl, _, rfl⟩ := hv
  obtain ⟨e1, e2⟩ := cellsP_get xs j hj
  exact ⟨g, rfl, hb, hlt, (h.row.cellAt (j * 2) (by omega)).trans e1, (h.row.cellAt (j * 2 + 1) (by omega)).trans e2⟩

/-- 'append(s, [2]int{i, k})', the pair laid in a new block. -/
theorem wpList_appP {w : World} {ops : Array Oper} {rest : List Oper} {o : Oper} {a : Act} {Q : Exit → Act → World → Prop} (hgd : o.guard = none) (s x : Operand)
    (ho : o.op = .call { callee := .builtin .append, args := #[s, x], argTypes := #[28, 28] })
    (base : Nat) (p : Option Addr) (c : Nat) (xs : List (Nat × Nat)) (y0 y1 : Nat) (hs : a.eval s = .slice p xs.length c) {B : Nat} (hx : a.eval x = .slice (some ⟨B, 0, none⟩) 1 1) (hB : w.heap.size = B) (hown : OwnP w base p c xs)
    (hsz : xs.length ≤ 900000) (hbase : base ≤ w.heap.size)
    (h : ∀ p' c' w' zs, Hid (zs = xs ++ [(y0, y1)]) → OwnP w' base p' c' zs → w.grownBy w' (blk p) → Fresh w p p' → wpList Try.prog ops Q rest (a.put o.dst (.slice p' zs.length c')) w') : wpList Try.prog ops Q (o :: rest) a (w.alloc (.cells #[.int .i64 y0, .int .i64 y1] 63)) := by
  subst hB
  refine wpList_appG (w := w.alloc (.cells #[.int .i64 y0, .int .i64 y1] 63)) hgd s x 28 63 ho (.agg #[.int .i64 0, .int .i64 0]) 2 16 Try.underlying28 infoPair (by kernel_rfl) (by decide) base p (some ⟨w.heap.size, 0, none⟩) xs.length 1 c 1 (cellsP xs) [.int .i64 y0, .int .i64 y1] hs hx (hown.row.alloc _)
    (fun e => (by cases e)) rfl ?_ (by simp [Value.oneCell']) (by simp [maxLen]; omega) (by omega) (by simp; omega) ?_
  · rintro ad ⟨⟩ j u hu
    rw [add_plain, World.cell?_alloc_at _ _ _ _ rfl]
    simpa using hu
  · intro p' c' w' h2 h3 h4
    have hg : w.grownBy w' (blk p) := ⟨h3.os, h3.tape, h3.output, by have := h3.size; simp at this; omega, fun k hk hne => by
      rw [h3.block k (by simp; omega) hne]
      exact Below.heap_alloc _ _ _ hk⟩
    have hfr : Fresh w p p' := fun k hk => by
      rcases h4 k hk with h5 | h5
      · exact .inl h5
      · exact .inr (by simp at h5; omega)
    have := h p' c' w' (xs ++ [(y0, y1)]) rfl ⟨by rw [List.length_append, cellsP_append]; exact h2⟩ hg hfr
    rw [List.length_append] at this
    exact this

/-- Two pairs compared. -/
theorem eqPair (a b c d : Int) (w : World) : (Op.equalIn 10000 63 (.agg #[.int .i64 a, .int .i64 b]) (.agg #[.int .i64 c, .int .i64 d])).run Try.prog w = .ok (a == c && b == d) w := by
  have u3 := Try.underlying3
  have a3 := Try.isAgg3
  have z3 := Try.sizeOf3
  rw [show (10000 : Nat) = 9999 + 1 from rfl, Op.equalIn]
  simp only [Sem.run_bind, run_underlying Try.underlying63, Result.andThen_ok]
  simp only [Std.Legacy.Range.forIn_eq_forIn_range', Std.Legacy.Range.size, Nat.sub_zero, Nat.add_sub_cancel, Nat.div_one, List.range'_succ, List.range'_zero, List.forIn_cons, List.forIn_nil]
  go_simp
  by_cases h1 : a = c <;> by_cases h2 : b = d <;> simp [h1, h2]

set_option maxHeartbeats 800000 in
theorem samePairs_any (p q : Option Addr) (c d b0 b1 : Nat) (xs : List (Nat × Nat)) (w : World) (hx : OwnP w b0 p c xs) (hy : OwnP w b1 q d xs) :
    Calls Try.prog 15 #[.slice p xs.length c, .slice q xs.length d] w fun e w' => e = .returned (.bool true) ∧ ∃ n, w' = w.drewN n := by
  have hl := hx.cap
  have he : ((xs.length : Int) != (xs.length : Int)) = false := by simp
  go_enter Try.func15, Try.ntmps15
  go_wp2_with fail
  go_loopw [5] (fun i wr => ∃ k : Nat, k ≤ xs.length ∧ i = .int .i64 k ∧ ∃ n, wr = w.drewN n) (fun i _ => xs.length - (intOf i).toNat)
  case atStart => exact ⟨0, by omega, rfl, drew_refl w⟩
  case round =>
    obtain ⟨k, hk, rfl, hw⟩ := hrel
    have hx := hx.drew hw
    have hy := hy.drew hw
    have Hw := Lib.hid hw
    clear hw
    by_cases hlt : k < xs.length
    · obtain ⟨g, rfl, _, _, c1, c2⟩ := hx.get hlt
      obtain ⟨g', rfl, _, _, c3, c4⟩ := hy.get hlt
      have hk1 : (k : Int) < xs.length := by omega
      generalize (pget xs k).1 = y0 at *
      generalize (pget xs k).2 = y1 at *
      have heq := eqPair y0 y1 y0 y1
      go_wp2_with fail
      go_quiet (fail)
      go_wp2_with fail
      go_roundw
      case rel => exact ⟨k + 1, by omega, by go_num, drew_drewN _ Hw.out⟩
      case measure => simp [intOf]; omega
    · have hk1 : ¬ (k : Int) < xs.length := by omega
      go_wp2_with fail
      go_ret
      exact ⟨rfl, Hw.out⟩
end Go.Proofs.Ytiohehofnlmenaa
