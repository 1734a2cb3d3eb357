/- Rows of integers that a call itself makes: how they are read, written, appended to; no condition but sizes. -/
import Derived.Test.YtmcncflieoolmaaGreatTopTopGoodsm1
import Derived.Laws.AppendOwnNone
/- Rows of integers that a call itself makes: how they are read, written, appended to; no condition but sizes. -/
namespace Go.Proofs.YtmcncflieoolmaaGreat
set_option linter.unusedVariables false
set_option linter.unusedSimpArgs false
open Go.ChangeShapes Go.WideShapes Go.ChangeAt Go.RowKit Go.Deep

theorem infoInt : (Tryz.prog.info? 3).map (fun i => (i.zero, i.size, i.bytes)) = some (some (.int .i64 0), 1, 8) := by kernel_rfl
theorem infoRow : (Tryz.prog.info? 25).map (fun i => (i.zero, i.size, i.bytes)) = some (some (.slice none 0 0), 1, 24) := by kernel_rfl

def blk (p : Option Addr) : Option Nat := p.map (·.block)

/-- The slice (p, xs.length, c) is a row of the call's own, in a block from base on, and holds xs. -/
structure Own (w : World) (base : Nat) (p : Option Addr) (c : Nat) (xs : List Int) : Prop where
  row : w.ownsRow base 3 1 (.slice p xs.length c) xs.length (xs.map (Value.int .i64))
  rng : ∀ j, j < xs.length → in64 (iget xs j)

theorem ownBlock_slice (p : Option Addr) (n c : Nat) : (Value.slice p n c).ownBlock = blk p := by cases p <;> rfl

theorem Own.shape {w : World} {base : Nat} {p : Option Addr} {c : Nat} {xs : List Int} (h : Own w base p c xs) :
    (p = none ∧ c = 0 ∧ xs = []) ∨ ∃ g, p = some ⟨g, 0, none⟩ ∧ base ≤ g ∧ g < w.heap.size ∧ xs.length ≤ c ∧ c ≤ 9223372036854775807 := by
  rcases h.row.2 with ⟨h1, h2⟩ | ⟨g, cap, cur, h1, h2, h3, h4, h5, _, _⟩
  · simp only [Value.slice.injEq] at h1
    exact .inl ⟨h1.1, h1.2.2, List.eq_nil_of_length_eq_zero h2⟩
  · simp only [Value.slice.injEq] at h1
    obtain ⟨rfl, _, rfl⟩ := h1
    exact .inr ⟨g, rfl, h2, (Array.getElem?_eq_some_iff.1 h3).1, h4, h5⟩
theorem Own.at {w : World} {base g : Nat} {c : Nat} {xs : List Int} (h : Own w base (some ⟨g, 0, none⟩) c xs) {j : Nat} (hj : j < xs.length) :
    w.cell? ⟨g, j, none⟩ = some (.int .i64 (iget xs j)) := by
  rw [h.row.cellAt j (by omega)]
  simp [iget, hj]
theorem Own.free {w : World} {base g : Nat} {c : Nat} {xs : List Int} (h : Own w base (some ⟨g, 0, none⟩) c xs) (j : Nat) : w.frozen? ⟨g, j, none⟩ = false := h.row.frozenAt j
theorem Own.ints {w : World} {base : Nat} {p : Option Addr} {c : Nat} {xs : List Int} (h : Own w base p c xs) : Ints w p c xs := by
  rcases h.shape with ⟨rfl, rfl, rfl⟩ | ⟨g, rfl, h1, h2, h3, h4⟩
  · exact Ints.ofNil w
  · refine ⟨h3, h4, fun h => (by cases h), ?_, ?_, h.rng⟩
    · rintro a ⟨⟩ _; exact ⟨rfl, h2⟩
    · rintro b o ⟨⟩ j hj
      rw [Nat.zero_add]; exact h.at hj
theorem Own.get {w : World} {base : Nat} {p : Option Addr} {c : Nat} {xs : List Int} (h : Own w base p c xs) {j : Nat} (hj : j < xs.length) :
    ∃ g, p = some ⟨g, 0, none⟩ ∧ base ≤ g ∧ g < w.heap.size ∧ w.cell? ⟨g, j, none⟩ = some (.int .i64 (iget xs j)) ∧ w.frozen? ⟨g, j, none⟩ = false := by
  rcases h.shape with ⟨rfl, rfl, rfl⟩ | ⟨g, rfl, h1, h2, h3, h4⟩
  · simp at hj
  · exact ⟨g, rfl, h1, h2, h.at hj, h.free j⟩
theorem Own.ofNil (w : World) (base : Nat) : Own w base none 0 [] := ⟨World.ownsRow_nil w base _ _, fun _ h => (by simp at h)⟩
theorem Own.lt {w : World} {base : Nat} {p : Option Addr} {c : Nat} {xs : List Int} (h : Own w base p c xs) : ∀ k, blk p = some k → base ≤ k ∧ k < w.heap.size := fun k hk => h.row.lt k (by rw [ownBlock_slice]; exact hk)
/-- What was laid from base on was laid from any lower number on. -/
theorem Own.lower {w : World} {base base' : Nat} {p : Option Addr} {c : Nat} {xs : List Int} (h : Own w base p c xs) (hb : base' ≤ base) : Own w base' p c xs := by
  refine ⟨⟨h.row.1, ?_⟩, h.rng⟩
  rcases h.row.2 with h1 | ⟨g, cap, cur, h1, h2, r⟩
  · exact .inl h1
  · exact .inr ⟨g, cap, cur, h1, Nat.le_trans hb h2, r⟩

theorem Own.keptBy {w w' : World} {base : Nat} {p : Option Addr} {c : Nat} {xs : List Int} (h : Own w base p c xs) {row : Option Nat} (hg : w.grownBy w' row) (hne : ∀ k, blk p = some k → row ≠ some k) : Own w' base p c xs :=
  ⟨h.row.kept hg (by
    rw [ownBlock_slice]
    cases hb : blk p with
    | none => exact .inl rfl
    | some k => exact .inr fun e => hne k hb e.symm), h.rng⟩
theorem grownBy_of_below {w w' : World} {B : Nat} (h : Below B w w') (hB : w.heap.size ≤ B) (row : Option Nat) : w.grownBy w' row := ⟨h.os, h.tape, h.output, h.size, fun k hk _ => h.block k (by omega)⟩
theorem Own.below {w w' : World} {base B : Nat} {p : Option Addr} {c : Nat} {xs : List Int} (h : Own w base p c xs) (hb : Below B w w') (hB : w.heap.size ≤ B) : Own w' base p c xs :=
  h.keptBy (grownBy_of_below hb hB none) (fun _ _ h => by cases h)
theorem Own.drew1 {w : World} {base : Nat} {p : Option Addr} {c : Nat} {xs : List Int} (h : Own w base p c xs) : Own w.drew base p c xs := h.below (below_drewN w.heap.size w 1) (Nat.le_refl _)
theorem Own.drewN {w : World} {base : Nat} {p : Option Addr} {c : Nat} {xs : List Int} (h : Own w base p c xs) (n : Nat) : Own (w.drewN n) base p c xs := h.below (below_drewN w.heap.size w n) (Nat.le_refl _)
theorem Own.drew {w w' : World} {base : Nat} {p : Option Addr} {c : Nat} {xs : List Int} (h : Own w base p c xs) (hw : ∃ n, w' = w.drewN n) : Own w' base p c xs := by obtain ⟨n, rfl⟩ := hw; exact h.drewN n
theorem Own.alloc {w : World} {base : Nat} {p : Option Addr} {c : Nat} {xs : List Int} (h : Own w base p c xs) (o : Obj) : Own (w.alloc o) base p c xs := ⟨h.row.alloc o, h.rng⟩

theorem iget_set {xs : List Int} {j k : Nat} {x : Int} (hj : j < xs.length) : iget (xs.set j x) k = if j = k then x else iget xs k := by
  simp only [iget, List.getD, List.getElem?_set]
  split
  · rename_i h; subst h; simp [hj]
  · rfl
theorem Own.set {w : World} {base g : Nat} {c : Nat} {xs : List Int} (h : Own w base (some ⟨g, 0, none⟩) c xs) (j : Nat) {x : Int} (hx : in64 x) :
    Own (w.setCell ⟨g, j, none⟩ (.int .i64 x)) base (some ⟨g, 0, none⟩) c (xs.set j x) ∧ w.grownBy (w.setCell ⟨g, j, none⟩ (.int .i64 x)) (some g) := by
  obtain ⟨h1, h2⟩ := h.row.stored j (.int .i64 x)
  refine ⟨⟨by rw [List.length_set, List.map_set]; exact h1, fun k hk => ?_⟩, h2⟩
  by_cases hj : j < xs.length
  · rw [iget_set hj]
    split
    · exact hx
    · exact h.rng k (by simpa using hk)
  · rw [List.set_eq_of_length_le (by omega)]
    exact h.rng k (by simpa using hk)

theorem iget_append {xs ys : List Int} {k : Nat} : iget (xs ++ ys) k = if k < xs.length then iget xs k else iget ys (k - xs.length) := by
  simp only [iget, List.getD, List.getElem?_append]
  split <;> rfl
theorem own_value {w : World} {base : Nat} {v : Value} {n : Nat} {xs : List Value} {e : TypeId} (h : w.ownsRow base e 1 v n xs) : ∃ p c, v = .slice p n c := by
  rcases h.2 with ⟨rfl, rfl⟩ | ⟨g, cap, cur, rfl, _⟩
  · exact ⟨_, _, rfl⟩
  · exact ⟨_, _, rfl⟩

/-- What leads into no block but into p's or into a new one. -/
def Fresh (w : World) (p p' : Option Addr) : Prop := ∀ k, blk p' = some k → blk p = some k ∨ w.heap.size ≤ k
theorem Fresh.refl (w : World) (p : Option Addr) : Fresh w p p := fun _ h => .inl h

/-- 'append(s, x...)' at slices of whatever elements: s the call's own. -/
theorem wpList_appG {P : Program} {w : World} {ops : Array Oper} {rest : List Oper} {o : Oper} {a : Act} {Q : Exit → Act → World → Prop} (hgd : o.guard = none) (s x : Operand) (t e : TypeId)
    (ho : o.op = .call { callee := .builtin .append, args := #[s, x], argTypes := #[t, t] }) (z : Value) (size bytes : Nat) (ht : P.underlying t = some (.slice e))
    (hinfo : (P.info? e).map (fun i => (i.zero, i.size, i.bytes)) = some (some z, size, bytes)) (hzs : z.cells.size = size) (hsz0 : 0 < size)
    (base : Nat) (p q : Option Addr) (n m c d : Nat) (xs ys : List Value) (hs : a.eval s = .slice p n c) (hx : a.eval x = .slice q m d) (hown : w.ownsRow base e size (.slice p n c) n xs)
    (hq : q = none → m = 0 ∧ d = 0) (hl : ys.length = m * size) (hys : ∀ ad, q = some ad → ∀ j u, ys[j]? = some u → w.cell? (ad.add j) = some u) (h1 : ∀ u ∈ ys, u.oneCell' = true)
    (h63 : n + m ≤ maxLen) (hbytes : (n + m) * bytes ≤ 140737488355328) (hbase : base ≤ w.heap.size)
    (h : ∀ p' c' w', w'.ownsRow base e size (.slice p' (n + m) c') (n + m) (xs ++ ys) → w.grownBy w' (blk p) → Fresh w p p' → wpList P ops Q rest (a.put o.dst (.slice p' (n + m) c')) w') : wpList P ops Q (o :: rest) a w := by
  obtain ⟨i, hi, hz0, hz1, hz2⟩ := info_parts hinfo
  cases q with
  | none =>
    obtain ⟨rfl, rfl⟩ := hq rfl
    obtain rfl : ys = [] := List.eq_nil_of_length_eq_zero (by omega)
    refine wpList_append_own_none hgd s x t ho base e i size ht hi _ n _ hs hown hx ?_
    have := h p c w (by simpa using hown) (World.grownBy.refl w _) (Fresh.refl w p)
    simpa using this
  | some ad =>
    by_cases hroom : n + m ≤ c ∧ p ≠ none
    · rcases hown.2 with ⟨h1', _⟩ | ⟨g, cap, cur, h1', _⟩
      · simp only [Value.slice.injEq] at h1'
        exact absurd h1'.1 hroom.2
      · simp only [Value.slice.injEq] at h1'
        obtain ⟨rfl, _, rfl⟩ := h1'
        refine wpList_append_fits w hgd s x t ho base e i size ht hi hz1 g n c xs hs hown ad m d ys hx hl (hys ad rfl) h1 hroom.1 ?_
        intro w' h2 h3
        exact h _ _ w' h2 h3 (Fresh.refl _ _)
    · have hfull : c < n + m ∨ m = 0 := by
        rcases hown.2 with ⟨h1', h2'⟩ | ⟨g, cap, cur, h1', _⟩
        · simp only [Value.slice.injEq] at h1'
          obtain ⟨rfl, _, rfl⟩ := h1'
          omega
        · simp only [Value.slice.injEq] at h1'
          obtain ⟨rfl, _, rfl⟩ := h1'
          left
          have : ¬ (n + m ≤ c) := fun hh => hroom ⟨hh, by simp⟩
          omega
      rcases Nat.lt_or_ge c (n + m) with hfull | hnf
      · refine wpList_append_grows w hgd s x t ho e i z size bytes ht hi hz0 hz1 hz2 hzs hsz0 p n c xs hs ?_ hown.1 ?_ ad m d ys hx hl (hys ad rfl) h1 hfull h63 hbytes ?_
        · rintro rfl
          rcases hown.2 with ⟨h1', h2'⟩ | ⟨g, cap, cur, h1', _⟩
          · simp only [Value.slice.injEq] at h1'
            exact ⟨h2', h1'.2.2⟩
          · simp at h1'
        · rintro b rfl j u hu
          rcases hown.2 with ⟨h1', h2'⟩ | ⟨g, cap, cur, h1', _⟩
          · simp at h1'
          · simp only [Value.slice.injEq, Option.some.injEq] at h1'
            obtain ⟨rfl, _, _⟩ := h1'
            exact hown.cells (g := g) rfl j u hu
        · intro v' w' h2 h3
          have hlt := h2.lt
          obtain ⟨p', c', rfl⟩ : ∃ p' c', v' = .slice p' (n + m) c' := by
            rcases h2.2 with ⟨rfl, hh⟩ | ⟨g, cap, cur, rfl, _⟩
            · exact ⟨_, _, by rw [hh]⟩
            · exact ⟨_, _, rfl⟩
          refine h p' c' w' ⟨h2.1, ?_⟩ ⟨h3.os, h3.tape, h3.output, h3.size, fun k hk _ => h3.block k hk (by simp)⟩ ?_
          · rcases h2.2 with h4 | ⟨g, cap, cur, h4, h5, r⟩
            · exact .inl h4
            · exact .inr ⟨g, cap, cur, h4, Nat.le_trans hbase h5, r⟩
          · intro k hk
            exact .inr (hlt k (by cases p' <;> simp_all [blk, Value.ownBlock])).1
      · have hm0 : m = 0 := by omega
        subst hm0
        have hys0 : ys = [] := List.eq_nil_of_length_eq_zero (by omega)
        subst hys0
        -- nothing is appended: a nil slice stays nil, or there is room
        rcases hown.2 with ⟨h1', h2'⟩ | ⟨g, cap, cur, h1', _⟩
        · simp only [Value.slice.injEq] at h1'
          obtain ⟨rfl, rfl, rfl⟩ := h1'
          refine wpList_append_own w hgd s x t ho base e i z size bytes ht hi hz0 hz1 hz2 hzs hsz0 _ 0 xs hs hown ad 0 d [] hx (by simp) (by simp) (by simp) (by simp [maxLen]) (by simp) hbase ?_
          intro v' w' h2 h3 h4
          obtain rfl := h4.2 ⟨rfl, rfl⟩
          exact h none 0 w' h2 h3 (Fresh.refl _ _)
        · simp only [Value.slice.injEq] at h1'
          obtain ⟨rfl, _, rfl⟩ := h1'
          exact absurd ⟨hnf, by simp⟩ hroom

/-- 'append(s, x...)' at slices of ints: s the call's own. -/
theorem wpList_app {w : World} {ops : Array Oper} {rest : List Oper} {o : Oper} {a : Act} {Q : Exit → Act → World → Prop} (hgd : o.guard = none) (s x : Operand)
    (ho : o.op = .call { callee := .builtin .append, args := #[s, x], argTypes := #[25, 25] })
    (base : Nat) (p q : Option Addr) (c d : Nat) (xs ys : List Int) (hs : a.eval s = .slice p xs.length c) (hx : a.eval x = .slice q ys.length d) (hown : Own w base p c xs) (hys : Ints w q d ys)
    (hsz : xs.length + ys.length ≤ 1000000) (hbase : base ≤ w.heap.size)
    (h : ∀ p' c' w' zs, Hid (zs = xs ++ ys) → Own w' base p' c' zs → w.grownBy w' (blk p) → Fresh w p p' → wpList Tryz.prog ops Q rest (a.put o.dst (.slice p' zs.length c')) w') : wpList Tryz.prog ops Q (o :: rest) a w := by
  have hr2 : ∀ j, j < (xs ++ ys).length → in64 (iget (xs ++ ys) j) := by
    intro j hj
    rw [List.length_append] at hj
    rw [iget_append]
    split
    · exact hown.rng j ‹_›
    · exact hys.rng _ (by omega)
  refine wpList_appG hgd s x 25 3 ho (.int .i64 0) 1 8 Tryz.underlying25 infoInt rfl (by decide) base p q xs.length ys.length c d (xs.map (Value.int .i64)) (ys.map (Value.int .i64)) hs hx hown.row ?_ (by simp) ?_
    (by simp [Value.oneCell']) (by simp [maxLen]; omega) (by omega) hbase ?_
  · rintro rfl
    have := hys.nil rfl
    exact ⟨by have := hys.le; omega, this⟩
  · rintro ad rfl j u hu
    rw [List.getElem?_map] at hu
    obtain ⟨y, hy, rfl⟩ := Option.map_eq_some_iff.1 hu
    have hj : j < ys.length := (List.getElem?_eq_some_iff.1 hy).1
    obtain ⟨b, o, e, _, hc⟩ := hys.get hj
    cases e
    rw [add_plain, hc, iget]
    simp [List.getD, hy]
  · intro p' c' w' h2 h3 h4
    have := h p' c' w' (xs ++ ys) rfl ⟨by rw [List.length_append, List.map_append]; exact h2, hr2⟩ h3 h4
    rw [List.length_append] at this
    exact this

/-- One number in a new block, as 'append(s, x)' lays it first. -/
theorem ints_one (w : World) {x : Int} (hx : in64 x) (t : TypeId) : Ints (w.alloc (.cells #[.int .i64 x] t)) (some ⟨w.heap.size, 0, none⟩) 1 [x] := by
  refine ⟨by simp, by omega, fun h => (by cases h), ?_, ?_, ?_⟩
  · rintro a ⟨⟩ _; exact ⟨rfl, by simp⟩
  · rintro b o ⟨⟩ j hj
    simp at hj; subst hj
    rw [World.cell?_alloc_at _ _ _ _ rfl]; rfl
  · intro j hj
    simp at hj; subst hj; exact hx
/-- 'append(s, x)', x one number, laid in a new block. -/
theorem wpList_app1 {w : World} {ops : Array Oper} {rest : List Oper} {o : Oper} {a : Act} {Q : Exit → Act → World → Prop} (hgd : o.guard = none) (s x : Operand)
    (ho : o.op = .call { callee := .builtin .append, args := #[s, x], argTypes := #[25, 25] })
    (base : Nat) (p : Option Addr) (c : Nat) (xs : List Int) (y : Int) (hs : a.eval s = .slice p xs.length c) {B : Nat} (hx : a.eval x = .slice (some ⟨B, 0, none⟩) 1 1) (hB : w.heap.size = B) (hown : Own w base p c xs) (hy : in64 y)
    (hsz : xs.length ≤ 900000) (hbase : base ≤ w.heap.size)
    (h : ∀ p' c' w' zs, Hid (zs = xs ++ [y]) → Own w' base p' c' zs → w.grownBy w' (blk p) → Fresh w p p' → wpList Tryz.prog ops Q rest (a.put o.dst (.slice p' zs.length c')) w') : wpList Tryz.prog ops Q (o :: rest) a (w.alloc (.cells #[.int .i64 y] 3)) := by
  subst hB
  refine wpList_app hgd s x ho base p (some ⟨w.heap.size, 0, none⟩) c 1 xs [y] hs hx (hown.alloc _) (ints_one w hy _) (by simp; omega) (by simp; omega) ?_
  intro p' c' w' zs hz h1 h2 h3
  refine h p' c' w' zs hz h1 ⟨h2.os, h2.tape, h2.output, by have := h2.size; simp at this; omega, fun k hk hne => ?_⟩ (fun k hk => by
    rcases h3 k hk with h4 | h4
    · exact .inl h4
    · exact .inr (by simp at h4; omega))
  rw [h2.block k (by simp; omega) hne]
  exact Below.heap_alloc _ _ _ hk
theorem below_grown {B : Nat} {w0 w w' : World} {p : Option Addr} {base : Nat} (h : Below B w0 w) (hg : w.grownBy w' (blk p)) (hB : B ≤ w.heap.size) (hb : ∀ k, blk p = some k → base ≤ k ∧ k < w.heap.size) (hbB : B ≤ base) : Below B w0 w' :=
  h.grown hg hB (fun k hk => Nat.le_trans hbB (hb k hk).1)

/-- '[]int{}': a new row of no cell. -/
theorem Own.made (w : World) (base : Nat) (hb : base ≤ w.heap.size) : Own (w.alloc (.cells #[] 3)) base (some ⟨w.heap.size, 0, none⟩) 0 [] :=
  ⟨World.ownsRow_made w #[] 0 hb (by simp [maxLen]) rfl, fun _ h => (by simp at h)⟩
/-- A literal row. -/
theorem Own.lit (w : World) (base : Nat) (hb : base ≤ w.heap.size) (xs : List Int) (hsz : xs.length ≤ 1000000) (hr : ∀ j, j < xs.length → in64 (iget xs j)) :
    Own (w.alloc (.cells (xs.map (Value.int .i64)).toArray 3)) base (some ⟨w.heap.size, 0, none⟩) xs.length xs := by
  refine ⟨?_, hr⟩
  have := World.ownsRow_lit (e := 3) (size := 1) (base := base) w (xs.map (Value.int .i64)).toArray xs.length hb (by simp [maxLen]; omega) (by simp)
  simpa using this

theorem grown_trans {a b c : World} {row : Option Nat} (h : a.grownBy b row) (k : b.grownBy c row) : a.grownBy c row :=
  ⟨k.os.trans h.os, k.tape.trans h.tape, k.output.trans h.output, Nat.le_trans h.size k.size, fun i hi hne => (k.block i (Nat.lt_of_lt_of_le hi h.size) hne).trans (h.block i hi hne)⟩
/-- 'make([]int, n)', n a variable. -/
theorem wpList_mk {w : World} {ops : Array Oper} {rest : List Oper} {o : Oper} {a : Act} {Q : Exit → Act → World → Prop} (hg : o.guard = none) (l c : Operand) (hop : o.op = Op.makeSlice 25 l c)
    (base n : Nat) (hl : a.eval l = .int .i64 (n : Int)) (hc : a.eval c = .int .i64 (n : Int)) (hn : n ≤ 1000000) (hb : base ≤ w.heap.size)
    (hK : ∀ w', Own w' base (some ⟨w.heap.size, 0, none⟩) n (List.replicate n 0) → w.grownBy w' none → w'.heap.size = w.heap.size + 1 → wpList Tryz.prog ops Q rest (a.put o.dst (.slice (some ⟨w.heap.size, 0, none⟩) n n)) w') : wpList Tryz.prog ops Q (o :: rest) a w := by
  obtain ⟨i, hi, hz0, hz1, hz2⟩ := info_parts infoInt
  refine wpList_plain hg fun K hK' => ?_
  have hrun := run_make (P := Tryz.prog) w 25 3 i (.int .i64 0) Tryz.underlying25 hi hz0 .i64 .i64 (n : Int) (n : Int) (by omega) (by omega) (by rw [hz2]; omega) (by omega)
  have hcs : (madeCells (Value.int .i64 0).cells (n * 1)).toList = List.replicate n (.int .i64 0) := by
    rw [Nat.mul_one]; exact toList_madeCells_one _ _
  unfold Oper.wp
  rw [hz1] at hrun
  simp only [Int.toNat_natCast] at hrun
  simp [execOp, hop, hl, hc, hrun, Result.andThen]
  refine hK' _ _ (hK _ ⟨?_, ?_⟩ (World.grownBy_alloc _ _ _) (by simp))
  · have := World.ownsRow_lit (e := 3) (size := 1) (base := base) w (madeCells (Value.int .i64 0).cells (n * 1)) n hb (by simp [maxLen]; omega) (by rw [size_madeCells])
    rw [hcs] at this
    simpa using this
  · intro j hj
    simp at hj
    simp [iget, List.getD, hj, in64]
end Go.Proofs.YtmcncflieoolmaaGreat

/- Slices of rows that a call itself makes: the top row its own (TMat), or every row its own (DMat); no condition but sizes. -/
namespace Go.Proofs.YtmcncflieoolmaaGreat
set_option linter.unusedVariables false
set_option linter.unusedSimpArgs false
open Go.ChangeShapes Go.WideShapes Go.ChangeAt Go.RowKit Go.Deep

theorem rget_append {v : List (List Int)} {r : List Int} {k : Nat} : rget (v ++ [r]) k = if k < v.length then rget v k else if k = v.length then r else [] := by
  simp only [rget, List.getD, List.getElem?_append]
  split
  · rfl
  · rename_i h
    by_cases e : k = v.length
    · subst e; simp
    · rw [if_neg e, List.getElem?_eq_none (by simp; omega)]; rfl
theorem rget_set {v : List (List Int)} {r : List Int} {j k : Nat} (hj : j < v.length) : rget (v.set j r) k = if j = k then r else rget v k := by
  simp only [rget, List.getD, List.getElem?_set]
  split
  · rename_i h; subst h; simp [hj]
  · rfl

def rowsV (Q : Nat → Option Addr) (D : Nat → Nat) (v : List (List Int)) : List Value := (List.range v.length).map fun j => .slice (Q j) (rget v j).length (D j)
theorem rowsV_get {Q : Nat → Option Addr} {D : Nat → Nat} {v : List (List Int)} {j : Nat} (hj : j < v.length) : (rowsV Q D v)[j]? = some (.slice (Q j) (rget v j).length (D j)) := by simp [rowsV, hj]
/-- The top row is the call's own; each row reads as a list. -/
structure TMat (w : World) (base : Nat) (p : Option Addr) (c : Nat) (v : List (List Int)) (Q : Nat → Option Addr) (D : Nat → Nat) : Prop where
  top : w.ownsRow base 25 1 (.slice p v.length c) v.length (rowsV Q D v)
  rows : ∀ j, j < v.length → Ints w (Q j) (D j) (rget v j)
  sep : ∀ j, j < v.length → 0 < (rget v j).length → ∀ k, blk (Q j) = some k → blk p ≠ some k
/-- Every row is the call's own, each in a block of its own. -/
structure DMat (w : World) (base : Nat) (p : Option Addr) (c : Nat) (v : List (List Int)) (Q : Nat → Option Addr) (D : Nat → Nat) : Prop where
  top : w.ownsRow base 25 1 (.slice p v.length c) v.length (rowsV Q D v)
  rows : ∀ j, j < v.length → Own w base (Q j) (D j) (rget v j)
  apart : ∀ i j, i < v.length → j < v.length → i ≠ j → ∀ k, blk (Q i) = some k → blk (Q j) ≠ some k

section
variable {w : World} {base : Nat} {p : Option Addr} {c : Nat} {v : List (List Int)} {Q : Nat → Option Addr} {D : Nat → Nat}
/-- The block of the top row is not a block of numbers. -/
theorem top_not_row {g : Nat} {q : Option Addr} {d : Nat} {xs : List Int} (h : w.ownsRow base 25 1 (.slice (some ⟨g, 0, none⟩) v.length c) v.length (rowsV Q D v)) {base' : Nat} (hq : Own w base' q d xs) : blk q ≠ some g := by
  intro e
  rcases hq.row.2 with ⟨h1, _⟩ | ⟨g', cap, cur, h1, _, h3, _⟩
  · simp only [Value.slice.injEq] at h1
    rw [h1.1] at e; simp [blk] at e
  · simp only [Value.slice.injEq] at h1
    rw [h1.1] at e
    simp [blk] at e
    subst e
    rcases h.2 with ⟨h4, _⟩ | ⟨g2, cap2, cur2, h4, _, h6, _⟩
    · simp at h4
    · simp only [Value.slice.injEq, Option.some.injEq, Addr.mk.injEq] at h4
      obtain ⟨⟨rfl, _⟩, _⟩ := h4
      rw [h6] at h3
      simp at h3
theorem DMat.tmat (h : DMat w base p c v Q D) : TMat w base p c v Q D := ⟨h.top, fun j hj => (h.rows j hj).ints, fun j hj _ k hk hp => by
  rcases h.top.2 with ⟨h1, _⟩ | ⟨g, cap, cur, h1, _⟩
  · simp only [Value.slice.injEq] at h1
    rw [h1.1] at hp; simp [blk] at hp
  · have h2 := h.top
    simp only [Value.slice.injEq] at h1
    rw [h1.1] at hp h2
    simp [blk] at hp
    subst hp
    exact top_not_row h2 (h.rows j hj) hk⟩

theorem TMat.shape (h : TMat w base p c v Q D) : (p = none ∧ c = 0 ∧ v = []) ∨ ∃ g, p = some ⟨g, 0, none⟩ ∧ base ≤ g ∧ g < w.heap.size ∧ v.length ≤ c ∧ c ≤ 9223372036854775807 := by
  rcases h.top.2 with ⟨h1, h2⟩ | ⟨g, cap, cur, h1, h2, h3, h4, h5, _, _⟩
  · simp only [Value.slice.injEq] at h1
    exact .inl ⟨h1.1, h1.2.2, List.eq_nil_of_length_eq_zero h2⟩
  · simp only [Value.slice.injEq] at h1
    obtain ⟨rfl, _, rfl⟩ := h1
    exact .inr ⟨g, rfl, h2, (Array.getElem?_eq_some_iff.1 h3).1, h4, h5⟩
theorem TMat.at {g : Nat} (h : TMat w base (some ⟨g, 0, none⟩) c v Q D) {j : Nat} (hj : j < v.length) : w.cell? ⟨g, j, none⟩ = some (.slice (Q j) (rget v j).length (D j)) := by
  rw [h.top.cellAt j (by omega), rowsV_get hj]
theorem TMat.free {g : Nat} (h : TMat w base (some ⟨g, 0, none⟩) c v Q D) (j : Nat) : w.frozen? ⟨g, j, none⟩ = false := h.top.frozenAt j
theorem TMat.get (h : TMat w base p c v Q D) {j : Nat} (hj : j < v.length) : ∃ g, p = some ⟨g, 0, none⟩ ∧ base ≤ g ∧ g < w.heap.size ∧ w.cell? ⟨g, j, none⟩ = some (.slice (Q j) (rget v j).length (D j)) ∧ w.frozen? ⟨g, j, none⟩ = false := by
  rcases h.shape with ⟨rfl, rfl, rfl⟩ | ⟨g, rfl, h1, h2, h3, h4⟩
  · simp at hj
  · exact ⟨g, rfl, h1, h2, h.at hj, h.free j⟩
theorem TMat.mat (h : TMat w base p c v Q D) : Mat w p c v := by
  rcases h.shape with ⟨rfl, rfl, rfl⟩ | ⟨g, rfl, h1, h2, h3, h4⟩
  · exact Mat.ofNil w
  · refine ⟨h3, h4, fun h => (by cases h), ?_, ?_⟩
    · rintro a ⟨⟩ _; exact ⟨rfl, h2⟩
    · rintro b o ⟨⟩ j hj
      rw [Nat.zero_add]; exact ⟨_, _, h.at hj, h.rows j hj⟩
theorem TMat.lt (h : TMat w base p c v Q D) : ∀ k, blk p = some k → base ≤ k ∧ k < w.heap.size := fun k hk => h.top.lt k (by rw [ownBlock_slice]; exact hk)
theorem TMat.ofNil (w : World) (base : Nat) : TMat w base none 0 [] Q D := ⟨World.ownsRow_nil w base _ _, fun _ h => (by simp at h), fun _ h => (by simp at h)⟩
theorem DMat.ofNil (w : World) (base : Nat) : DMat w base none 0 [] Q D := ⟨World.ownsRow_nil w base _ _, fun _ h => (by simp at h), fun _ _ h => (by simp at h)⟩
theorem DMat.mat (h : DMat w base p c v Q D) : Mat w p c v := h.tmat.mat

theorem top_kept {w' : World} (h : w.ownsRow base 25 1 (.slice p v.length c) v.length (rowsV Q D v)) {row : Option Nat} (hg : w.grownBy w' row) (hne : ∀ k, blk p = some k → row ≠ some k) :
    w'.ownsRow base 25 1 (.slice p v.length c) v.length (rowsV Q D v) :=
  h.kept hg (by
    rw [ownBlock_slice]
    cases hb : blk p with
    | none => exact .inl rfl
    | some k => exact .inr fun e => hne k hb e.symm)
theorem TMat.below {w' : World} {B : Nat} (h : TMat w base p c v Q D) (hb : Below B w w') (hB : w.heap.size ≤ B) : TMat w' base p c v Q D :=
  ⟨top_kept h.top (grownBy_of_below hb hB none) (fun _ _ e => by cases e), fun j hj => (h.rows j hj).below hb hB, h.sep⟩
theorem DMat.below {w' : World} {B : Nat} (h : DMat w base p c v Q D) (hb : Below B w w') (hB : w.heap.size ≤ B) : DMat w' base p c v Q D :=
  ⟨top_kept h.top (grownBy_of_below hb hB none) (fun _ _ e => by cases e), fun j hj => (h.rows j hj).below hb hB, h.apart⟩
theorem DMat.lt (h : DMat w base p c v Q D) : ∀ j, j < v.length → ∀ k, blk (Q j) = some k → base ≤ k ∧ k < w.heap.size := fun j hj k hk => (h.rows j hj).lt k hk
theorem DMat.keptBy {w' : World} {row : Option Nat} (h : DMat w base p c v Q D) (hg : w.grownBy w' row) (hne : ∀ k, blk p = some k → row ≠ some k) (hne2 : ∀ j, j < v.length → ∀ k, blk (Q j) = some k → row ≠ some k) : DMat w' base p c v Q D :=
  ⟨top_kept h.top hg hne, fun j hj => (h.rows j hj).keptBy hg (hne2 j hj), h.apart⟩

end

/-- 'append(out, row)', the row's value laid in a new block. -/
theorem wpList_appRow {w : World} {ops : Array Oper} {rest : List Oper} {o : Oper} {a : Act} {K : Exit → Act → World → Prop} (hgd : o.guard = none) (s x : Operand)
    (ho : o.op = .call { callee := .builtin .append, args := #[s, x], argTypes := #[22, 22] })
    (base : Nat) (p : Option Addr) (c : Nat) (v : List (List Int)) (Q : Nat → Option Addr) (D : Nat → Nat) (q : Option Addr) (d : Nat) (r : List Int)
    (hs : a.eval s = .slice p v.length c) {B : Nat} (hx : a.eval x = .slice (some ⟨B, 0, none⟩) 1 1) (hB : w.heap.size = B) (hown : TMat w base p c v Q D) (hr : Ints w q d r) (hsep : 0 < r.length → ∀ k, blk q = some k → blk p ≠ some k)
    (hsz : v.length ≤ 900000) (hbase : base ≤ w.heap.size)
    (h : ∀ p' c' w' u, Hid (u = v ++ [r]) → TMat w' base p' c' u (fun j => if j < v.length then Q j else q) (fun j => if j < v.length then D j else d) → w.grownBy w' (blk p) → Fresh w p p' →
      wpList Tryz.prog ops K rest (a.put o.dst (.slice p' u.length c')) w') :
    wpList Tryz.prog ops K (o :: rest) a (w.alloc (.cells #[.slice q r.length d] 25)) := by
  subst hB
  refine wpList_appG (w := w.alloc (.cells #[.slice q r.length d] 25)) hgd s x 22 25 ho (.slice none 0 0) 1 24 Tryz.underlying22 infoRow rfl (by decide) base p (some ⟨w.heap.size, 0, none⟩) v.length 1 c 1 (rowsV Q D v) [.slice q r.length d] hs hx (hown.top.alloc _)
    (fun e => (by cases e)) (by simp) ?_ (by simp [Value.oneCell']) (by simp [maxLen]; omega) (by omega) (by simp; omega) ?_
  · rintro ad ⟨⟩ j u hu
    have hj : j = 0 := by
      have := (List.getElem?_eq_some_iff.1 hu).1
      simpa using this
    subst hj
    simp at hu; subst hu
    rw [add_plain, World.cell?_alloc_at _ _ _ _ rfl]; rfl
  · intro p' c' w' h2 h3 h4
    have hg : w.grownBy w' (blk p) := ⟨h3.os, h3.tape, h3.output, by have := h3.size; simp at this; omega, fun k hk hne => by
      rw [h3.block k (by simp; omega) hne]
      exact Below.heap_alloc _ _ _ hk⟩
    have hfr : Fresh w p p' := fun k hk => by
      rcases h4 k hk with h5 | h5
      · exact .inl h5
      · exact .inr (by simp at h5; omega)
    have hkeep : ∀ (q' : Option Addr) (d' : Nat) (xs : List Int), Ints w q' d' xs → (0 < xs.length → ∀ k, blk q' = some k → blk p ≠ some k) → Ints w' q' d' xs := by
      intro q' d' xs hi hne
      refine hi.keep hg.size fun ad had hd => ?_
      refine hg.block _ (hi.plain ad had (by have := hi.le; omega)).2 ?_
      intro e
      exact hne hd ad.block (by rw [had]; rfl) e.symm
    have hsep2 : ∀ (q' : Option Addr) (d' : Nat) (xs : List Int), Ints w q' d' xs → (0 < xs.length → ∀ k, blk q' = some k → blk p ≠ some k) → 0 < xs.length → ∀ k, blk q' = some k → blk p' ≠ some k := by
      intro q' d' xs hi hne hlen k hk hp
      rcases hfr k hp with h5 | h5
      · exact hne hlen k hk h5
      · obtain ⟨b, o, rfl, hb, _⟩ := hi.get hlen
        simp [blk] at hk
        omega
    have hget : ∀ j, j < (v ++ [r]).length → (j < v.length ∧ rget (v ++ [r]) j = rget v j) ∨ (¬ j < v.length ∧ rget (v ++ [r]) j = r) := by
      intro j hj
      rw [List.length_append, List.length_singleton] at hj
      rw [rget_append]
      by_cases hlt : j < v.length
      · exact .inl ⟨hlt, by rw [if_pos hlt]⟩
      · exact .inr ⟨hlt, by rw [if_neg hlt, if_pos (by omega)]⟩
    have := h p' c' w' (v ++ [r]) rfl ⟨by
        rw [List.length_append]
        have e : rowsV (fun j => if j < v.length then Q j else q) (fun j => if j < v.length then D j else d) (v ++ [r]) = rowsV Q D v ++ [.slice q r.length d] := by
          unfold rowsV
          rw [List.length_append, List.length_singleton, List.range_succ, List.map_append]
          congr 1
          · refine List.map_congr_left fun j hj => ?_
            have := List.mem_range.1 hj
            simp [this, rget_append]
          · simp [rget_append]
        rw [e]; exact h2, ?_, ?_⟩ hg hfr
    · rw [List.length_append] at this; exact this
    · intro j hj
      rcases hget j hj with ⟨hlt, e⟩ | ⟨hlt, e⟩ <;> rw [e] <;> simp only [hlt, if_true, if_false]
      · exact hkeep _ _ _ (hown.rows j hlt) (hown.sep j hlt)
      · exact hkeep _ _ _ hr hsep
    · intro j hj
      rcases hget j hj with ⟨hlt, e⟩ | ⟨hlt, e⟩ <;> rw [e] <;> simp only [hlt, if_true, if_false]
      · exact hsep2 _ _ _ (hown.rows j hlt) (hown.sep j hlt)
      · exact hsep2 _ _ _ hr hsep
theorem rowsV_set {Q : Nat → Option Addr} {D : Nat → Nat} {v : List (List Int)} {i : Nat} (hi : i < v.length) (q : Option Addr) (d : Nat) (r : List Int) :
    rowsV (fun j => if j = i then q else Q j) (fun j => if j = i then d else D j) (v.set i r) = (rowsV Q D v).set i (.slice q r.length d) := by
  apply List.ext_getElem
  · simp [rowsV]
  · intro j h1 h2
    rw [List.getElem_set]
    simp only [rowsV, List.getElem_map, List.getElem_range]
    by_cases e : i = j
    · subst e; simp [rget_set hi]
    · rw [rget_set hi, if_neg e, if_neg e, if_neg (fun h => e h.symm), if_neg (fun h => e h.symm)]
/-- One row is another one. -/
theorem TMat.set {w : World} {base g c : Nat} {v : List (List Int)} {Q : Nat → Option Addr} {D : Nat → Nat} (h : TMat w base (some ⟨g, 0, none⟩) c v Q D) {i : Nat} (hi : i < v.length) {q : Option Addr} {d : Nat} {r : List Int} (hr : Ints w q d r)
    (hsep : 0 < r.length → blk q ≠ some g) :
    TMat (w.setCell ⟨g, i, none⟩ (.slice q r.length d)) base (some ⟨g, 0, none⟩) c (v.set i r) (fun j => if j = i then q else Q j) (fun j => if j = i then d else D j) := by
  obtain ⟨h1, h2⟩ := h.top.stored i (.slice q r.length d)
  have hk : ∀ (q' : Option Addr) (d' : Nat) (xs : List Int), Ints w q' d' xs → (0 < xs.length → blk q' ≠ some g) → Ints (w.setCell ⟨g, i, none⟩ (.slice q r.length d)) q' d' xs := by
    intro q' d' xs hI hs
    refine hI.keep (by simp [World.setCell]) fun ad had hd => ?_
    refine h2.block _ (hI.plain ad had (by have := hI.le; omega)).2 ?_
    intro e
    exact hs hd (by rw [had, ← e]; rfl)
  have hsep' : ∀ j, j < v.length → 0 < (rget v j).length → blk (Q j) ≠ some g := fun j hj hl e => h.sep j hj hl g e rfl
  refine ⟨by rw [List.length_set, rowsV_set hi]; exact h1, fun j hj => ?_, fun j hj => ?_⟩
  · rw [List.length_set] at hj
    rw [rget_set hi]
    by_cases e : j = i
    · subst e; simp only [if_true]; exact hk _ _ _ hr hsep
    · simp only [if_neg e, if_neg (fun h : i = j => e h.symm)]; exact hk _ _ _ (h.rows j hj) (hsep' j hj)
  · rw [List.length_set] at hj
    rw [rget_set hi]
    intro hl k hk2 e2
    have e3 : k = g := by simp [blk] at e2; exact e2.symm
    subst e3
    by_cases e : j = i
    · subst e; simp only [if_true] at hk2 hl; exact hsep hl hk2
    · simp only [if_neg e, if_neg (fun h : i = j => e h.symm)] at hk2 hl; exact hsep' j hj hl hk2

/-- The call hands back a row of its own that holds xs; what lay before lies as it lay. -/
def Gives (w : World) (xs : List Int) (e : Ending) (w' : World) : Prop := ∃ p c, e = .returned (.slice p xs.length c) ∧ Own w' w.heap.size p c xs ∧ Below w.heap.size w w'
/-- .. a row of its own and a number that is an error. -/
def Gives2 (w : World) (xs : List Int) (k : Int) (e : Ending) (w' : World) : Prop := ∃ p c, e = .returned (.tuple #[.slice p xs.length c, .int .i64 k]) ∧ Own w' w.heap.size p c xs ∧ Below w.heap.size w w'
end Go.Proofs.YtmcncflieoolmaaGreat

/- Allocations of goods, and what bundles are worth, in plain words; no program. -/
namespace Go.Proofs.YtmcncflieoolmaaGreat
set_option linter.unusedVariables false
set_option linter.unusedSimpArgs false

/-- Every good of the allocation goes to an agent, or to nobody (-1). -/
def AllOk (n : Nat) (a : List Int) : Prop := ∀ j, j < a.length → -1 ≤ iget a j ∧ iget a j < n
instance (n : Nat) (a : List Int) : Decidable (AllOk n a) := by unfold AllOk; infer_instance
def AlcOk (v : List (List Int)) (a : List Int) : Prop := a.length = wid v ∧ AllOk v.length a
instance (v : List (List Int)) (a : List Int) : Decidable (AlcOk v a) := by unfold AlcOk; infer_instance
/-- What Valid answers. -/
def chkA (v : List (List Int)) (a : List Int) : Int := if chkG v ≠ 0 then chkG v else if AlcOk v a then 0 else 8
theorem chkA_ok {v : List (List Int)} {a : List Int} (h : Gds v) (ha : AlcOk v a) : chkA v a = 0 := by unfold chkA; rw [chkG_ok h]; simp [ha]
theorem chkA_bad {v : List (List Int)} {a : List Int} (h : chkG v = 0) (ha : ¬ AlcOk v a) : chkA v a = 8 := by unfold chkA; rw [h]; simp [ha]
theorem chkA_err {v : List (List Int)} {a : List Int} (h : chkG v ≠ 0) : chkA v a = chkG v := by unfold chkA; rw [if_pos h]
theorem chkA_zero {v : List (List Int)} {a : List Int} : chkA v a = 0 ↔ Gds v ∧ AlcOk v a := by
  constructor
  · intro h
    by_cases hg : chkG v = 0
    · by_cases ha : AlcOk v a
      · exact ⟨chkG_zero.1 hg, ha⟩
      · rw [chkA_bad hg ha] at h; cases h
    · rw [chkA_err hg] at h; exact absurd h hg
  · rintro ⟨h1, h2⟩; exact chkA_ok h1 h2

def worthUp (v : List (List Int)) (a : List Int) (i : Nat) (k : Int) : Nat → Int
  | 0 => 0
  | m + 1 => worthUp v a i k m + (if iget a m = k then iget (rget v i) m else 0)
/-- What k's bundle is worth for i. -/
def worth (v : List (List Int)) (a : List Int) (i : Nat) (k : Int) : Int := worthUp v a i k a.length
theorem worthUp_eq {v : List (List Int)} {a : List Int} {i m : Nat} {k : Int} (h : iget a m = k) : worthUp v a i k (m + 1) = worthUp v a i k m + iget (rget v i) m := by simp [worthUp, h]
theorem worthUp_ne {v : List (List Int)} {a : List Int} {i m : Nat} {k : Int} (h : ¬ iget a m = k) : worthUp v a i k (m + 1) = worthUp v a i k m := by simp [worthUp, h]
theorem worthUp_in {v : List (List Int)} {a : List Int} (hg : Gds v) {i : Nat} (hi : i < v.length) (k : Int) : ∀ m, m ≤ wid v → 0 ≤ worthUp v a i k m ∧ worthUp v a i k m ≤ 1000 * m
  | 0, _ => by simp [worthUp]
  | m + 1, hm => by
    have h1 := worthUp_in hg hi k m (by omega) (a := a)
    have h2 := gds_bid hg hi (j := m) (by omega)
    by_cases h : iget a m = k
    · rw [worthUp_eq h]; omega
    · rw [worthUp_ne h]; omega
theorem worth_in {v : List (List Int)} {a : List Int} (hg : Gds v) (ha : AlcOk v a) {i : Nat} (hi : i < v.length) (k : Int) : 0 ≤ worth v a i k ∧ worth v a i k ≤ 10000 := by
  have h1 := worthUp_in hg hi k a.length (by have := ha.1; omega) (a := a)
  have h2 := hg.2.2.1
  have h3 := ha.1
  unfold worth
  omega
/-- After m goods: what the bundles are worth for i. -/
def rowUp (v : List (List Int)) (a : List Int) (i m : Nat) : List Int := (List.range v.length).map fun (k : Nat) => worthUp v a i (Int.ofNat k) m
theorem rowUp_len (v : List (List Int)) (a : List Int) (i m : Nat) : (rowUp v a i m).length = v.length := by simp [rowUp]
theorem rowUp_get {v : List (List Int)} {a : List Int} {i m k : Nat} (hk : k < v.length) : iget (rowUp v a i m) k = worthUp v a i (k : Int) m := by simp [rowUp, iget, hk]
theorem rowUp_zero (v : List (List Int)) (a : List Int) (i : Nat) : rowUp v a i 0 = List.replicate v.length 0 := by
  apply List.ext_getElem
  · simp [rowUp]
  · intro k h1 h2; simp [rowUp, worthUp]
theorem ext_iget {xs ys : List Int} (hl : xs.length = ys.length) (h : ∀ k, k < xs.length → iget xs k = iget ys k) : xs = ys := by
  apply List.ext_getElem hl
  intro k h1 h2
  have := h k h1
  rwa [iget_of h1, iget_of h2] at this
theorem rowUp_set {v : List (List Int)} {a : List Int} {i m x : Nat} (hx : iget a m = (x : Int)) (hxl : x < v.length) :
    rowUp v a i (m + 1) = (rowUp v a i m).set x (iget (rowUp v a i m) x + iget (rget v i) m) := by
  apply ext_iget
  · simp [rowUp]
  · intro k hk
    rw [rowUp_len] at hk
    rw [iget_set (by rw [rowUp_len]; exact hxl), rowUp_get hk, rowUp_get hxl]
    split
    · rename_i h; subst h; exact worthUp_eq hx
    · rename_i h; rw [worthUp_ne (by rw [hx]; omega), rowUp_get hk]
theorem rowUp_none {v : List (List Int)} {a : List Int} {i m : Nat} (hx : iget a m < 0) : rowUp v a i (m + 1) = rowUp v a i m := by
  apply ext_iget
  · simp [rowUp]
  · intro k hk
    rw [rowUp_len] at hk
    rw [rowUp_get hk, rowUp_get hk, worthUp_ne (by omega)]
def worthRow (v : List (List Int)) (a : List Int) (i : Nat) : List Int := rowUp v a i a.length
/-- What Values answers of valid ones. -/
def valsG (v : List (List Int)) (a : List Int) : List (List Int) := (List.range v.length).map (worthRow v a)
theorem valsG_len (v : List (List Int)) (a : List Int) : (valsG v a).length = v.length := by simp [valsG]
theorem valsG_row {v : List (List Int)} {a : List Int} {i : Nat} (hi : i < v.length) : rget (valsG v a) i = worthRow v a i := by simp [valsG, rget, hi]
theorem worthRow_len (v : List (List Int)) (a : List Int) (i : Nat) : (worthRow v a i).length = v.length := rowUp_len ..
theorem worthRow_get {v : List (List Int)} {a : List Int} {i k : Nat} (hk : k < v.length) : iget (worthRow v a i) k = worth v a i (k : Int) := rowUp_get hk
theorem valsG_take {v : List (List Int)} {a : List Int} {i : Nat} (hi : i < v.length) : (valsG v a).take (i + 1) = (valsG v a).take i ++ [worthRow v a i] := by
  rw [List.take_add_one]
  simp [valsG, hi]
/-- What Values answers. -/
def valsL (v : List (List Int)) (a : List Int) : List (List Int) := if chkA v a = 0 then valsG v a else []
theorem valsL_ok {v : List (List Int)} {a : List Int} (h : chkA v a = 0) : valsL v a = valsG v a := by simp [valsL, h]
theorem valsL_err {v : List (List Int)} {a : List Int} (h : chkA v a ≠ 0) : valsL v a = [] := by simp [valsL, h]

end Go.Proofs.YtmcncflieoolmaaGreat
