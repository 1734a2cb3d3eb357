/- The readings of slices of integers and of slices of such slices that the walks use, and how they stand when the world grows; no condition. -/
import Derived.Test.YtcgaojnfgkfnkaaRows
import Derived.WalkKit
import Derived.ProofKit
import Derived.OpenShut
import Derived.Handy
import Derived.BigQuiet
import Derived.Deep.QuietTactic
import Derived.Deep.Matrix
import Derived.Lib.Hide
import Derived.Laws.AppendOwnNone
namespace Go.Proofs.Ytcgaojnfgkfnkaa
set_option linter.unusedVariables false
set_option maxRecDepth 100000
set_option linter.unusedSimpArgs false
open Go.ChangeShapes Go.WideShapes Go.ChangeAt Go.RowKit Go.Deep

theorem own : ownKnob Try.prog.godebug = none := by kernel_rfl
theorem laidOut : laidOutB Try.prog = true := by kernel_rfl

/-- Element k of a list of numbers (0 beyond its end); simp does not look behind the name. -/
def iget (xs : List Int) (k : Nat) : Int := xs.getD k 0
/-- Row k of a list of rows. -/
def rget (v : List (List Int)) (k : Nat) : List Int := v.getD k []

theorem iget_of {xs : List Int} {k : Nat} (h : k < xs.length) : iget xs k = xs[k] := by simp [iget, h]
theorem rget_of {v : List (List Int)} {k : Nat} (h : k < v.length) : rget v k = v[k] := by simp [rget, h]
theorem iget_mem {xs : List Int} {k : Nat} (h : k < xs.length) : iget xs k ∈ xs := by rw [iget_of h]; exact List.getElem_mem h
theorem rget_mem {v : List (List Int)} {k : Nat} (h : k < v.length) : rget v k ∈ v := by rw [rget_of h]; exact List.getElem_mem h

def in64 (x : Int) : Prop := -9223372036854775808 ≤ x ∧ x ≤ 9223372036854775807
theorem in64_wf {x : Int} (h : in64 x) : (Lit.int .i64 x).wf = true := WalkArith.wf_i64 h
theorem in64_of_wf {x : Int} (h : (Lit.int .i64 x).wf = true) : in64 x := by
  simp [Lit.wf, IntKind.min, IntKind.max, IntKind.signed, IntKind.bits] at h; exact h

/-- The slice (p, xs.length, c) reads in w as the list xs of ints. -/
structure Ints (w : World) (p : Option Addr) (c : Nat) (xs : List Int) : Prop where
  le : xs.length ≤ c
  max : c ≤ 9223372036854775807
  nil : p = none → c = 0
  plain : ∀ a, p = some a → 0 < c → a.spot = none ∧ a.block < w.heap.size
  cell : ∀ b o, p = some ⟨b, o, none⟩ → ∀ j, j < xs.length → w.cell? ⟨b, o + j, none⟩ = some (.int .i64 (iget xs j))
  rng : ∀ j, j < xs.length → in64 (iget xs j)

theorem Ints.get {w : World} {p : Option Addr} {c : Nat} {xs : List Int} (h : Ints w p c xs) {j : Nat} (hj : j < xs.length) :
    ∃ b o, p = some ⟨b, o, none⟩ ∧ b < w.heap.size ∧ w.cell? ⟨b, o + j, none⟩ = some (.int .i64 (iget xs j)) := by
  cases hp : p with
  | none => have := h.nil hp; have := h.le; omega
  | some a =>
    obtain ⟨b, o, s⟩ := a
    obtain ⟨h1, h2⟩ := h.plain _ hp (by have := h.le; omega)
    simp only at h1; subst h1
    exact ⟨b, o, rfl, h2, h.cell b o hp j hj⟩
theorem Ints.at {w : World} {b o : Nat} {c : Nat} {xs : List Int} (h : Ints w (some ⟨b, o, none⟩) c xs) {j : Nat} (hj : j < xs.length) :
    w.cell? ⟨b, o + j, none⟩ = some (.int .i64 (iget xs j)) := h.cell b o rfl j hj
theorem Ints.length_le {w : World} {p : Option Addr} {c : Nat} {xs : List Int} (h : Ints w p c xs) : xs.length ≤ 9223372036854775807 := Nat.le_trans h.le h.max

theorem Ints.ofNil (w : World) : Ints w none 0 [] :=
  ⟨Nat.le_refl _, by omega, fun _ => rfl, fun _ h => (by cases h), fun _ _ h => (by cases h), fun _ h => (by simp at h)⟩

/-- What keeps every block that the slice reads keeps its reading. -/
theorem Ints.keep {w w' : World} {p : Option Addr} {c : Nat} {xs : List Int} (h : Ints w p c xs) (hs : w.heap.size ≤ w'.heap.size)
    (hb : ∀ a, p = some a → 0 < xs.length → w'.heap[a.block]? = w.heap[a.block]?) : Ints w' p c xs :=
  ⟨h.le, h.max, h.nil, fun a ha hc => ⟨(h.plain a ha hc).1, Nat.lt_of_lt_of_le (h.plain a ha hc).2 hs⟩,
    fun b o hp j hj => (World.cell?_of_block (w := w) (a := ⟨b, o + j, none⟩) (hb ⟨b, o, none⟩ hp (by omega))).trans (h.cell b o hp j hj), h.rng⟩
theorem Ints.below {B : Nat} {w w' : World} {p : Option Addr} {c : Nat} {xs : List Int} (h : Ints w p c xs) (hb : Below B w w') (hB : w.heap.size ≤ B) : Ints w' p c xs :=
  h.keep hb.size fun a ha hc => hb.block _ (Nat.lt_of_lt_of_le (h.plain a ha (by have := h.le; omega)).2 hB)
theorem Ints.drewN {w : World} {p : Option Addr} {c : Nat} {xs : List Int} (h : Ints w p c xs) (n : Nat) : Ints (w.drewN n) p c xs := h.keep (Nat.le_refl _) fun _ _ _ => rfl

/-- The slice (p, v.length, c) reads in w as the list v of rows. -/
structure Mat (w : World) (p : Option Addr) (c : Nat) (v : List (List Int)) : Prop where
  le : v.length ≤ c
  max : c ≤ 9223372036854775807
  nil : p = none → c = 0
  plain : ∀ a, p = some a → 0 < c → a.spot = none ∧ a.block < w.heap.size
  cell : ∀ b o, p = some ⟨b, o, none⟩ → ∀ j, j < v.length → ∃ q d, w.cell? ⟨b, o + j, none⟩ = some (.slice q (rget v j).length d) ∧ Ints w q d (rget v j)

theorem Mat.get {w : World} {p : Option Addr} {c : Nat} {v : List (List Int)} (h : Mat w p c v) {j : Nat} (hj : j < v.length) :
    ∃ b o, p = some ⟨b, o, none⟩ ∧ b < w.heap.size ∧ ∃ q d, w.cell? ⟨b, o + j, none⟩ = some (.slice q (rget v j).length d) ∧ Ints w q d (rget v j) := by
  cases hp : p with
  | none => have := h.nil hp; have := h.le; omega
  | some a =>
    obtain ⟨b, o, s⟩ := a
    obtain ⟨h1, h2⟩ := h.plain _ hp (by have := h.le; omega)
    simp only at h1; subst h1
    exact ⟨b, o, rfl, h2, h.cell b o hp j hj⟩
theorem Mat.at {w : World} {b o : Nat} {c : Nat} {v : List (List Int)} (h : Mat w (some ⟨b, o, none⟩) c v) {j : Nat} (hj : j < v.length) :
    ∃ q d, w.cell? ⟨b, o + j, none⟩ = some (.slice q (rget v j).length d) ∧ Ints w q d (rget v j) := h.cell b o rfl j hj
theorem Mat.length_le {w : World} {p : Option Addr} {c : Nat} {v : List (List Int)} (h : Mat w p c v) : v.length ≤ 9223372036854775807 := Nat.le_trans h.le h.max
theorem Mat.ofNil (w : World) : Mat w none 0 [] :=
  ⟨Nat.le_refl _, by omega, fun _ => rfl, fun _ h => (by cases h), fun _ _ h => (by cases h)⟩

theorem Mat.below {B : Nat} {w w' : World} {p : Option Addr} {c : Nat} {v : List (List Int)} (h : Mat w p c v) (hb : Below B w w') (hB : w.heap.size ≤ B) : Mat w' p c v := by
  refine ⟨h.le, h.max, h.nil, fun a ha hc => ⟨(h.plain a ha hc).1, Nat.lt_of_lt_of_le (h.plain a ha hc).2 hb.size⟩, fun b o hp j hj => ?_⟩
  obtain ⟨q, d, h1, h2⟩ := h.cell b o hp j hj
  have hc : 0 < c := by have := h.le; omega
  exact ⟨q, d, (World.cell?_of_block (w := w) (a := ⟨b, o + j, none⟩) (hb.block _ (Nat.lt_of_lt_of_le (h.plain _ hp hc).2 hB))).trans h1, h2.below hb hB⟩
theorem below_drewN (B : Nat) (w : World) (n : Nat) : Below B w (w.drewN n) := ⟨rfl, rfl, rfl, Nat.le_refl _, fun _ _ => rfl⟩
theorem Mat.drewN {w : World} {p : Option Addr} {c : Nat} {v : List (List Int)} (h : Mat w p c v) (n : Nat) : Mat (w.drewN n) p c v := h.below (below_drewN w.heap.size w n) (Nat.le_refl _)

/-- The world has drawn, and nothing else. -/
def Drew (w w' : World) : Prop := ∃ n, w' = w.drewN n
theorem Drew.refl (w : World) : Drew w w := ⟨0, rfl⟩
theorem Drew.below {w w' : World} (B : Nat) : Drew w w' → Below B w w' | ⟨n, h⟩ => h ▸ below_drewN B w n

theorem snoc_all' {P : Nat → Prop} {k : Nat} (h : ∀ j, j < k → P j) (hk : P k) : ∀ j, j < k + 1 → P j := fun j hj => by
  by_cases e : j = k
  · exact e ▸ hk
  · exact h j (by omega)
theorem drew_refl (w : World) : ∃ n, w = w.drewN n := ⟨0, rfl⟩
theorem drew_drewN {w a : World} (n : Nat) (h : ∃ m, a = w.drewN m) : ∃ m, a.drewN n = w.drewN m := by obtain ⟨m, rfl⟩ := h; exact ⟨m + n, World.drewN_drewN _ _ _⟩
theorem drew_drew {w a : World} (h : ∃ m, a = w.drewN m) : ∃ m, a.drew = w.drewN m := by obtain ⟨m, rfl⟩ := h; exact ⟨m + 1, rfl⟩
theorem drew_trans {w a b : World} (h : ∃ m, a = w.drewN m) (k : ∃ m, b = a.drewN m) : ∃ m, b = w.drewN m := by obtain ⟨m, rfl⟩ := h; obtain ⟨n, rfl⟩ := k; exact ⟨m + n, World.drewN_drewN _ _ _⟩

theorem Ints.drew {w w' : World} {p : Option Addr} {c : Nat} {xs : List Int} (h : Ints w p c xs) (hw : ∃ n, w' = w.drewN n) : Ints w' p c xs := by obtain ⟨n, rfl⟩ := hw; exact h.drewN n
theorem Mat.drew {w w' : World} {p : Option Addr} {c : Nat} {v : List (List Int)} (h : Mat w p c v) (hw : ∃ n, w' = w.drewN n) : Mat w' p c v := by obtain ⟨n, rfl⟩ := hw; exact h.drewN n

theorem _root_.Go.RowKit.Below.drewN' {B : Nat} {a w : World} (h : Below B a w) (n : Nat) : Below B a (w.drewN n) := h.trans (below_drewN B w n)
theorem _root_.Go.RowKit.Below.drewP {B : Nat} {a w w' : World} (h : Below B a w) (hw : ∃ n, w' = w.drewN n) : Below B a w' := by obtain ⟨n, rfl⟩ := hw; exact h.trans (below_drewN B w n)

theorem ret_int {k : IntKind} {a b : Int} (h : a = b) : Ending.returned (.int k a) = .returned (.int k b) := by rw [h]
theorem ret_bool {a b : Bool} (h : a = b) : Ending.returned (.bool a) = .returned (.bool b) := by rw [h]

/-! ### The arguments of a law, as they are read -/
section
variable {H : Type} {enc : TypeId × Value → H} {w : World}
theorem open_intsV {v : Value} {d : DataW H} {ps : List MemPlace} {base : Nat} (hv : Value.okWide Try.prog w .any base 23 v)
    (h : DataW.Trod enc Try.prog w 0 (fun _ => true) true 23 v d ps) : ∃ (p : Option Addr) (c : Nat) (xs : List Int), v = .slice p xs.length c ∧ Ints w p c xs := by
  obtain ⟨a0, len, cap, rfl⟩ := okWide_slice Try.underlying23 hv
  obtain ⟨fuel, hf⟩ := h
  rcases open_ints Try.underlying23 Try.underlying3 (by kernel_rfl) hf with ⟨hcs, _⟩ | ⟨x, l, c, zs, hcs, _, hl, hm, hz, hx, hcell, hwz⟩
  · simp [Value.cells] at hcs
    obtain ⟨rfl, rfl, rfl⟩ := hcs
    exact ⟨none, 0, [], rfl, Ints.ofNil w⟩
  · simp [Value.cells] at hcs
    obtain ⟨rfl, rfl, rfl⟩ := hcs
    simp only [if_true] at hz
    have hl' : (zs.take len).length = len := by simp; omega
    refine ⟨_, cap, zs.take len, by rw [hl'], by omega, hm, fun h => (by cases h), ?_, ?_, ?_⟩
    · rintro a ⟨⟩ hc0
      have h0 := hcell 0 (by omega)
      obtain ⟨b, o, s⟩ := x
      have := World.block_lt_of_cell? _ _ h0
      exact ⟨by simpa [Addr.add] using World.cell?_spot h0, by simpa [Addr.add] using this⟩
    · rintro b o ⟨⟩ j hj
      have := hcell j (by omega)
      rw [hl'] at hj
      rw [add_plain] at this
      simpa [iget, List.getD, hj] using this
    · intro j hj
      rw [iget_of hj]
      exact in64_of_wf (hwz _ (List.mem_of_mem_take (List.getElem_mem hj)))
theorem open_matV {v : Value} {d : DataW H} {ps : List MemPlace} {base : Nat} (hv : Value.okWide Try.prog w .any base 22 v)
    (h : DataW.Trod enc Try.prog w 0 (fun _ => true) true 22 v d ps) : ∃ (p : Option Addr) (c : Nat) (m : List (List Int)), v = .slice p m.length c ∧ Mat w p c m := by
  obtain ⟨a0, len, cap, rfl⟩ := okWide_slice Try.underlying22 hv
  obtain ⟨fuel, hf⟩ := h
  rcases open_int_rows Try.underlying22 Try.underlying23 Try.underlying3 (by kernel_rfl) (by kernel_rfl) hf with ⟨hcs, _⟩ | ⟨x, l, c, A, L, C, Z, hcs, _, hl, hm, _, hrows⟩
  · simp [Value.cells] at hcs
    obtain ⟨rfl, rfl, rfl⟩ := hcs
    exact ⟨none, 0, [], rfl, Mat.ofNil w⟩
  · simp [Value.cells] at hcs
    obtain ⟨rfl, rfl, rfl⟩ := hcs
    have hl' : ((List.range len).map fun r => (Z r).take (L r)).length = len := by simp
    have hr : ∀ j, j < len → rget ((List.range len).map fun r => (Z r).take (L r)) j = (Z j).take (L j) := fun j hj => by simp [rget, hj]
    refine ⟨_, cap, _, by rw [hl'], by omega, hm, fun h => (by cases h), ?_, ?_⟩
    · rintro a ⟨⟩ hc0
      have h0 := (hrows 0 (by omega)).1
      obtain ⟨b, o, s⟩ := x
      have := World.block_lt_of_cell? _ _ h0
      exact ⟨by simpa [Addr.add] using World.cell?_spot h0, by simpa [Addr.add] using this⟩
    · rintro b o ⟨⟩ j hj
      rw [hl'] at hj
      obtain ⟨h1, h2, h3, h4, h5, h6, h7⟩ := hrows j (by omega)
      have hl2 : ((Z j).take (L j)).length = L j := by simp; omega
      refine ⟨A j, C j, by rw [hr j hj, hl2, ← add_plain]; exact h1, ?_⟩
      rw [hr j hj]
      refine ⟨by omega, h3, h6, ?_, ?_, ?_⟩
      · intro a' ha' hc0
        have h0 := (h7 a' ha').2 0 hc0
        obtain ⟨b', o', s'⟩ := a'
        have := World.block_lt_of_cell? _ _ h0
        exact ⟨by simpa [Addr.add] using World.cell?_spot h0, by simpa [Addr.add] using this⟩
      · intro b' o' hp i hi
        have := (h7 _ hp).2 i (by omega)
        rw [hl2] at hi
        rw [add_plain] at this
        simpa [iget, List.getD, hi] using this
      · intro i hi
        rw [iget_of hi]
        exact in64_of_wf (h5 _ (List.mem_of_mem_take (List.getElem_mem hi)))
end
end Go.Proofs.Ytcgaojnfgkfnkaa

/- Rows of integers that a call itself makes: how they are read, written, appended to; no condition but sizes. -/
namespace Go.Proofs.Ytcgaojnfgkfnkaa
set_option linter.unusedVariables false
set_option linter.unusedSimpArgs false
open Go.ChangeShapes Go.WideShapes Go.ChangeAt Go.RowKit Go.Deep

theorem infoInt : (Try.prog.info? 3).map (fun i => (i.zero, i.size, i.bytes)) = some (some (.int .i64 0), 1, 8) := by kernel_rfl
theorem infoRow : (Try.prog.info? 23).map (fun i => (i.zero, i.size, i.bytes)) = some (some (.slice none 0 0), 1, 24) := by kernel_rfl

def blk (p : Option Addr) : Option Nat := p.map (·.block)

/-- The slice (p, xs.length, c) is a row of the call's own, in a block from base on, and holds xs. -/
structure Own (w : World) (base : Nat) (p : Option Addr) (c : Nat) (xs : List Int) : Prop where
  row : w.ownsRow base 3 1 (.slice p xs.length c) xs.length (xs.map (Value.int .i64))
  rng : ∀ j, j < xs.length → in64 (iget xs j)

theorem ownBlock_slice (p : Option Addr) (n c : Nat) : (Value.slice p n c).ownBlock = blk p := by cases p <;> rfl

theorem Own.shape {w : World} {base : Nat} {p : Option Addr} {c : Nat} {xs : List Int} (h : Own w base p c xs) :
    (p = none ∧ c = 0 ∧ xs = []) ∨ ∃ g, p = some ⟨g, 0, none⟩ ∧ base ≤ g ∧ g < w.heap.size ∧ xs.length ≤ c ∧ c ≤ 9223372036854775807 := by
  rcases h.row.2 with ⟨h1, h2⟩ | ⟨g, cap, cur, h1, h2, h3, h4, h5, _, _⟩
  · simp only [Value.slice.injEq] at h1
    exact .inl ⟨h1.1, h1.2.2, List.eq_nil_of_length_eq_zero h2⟩
  · simp only [Value.slice.injEq] at h1
    obtain ⟨rfl, _, rfl⟩ := h1
    exact .inr ⟨g, rfl, h2, (Array.getElem?_eq_some_iff.1 h3).1, h4, h5⟩
theorem Own.at {w : World} {base g : Nat} {c : Nat} {xs : List Int} (h : Own w base (some ⟨g, 0, none⟩) c xs) {j : Nat} (hj : j < xs.length) :
    w.cell? ⟨g, j, none⟩ = some (.int .i64 (iget xs j)) := by
  rw [h.row.cellAt j (by omega)]
  simp [iget, hj]
theorem Own.free {w : World} {base g : Nat} {c : Nat} {xs : List Int} (h : Own w base (some ⟨g, 0, none⟩) c xs) (j : Nat) : w.frozen? ⟨g, j, none⟩ = false := h.row.frozenAt j
theorem Own.ints {w : World} {base : Nat} {p : Option Addr} {c : Nat} {xs : List Int} (h : Own w base p c xs) : Ints w p c xs := by
  rcases h.shape with ⟨rfl, rfl, rfl⟩ | ⟨g, rfl, h1, h2, h3, h4⟩
  · exact Ints.ofNil w
  · refine ⟨h3, h4, fun h => (by cases h), ?_, ?_, h.rng⟩
    · rintro a ⟨⟩ _; exact ⟨rfl, h2⟩
    · rintro b o ⟨⟩ j hj
      rw [Nat.zero_add]; exact h.at hj
theorem Own.get {w : World} {base : Nat} {p : Option Addr} {c : Nat} {xs : List Int} (h : Own w base p c xs) {j : Nat} (hj : j < xs.length) :
    ∃ g, p = some ⟨g, 0, none⟩ ∧ base ≤ g ∧ g < w.heap.size ∧ w.cell? ⟨g, j, none⟩ = some (.int .i64 (iget xs j)) ∧ w.frozen? ⟨g, j, none⟩ = false := by
  rcases h.shape with ⟨rfl, rfl, rfl⟩ | ⟨g, rfl, h1, h2, h3, h4⟩
  · simp at hj
  · exact ⟨g, rfl, h1, h2, h.at hj, h.free j⟩
theorem Own.ofNil (w : World) (base : Nat) : Own w base none 0 [] := ⟨World.ownsRow_nil w base _ _, fun _ h => (by simp at h)⟩
theorem Own.lt {w : World} {base : Nat} {p : Option Addr} {c : Nat} {xs : List Int} (h : Own w base p c xs) : ∀ k, blk p = some k → base ≤ k ∧ k < w.heap.size := fun k hk => h.row.lt k (by rw [ownBlock_slice]; exact hk)
/-- What was laid from base on was laid from any lower number on. -/
theorem Own.lower {w : World} {base base' : Nat} {p : Option Addr} {c : Nat} {xs : List Int} (h : Own w base p c xs) (hb : base' ≤ base) : Own w base' p c xs := by
  refine ⟨⟨h.row.1, ?_⟩, h.rng⟩
  rcases h.row.2 with h1 | ⟨g, cap, cur, h1, h2, r⟩
  · exact .inl h1
  · exact .inr ⟨g, cap, cur, h1, Nat.le_trans hb h2, r⟩

theorem Own.keptBy {w w' : World} {base : Nat} {p : Option Addr} {c : Nat} {xs : List Int} (h : Own w base p c xs) {row : Option Nat} (hg : w.grownBy w' row) (hne : ∀ k, blk p = some k → row ≠ some k) : Own w' base p c xs :=
  ⟨h.row.kept hg (by
    rw [ownBlock_slice]
    cases hb : blk p with
    | none => exact .inl rfl
    | some k => exact .inr fun e => hne k hb e.symm), h.rng⟩
theorem grownBy_of_below {w w' : World} {B : Nat} (h : Below B w w') (hB : w.heap.size ≤ B) (row : Option Nat) : w.grownBy w' row := ⟨h.os, h.tape, h.output, h.size, fun k hk _ => h.block k (by omega)⟩
theorem Own.below {w w' : World} {base B : Nat} {p : Option Addr} {c : Nat} {xs : List Int} (h : Own w base p c xs) (hb : Below B w w') (hB : w.heap.size ≤ B) : Own w' base p c xs :=
  h.keptBy (grownBy_of_below hb hB none) (fun _ _ h => by cases h)
theorem Own.drew1 {w : World} {base : Nat} {p : Option Addr} {c : Nat} {xs : List Int} (h : Own w base p c xs) : Own w.drew base p c xs := h.below (below_drewN w.heap.size w 1) (Nat.le_refl _)
theorem Own.drewN {w : World} {base : Nat} {p : Option Addr} {c : Nat} {xs : List Int} (h : Own w base p c xs) (n : Nat) : Own (w.drewN n) base p c xs := h.below (below_drewN w.heap.size w n) (Nat.le_refl _)
theorem Own.drew {w w' : World} {base : Nat} {p : Option Addr} {c : Nat} {xs : List Int} (h : Own w base p c xs) (hw : ∃ n, w' = w.drewN n) : Own w' base p c xs := by obtain ⟨n, rfl⟩ := hw; exact h.drewN n
theorem Own.alloc {w : World} {base : Nat} {p : Option Addr} {c : Nat} {xs : List Int} (h : Own w base p c xs) (o : Obj) : Own (w.alloc o) base p c xs := ⟨h.row.alloc o, h.rng⟩

theorem iget_set {xs : List Int} {j k : Nat} {x : Int} (hj : j < xs.length) : iget (xs.set j x) k = if j = k then x else iget xs k := by
  simp only [iget, List.getD, List.getElem?_set]
  split
  · rename_i h; subst h; simp [hj]
  · rfl
theorem Own.set {w : World} {base g : Nat} {c : Nat} {xs : List Int} (h : Own w base (some ⟨g, 0, none⟩) c xs) (j : Nat) {x : Int} (hx : in64 x) :
    Own (w.setCell ⟨g, j, none⟩ (.int .i64 x)) base (some ⟨g, 0, none⟩) c (xs.set j x) ∧ w.grownBy (w.setCell ⟨g, j, none⟩ (.int .i64 x)) (some g) := by
  obtain ⟨h1, h2⟩ := h.row.stored j (.int .i64 x)
  refine ⟨⟨by rw [List.length_set, List.map_set]; exact h1, fun k hk => ?_⟩, h2⟩
  by_cases hj : j < xs.length
  · rw [iget_set hj]
    split
    · exact hx
    · exact h.rng k (by simpa using hk)
  · rw [List.set_eq_of_length_le (by omega)]
    exact h.rng k (by simpa using hk)

theorem iget_append {xs ys : List Int} {k : Nat} : iget (xs ++ ys) k = if k < xs.length then iget xs k else iget ys (k - xs.length) := by
  simp only [iget, List.getD, List.getElem?_append]
  split <;> rfl
theorem own_value {w : World} {base : Nat} {v : Value} {n : Nat} {xs : List Value} {e : TypeId} (h : w.ownsRow base e 1 v n xs) : ∃ p c, v = .slice p n c := by
  rcases h.2 with ⟨rfl, rfl⟩ | ⟨g, cap, cur, rfl, _⟩
  · exact ⟨_, _, rfl⟩
  · exact ⟨_, _, rfl⟩

/-- What leads into no block but into p's or into a new one. -/
def Fresh (w : World) (p p' : Option Addr) : Prop := ∀ k, blk p' = some k → blk p = some k ∨ w.heap.size ≤ k
theorem Fresh.refl (w : World) (p : Option Addr) : Fresh w p p := fun _ h => .inl h

/-- 'append(s, x...)' at slices of whatever elements: s the call's own. -/
theorem wpList_appG {P : Program} {w : World} {ops : Array Oper} {rest : List Oper} {o : Oper} {a : Act} {Q : Exit → Act → World → Prop} (hgd : o.guard = none) (s x : Operand) (t e : TypeId)
    (ho : o.op = .call { callee := .builtin .append, args := #[s, x], argTypes := #[t, t] }) (z : Value) (size bytes : Nat) (ht : P.underlying t = some (.slice e))
    (hinfo : (P.info? e).map (fun i => (i.zero, i.size, i.bytes)) = some (some z, size, bytes)) (hzs : z.cells.size = size) (hsz0 : 0 < size)
    (base : Nat) (p q : Option Addr) (n m c d : Nat) (xs ys : List Value) (hs : a.eval s = .slice p n c) (hx : a.eval x = .slice q m d) (hown : w.ownsRow base e size (.slice p n c) n xs)
    (hq : q = none → m = 0 ∧ d = 0) (hl : ys.length = m * size) (hys : ∀ ad, q = some ad → ∀ j u, ys[j]? = some u → w.cell? (ad.add j) = some u) (h1 : ∀ u ∈ ys, u.oneCell' = true)
    (h63 : n + m ≤ maxLen) (hbytes : (n + m) * bytes ≤ 140737488355328) (hbase : base ≤ w.heap.size)
    (h : ∀ p' c' w', w'.ownsRow base e size (.slice p' (n + m) c') (n + m) (xs ++ ys) → w.grownBy w' (blk p) → Fresh w p p' → wpList P ops Q rest (a.put o.dst (.slice p' (n + m) c')) w') : wpList P ops Q (o :: rest) a w := by
  obtain ⟨i, hi, hz0, hz1, hz2⟩ := info_parts hinfo
  cases q with
  | none =>
    obtain ⟨rfl, rfl⟩ := hq rfl
    obtain rfl : ys = [] := List.eq_nil_of_length_eq_zero (by omega)
    refine wpList_append_own_none hgd s x t ho base e i size ht hi _ n _ hs hown hx ?_
    have := h p c w (by simpa using hown) (World.grownBy.refl w _) (Fresh.refl w p)
    simpa using this
  | some ad =>
    by_cases hroom : n + m ≤ c ∧ p ≠ none
    · rcases hown.2 with ⟨h1', _⟩ | ⟨g, cap, cur, h1', _⟩
      · simp only [Value.slice.injEq] at h1'
        exact absurd h1'.1 hroom.2
      · simp only [Value.slice.injEq] at h1'
        obtain ⟨rfl, _, rfl⟩ := h1'
        refine wpList_append_fits w hgd s x t ho base e i size ht hi hz1 g n c xs hs hown ad m d ys hx hl (hys ad rfl) h1 hroom.1 ?_
        intro w' h2 h3
        exact h _ _ w' h2 h3 (Fresh.refl _ _)
    · have hfull : c < n + m ∨ m = 0 := by
        rcases hown.2 with ⟨h1', h2'⟩ | ⟨g, cap, cur, h1', _⟩
        · simp only [Value.slice.injEq] at h1'
          obtain ⟨rfl, _, rfl⟩ := h1'
          omega
        · simp only [Value.slice.injEq] at h1'
          obtain ⟨rfl, _, rfl⟩ := h1'
          left
          have : ¬ (n + m ≤ c) := fun hh => hroom ⟨hh, by simp⟩
          omega
      rcases Nat.lt_or_ge c (n + m) with hfull | hnf
      · refine wpList_append_grows w hgd s x t ho e i z size bytes ht hi hz0 hz1 hz2 hzs hsz0 p n c xs hs ?_ hown.1 ?_ ad m d ys hx hl (hys ad rfl) h1 hfull h63 hbytes ?_
        · rintro rfl
          rcases hown.2 with ⟨h1', h2'⟩ | ⟨g, cap, cur, h1', _⟩
          · simp only [Value.slice.injEq] at h1'
            exact ⟨h2', h1'.2.2⟩
          · simp at h1'
        · rintro b rfl j u hu
          rcases hown.2 with ⟨h1', h2'⟩ | ⟨g, cap, cur, h1', _⟩
          · simp at h1'
          · simp only [Value.slice.injEq, Option.some.injEq] at h1'
            obtain ⟨rfl, _, _⟩ := h1'
            exact hown.cells (g := g) rfl j u hu
        · intro v' w' h2 h3
          have hlt := h2.lt
          obtain ⟨p', c', rfl⟩ : ∃ p' c', v' = .slice p' (n + m) c' := by
            rcases h2.2 with ⟨rfl, hh⟩ | ⟨g, cap, cur, rfl, _⟩
            · exact ⟨_, _, by rw [hh]⟩
            · exact ⟨_, _, rfl⟩
          refine h p' c' w' ⟨h2.1, ?_⟩ ⟨h3.os, h3.tape, h3.output, h3.size, fun k hk _ => h3.block k hk (by simp)⟩ ?_
          · rcases h2.2 with h4 | ⟨g, cap, cur, h4, h5, r⟩
            · exact .inl h4
            · exact .inr ⟨g, cap, cur, h4, Nat.le_trans hbase h5, r⟩
          · intro k hk
            exact .inr (hlt k (by cases p' <;> simp_all [blk, Value.ownBlock])).1
      · have hm0 : m = 0 := by omega
        subst hm0
        have hys0 : ys = [] := List.eq_nil_of_length_eq_zero (by omega)
        subst hys0
        -- nothing is appended: a nil slice stays nil, or there is room
        rcases hown.2 with ⟨h1', h2'⟩ | ⟨g, cap, cur, h1', _⟩
        · simp only [Value.slice.injEq] at h1'
          obtain ⟨rfl, rfl, rfl⟩ := h1'
          refine wpList_append_own w hgd s x t ho base e i z size bytes ht hi hz0 hz1 hz2 hzs hsz0 _ 0 xs hs hown ad 0 d [] hx (by simp) (by simp) (by simp) (by simp [maxLen]) (by simp) hbase ?_
          intro v' w' h2 h3 h4
          obtain rfl := h4.2 ⟨rfl, rfl⟩
          exact h none 0 w' h2 h3 (Fresh.refl _ _)
        · simp only [Value.slice.injEq] at h1'
          obtain ⟨rfl, _, rfl⟩ := h1'
          exact absurd ⟨hnf, by simp⟩ hroom

/-- 'append(s, x...)' at slices of ints: s the call's own. -/
theorem wpList_app {w : World} {ops : Array Oper} {rest : List Oper} {o : Oper} {a : Act} {Q : Exit → Act → World → Prop} (hgd : o.guard = none) (s x : Operand)
    (ho : o.op = .call { callee := .builtin .append, args := #[s, x], argTypes := #[23, 23] })
    (base : Nat) (p q : Option Addr) (c d : Nat) (xs ys : List Int) (hs : a.eval s = .slice p xs.length c) (hx : a.eval x = .slice q ys.length d) (hown : Own w base p c xs) (hys : Ints w q d ys)
    (hsz : xs.length + ys.length ≤ 1000000) (hbase : base ≤ w.heap.size)
    (h : ∀ p' c' w' zs, Hid (zs = xs ++ ys) → Own w' base p' c' zs → w.grownBy w' (blk p) → Fresh w p p' → wpList Try.prog ops Q rest (a.put o.dst (.slice p' zs.length c')) w') : wpList Try.prog ops Q (o :: rest) a w := by
  have hr2 : ∀ j, j < (xs ++ ys).length → in64 (iget (xs ++ ys) j) := by
    intro j hj
    rw [List.length_append] at hj
    rw [iget_append]
    split
    · exact hown.rng j ‹_›
    · exact hys.rng _ (by omega)
  refine wpList_appG hgd s x 23 3 ho (.int .i64 0) 1 8 Try.underlying23 infoInt rfl (by decide) base p q xs.length ys.length c d (xs.map (Value.int .i64)) (ys.map (Value.int .i64)) hs hx hown.row ?_ (by simp) ?_
    (by simp [Value.oneCell']) (by simp [maxLen]; omega) (by omega) hbase ?_
  · rintro rfl
    have := hys.nil rfl
    exact ⟨by have := hys.le; omega, this⟩
  · rintro ad rfl j u hu
    rw [List.getElem?_map] at hu
    obtain ⟨y, hy, rfl⟩ := Option.map_eq_some_iff.1 hu
    have hj : j < ys.length := (List.getElem?_eq_some_iff.1 hy).1
    obtain ⟨b, o, e, _, hc⟩ := hys.get hj
    cases e
    rw [add_plain, hc, iget]
    simp [List.getD, hy]
  · intro p' c' w' h2 h3 h4
    have := h p' c' w' (xs ++ ys) rfl ⟨by rw [List.length_append, List.map_append]; exact h2, hr2⟩ h3 h4
    rw [List.length_append] at this
    exact this

/-- One number in a new block, as 'append(s, x)' lays it first. -/
theorem ints_one (w : World) {x : Int} (hx : in64 x) (t : TypeId) : Ints (w.alloc (.cells #[.int .i64 x] t)) (some ⟨w.heap.size, 0, none⟩) 1 [x] := by
  refine ⟨by simp, by omega, fun h => (by cases h), ?_, ?_, ?_⟩
  · rintro a ⟨⟩ _; exact ⟨rfl, by simp⟩
  · rintro b o ⟨⟩ j hj
    simp at hj; subst hj
    rw [World.cell?_alloc_at _ _ _ _ rfl]; rfl
  · intro j hj
    simp at hj; subst hj; exact hx
/-- 'append(s, x)', x one number, laid in a new block. -/
theorem wpList_app1 {w : World} {ops : Array Oper} {rest : List Oper} {o : Oper} {a : Act} {Q : Exit → Act → World → Prop} (hgd : o.guard = none) (s x : Operand)
    (ho : o.op = .call { callee := .builtin .append, args := #[s, x], argTypes := #[23, 23] })
    (base : Nat) (p : Option Addr) (c : Nat) (xs : List Int) (y : Int) (hs : a.eval s = .slice p xs.length c) {B : Nat} (hx : a.eval x = .slice (some ⟨B, 0, none⟩) 1 1) (hB : w.heap.size = B) (hown : Own w base p c xs) (hy : in64 y)
    (hsz : xs.length ≤ 900000) (hbase : base ≤ w.heap.size)
    (h : ∀ p' c' w' zs, Hid (zs = xs ++ [y]) → Own w' base p' c' zs → w.grownBy w' (blk p) → Fresh w p p' → wpList Try.prog ops Q rest (a.put o.dst (.slice p' zs.length c')) w') : wpList Try.prog ops Q (o :: rest) a (w.alloc (.cells #[.int .i64 y] 3)) := by
  subst hB
  refine wpList_app hgd s x ho base p (some ⟨w.heap.size, 0, none⟩) c 1 xs [y] hs hx (hown.alloc _) (ints_one w hy _) (by simp; omega) (by simp; omega) ?_
  intro p' c' w' zs hz h1 h2 h3
  refine h p' c' w' zs hz h1 ⟨h2.os, h2.tape, h2.output, by have := h2.size; simp at this; omega, fun k hk hne => ?_⟩ (fun k hk => by
    rcases h3 k hk with h4 | h4
    · exact .inl h4
    · exact .inr (by simp at h4; omega))
  rw [h2.block k (by simp; omega) hne]
  exact Below.heap_alloc _ _ _ hk
theorem below_grown {B : Nat} {w0 w w' : World} {p : Option Addr} {base : Nat} (h : Below B w0 w) (hg : w.grownBy w' (blk p)) (hB : B ≤ w.heap.size) (hb : ∀ k, blk p = some k → base ≤ k ∧ k < w.heap.size) (hbB : B ≤ base) : Below B w0 w' :=
  h.grown hg hB (fun k hk => Nat.le_trans hbB (hb k hk).1)

/-- '[]int{}': a new row of no cell. -/
theorem Own.made (w : World) (base : Nat) (hb : base ≤ w.heap.size) : Own (w.alloc (.cells #[] 3)) base (some ⟨w.heap.size, 0, none⟩) 0 [] :=
  ⟨World.ownsRow_made w #[] 0 hb (by simp [maxLen]) rfl, fun _ h => (by simp at h)⟩
/-- A literal row. -/
theorem Own.lit (w : World) (base : Nat) (hb : base ≤ w.heap.size) (xs : List Int) (hsz : xs.length ≤ 1000000) (hr : ∀ j, j < xs.length → in64 (iget xs j)) :
    Own (w.alloc (.cells (xs.map (Value.int .i64)).toArray 3)) base (some ⟨w.heap.size, 0, none⟩) xs.length xs := by
  refine ⟨?_, hr⟩
  have := World.ownsRow_lit (e := 3) (size := 1) (base := base) w (xs.map (Value.int .i64)).toArray xs.length hb (by simp [maxLen]; omega) (by simp)
  simpa using this

theorem grown_trans {a b c : World} {row : Option Nat} (h : a.grownBy b row) (k : b.grownBy c row) : a.grownBy c row :=
  ⟨k.os.trans h.os, k.tape.trans h.tape, k.output.trans h.output, Nat.le_trans h.size k.size, fun i hi hne => (k.block i (Nat.lt_of_lt_of_le hi h.size) hne).trans (h.block i hi hne)⟩
theorem in64_zero : in64 0 := ⟨by omega, by omega⟩

/-- 'make([]int, n)', n a variable. -/
theorem wpList_mk {w : World} {ops : Array Oper} {rest : List Oper} {o : Oper} {a : Act} {Q : Exit → Act → World → Prop} (hg : o.guard = none) (l c : Operand) (hop : o.op = Op.makeSlice 23 l c)
    (base n : Nat) (hl : a.eval l = .int .i64 (n : Int)) (hc : a.eval c = .int .i64 (n : Int)) (hn : n ≤ 1000000) (hb : base ≤ w.heap.size)
    (hK : ∀ w', Own w' base (some ⟨w.heap.size, 0, none⟩) n (List.replicate n 0) → w.grownBy w' none → w'.heap.size = w.heap.size + 1 → wpList Try.prog ops Q rest (a.put o.dst (.slice (some ⟨w.heap.size, 0, none⟩) n n)) w') : wpList Try.prog ops Q (o :: rest) a w := by
  obtain ⟨i, hi, hz0, hz1, hz2⟩ := info_parts infoInt
  refine wpList_plain hg fun K hK' => ?_
  have hrun := run_make (P := Try.prog) w 23 3 i (.int .i64 0) Try.underlying23 hi hz0 .i64 .i64 (n : Int) (n : Int) (by omega) (by omega) (by rw [hz2]; omega) (by omega)
  have hcs : (madeCells (Value.int .i64 0).cells (n * 1)).toList = List.replicate n (.int .i64 0) := by
    rw [Nat.mul_one]; exact toList_madeCells_one _ _
  unfold Oper.wp
  rw [hz1] at hrun
  simp only [Int.toNat_natCast] at hrun
  simp [execOp, hop, hl, hc, hrun, Result.andThen]
  refine hK' _ _ (hK _ ⟨?_, ?_⟩ (World.grownBy_alloc _ _ _) (by simp))
  · have := World.ownsRow_lit (e := 3) (size := 1) (base := base) w (madeCells (Value.int .i64 0).cells (n * 1)) n hb (by simp [maxLen]; omega) (by rw [size_madeCells])
    rw [hcs] at this
    simpa using this
  · intro j hj
    simp at hj
    simp [iget, List.getD, hj, in64]
end Go.Proofs.Ytcgaojnfgkfnkaa
