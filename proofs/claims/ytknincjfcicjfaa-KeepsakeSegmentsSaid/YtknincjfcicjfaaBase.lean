/- The readings of slices of integers and of slices of such slices that the walks use, and how they stand when the world grows; no condition. -/
import Derived.Test.YtknincjfcicjfaaRows
import Derived.WalkKit
import Derived.ProofKit
import Derived.OpenShut
import Derived.Handy
import Derived.BigQuiet
import Derived.Deep.QuietTactic
import Derived.Deep.Matrix
import Derived.Lib.Hide
namespace Go.Proofs.Ytknincjfcicjfaa
set_option linter.unusedVariables false
set_option maxRecDepth 100000
set_option linter.unusedSimpArgs false
open Go.ChangeShapes Go.WideShapes Go.ChangeAt Go.RowKit Go.Deep

theorem own : ownKnob Try.prog.godebug = none := by kernel_rfl
theorem laidOut : laidOutB Try.prog = true := by kernel_rfl

/-- Element k of a list of numbers (0 beyond its end); simp does not look behind the name. -/
def iget (xs : List Int) (k : Nat) : Int := xs.getD k 0
/-- Row k of a list of rows. -/
def rget (v : List (List Int)) (k : Nat) : List Int := v.getD k []

theorem iget_of {xs : List Int} {k : Nat} (h : k < xs.length) : iget xs k = xs[k] := by simp [iget, h]
theorem rget_of {v : List (List Int)} {k : Nat} (h : k < v.length) : rget v k = v[k] := by simp [rget, h]
theorem iget_mem {xs : List Int} {k : Nat} (h : k < xs.length) : iget xs k ∈ xs := by rw [iget_of h]; exact List.getElem_mem h
theorem rget_mem {v : List (List Int)} {k : Nat} (h : k < v.length) : rget v k ∈ v := by rw [rget_of h]; exact List.getElem_mem h

def in64 (x : Int) : Prop := -9223372036854775808 ≤ x ∧ x ≤ 9223372036854775807
theorem in64_wf {x : Int} (h : in64 x) : (Lit.int .i64 x).wf = true := WalkArith.wf_i64 h
theorem in64_of_wf {x : Int} (h : (Lit.int .i64 x).wf = true) : in64 x := by
  simp [Lit.wf, IntKind.min, IntKind.max, IntKind.signed, IntKind.bits] at h; exact h

/-- The slice (p, xs.length, c) reads in w as the list xs of ints. -/
structure Ints (w : World) (p : Option Addr) (c : Nat) (xs : List Int) : Prop where
  le : xs.length ≤ c
  max : c ≤ 9223372036854775807
  nil : p = none → c = 0
  plain : ∀ a, p = some a → 0 < c → a.spot = none ∧ a.block < w.heap.size
  cell : ∀ b o, p = some ⟨b, o, none⟩ → ∀ j, j < xs.length → w.cell? ⟨b, o + j, none⟩ = some (.int .i64 (iget xs j))
  rng : ∀ j, j < xs.length → in64 (iget xs j)

theorem Ints.get {w : World} {p : Option Addr} {c : Nat} {xs : List Int} (h : Ints w p c xs) {j : Nat} (hj : j < xs.length) :
    ∃ b o, p = some ⟨b, o, none⟩ ∧ b < w.heap.size ∧ w.cell? ⟨b, o + j, none⟩ = some (.int .i64 (iget xs j)) := by
  cases hp : p with
  | none => have := h.nil hp; have := h.le; omega
  | some a =>
    obtain ⟨b, o, s⟩ := a
    obtain ⟨h1, h2⟩ := h.plain _ hp (by have := h.le; omega)
    simp only at h1; subst h1
    exact ⟨b, o, rfl, h2, h.cell b o hp j hj⟩
theorem Ints.at {w : World} {b o : Nat} {c : Nat} {xs : List Int} (h : Ints w (some ⟨b, o, none⟩) c xs) {j : Nat} (hj : j < xs.length) :
    w.cell? ⟨b, o + j, none⟩ = some (.int .i64 (iget xs j)) := h.cell b o rfl j hj
theorem Ints.length_le {w : World} {p : Option Addr} {c : Nat} {xs : List Int} (h : Ints w p c xs) : xs.length ≤ 9223372036854775807 := Nat.le_trans h.le h.max

theorem Ints.ofNil (w : World) : Ints w none 0 [] :=
  ⟨Nat.le_refl _, by omega, fun _ => rfl, fun _ h => (by cases h), fun _ _ h => (by cases h), fun _ h => (by simp at h)⟩

/-- What keeps every block that the slice reads keeps its reading. -/
theorem Ints.keep {w w' : World} {p : Option Addr} {c : Nat} {xs : List Int} (h : Ints w p c xs) (hs : w.heap.size ≤ w'.heap.size)
    (hb : ∀ a, p = some a → 0 < xs.length → w'.heap[a.block]? = w.heap[a.block]?) : Ints w' p c xs :=
  ⟨h.le, h.max, h.nil, fun a ha hc => ⟨(h.plain a ha hc).1, Nat.lt_of_lt_of_le (h.plain a ha hc).2 hs⟩,
    fun b o hp j hj => (World.cell?_of_block (w := w) (a := ⟨b, o + j, none⟩) (hb ⟨b, o, none⟩ hp (by omega))).trans (h.cell b o hp j hj), h.rng⟩
theorem Ints.below {B : Nat} {w w' : World} {p : Option Addr} {c : Nat} {xs : List Int} (h : Ints w p c xs) (hb : Below B w w') (hB : w.heap.size ≤ B) : Ints w' p c xs :=
  h.keep hb.size fun a ha hc => hb.block _ (Nat.lt_of_lt_of_le (h.plain a ha (by have := h.le; omega)).2 hB)
theorem Ints.drewN {w : World} {p : Option Addr} {c : Nat} {xs : List Int} (h : Ints w p c xs) (n : Nat) : Ints (w.drewN n) p c xs := h.keep (Nat.le_refl _) fun _ _ _ => rfl

/-- The slice (p, v.length, c) reads in w as the list v of rows. -/
structure Mat (w : World) (p : Option Addr) (c : Nat) (v : List (List Int)) : Prop where
  le : v.length ≤ c
  max : c ≤ 9223372036854775807
  nil : p = none → c = 0
  plain : ∀ a, p = some a → 0 < c → a.spot = none ∧ a.block < w.heap.size
  cell : ∀ b o, p = some ⟨b, o, none⟩ → ∀ j, j < v.length → ∃ q d, w.cell? ⟨b, o + j, none⟩ = some (.slice q (rget v j).length d) ∧ Ints w q d (rget v j)

theorem Mat.get {w : World} {p : Option Addr} {c : Nat} {v : List (List Int)} (h : Mat w p c v) {j : Nat} (hj : j < v.length) :
    ∃ b o, p = some ⟨b, o, none⟩ ∧ b < w.heap.size ∧ ∃ q d, w.cell? ⟨b, o + j, none⟩ = some (.slice q (rget v j).length d) ∧ Ints w q d (rget v j) := by
  cases hp : p with
  | none => have := h.nil hp; have := h.le; omega
  | some a =>
    obtain ⟨b, o, s⟩ := a
    obtain ⟨h1, h2⟩ := h.plain _ hp (by have := h.le; omega)
    simp only at h1; subst h1
    exact ⟨b, o, rfl, h2, h.cell b o hp j hj⟩
theorem Mat.at {w : World} {b o : Nat} {c : Nat} {v : List (List Int)} (h : Mat w (some ⟨b, o, none⟩) c v) {j : Nat} (hj : j < v.length) :
    ∃ q d, w.cell? ⟨b, o + j, none⟩ = some (.slice q (rget v j).length d) ∧ Ints w q d (rget v j) := h.cell b o rfl j hj
theorem Mat.length_le {w : World} {p : Option Addr} {c : Nat} {v : List (List Int)} (h : Mat w p c v) : v.length ≤ 9223372036854775807 := Nat.le_trans h.le h.max
theorem Mat.ofNil (w : World) : Mat w none 0 [] :=
  ⟨Nat.le_refl _, by omega, fun _ => rfl, fun _ h => (by cases h), fun _ _ h => (by cases h)⟩

theorem Mat.below {B : Nat} {w w' : World} {p : Option Addr} {c : Nat} {v : List (List Int)} (h : Mat w p c v) (hb : Below B w w') (hB : w.heap.size ≤ B) : Mat w' p c v := by
  refine ⟨h.le, h.max, h.nil, fun a ha hc => ⟨(h.plain a ha hc).1, Nat.lt_of_lt_of_le (h.plain a ha hc).2 hb.size⟩, fun b o hp j hj => ?_⟩
  obtain ⟨q, d, h1, h2⟩ := h.cell b o hp j hj
  have hc : 0 < c := by have := h.le; omega
  exact ⟨q, d, (World.cell?_of_block (w := w) (a := ⟨b, o + j, none⟩) (hb.block _ (Nat.lt_of_lt_of_le (h.plain _ hp hc).2 hB))).trans h1, h2.below hb hB⟩
theorem below_drewN (B : Nat) (w : World) (n : Nat) : Below B w (w.drewN n) := ⟨rfl, rfl, rfl, Nat.le_refl _, fun _ _ => rfl⟩
theorem Mat.drewN {w : World} {p : Option Addr} {c : Nat} {v : List (List Int)} (h : Mat w p c v) (n : Nat) : Mat (w.drewN n) p c v := h.below (below_drewN w.heap.size w n) (Nat.le_refl _)

/-- The world has drawn, and nothing else. -/
def Drew (w w' : World) : Prop := ∃ n, w' = w.drewN n
theorem Drew.refl (w : World) : Drew w w := ⟨0, rfl⟩
theorem Drew.below {w w' : World} (B : Nat) : Drew w w' → Below B w w' | ⟨n, h⟩ => h ▸ below_drewN B w n

theorem snoc_all' {P : Nat → Prop} {k : Nat} (h : ∀ j, j < k → P j) (hk : P k) : ∀ j, j < k + 1 → P j := fun j hj => by
  by_cases e : j = k
  · exact e ▸ hk
  · exact h j (by omega)
theorem drew_refl (w : World) : ∃ n, w = w.drewN n := ⟨0, rfl⟩
theorem drew_drewN {w a : World} (n : Nat) (h : ∃ m, a = w.drewN m) : ∃ m, a.drewN n = w.drewN m := by obtain ⟨m, rfl⟩ := h; exact ⟨m + n, World.drewN_drewN _ _ _⟩
theorem drew_drew {w a : World} (h : ∃ m, a = w.drewN m) : ∃ m, a.drew = w.drewN m := by obtain ⟨m, rfl⟩ := h; exact ⟨m + 1, rfl⟩
theorem drew_trans {w a b : World} (h : ∃ m, a = w.drewN m) (k : ∃ m, b = a.drewN m) : ∃ m, b = w.drewN m := by obtain ⟨m, rfl⟩ := h; obtain ⟨n, rfl⟩ := k; exact ⟨m + n, World.drewN_drewN _ _ _⟩

theorem Ints.drew {w w' : World} {p : Option Addr} {c : Nat} {xs : List Int} (h : Ints w p c xs) (hw : ∃ n, w' = w.drewN n) : Ints w' p c xs := by obtain ⟨n, rfl⟩ := hw; exact h.drewN n
theorem Mat.drew {w w' : World} {p : Option Addr} {c : Nat} {v : List (List Int)} (h : Mat w p c v) (hw : ∃ n, w' = w.drewN n) : Mat w' p c v := by obtain ⟨n, rfl⟩ := hw; exact h.drewN n

theorem _root_.Go.RowKit.Below.drewN' {B : Nat} {a w : World} (h : Below B a w) (n : Nat) : Below B a (w.drewN n) := h.trans (below_drewN B w n)
theorem _root_.Go.RowKit.Below.drewP {B : Nat} {a w w' : World} (h : Below B a w) (hw : ∃ n, w' = w.drewN n) : Below B a w' := by obtain ⟨n, rfl⟩ := hw; exact h.trans (below_drewN B w n)

theorem ret_int {k : IntKind} {a b : Int} (h : a = b) : Ending.returned (.int k a) = .returned (.int k b) := by rw [h]
theorem ret_bool {a b : Bool} (h : a = b) : Ending.returned (.bool a) = .returned (.bool b) := by rw [h]

/-! ### The arguments of a law, as they are read -/
section
variable {H : Type} {enc : TypeId × Value → H} {w : World}
theorem open_intsV {v : Value} {d : DataW H} {ps : List MemPlace} {base : Nat} (hv : Value.okWide Try.prog w .any base 23 v)
    (h : DataW.Trod enc Try.prog w 0 (fun _ => true) true 23 v d ps) : ∃ (p : Option Addr) (c : Nat) (xs : List Int), v = .slice p xs.length c ∧ Ints w p c xs := by
  obtain ⟨a0, len, cap, rfl⟩ := okWide_slice Try.underlying23 hv
  obtain ⟨fuel, hf⟩ := h
  rcases open_ints Try.underlying23 Try.underlying3 (by kernel_rfl) hf with ⟨hcs, _⟩ | ⟨x, l, c, zs, hcs, _, hl, hm, hz, hx, hcell, hwz⟩
  · simp [Value.cells] at hcs
    obtain ⟨rfl, rfl, rfl⟩ := hcs
    exact ⟨none, 0, [], rfl, Ints.ofNil w⟩
  · simp [Value.cells] at hcs
    obtain ⟨rfl, rfl, rfl⟩ := hcs
    simp only [if_true] at hz
    have hl' : (zs.take len).length = len := by simp; omega
    refine ⟨_, cap, zs.take len, by rw [hl'], by omega, hm, fun h => (by cases h), ?_, ?_, ?_⟩
    · rintro a ⟨⟩ hc0
      have h0 := hcell 0 (by omega)
      obtain ⟨b, o, s⟩ := x
      have := World.block_lt_of_cell? _ _ h0
      exact ⟨by simpa [Addr.add] using World.cell?_spot h0, by simpa [Addr.add] using this⟩
    · rintro b o ⟨⟩ j hj
      have := hcell j (by omega)
      rw [hl'] at hj
      rw [add_plain] at this
      simpa [iget, List.getD, hj] using this
    · intro j hj
      rw [iget_of hj]
      exact in64_of_wf (hwz _ (List.mem_of_mem_take (List.getElem_mem hj)))
theorem open_matV {v : Value} {d : DataW H} {ps : List MemPlace} {base : Nat} (hv : Value.okWide Try.prog w .any base 22 v)
    (h : DataW.Trod enc Try.prog w 0 (fun _ => true) true 22 v d ps) : ∃ (p : Option Addr) (c : Nat) (m : List (List Int)), v = .slice p m.length c ∧ Mat w p c m := by
  obtain ⟨a0, len, cap, rfl⟩ := okWide_slice Try.underlying22 hv
  obtain ⟨fuel, hf⟩ := h
  rcases open_int_rows Try.underlying22 Try.underlying23 Try.underlying3 (by kernel_rfl) (by kernel_rfl) hf with ⟨hcs, _⟩ | ⟨x, l, c, A, L, C, Z, hcs, _, hl, hm, _, hrows⟩
  · simp [Value.cells] at hcs
    obtain ⟨rfl, rfl, rfl⟩ := hcs
    exact ⟨none, 0, [], rfl, Mat.ofNil w⟩
  · simp [Value.cells] at hcs
    obtain ⟨rfl, rfl, rfl⟩ := hcs
    have hl' : ((List.range len).map fun r => (Z r).take (L r)).length = len := by simp
    have hr : ∀ j, j < len → rget ((List.range len).map fun r => (Z r).take (L r)) j = (Z j).take (L j) := fun j hj => by simp [rget, hj]
    refine ⟨_, cap, _, by rw [hl'], by omega, hm, fun h => (by cases h), ?_, ?_⟩
    · rintro a ⟨⟩ hc0
      have h0 := (hrows 0 (by omega)).1
      obtain ⟨b, o, s⟩ := x
      have := World.block_lt_of_cell? _ _ h0
      exact ⟨by simpa [Addr.add] using World.cell?_spot h0, by simpa [Addr.add] using this⟩
    · rintro b o ⟨⟩ j hj
      rw [hl'] at hj
      obtain ⟨h1, h2, h3, h4, h5, h6, h7⟩ := hrows j (by omega)
      have hl2 : ((Z j).take (L j)).length = L j := by simp; omega
      refine ⟨A j, C j, by rw [hr j hj, hl2, ← add_plain]; exact h1, ?_⟩
      rw [hr j hj]
      refine ⟨by omega, h3, h6, ?_, ?_, ?_⟩
      · intro a' ha' hc0
        have h0 := (h7 a' ha').2 0 hc0
        obtain ⟨b', o', s'⟩ := a'
        have := World.block_lt_of_cell? _ _ h0
        exact ⟨by simpa [Addr.add] using World.cell?_spot h0, by simpa [Addr.add] using this⟩
      · intro b' o' hp i hi
        have := (h7 _ hp).2 i (by omega)
        rw [hl2] at hi
        rw [add_plain] at this
        simpa [iget, List.getD, hi] using this
      · intro i hi
        rw [iget_of hi]
        exact in64_of_wf (h5 _ (List.mem_of_mem_take (List.getElem_mem hi)))
end
end Go.Proofs.Ytknincjfcicjfaa
