/- The readings of slices of integers and of slices of such slices that the walks use, and how they stand when the world grows; no condition. -/
import Derived.Test.YtmcncflieoolmaaRows
import Derived.WalkKit
import Derived.ProofKit
import Derived.OpenShut
import Derived.Handy
import Derived.BigQuiet
import Derived.Deep.QuietTactic
import Derived.Deep.Matrix
import Derived.Lib.Hide
namespace Go.Proofs.Ytmcncflieoolmaa
set_option linter.unusedVariables false
set_option maxRecDepth 100000
set_option linter.unusedSimpArgs false
open Go.ChangeShapes Go.WideShapes Go.ChangeAt Go.RowKit Go.Deep

theorem own : ownKnob Try.prog.godebug = none := by kernel_rfl
theorem laidOut : laidOutB Try.prog = true := by kernel_rfl

/-- Element k of a list of numbers (0 beyond its end); simp does not look behind the name. -/
def iget (xs : List Int) (k : Nat) : Int := xs.getD k 0
/-- Row k of a list of rows. -/
def rget (v : List (List Int)) (k : Nat) : List Int := v.getD k []

theorem iget_of {xs : List Int} {k : Nat} (h : k < xs.length) : iget xs k = xs[k] := by simp [iget, h]
theorem rget_of {v : List (List Int)} {k : Nat} (h : k < v.length) : rget v k = v[k] := by simp [rget, h]
theorem iget_mem {xs : List Int} {k : Nat} (h : k < xs.length) : iget xs k ∈ xs := by rw [iget_of h]; exact List.getElem_mem h
theorem rget_mem {v : List (List Int)} {k : Nat} (h : k < v.length) : rget v k ∈ v := by rw [rget_of h]; exact List.getElem_mem h

def in64 (x : Int) : Prop := -9223372036854775808 ≤ x ∧ x ≤ 9223372036854775807
theorem in64_wf {x : Int} (h : in64 x) : (Lit.int .i64 x).wf = true := WalkArith.wf_i64 h
theorem in64_of_wf {x : Int} (h : (Lit.int .i64 x).wf = true) : in64 x := by
  simp [Lit.wf, IntKind.min, IntKind.max, IntKind.signed, IntKind.bits] at h; exact h

/-- The slice (p, xs.length, c) reads in w as the list xs of ints. -/
structure Ints (w : World) (p : Option Addr) (c : Nat) (xs : List Int) : Prop where
  le : xs.length ≤ c
  max : c ≤ 9223372036854775807
  nil : p = none → c = 0
  plain : ∀ a, p = some a → 0 < c → a.spot = none ∧ a.block < w.heap.size
  cell : ∀ b o, p = some ⟨b, o, none⟩ → ∀ j, j < xs.length → w.cell? ⟨b, o + j, none⟩ = some (.int .i64 (iget xs j))
  rng : ∀ j, j < xs.length → in64 (iget xs j)

theorem Ints.get {w : World} {p : Option Addr} {c : Nat} {xs : List Int} (h : Ints w p c xs) {j : Nat} (hj : j < xs.length) :
    ∃ b o, p = some ⟨b, o, none⟩ ∧ b < w.heap.size ∧ w.cell? ⟨b, o + j, none⟩ = some (.int .i64 (iget xs j)) := by
  cases hp : p with
  | none => have := h.nil hp; have := h.le; omega
  | some a =>
    obtain ⟨b, o, s⟩ := a
    obtain ⟨h1, h2⟩ := h.plain _ hp (by have := h.le; omega)
    simp only at h1; subst h1
    exact ⟨b, o, rfl, h2, h.cell b o hp j hj⟩
theorem Ints.at {w : World} {b o : Nat} {c : Nat} {xs : List Int} (h : Ints w (some ⟨b, o, none⟩) c xs) {j : Nat} (hj : j < xs.length) :
    w.cell? ⟨b, o + j, none⟩ = some (.int .i64 (iget xs j)) := h.cell b o rfl j hj
theorem Ints.length_le {w : World} {p : Option Addr} {c : Nat} {xs : List Int} (h : Ints w p c xs) : xs.length ≤ 9223372036854775807 := Nat.le_trans h.le h.max

theorem Ints.ofNil (w : World) : Ints w none 0 [] :=
  ⟨Nat.le_refl _, by omega, fun _ => rfl, fun _ h => (by cases h), fun _ _ h => (by cases h), fun _ h => (by simp at h)⟩

/-- What keeps every block that the slice reads keeps its reading. -/
theorem Ints.keep {w w' : World} {p : Option Addr} {c : Nat} {xs : List Int} (h : Ints w p c xs) (hs : w.heap.size ≤ w'.heap.size)
    (hb : ∀ a, p = some a → 0 < xs.length → w'.heap[a.block]? = w.heap[a.block]?) : Ints w' p c xs :=
  ⟨h.le, h.max, h.nil, fun a ha hc => ⟨(h.plain a ha hc).1, Nat.lt_of_lt_of_le (h.plain a ha hc).2 hs⟩,
    fun b o hp j hj => (World.cell?_of_block (w := w) (a := ⟨b, o + j, none⟩) (hb ⟨b, o, none⟩ hp (by omega))).trans (h.cell b o hp j hj), h.rng⟩
theorem Ints.below {B : Nat} {w w' : World} {p : Option Addr} {c : Nat} {xs : List Int} (h : Ints w p c xs) (hb : Below B w w') (hB : w.heap.size ≤ B) : Ints w' p c xs :=
  h.keep hb.size fun a ha hc => hb.block _ (Nat.lt_of_lt_of_le (h.plain a ha (by have := h.le; omega)).2 hB)
theorem Ints.drewN {w : World} {p : Option Addr} {c : Nat} {xs : List Int} (h : Ints w p c xs) (n : Nat) : Ints (w.drewN n) p c xs := h.keep (Nat.le_refl _) fun _ _ _ => rfl

/-- The slice (p, v.length, c) reads in w as the list v of rows. -/
structure Mat (w : World) (p : Option Addr) (c : Nat) (v : List (List Int)) : Prop where
  le : v.length ≤ c
  max : c ≤ 9223372036854775807
  nil : p = none → c = 0
  plain : ∀ a, p = some a → 0 < c → a.spot = none ∧ a.block < w.heap.size
  cell : ∀ b o, p = some ⟨b, o, none⟩ → ∀ j, j < v.length → ∃ q d, w.cell? ⟨b, o + j, none⟩ = some (.slice q (rget v j).length d) ∧ Ints w q d (rget v j)

theorem Mat.get {w : World} {p : Option Addr} {c : Nat} {v : List (List Int)} (h : Mat w p c v) {j : Nat} (hj : j < v.length) :
    ∃ b o, p = some ⟨b, o, none⟩ ∧ b < w.heap.size ∧ ∃ q d, w.cell? ⟨b, o + j, none⟩ = some (.slice q (rget v j).length d) ∧ Ints w q d (rget v j) := by
  cases hp : p with
  | none => have := h.nil hp; have := h.le; omega
  | some a =>
    obtain ⟨b, o, s⟩ := a
    obtain ⟨h1, h2⟩ := h.plain _ hp (by have := h.le; omega)
    simp only at h1; subst h1
    exact ⟨b, o, rfl, h2, h.cell b o hp j hj⟩
theorem Mat.at {w : World} {b o : Nat} {c : Nat} {v : List (List Int)} (h : Mat w (some ⟨b, o, none⟩) c v) {j : Nat} (hj : j < v.length) :
    ∃ q d, w.cell? ⟨b, o + j, none⟩ = some (.slice q (rget v j).length d) ∧ Ints w q d (rget v j) := h.cell b o rfl j hj
theorem Mat.length_le {w : World} {p : Option Addr} {c : Nat} {v : List (List Int)} (h : Mat w p c v) : v.length ≤ 9223372036854775807 := Nat.le_trans h.le h.max
theorem Mat.ofNil (w : World) : Mat w none 0 [] :=
  ⟨Nat.le_refl _, by omega, fun _ => rfl, fun _ h => (by cases h), fun _ _ h => (by cases h)⟩

theorem Mat.below {B : Nat} {w w' : World} {p : Option Addr} {c : Nat} {v : List (List Int)} (h : Mat w p c v) (hb : Below B w w') (hB : w.heap.size ≤ B) : Mat w' p c v := by
  refine ⟨h.le, h.max, h.nil, fun a ha hc => ⟨(h.plain a ha hc).1, Nat.lt_of_lt_of_le (h.plain a ha hc).2 hb.size⟩, fun b o hp j hj => ?_⟩
  obtain ⟨q, d, h1, h2⟩ := h.cell b o hp j hj
  have hc : 0 < c := by have := h.le; omega
  exact ⟨q, d, (World.cell?_of_block (w := w) (a := ⟨b, o + j, none⟩) (hb.block _ (Nat.lt_of_lt_of_le (h.plain _ hp hc).2 hB))).trans h1, h2.below hb hB⟩
theorem below_drewN (B : Nat) (w : World) (n : Nat) : Below B w (w.drewN n) := ⟨rfl, rfl, rfl, Nat.le_refl _, fun _ _ => rfl⟩
theorem Mat.drewN {w : World} {p : Option Addr} {c : Nat} {v : List (List Int)} (h : Mat w p c v) (n : Nat) : Mat (w.drewN n) p c v := h.below (below_drewN w.heap.size w n) (Nat.le_refl _)

/-- The world has drawn, and nothing else. -/
def Drew (w w' : World) : Prop := ∃ n, w' = w.drewN n
theorem Drew.refl (w : World) : Drew w w := ⟨0, rfl⟩
theorem Drew.below {w w' : World} (B : Nat) : Drew w w' → Below B w w' | ⟨n, h⟩ => h ▸ below_drewN B w n

theorem snoc_all' {P : Nat → Prop} {k : Nat} (h : ∀ j, j < k → P j) (hk : P k) : ∀ j, j < k + 1 → P j := fun j hj => by
  by_cases e : j = k
  · exact e ▸ hk
  · exact h j (by omega)
theorem drew_refl (w : World) : ∃ n, w = w.drewN n := ⟨0, rfl⟩
theorem drew_drewN {w a : World} (n : Nat) (h : ∃ m, a = w.drewN m) : ∃ m, a.drewN n = w.drewN m := by obtain ⟨m, rfl⟩ := h; exact ⟨m + n, World.drewN_drewN _ _ _⟩
theorem drew_drew {w a : World} (h : ∃ m, a = w.drewN m) : ∃ m, a.drew = w.drewN m := by obtain ⟨m, rfl⟩ := h; exact ⟨m + 1, rfl⟩
theorem drew_trans {w a b : World} (h : ∃ m, a = w.drewN m) (k : ∃ m, b = a.drewN m) : ∃ m, b = w.drewN m := by obtain ⟨m, rfl⟩ := h; obtain ⟨n, rfl⟩ := k; exact ⟨m + n, World.drewN_drewN _ _ _⟩

theorem Ints.drew {w w' : World} {p : Option Addr} {c : Nat} {xs : List Int} (h : Ints w p c xs) (hw : ∃ n, w' = w.drewN n) : Ints w' p c xs := by obtain ⟨n, rfl⟩ := hw; exact h.drewN n
theorem Mat.drew {w w' : World} {p : Option Addr} {c : Nat} {v : List (List Int)} (h : Mat w p c v) (hw : ∃ n, w' = w.drewN n) : Mat w' p c v := by obtain ⟨n, rfl⟩ := hw; exact h.drewN n

theorem _root_.Go.RowKit.Below.drewN' {B : Nat} {a w : World} (h : Below B a w) (n : Nat) : Below B a (w.drewN n) := h.trans (below_drewN B w n)
theorem _root_.Go.RowKit.Below.drewP {B : Nat} {a w w' : World} (h : Below B a w) (hw : ∃ n, w' = w.drewN n) : Below B a w' := by obtain ⟨n, rfl⟩ := hw; exact h.trans (below_drewN B w n)

theorem ret_int {k : IntKind} {a b : Int} (h : a = b) : Ending.returned (.int k a) = .returned (.int k b) := by rw [h]
theorem ret_bool {a b : Bool} (h : a = b) : Ending.returned (.bool a) = .returned (.bool b) := by rw [h]

/-! ### The arguments of a law, as they are read -/
section
variable {H : Type} {enc : TypeId × Value → H} {w : World}
theorem open_intsV {v : Value} {d : DataW H} {ps : List MemPlace} {base : Nat} (hv : Value.okWide Try.prog w .any base 27 v)
    (h : DataW.Trod enc Try.prog w 0 (fun _ => true) true 27 v d ps) : ∃ (p : Option Addr) (c : Nat) (xs : List Int), v = .slice p xs.length c ∧ Ints w p c xs := by
  obtain ⟨a0, len, cap, rfl⟩ := okWide_slice Try.underlying27 hv
  obtain ⟨fuel, hf⟩ := h
  rcases open_ints Try.underlying27 Try.underlying3 (by kernel_rfl) hf with ⟨hcs, _⟩ | ⟨x, l, c, zs, hcs, _, hl, hm, hz, hx, hcell, hwz⟩
  · simp [Value.cells] at hcs
    obtain ⟨rfl, rfl, rfl⟩ := hcs
    exact ⟨none, 0, [], rfl, Ints.ofNil w⟩
  · simp [Value.cells] at hcs
    obtain ⟨rfl, rfl, rfl⟩ := hcs
    simp only [if_true] at hz
    have hl' : (zs.take len).length = len := by simp; omega
    refine ⟨_, cap, zs.take len, by rw [hl'], by omega, hm, fun h => (by cases h), ?_, ?_, ?_⟩
    · rintro a ⟨⟩ hc0
      have h0 := hcell 0 (by omega)
      obtain ⟨b, o, s⟩ := x
      have := World.block_lt_of_cell? _ _ h0
      exact ⟨by simpa [Addr.add] using World.cell?_spot h0, by simpa [Addr.add] using this⟩
    · rintro b o ⟨⟩ j hj
      have := hcell j (by omega)
      rw [hl'] at hj
      rw [add_plain] at this
      simpa [iget, List.getD, hj] using this
    · intro j hj
      rw [iget_of hj]
      exact in64_of_wf (hwz _ (List.mem_of_mem_take (List.getElem_mem hj)))
theorem open_matV {v : Value} {d : DataW H} {ps : List MemPlace} {base : Nat} (hv : Value.okWide Try.prog w .any base 22 v)
    (h : DataW.Trod enc Try.prog w 0 (fun _ => true) true 22 v d ps) : ∃ (p : Option Addr) (c : Nat) (m : List (List Int)), v = .slice p m.length c ∧ Mat w p c m := by
  obtain ⟨a0, len, cap, rfl⟩ := okWide_slice Try.underlying22 hv
  obtain ⟨fuel, hf⟩ := h
  rcases open_int_rows Try.underlying22 Try.underlying27 Try.underlying3 (by kernel_rfl) (by kernel_rfl) hf with ⟨hcs, _⟩ | ⟨x, l, c, A, L, C, Z, hcs, _, hl, hm, _, hrows⟩
  · simp [Value.cells] at hcs
    obtain ⟨rfl, rfl, rfl⟩ := hcs
    exact ⟨none, 0, [], rfl, Mat.ofNil w⟩
  · simp [Value.cells] at hcs
    obtain ⟨rfl, rfl, rfl⟩ := hcs
    have hl' : ((List.range len).map fun r => (Z r).take (L r)).length = len := by simp
    have hr : ∀ j, j < len → rget ((List.range len).map fun r => (Z r).take (L r)) j = (Z j).take (L j) := fun j hj => by simp [rget, hj]
    refine ⟨_, cap, _, by rw [hl'], by omega, hm, fun h => (by cases h), ?_, ?_⟩
    · rintro a ⟨⟩ hc0
      have h0 := (hrows 0 (by omega)).1
      obtain ⟨b, o, s⟩ := x
      have := World.block_lt_of_cell? _ _ h0
      exact ⟨by simpa [Addr.add] using World.cell?_spot h0, by simpa [Addr.add] using this⟩
    · rintro b o ⟨⟩ j hj
      rw [hl'] at hj
      obtain ⟨h1, h2, h3, h4, h5, h6, h7⟩ := hrows j (by omega)
      have hl2 : ((Z j).take (L j)).length = L j := by simp; omega
      refine ⟨A j, C j, by rw [hr j hj, hl2, ← add_plain]; exact h1, ?_⟩
      rw [hr j hj]
      refine ⟨by omega, h3, h6, ?_, ?_, ?_⟩
      · intro a' ha' hc0
        have h0 := (h7 a' ha').2 0 hc0
        obtain ⟨b', o', s'⟩ := a'
        have := World.block_lt_of_cell? _ _ h0
        exact ⟨by simpa [Addr.add] using World.cell?_spot h0, by simpa [Addr.add] using this⟩
      · intro b' o' hp i hi
        have := (h7 _ hp).2 i (by omega)
        rw [hl2] at hi
        rw [add_plain] at this
        simpa [iget, List.getD, hi] using this
      · intro i hi
        rw [iget_of hi]
        exact in64_of_wf (h5 _ (List.mem_of_mem_take (List.getElem_mem hi)))
end
end Go.Proofs.Ytmcncflieoolmaa

/- The plain words of chapter 13: valid bids, assignments, their worth, prices; no program in sight. -/
namespace Go.Proofs.Ytmcncflieoolmaa
set_option linter.unusedVariables false
set_option linter.unusedSimpArgs false

theorem dec_congr {p q : Prop} [Decidable p] [Decidable q] (h : p ↔ q) : decide p = decide q := by rw [Bool.eq_iff_iff, decide_eq_true_iff, decide_eq_true_iff]; exact h

def Bids (v : List (List Int)) : Prop := 0 < v.length ∧ v.length ≤ 6 ∧ ∀ i, i < v.length → (rget v i).length = v.length ∧ ∀ j, j < v.length → 0 ≤ iget (rget v i) j ∧ iget (rget v i) j ≤ 1000000
instance (v : List (List Int)) : Decidable (Bids v) := by unfold Bids; infer_instance
/-- What Check answers. -/
def chkI (v : List (List Int)) : Int := if 6 < v.length then 4 else if Bids v then 0 else 8
theorem chkI_bids {v : List (List Int)} (h : Bids v) : chkI v = 0 := by unfold chkI; rw [if_neg (by have := h.2.1; omega), if_pos h]
theorem chkI_zero {v : List (List Int)} : chkI v = 0 ↔ Bids v := by
  constructor
  · intro h
    unfold chkI at h
    by_cases h6 : 6 < v.length
    · simp [h6] at h
    · by_cases hb : Bids v
      · exact hb
      · simp [h6, hb] at h
  · exact chkI_bids
theorem chkI_many {v : List (List Int)} (h : 6 < v.length) : chkI v = 4 := by simp [chkI, h]
theorem chkI_bad {v : List (List Int)} (h : ¬ 6 < v.length) (hb : ¬ Bids v) : chkI v = 8 := by simp [chkI, h, hb]

def GreatP (v : List (List Int)) : Prop := (∃ i, i < v.length ∧ i < 20 ∧ 50 < (rget v i).length) ∨ v.length = 6 ∨ 20 < v.length
instance (v : List (List Int)) : Decidable (GreatP v) := by
  have : Decidable (∃ i, i < v.length ∧ i < 20 ∧ 50 < (rget v i).length) := decidable_of_iff (∃ i, ∃ _ : i < v.length, i < 20 ∧ 50 < (rget v i).length) ⟨fun ⟨i, h, h'⟩ => ⟨i, h, h'⟩, fun ⟨i, h, h'⟩ => ⟨i, h, h'⟩⟩
  unfold GreatP; infer_instance
def greatB (v : List (List Int)) : Bool := decide (GreatP v)

/-- A list that has each number below n once. -/
def IsA (a : List Int) (n : Nat) : Prop := a.length = n ∧ ∀ j, j < n → a.count (j : Int) = 1
instance (a : List Int) (n : Nat) : Decidable (IsA a n) := by unfold IsA; infer_instance
def isAB (a : List Int) (n : Nat) : Bool := decide (IsA a n)

theorem count_take_succ (a : List Int) (k : Nat) (j : Int) (h : k < a.length) : (a.take (k + 1)).count j = (a.take k).count j + if iget a k = j then 1 else 0 := by
  rw [List.take_succ_eq_append_getElem h, List.count_append, iget_of h]
  simp [List.count_singleton]

/-- The sum of f 0 .. f (n - 1). -/
def sumTo (f : Nat → Int) : Nat → Int
  | 0 => 0
  | n + 1 => sumTo f n + f n
/-- What agent i bids for item j. -/
def bid (v : List (List Int)) (i j : Nat) : Int := iget (rget v i) j
/-- The item of agent i. -/
def itm (a : List Int) (i : Nat) : Nat := (iget a i).toNat
def worthI (v : List (List Int)) (a : List Int) : Int := sumTo (fun i => bid v i (itm a i)) a.length

def PricedP (p : List Int) (n : Nat) : Prop := p.length = n ∧ ∀ j, j < p.length → 0 ≤ iget p j ∧ iget p j ≤ 10000000
instance (p : List Int) (n : Nat) : Decidable (PricedP p n) := by unfold PricedP; infer_instance
def pricedB (p : List Int) (n : Nat) : Bool := decide (PricedP p n)
def ContentP (v : List (List Int)) (a p : List Int) : Prop := ∀ i, i < v.length → ∀ j, j < v.length → bid v i j - iget p j ≤ bid v i (itm a i) - iget p (itm a i)
instance (v : List (List Int)) (a p : List Int) : Decidable (ContentP v a p) := by unfold ContentP; infer_instance
def contentB (v : List (List Int)) (a p : List Int) : Bool := decide (ContentP v a p)

theorem sumTo_bound {f : Nat → Int} {m : Int} {n : Nat} (h : ∀ i, i < n → 0 ≤ f i ∧ f i ≤ m) : ∀ k, k ≤ n → 0 ≤ sumTo f k ∧ sumTo f k ≤ m * k := by
  intro k
  induction k with
  | zero => intro _; simp [sumTo]
  | succ k ih =>
    intro hk
    have h1 := ih (by omega)
    have h2 := h k (by omega)
    simp only [sumTo]
    have : m * ((k + 1 : Nat) : Int) = m * k + m := by rw [Int.natCast_succ, Int.mul_add, Int.mul_one]
    omega
end Go.Proofs.Ytmcncflieoolmaa

/- Assignments as permutations, and what optimality says of cycles; plain, no program. -/
namespace Go.Proofs.Ytmcncflieoolmaa
set_option linter.unusedVariables false
set_option linter.unusedSimpArgs false

/-! ### Sums -/
theorem sumTo_congr {f g : Nat → Int} {n : Nat} (h : ∀ i, i < n → f i = g i) : sumTo f n = sumTo g n := by
  induction n with
  | zero => rfl
  | succ n ih => simp only [sumTo]; rw [ih (fun i hi => h i (by omega)), h n (by omega)]
theorem sumTo_add (f g : Nat → Int) (n : Nat) : sumTo (fun i => f i + g i) n = sumTo f n + sumTo g n := by
  induction n with
  | zero => rfl
  | succ n ih => simp only [sumTo]; omega
theorem sumTo_sub (f g : Nat → Int) (n : Nat) : sumTo (fun i => f i - g i) n = sumTo f n - sumTo g n := by
  induction n with
  | zero => rfl
  | succ n ih => simp only [sumTo]; omega
theorem sumTo_le {f g : Nat → Int} {n : Nat} (h : ∀ i, i < n → f i ≤ g i) : sumTo f n ≤ sumTo g n := by
  induction n with
  | zero => exact Int.le_refl _
  | succ n ih =>
    simp only [sumTo]
    have := ih (fun i hi => h i (by omega))
    have := h n (by omega)
    omega
theorem sumTo_nonneg {f : Nat → Int} {n : Nat} (h : ∀ i, i < n → 0 ≤ f i) : 0 ≤ sumTo f n := by
  have := sumTo_le (f := fun _ => 0) (g := f) h
  have h0 : ∀ n, sumTo (fun _ => 0) n = 0 := by intro n; induction n with | zero => rfl | succ n ih => simp [sumTo, ih]
  rw [h0] at this; exact this
theorem sumTo_const (x : Int) (n : Nat) : sumTo (fun _ => x) n = x * n := by
  induction n with
  | zero => simp [sumTo]
  | succ n ih => simp only [sumTo]; rw [ih, Int.natCast_succ, Int.mul_add, Int.mul_one]
theorem sumTo_mul (f : Nat → Int) (x : Int) (n : Nat) : sumTo (fun i => x * f i) n = x * sumTo f n := by
  induction n with
  | zero => simp [sumTo]
  | succ n ih => simp only [sumTo]; rw [ih, Int.mul_add]
theorem sumTo_update (f : Nat → Int) (a : Nat) (y : Int) {n : Nat} (h : a < n) : sumTo (fun x => if x = a then y else f x) n = sumTo f n - f a + y := by
  induction n with
  | zero => omega
  | succ n ih =>
    simp only [sumTo]
    by_cases e : a = n
    · subst e
      rw [sumTo_congr (g := f) (fun i hi => by rw [if_neg (by omega)])]
      simp only [if_true]; omega
    · rw [ih (by omega), if_neg (by omega)]; omega
theorem sumTo_single_le {f : Nat → Int} {n : Nat} (h : ∀ i, i < n → 0 ≤ f i) {k : Nat} (hk : k < n) : f k ≤ sumTo f n := by
  have := sumTo_update f k 0 hk
  have h2 : 0 ≤ sumTo (fun x => if x = k then 0 else f x) n := sumTo_nonneg (fun i hi => by split <;> simp [h i hi])
  omega
theorem sumTo_list (f : Nat → Int) (n : Nat) : sumTo f n = ((List.range n).map f).sum := by
  induction n with
  | zero => rfl
  | succ n ih => rw [List.range_succ, List.map_append, List.sum_append_int, ← ih]; simp [sumTo]
theorem perm_sum {l m : List Int} (h : l.Perm m) : l.sum = m.sum := by
  induction h with
  | nil => rfl
  | cons x _ ih => simp [ih]
  | swap x y l => simp only [List.sum_cons]; omega
  | trans _ _ h1 h2 => exact h1.trans h2

/-! ### Permutations of the numbers below n -/
structure Per (n : Nat) (s : Nat → Nat) : Prop where
  lt : ∀ i, i < n → s i < n
  inj : ∀ i j, i < n → j < n → s i = s j → i = j

theorem Per.nodup {n : Nat} {s : Nat → Nat} (h : Per n s) : ((List.range n).map s).Nodup := by
  rw [List.nodup_iff_pairwise_ne, List.pairwise_map]
  have := List.nodup_range (n := n)
  rw [List.nodup_iff_pairwise_ne] at this
  refine List.Pairwise.imp_of_mem ?_ this
  intro a b ha hb hne e
  exact hne (h.inj a b (List.mem_range.1 ha) (List.mem_range.1 hb) e)
theorem Per.surj {n : Nat} {s : Nat → Nat} (h : Per n s) {j : Nat} (hj : j < n) : ∃ i, i < n ∧ s i = j := by
  apply Classical.byContradiction
  intro hc
  have hm : j ∉ (List.range n).map s := fun hm => by
    obtain ⟨i, hi, e⟩ := List.mem_map.1 hm
    exact hc ⟨i, List.mem_range.1 hi, e⟩
  have h1 : (j :: (List.range n).map s).Nodup := List.nodup_cons.2 ⟨hm, h.nodup⟩
  have h2 : (j :: (List.range n).map s).length ≤ (List.range n).length := h1.length_le_of_subset (by
    intro x hx
    rcases List.mem_cons.1 hx with rfl | hx
    · exact List.mem_range.2 hj
    · obtain ⟨i, hi, e⟩ := List.mem_map.1 hx
      exact List.mem_range.2 (e ▸ h.lt i (List.mem_range.1 hi)))
  simp at h2
  omega
theorem Per.perm {n : Nat} {s : Nat → Nat} (h : Per n s) : ((List.range n).map s).Perm (List.range n) := by
  rw [List.perm_ext_iff_of_nodup h.nodup List.nodup_range]
  intro a
  rw [List.mem_map, List.mem_range]
  constructor
  · rintro ⟨i, hi, rfl⟩; exact h.lt i (List.mem_range.1 hi)
  · intro ha; obtain ⟨i, hi, e⟩ := h.surj ha; exact ⟨i, List.mem_range.2 hi, e⟩
theorem Per.sum {n : Nat} {s : Nat → Nat} (h : Per n s) (f : Nat → Int) : sumTo (fun i => f (s i)) n = sumTo f n := by
  rw [sumTo_list, sumTo_list, ← perm_sum (h.perm.map f), List.map_map]; rfl
theorem Per.id (n : Nat) : Per n (fun i => i) := ⟨fun _ h => h, fun _ _ _ _ e => e⟩
theorem Per.comp {n : Nat} {s t : Nat → Nat} (h : Per n s) (k : Per n t) : Per n (fun i => t (s i)) := ⟨fun i hi => k.lt _ (h.lt i hi), fun i j hi hj e => h.inj i j hi hj (k.inj _ _ (h.lt i hi) (h.lt j hj) e)⟩
theorem Per.congr {n : Nat} {s t : Nat → Nat} (h : Per n s) (e : ∀ i, i < n → t i = s i) : Per n t := ⟨fun i hi => by rw [e i hi]; exact h.lt i hi, fun i j hi hj ee => h.inj i j hi hj (by rw [← e i hi, ← e j hj]; exact ee)⟩
/-- The inverse of a permutation. -/
noncomputable def inv (n : Nat) (s : Nat → Nat) (j : Nat) : Nat := if h : ∃ i, i < n ∧ s i = j then h.choose else 0
theorem Per.inv_spec {n : Nat} {s : Nat → Nat} (h : Per n s) {j : Nat} (hj : j < n) : inv n s j < n ∧ s (inv n s j) = j := by
  have := h.surj hj
  unfold inv; rw [dif_pos this]; exact this.choose_spec
theorem Per.inv_of {n : Nat} {s : Nat → Nat} (h : Per n s) {i : Nat} (hi : i < n) : inv n s (s i) = i := by
  have := h.inv_spec (h.lt i hi)
  exact h.inj _ _ this.1 hi this.2

/-! ### Values -/
def val (c : Nat → Nat → Int) (n : Nat) (s : Nat → Nat) : Int := sumTo (fun i => c i (s i)) n
theorem val_congr {c : Nat → Nat → Int} {n : Nat} {s t : Nat → Nat} (h : ∀ i, i < n → s i = t i) : val c n s = val c n t := sumTo_congr fun i hi => by rw [h i hi]
/-- What the owner of item x bids more for y. -/
noncomputable def wt (c : Nat → Nat → Int) (n : Nat) (s : Nat → Nat) (x y : Nat) : Int := c (inv n s x) y - c (inv n s x) x
theorem wt_self (c : Nat → Nat → Int) (n : Nat) (s : Nat → Nat) (x : Nat) : wt c n s x x = 0 := by simp [wt]
/-- How the value changes where each owner's item moves along a permutation of items. -/
theorem val_comp {c : Nat → Nat → Int} {n : Nat} {s ρ : Nat → Nat} (h : Per n s) : val c n (fun i => ρ (s i)) = val c n s + sumTo (fun x => wt c n s x (ρ x)) n := by
  have h1 := h.sum (fun x => wt c n s x (ρ x))
  rw [← h1]
  unfold val
  rw [← sumTo_add]
  refine sumTo_congr fun i hi => ?_
  simp only [wt, h.inv_of hi]
  omega

/-! ### Paths and cycles -/
def psum (w : Nat → Nat → Int) : Nat → List Nat → Int
  | _, [] => 0
  | x, y :: L => w x y + psum w y L
def lastOf : Nat → List Nat → Nat
  | x, [] => x
  | _, y :: L => lastOf y L
/-- A path of different nodes below n. -/
structure Simple (n : Nat) (x : Nat) (L : List Nat) : Prop where
  nodup : (x :: L).Nodup
  lt : ∀ y, y ∈ x :: L → y < n
theorem Simple.tail {n x y : Nat} {L : List Nat} (h : Simple n x (y :: L)) : Simple n y L := ⟨(List.nodup_cons.1 h.nodup).2, fun z hz => h.lt z (List.mem_cons_of_mem _ hz)⟩
theorem lastOf_mem (x : Nat) (L : List Nat) : lastOf x L ∈ x :: L := by
  induction L generalizing x with
  | nil => simp [lastOf]
  | cons y L ih => exact List.mem_cons_of_mem _ (ih y)

/-- Every simple cycle is a permutation that moves its nodes along, and no others. -/
theorem cycle_perm (n : Nat) : ∀ (L : List Nat) (x : Nat), Simple n x L → ∃ ρ, Per n ρ ∧ ρ (lastOf x L) = x ∧ (∀ z, z ∉ x :: L → ρ z = z) ∧
    ∀ w : Nat → Nat → Int, (∀ z, w z z = 0) → sumTo (fun z => w z (ρ z)) n = psum w x L + w (lastOf x L) x := by
  intro L
  induction L with
  | nil =>
    intro x hx
    refine ⟨fun z => z, Per.id n, rfl, fun _ _ => rfl, fun w hw => ?_⟩
    rw [sumTo_congr (g := fun _ => 0) (fun i _ => hw i), sumTo_const]
    simp [psum, lastOf, hw]
  | cons y L ih =>
    intro x hx
    obtain ⟨ρ, hρ, h1, h2, h3⟩ := ih y hx.tail
    have hxn : x < n := hx.lt x (by simp)
    have hx0 : x ∉ y :: L := (List.nodup_cons.1 hx.nodup).1
    have hlm : lastOf y L ∈ y :: L := lastOf_mem y L
    have hln : lastOf y L < n := hx.tail.lt _ hlm
    have hlx : lastOf y L ≠ x := fun e => hx0 (e ▸ hlm)
    have hyn : y < n := hx.tail.lt y (by simp)
    have hxy : x ≠ y := fun e => hx0 (e ▸ by simp)
    have hρx : ρ x = x := h2 x hx0
    refine ⟨fun z => if z = lastOf y L then x else if z = x then y else ρ z, ⟨?_, ?_⟩, ?_, ?_, ?_⟩
    · intro i hi
      split
      · exact hxn
      · split
        · exact hyn
        · exact hρ.lt i hi
    · intro i j hi hj e
      have hne : ∀ k, k < n → k ≠ x → ρ k ≠ x := fun k hk hkx ek => hkx (hρ.inj k x hk hxn (by rw [ek, hρx]))
      have hne2 : ∀ k, k < n → k ≠ lastOf y L → ρ k ≠ y := fun k hk hkl ek => hkl (hρ.inj k _ hk hln (by rw [ek, h1]))
      by_cases i1 : i = lastOf y L
      · by_cases j1 : j = lastOf y L
        · rw [i1, j1]
        · by_cases j2 : j = x
          · rw [if_pos i1, if_neg j1, if_pos j2] at e; exact absurd e hxy
          · rw [if_pos i1, if_neg j1, if_neg j2] at e; exact absurd e.symm (hne j hj j2)
      · by_cases j1 : j = lastOf y L
        · by_cases i2 : i = x
          · rw [if_neg i1, if_pos i2, if_pos j1] at e; exact absurd e.symm hxy
          · rw [if_neg i1, if_neg i2, if_pos j1] at e; exact absurd e (hne i hi i2)
        · by_cases i2 : i = x
          · by_cases j2 : j = x
            · rw [i2, j2]
            · rw [if_neg i1, if_pos i2, if_neg j1, if_neg j2] at e; exact absurd e.symm (hne2 j hj j1)
          · by_cases j2 : j = x
            · rw [if_neg i1, if_neg i2, if_neg j1, if_pos j2] at e; exact absurd e (hne2 i hi i1)
            · rw [if_neg i1, if_neg i2, if_neg j1, if_neg j2] at e; exact hρ.inj i j hi hj e
    · simp [lastOf]
    · intro z hz
      have z1 : z ≠ x := fun e => hz (e ▸ by simp)
      have z2 : z ∉ y :: L := fun e => hz (List.mem_cons_of_mem _ e)
      have z3 : z ≠ lastOf y L := fun e => z2 (e ▸ hlm)
      simp only [z3, z1, if_false]
      exact h2 z z2
    · intro w hw
      have e1 := h3 w hw
      have e2 : sumTo (fun z => w z (if z = lastOf y L then x else if z = x then y else ρ z)) n =
          sumTo (fun z => if z = lastOf y L then w (lastOf y L) x else if z = x then w x y else w z (ρ z)) n := by
        refine sumTo_congr fun z _ => ?_
        by_cases z1 : z = lastOf y L
        · simp [z1]
        · by_cases z2 : z = x
          · subst z2; simp [z1]
          · simp [z1, z2]
      rw [e2, sumTo_update (fun z => if z = x then w x y else w z (ρ z)) (lastOf y L) _ hln, sumTo_update (fun z => w z (ρ z)) x _ hxn, e1]
      simp only [hlx, if_false, h1, hρx, hw, psum, lastOf]
      omega

/-- No simple cycle gains anything where no permutation does. -/
def NoGain (w : Nat → Nat → Int) (n : Nat) : Prop := ∀ x L, Simple n x L → psum w x L + w (lastOf x L) x ≤ 0
theorem noGain_of_best {c : Nat → Nat → Int} {n : Nat} {s : Nat → Nat} (hs : Per n s) (hb : ∀ t, Per n t → val c n t ≤ val c n s) : NoGain (wt c n s) n := by
  intro x L h
  obtain ⟨ρ, hρ, _, _, h3⟩ := cycle_perm n L x h
  have e := h3 (wt c n s) (wt_self c n s)
  have := hb _ (hs.comp hρ)
  rw [val_comp hs] at this
  omega

/-! ### The greatest sums along simple paths -/
/-- g x y is the greatest sum along a simple path from x to y. -/
structure Clo (w : Nat → Nat → Int) (n : Nat) (g : Nat → Nat → Int) : Prop where
  path : ∀ x y, x < n → y < n → ∃ L, Simple n x L ∧ lastOf x L = y ∧ psum w x L = g x y
  most : ∀ x L, Simple n x L → psum w x L ≤ g x (lastOf x L)
theorem Clo.uniq {w : Nat → Nat → Int} {n : Nat} {g g' : Nat → Nat → Int} (h : Clo w n g) (h' : Clo w n g') {x y : Nat} (hx : x < n) (hy : y < n) : g x y = g' x y := by
  obtain ⟨L, hL, rfl, e⟩ := h.path x y hx hy
  obtain ⟨L', hL', e2, e'⟩ := h'.path x (lastOf x L) hx hy
  have h1 := h'.most x L hL
  have h2 := h.most x L' hL'
  rw [e2] at h2
  omega
theorem psum_append (w : Nat → Nat → Int) : ∀ (A B : List Nat) (x : Nat), psum w x (A ++ B) = psum w x A + psum w (lastOf x A) B := by
  intro A
  induction A with
  | nil => intro B x; simp [psum, lastOf]
  | cons a A ih => intro B x; simp only [List.cons_append, psum, lastOf]; rw [ih]; omega
theorem lastOf_append : ∀ (A B : List Nat) (x : Nat), lastOf x (A ++ B) = lastOf (lastOf x A) B := by
  intro A
  induction A with
  | nil => intro B x; rfl
  | cons a A ih => intro B x; exact ih B a
/-- Beyond an edge the greatest sum is at least as great. -/
theorem Clo.step {w : Nat → Nat → Int} {n : Nat} {g : Nat → Nat → Int} (h : Clo w n g) (hN : NoGain w n) {x y z : Nat} (hx : x < n) (hy : y < n) (hz : z < n) : g x y + w y z ≤ g x z := by
  obtain ⟨L, hL, rfl, e⟩ := h.path x y hx hy
  by_cases hm : z ∈ x :: L
  · -- z lies on the path: the rest of it closes a cycle
    obtain ⟨A, B, hAB⟩ : ∃ A B, x :: L = A ++ z :: B := List.append_of_mem hm
    cases A with
    | nil =>
      simp at hAB
      obtain ⟨rfl, rfl⟩ := hAB
      have h1 := hN x L hL
      have h2 := h.most x [] ⟨by simp, fun y hy => hL.lt y (by simp at hy; simp [hy])⟩
      simp [psum, lastOf] at h2
      omega
    | cons a A =>
      simp only [List.cons_append, List.cons.injEq] at hAB
      obtain ⟨rfl, rfl⟩ := hAB
      have hnd := hL.nodup
      have e1 : psum w x (A ++ z :: B) = psum w x (A ++ [z]) + psum w z B := by
        have := psum_append w (A ++ [z]) B x
        rw [List.append_assoc] at this
        rw [show A ++ z :: B = A ++ ([z] ++ B) from rfl, this, lastOf_append]; rfl
      have e2 : lastOf x (A ++ z :: B) = lastOf z B := by rw [lastOf_append]; rfl
      have hs1 : Simple n x (A ++ [z]) := ⟨by
          refine hnd.sublist (List.Sublist.cons_cons _ ?_)
          exact (List.Sublist.refl A).append (by simp), fun y hy => hL.lt y (by simp at hy ⊢; rcases hy with h | h | h <;> simp [h])⟩
      have hs2 : Simple n z B := ⟨by
          refine hnd.sublist ?_
          refine List.Sublist.cons _ ?_
          exact List.sublist_append_right A (z :: B), fun y hy => hL.lt y (by simp at hy ⊢; rcases hy with h | h <;> simp [h])⟩
      have h1 := hN z B hs2
      have h2 := h.most x (A ++ [z]) hs1
      rw [lastOf_append] at h2
      simp only [lastOf] at h2
      rw [e2]
      rw [e2] at e
      omega
  · have hs : Simple n x (L ++ [z]) := ⟨by
        rw [← List.cons_append]
        rw [List.nodup_append]
        exact ⟨hL.nodup, by simp, fun a ha b hb => by simp at hb; subst hb; exact fun e => hm (e ▸ ha)⟩, fun y hy => by
        rw [← List.cons_append, List.mem_append] at hy
        rcases hy with hy | hy
        · exact hL.lt y hy
        · simp at hy; subst hy; exact hz⟩
    have h2 := h.most x (L ++ [z]) hs
    rw [psum_append, lastOf_append] at h2
    simp only [psum, lastOf] at h2
    omega
theorem Clo.self {w : Nat → Nat → Int} {n : Nat} {g : Nat → Nat → Int} (h : Clo w n g) {x : Nat} (hx : x < n) : g x x = 0 := by
  obtain ⟨L, hL, e1, e⟩ := h.path x x hx hx
  have h0 : L = [] := by
    cases L with
    | nil => rfl
    | cons y L =>
      simp only [lastOf] at e1
      have hm := lastOf_mem y L
      rw [e1] at hm
      exact absurd hm (List.nodup_cons.1 hL.nodup).1
  subst h0
  simp [psum] at e; omega
/-- A potential bounds every path's sum. -/
theorem psum_le {w : Nat → Nat → Int} {n : Nat} {h : Nat → Int} (hh : ∀ y z, y < n → z < n → h y + w y z ≤ h z) : ∀ (L : List Nat) (x : Nat), (∀ y, y ∈ x :: L → y < n) → psum w x L ≤ h (lastOf x L) - h x := by
  intro L
  induction L with
  | nil => intro x _; simp [psum, lastOf]
  | cons y L ih =>
    intro x hx
    have h1 := ih y (fun z hz => hx z (List.mem_cons_of_mem _ hz))
    have h2 := hh x y (hx x (by simp)) (hx y (by simp))
    simp only [psum, lastOf]
    omega
theorem Clo.le {w : Nat → Nat → Int} {n : Nat} {g : Nat → Nat → Int} (h : Clo w n g) {p : Nat → Int} (hp : ∀ y z, y < n → z < n → p y + w y z ≤ p z) {x y : Nat} (hx : x < n) (hy : y < n) : g x y ≤ p y - p x := by
  obtain ⟨L, hL, rfl, e⟩ := h.path x y hx hy
  rw [← e]; exact psum_le hp L x hL.lt
theorem Clo.tri {w : Nat → Nat → Int} {n : Nat} {g : Nat → Nat → Int} (h : Clo w n g) (hN : NoGain w n) {x y z : Nat} (hx : x < n) (hy : y < n) (hz : z < n) : g x y + g y z ≤ g x z := by
  have := h.le (p := fun k => g x k) (fun a b ha hb => h.step hN hx ha hb) hy hz
  omega
end Go.Proofs.Ytmcncflieoolmaa
