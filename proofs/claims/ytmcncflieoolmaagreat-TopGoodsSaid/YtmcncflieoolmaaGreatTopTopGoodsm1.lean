/- The readings of slices of integers and of slices of such slices that the walks use, and how they stand when the world grows; no condition. -/
import Derived.Test.YtmcncflieoolmaaGreatRows
import Derived.WalkKit
import Derived.ProofKit
import Derived.OpenShut
import Derived.Handy
import Derived.BigQuiet
import Derived.Deep.QuietTactic
import Derived.Deep.Matrix
import Derived.Lib.Hide
namespace Go.Proofs.YtmcncflieoolmaaGreat
set_option linter.unusedVariables false
set_option maxRecDepth 100000
set_option linter.unusedSimpArgs false
open Go.ChangeShapes Go.WideShapes Go.ChangeAt Go.RowKit Go.Deep

theorem own : ownKnob Tryz.prog.godebug = none := by kernel_rfl
theorem laidOut : laidOutB Tryz.prog = true := by kernel_rfl

/-- Element k of a list of numbers (0 beyond its end); simp does not look behind the name. -/
def iget (xs : List Int) (k : Nat) : Int := xs.getD k 0
/-- Row k of a list of rows. -/
def rget (v : List (List Int)) (k : Nat) : List Int := v.getD k []

theorem iget_of {xs : List Int} {k : Nat} (h : k < xs.length) : iget xs k = xs[k] := by simp [iget, h]
theorem rget_of {v : List (List Int)} {k : Nat} (h : k < v.length) : rget v k = v[k] := by simp [rget, h]
theorem iget_mem {xs : List Int} {k : Nat} (h : k < xs.length) : iget xs k ∈ xs := by rw [iget_of h]; exact List.getElem_mem h
def in64 (x : Int) : Prop := -9223372036854775808 ≤ x ∧ x ≤ 9223372036854775807
theorem in64_of_wf {x : Int} (h : (Lit.int .i64 x).wf = true) : in64 x := by
  simp [Lit.wf, IntKind.min, IntKind.max, IntKind.signed, IntKind.bits] at h; exact h

/-- The slice (p, xs.length, c) reads in w as the list xs of ints. -/
structure Ints (w : World) (p : Option Addr) (c : Nat) (xs : List Int) : Prop where
  le : xs.length ≤ c
  max : c ≤ 9223372036854775807
  nil : p = none → c = 0
  plain : ∀ a, p = some a → 0 < c → a.spot = none ∧ a.block < w.heap.size
  cell : ∀ b o, p = some ⟨b, o, none⟩ → ∀ j, j < xs.length → w.cell? ⟨b, o + j, none⟩ = some (.int .i64 (iget xs j))
  rng : ∀ j, j < xs.length → in64 (iget xs j)

theorem Ints.get {w : World} {p : Option Addr} {c : Nat} {xs : List Int} (h : Ints w p c xs) {j : Nat} (hj : j < xs.length) :
    ∃ b o, p = some ⟨b, o, none⟩ ∧ b < w.heap.size ∧ w.cell? ⟨b, o + j, none⟩ = some (.int .i64 (iget xs j)) := by
  cases hp : p with
  | none => have := h.nil hp; have := h.le; omega
  | some a =>
    obtain ⟨b, o, s⟩ := a
    obtain ⟨h1, h2⟩ := h.plain _ hp (by have := h.le; omega)
    simp only at h1; subst h1
    exact ⟨b, o, rfl, h2, h.cell b o hp j hj⟩
theorem Ints.at {w : World} {b o : Nat} {c : Nat} {xs : List Int} (h : Ints w (some ⟨b, o, none⟩) c xs) {j : Nat} (hj : j < xs.length) :
    w.cell? ⟨b, o + j, none⟩ = some (.int .i64 (iget xs j)) := h.cell b o rfl j hj
theorem Ints.length_le {w : World} {p : Option Addr} {c : Nat} {xs : List Int} (h : Ints w p c xs) : xs.length ≤ 9223372036854775807 := Nat.le_trans h.le h.max

theorem Ints.ofNil (w : World) : Ints w none 0 [] :=
  ⟨Nat.le_refl _, by omega, fun _ => rfl, fun _ h => (by cases h), fun _ _ h => (by cases h), fun _ h => (by simp at h)⟩

/-- What keeps every block that the slice reads keeps its reading. -/
theorem Ints.keep {w w' : World} {p : Option Addr} {c : Nat} {xs : List Int} (h : Ints w p c xs) (hs : w.heap.size ≤ w'.heap.size)
    (hb : ∀ a, p = some a → 0 < xs.length → w'.heap[a.block]? = w.heap[a.block]?) : Ints w' p c xs :=
  ⟨h.le, h.max, h.nil, fun a ha hc => ⟨(h.plain a ha hc).1, Nat.lt_of_lt_of_le (h.plain a ha hc).2 hs⟩,
    fun b o hp j hj => (World.cell?_of_block (w := w) (a := ⟨b, o + j, none⟩) (hb ⟨b, o, none⟩ hp (by omega))).trans (h.cell b o hp j hj), h.rng⟩
theorem Ints.below {B : Nat} {w w' : World} {p : Option Addr} {c : Nat} {xs : List Int} (h : Ints w p c xs) (hb : Below B w w') (hB : w.heap.size ≤ B) : Ints w' p c xs :=
  h.keep hb.size fun a ha hc => hb.block _ (Nat.lt_of_lt_of_le (h.plain a ha (by have := h.le; omega)).2 hB)
theorem Ints.drewN {w : World} {p : Option Addr} {c : Nat} {xs : List Int} (h : Ints w p c xs) (n : Nat) : Ints (w.drewN n) p c xs := h.keep (Nat.le_refl _) fun _ _ _ => rfl

/-- The slice (p, v.length, c) reads in w as the list v of rows. -/
structure Mat (w : World) (p : Option Addr) (c : Nat) (v : List (List Int)) : Prop where
  le : v.length ≤ c
  max : c ≤ 9223372036854775807
  nil : p = none → c = 0
  plain : ∀ a, p = some a → 0 < c → a.spot = none ∧ a.block < w.heap.size
  cell : ∀ b o, p = some ⟨b, o, none⟩ → ∀ j, j < v.length → ∃ q d, w.cell? ⟨b, o + j, none⟩ = some (.slice q (rget v j).length d) ∧ Ints w q d (rget v j)

theorem Mat.get {w : World} {p : Option Addr} {c : Nat} {v : List (List Int)} (h : Mat w p c v) {j : Nat} (hj : j < v.length) :
    ∃ b o, p = some ⟨b, o, none⟩ ∧ b < w.heap.size ∧ ∃ q d, w.cell? ⟨b, o + j, none⟩ = some (.slice q (rget v j).length d) ∧ Ints w q d (rget v j) := by
  cases hp : p with
  | none => have := h.nil hp; have := h.le; omega
  | some a =>
    obtain ⟨b, o, s⟩ := a
    obtain ⟨h1, h2⟩ := h.plain _ hp (by have := h.le; omega)
    simp only at h1; subst h1
    exact ⟨b, o, rfl, h2, h.cell b o hp j hj⟩
theorem Mat.at {w : World} {b o : Nat} {c : Nat} {v : List (List Int)} (h : Mat w (some ⟨b, o, none⟩) c v) {j : Nat} (hj : j < v.length) :
    ∃ q d, w.cell? ⟨b, o + j, none⟩ = some (.slice q (rget v j).length d) ∧ Ints w q d (rget v j) := h.cell b o rfl j hj
theorem Mat.length_le {w : World} {p : Option Addr} {c : Nat} {v : List (List Int)} (h : Mat w p c v) : v.length ≤ 9223372036854775807 := Nat.le_trans h.le h.max
theorem Mat.ofNil (w : World) : Mat w none 0 [] :=
  ⟨Nat.le_refl _, by omega, fun _ => rfl, fun _ h => (by cases h), fun _ _ h => (by cases h)⟩

theorem Mat.below {B : Nat} {w w' : World} {p : Option Addr} {c : Nat} {v : List (List Int)} (h : Mat w p c v) (hb : Below B w w') (hB : w.heap.size ≤ B) : Mat w' p c v := by
  refine ⟨h.le, h.max, h.nil, fun a ha hc => ⟨(h.plain a ha hc).1, Nat.lt_of_lt_of_le (h.plain a ha hc).2 hb.size⟩, fun b o hp j hj => ?_⟩
  obtain ⟨q, d, h1, h2⟩ := h.cell b o hp j hj
  have hc : 0 < c := by have := h.le; omega
  exact ⟨q, d, (World.cell?_of_block (w := w) (a := ⟨b, o + j, none⟩) (hb.block _ (Nat.lt_of_lt_of_le (h.plain _ hp hc).2 hB))).trans h1, h2.below hb hB⟩
theorem below_drewN (B : Nat) (w : World) (n : Nat) : Below B w (w.drewN n) := ⟨rfl, rfl, rfl, Nat.le_refl _, fun _ _ => rfl⟩
theorem Mat.drewN {w : World} {p : Option Addr} {c : Nat} {v : List (List Int)} (h : Mat w p c v) (n : Nat) : Mat (w.drewN n) p c v := h.below (below_drewN w.heap.size w n) (Nat.le_refl _)

/-- The world has drawn, and nothing else. -/
def Drew (w w' : World) : Prop := ∃ n, w' = w.drewN n
theorem Drew.refl (w : World) : Drew w w := ⟨0, rfl⟩
theorem Drew.below {w w' : World} (B : Nat) : Drew w w' → Below B w w' | ⟨n, h⟩ => h ▸ below_drewN B w n

theorem snoc_all' {P : Nat → Prop} {k : Nat} (h : ∀ j, j < k → P j) (hk : P k) : ∀ j, j < k + 1 → P j := fun j hj => by
  by_cases e : j = k
  · exact e ▸ hk
  · exact h j (by omega)
theorem drew_refl (w : World) : ∃ n, w = w.drewN n := ⟨0, rfl⟩
theorem drew_drewN {w a : World} (n : Nat) (h : ∃ m, a = w.drewN m) : ∃ m, a.drewN n = w.drewN m := by obtain ⟨m, rfl⟩ := h; exact ⟨m + n, World.drewN_drewN _ _ _⟩
theorem Ints.drew {w w' : World} {p : Option Addr} {c : Nat} {xs : List Int} (h : Ints w p c xs) (hw : ∃ n, w' = w.drewN n) : Ints w' p c xs := by obtain ⟨n, rfl⟩ := hw; exact h.drewN n
theorem Mat.drew {w w' : World} {p : Option Addr} {c : Nat} {v : List (List Int)} (h : Mat w p c v) (hw : ∃ n, w' = w.drewN n) : Mat w' p c v := by obtain ⟨n, rfl⟩ := hw; exact h.drewN n

theorem _root_.Go.RowKit.Below.drewN' {B : Nat} {a w : World} (h : Below B a w) (n : Nat) : Below B a (w.drewN n) := h.trans (below_drewN B w n)
theorem _root_.Go.RowKit.Below.drewP {B : Nat} {a w w' : World} (h : Below B a w) (hw : ∃ n, w' = w.drewN n) : Below B a w' := by obtain ⟨n, rfl⟩ := hw; exact h.trans (below_drewN B w n)

theorem ret_int {k : IntKind} {a b : Int} (h : a = b) : Ending.returned (.int k a) = .returned (.int k b) := by rw [h]
theorem ret_bool {a b : Bool} (h : a = b) : Ending.returned (.bool a) = .returned (.bool b) := by rw [h]

/-! ### The arguments of a law, as they are read -/
section
variable {H : Type} {enc : TypeId × Value → H} {w : World}
theorem open_intsV {v : Value} {d : DataW H} {ps : List MemPlace} {base : Nat} (hv : Value.okWide Tryz.prog w .any base 25 v)
    (h : DataW.Trod enc Tryz.prog w 0 (fun _ => true) true 25 v d ps) : ∃ (p : Option Addr) (c : Nat) (xs : List Int), v = .slice p xs.length c ∧ Ints w p c xs := by
  obtain ⟨a0, len, cap, rfl⟩ := okWide_slice Tryz.underlying25 hv
  obtain ⟨fuel, hf⟩ := h
  rcases open_ints Tryz.underlying25 Tryz.underlying3 (by kernel_rfl) hf with ⟨hcs, _⟩ | ⟨x, l, c, zs, hcs, _, hl, hm, hz, hx, hcell, hwz⟩
  · simp [Value.cells] at hcs
    obtain ⟨rfl, rfl, rfl⟩ := hcs
    exact ⟨none, 0, [], rfl, Ints.ofNil w⟩
  · simp [Value.cells] at hcs
    obtain ⟨rfl, rfl, rfl⟩ := hcs
    simp only [if_true] at hz
    have hl' : (zs.take len).length = len := by simp; omega
    refine ⟨_, cap, zs.take len, by rw [hl'], by omega, hm, fun h => (by cases h), ?_, ?_, ?_⟩
    · rintro a ⟨⟩ hc0
      have h0 := hcell 0 (by omega)
      obtain ⟨b, o, s⟩ := x
      have := World.block_lt_of_cell? _ _ h0
      exact ⟨by simpa [Addr.add] using World.cell?_spot h0, by simpa [Addr.add] using this⟩
    · rintro b o ⟨⟩ j hj
      have := hcell j (by omega)
      rw [hl'] at hj
      rw [add_plain] at this
      simpa [iget, List.getD, hj] using this
    · intro j hj
      rw [iget_of hj]
      exact in64_of_wf (hwz _ (List.mem_of_mem_take (List.getElem_mem hj)))
end
end Go.Proofs.YtmcncflieoolmaaGreat

/- The plain words of chapter 13: valid bids, assignments, their worth, prices; no program in sight. -/
namespace Go.Proofs.YtmcncflieoolmaaGreat
set_option linter.unusedVariables false
set_option linter.unusedSimpArgs false

theorem dec_congr {p q : Prop} [Decidable p] [Decidable q] (h : p ↔ q) : decide p = decide q := by rw [Bool.eq_iff_iff, decide_eq_true_iff, decide_eq_true_iff]; exact h

def Bids (v : List (List Int)) : Prop := 0 < v.length ∧ v.length ≤ 6 ∧ ∀ i, i < v.length → (rget v i).length = v.length ∧ ∀ j, j < v.length → 0 ≤ iget (rget v i) j ∧ iget (rget v i) j ≤ 1000000
instance (v : List (List Int)) : Decidable (Bids v) := by unfold Bids; infer_instance
/-- What Check answers. -/
def chkI (v : List (List Int)) : Int := if 6 < v.length then 4 else if Bids v then 0 else 8
def GreatP (v : List (List Int)) : Prop := (∃ i, i < v.length ∧ i < 20 ∧ 50 < (rget v i).length) ∨ v.length = 6 ∨ 20 < v.length
instance (v : List (List Int)) : Decidable (GreatP v) := by
  have : Decidable (∃ i, i < v.length ∧ i < 20 ∧ 50 < (rget v i).length) := decidable_of_iff (∃ i, ∃ _ : i < v.length, i < 20 ∧ 50 < (rget v i).length) ⟨fun ⟨i, h, h'⟩ => ⟨i, h, h'⟩, fun ⟨i, h, h'⟩ => ⟨i, h, h'⟩⟩
  unfold GreatP; infer_instance
/-- A list that has each number below n once. -/
def IsA (a : List Int) (n : Nat) : Prop := a.length = n ∧ ∀ j, j < n → a.count (j : Int) = 1
instance (a : List Int) (n : Nat) : Decidable (IsA a n) := by unfold IsA; infer_instance
def isAB (a : List Int) (n : Nat) : Bool := decide (IsA a n)

theorem count_take_succ (a : List Int) (k : Nat) (j : Int) (h : k < a.length) : (a.take (k + 1)).count j = (a.take k).count j + if iget a k = j then 1 else 0 := by
  rw [List.take_succ_eq_append_getElem h, List.count_append, iget_of h]
  simp [List.count_singleton]

/-- The sum of f 0 .. f (n - 1). -/
def sumTo (f : Nat → Int) : Nat → Int
  | 0 => 0
  | n + 1 => sumTo f n + f n
/-- What agent i bids for item j. -/
def bid (v : List (List Int)) (i j : Nat) : Int := iget (rget v i) j
/-- The item of agent i. -/
def itm (a : List Int) (i : Nat) : Nat := (iget a i).toNat
def worthI (v : List (List Int)) (a : List Int) : Int := sumTo (fun i => bid v i (itm a i)) a.length

def PricedP (p : List Int) (n : Nat) : Prop := p.length = n ∧ ∀ j, j < p.length → 0 ≤ iget p j ∧ iget p j ≤ 10000000
instance (p : List Int) (n : Nat) : Decidable (PricedP p n) := by unfold PricedP; infer_instance
def ContentP (v : List (List Int)) (a p : List Int) : Prop := ∀ i, i < v.length → ∀ j, j < v.length → bid v i j - iget p j ≤ bid v i (itm a i) - iget p (itm a i)
instance (v : List (List Int)) (a p : List Int) : Decidable (ContentP v a p) := by unfold ContentP; infer_instance
end Go.Proofs.YtmcncflieoolmaaGreat

/- Valid goods and turns, in plain words; no program. -/
namespace Go.Proofs.YtmcncflieoolmaaGreat
set_option linter.unusedVariables false
set_option linter.unusedSimpArgs false

def wid (v : List (List Int)) : Nat := (rget v 0).length
def Gds (v : List (List Int)) : Prop := 1 ≤ v.length ∧ v.length ≤ 6 ∧ wid v ≤ 10 ∧ ∀ i, i < v.length → (rget v i).length = wid v ∧ ∀ j, j < (rget v i).length → 0 ≤ iget (rget v i) j ∧ iget (rget v i) j ≤ 1000
instance (v : List (List Int)) : Decidable (Gds v) := by unfold Gds; infer_instance
def ManyG (v : List (List Int)) : Prop := 6 < v.length ∨ ¬ ∀ i, i < v.length → (rget v i).length ≤ 10
instance (v : List (List Int)) : Decidable (ManyG v) := by unfold ManyG; infer_instance
/-- What Check answers of goods. -/
def chkG (v : List (List Int)) : Int := if ManyG v then 4 else if Gds v then 0 else 8
theorem gds_few {v : List (List Int)} (h : Gds v) : ¬ ManyG v := by
  rintro (h1 | h1)
  · have := h.2.1; omega
  · exact h1 fun i hi => by rw [(h.2.2.2 i hi).1]; exact h.2.2.1
theorem chkG_many {v : List (List Int)} (h : ManyG v) : chkG v = 4 := by simp [chkG, h]
theorem chkG_bad {v : List (List Int)} (h : ¬ ManyG v) (hb : ¬ Gds v) : chkG v = 8 := by simp [chkG, h, hb]
theorem chkG_ok {v : List (List Int)} (h : Gds v) : chkG v = 0 := by simp [chkG, h, gds_few h]
theorem chkG_zero {v : List (List Int)} : chkG v = 0 ↔ Gds v := by
  constructor
  · intro h
    by_cases hm : ManyG v
    · rw [chkG_many hm] at h; cases h
    · by_cases hg : Gds v
      · exact hg
      · rw [chkG_bad hm hg] at h; cases h
  · exact chkG_ok
theorem gds_bid {v : List (List Int)} (h : Gds v) {i j : Nat} (hi : i < v.length) (hj : j < wid v) : 0 ≤ iget (rget v i) j ∧ iget (rget v i) j ≤ 1000 :=
  (h.2.2.2 i hi).2 j (by rw [(h.2.2.2 i hi).1]; exact hj)

/-- Larger than the statements consider. -/
def GreatG (v : List (List Int)) (xs : List Int) : Prop := (¬ ∀ i, i < v.length → i < 20 → (rget v i).length ≤ 50) ∨ 20 < v.length ∨ 50 < xs.length
instance (v : List (List Int)) (xs : List Int) : Decidable (GreatG v xs) := by unfold GreatG; infer_instance
def greatG (v : List (List Int)) (xs : List Int) : Bool := decide (GreatG v xs)

/-- What Check answers of turns of n agents. -/
def TurnsOk (n : Int) (ts : List Int) : Prop := ∀ i, i < ts.length → 0 ≤ iget ts i ∧ iget ts i < n
instance (n : Int) (ts : List Int) : Decidable (TurnsOk n ts) := by unfold TurnsOk; infer_instance
def chkT (n : Int) (ts : List Int) : Int := if n < 1 ∨ 6 < n then 2 else if 60 < ts.length then 4 else if TurnsOk n ts then 0 else 8
theorem chkT_arg {n : Int} {ts : List Int} (h : n < 1 ∨ 6 < n) : chkT n ts = 2 := by simp [chkT, h]
theorem chkT_many {n : Int} {ts : List Int} (h : ¬ (n < 1 ∨ 6 < n)) (h2 : 60 < ts.length) : chkT n ts = 4 := by unfold chkT; rw [if_neg h, if_pos h2]
theorem chkT_bad {n : Int} {ts : List Int} (h : ¬ (n < 1 ∨ 6 < n)) (h2 : ¬ 60 < ts.length) (h3 : ¬ TurnsOk n ts) : chkT n ts = 8 := by unfold chkT; rw [if_neg h, if_neg h2, if_neg h3]
theorem chkT_ok {n : Int} {ts : List Int} (h : ¬ (n < 1 ∨ 6 < n)) (h2 : ¬ 60 < ts.length) (h3 : TurnsOk n ts) : chkT n ts = 0 := by unfold chkT; rw [if_neg h, if_neg h2, if_pos h3]
theorem chkT_zero {n : Int} {ts : List Int} : chkT n ts = 0 ↔ 1 ≤ n ∧ n ≤ 6 ∧ ts.length ≤ 60 ∧ TurnsOk n ts := by
  constructor
  · intro h
    by_cases h1 : n < 1 ∨ 6 < n
    · rw [chkT_arg h1] at h; cases h
    · by_cases h2 : 60 < ts.length
      · rw [chkT_many h1 h2] at h; cases h
      · by_cases h3 : TurnsOk n ts
        · exact ⟨by omega, by omega, by omega, h3⟩
        · rw [chkT_bad h1 h2 h3] at h; cases h
  · rintro ⟨h1, h2, h3, h4⟩
    exact chkT_ok (by omega) (by omega) h4
end Go.Proofs.YtmcncflieoolmaaGreat

/- Picking in turns: the first best good that is left; plain, no program. -/
namespace Go.Proofs.YtmcncflieoolmaaGreat
set_option linter.unusedVariables false
set_option linter.unusedSimpArgs false

/-- The first best of the first k goods that are free, for one who values them as r says, or -1. -/
def pickTo (r a : List Int) : Nat → Int
  | 0 => -1
  | k + 1 => if iget a k < 0 ∧ (pickTo r a k < 0 ∨ iget r (pickTo r a k).toNat < iget r k) then (k : Int) else pickTo r a k
def pick (r a : List Int) : Int := pickTo r a a.length
theorem pickTo_yes {r a : List Int} {k : Nat} (h : iget a k < 0) (h2 : pickTo r a k < 0 ∨ iget r (pickTo r a k).toNat < iget r k) : pickTo r a (k + 1) = k := by
  rw [pickTo, if_pos ⟨h, h2⟩]
theorem pickTo_no {r a : List Int} {k : Nat} (h : ¬ (iget a k < 0 ∧ (pickTo r a k < 0 ∨ iget r (pickTo r a k).toNat < iget r k))) : pickTo r a (k + 1) = pickTo r a k := by
  rw [pickTo, if_neg h]
theorem pickTo_range (r a : List Int) (k : Nat) : -1 ≤ pickTo r a k ∧ pickTo r a k < k := by
  induction k with
  | zero => simp [pickTo]
  | succ k ih => rw [pickTo]; split <;> omega
theorem pickTo_none {r a : List Int} {k : Nat} : pickTo r a k < 0 ↔ ∀ j, j < k → ¬ iget a j < 0 := by
  induction k with
  | zero => simp [pickTo]
  | succ k ih =>
    rw [pickTo]
    split
    · rename_i h
      constructor
      · intro h2; omega
      · intro h2; exact absurd h.1 (h2 k (by omega))
    · rename_i h
      constructor
      · intro h2 j hj
        by_cases e : j = k
        · subst e; intro h3; exact h ⟨h3, .inl h2⟩
        · exact ih.1 h2 j (by omega)
      · intro h2; exact ih.2 fun j hj => h2 j (by omega)
/-- One takes x rather than y. -/
def BetterP (r : List Int) (x y : Nat) : Prop := iget r y < iget r x ∨ (iget r x = iget r y ∧ x < y)
instance (r : List Int) (x y : Nat) : Decidable (BetterP r x y) := by unfold BetterP; infer_instance
theorem pickTo_best {r a : List Int} {k : Nat} (h : 0 ≤ pickTo r a k) : iget a (pickTo r a k).toNat < 0 ∧ ∀ y, y < k → iget a y < 0 → y ≠ (pickTo r a k).toNat → BetterP r (pickTo r a k).toNat y := by
  induction k with
  | zero => simp [pickTo] at h
  | succ k ih =>
    by_cases hc : iget a k < 0 ∧ (pickTo r a k < 0 ∨ iget r (pickTo r a k).toNat < iget r k)
    · rw [pickTo_yes hc.1 hc.2]
      refine ⟨by simpa using hc.1, fun y hy hya hne => ?_⟩
      simp only [Int.toNat_natCast] at hne ⊢
      have hy' : y < k := by omega
      rcases hc.2 with h2 | h2
      · exact absurd hya (pickTo_none.1 h2 y hy')
      · by_cases e : y = (pickTo r a k).toNat
        · left; rw [e]; exact h2
        · have hp : 0 ≤ pickTo r a k := by
            rcases Int.lt_or_le (pickTo r a k) 0 with h3 | h3
            · exact absurd hya (pickTo_none.1 h3 y hy')
            · exact h3
          have := (ih hp).2 y hy' hya e
          rcases this with h4 | h4
          · left; omega
          · left; omega
    · rw [pickTo_no hc] at h ⊢
      obtain ⟨h1, h2⟩ := ih h
      refine ⟨h1, fun y hy hya hne => ?_⟩
      by_cases e : y = k
      · subst e
        have hr := pickTo_range r a y
        have : ¬ iget r (pickTo r a y).toNat < iget r y := fun h3 => hc ⟨hya, .inr h3⟩
        by_cases e2 : iget r (pickTo r a y).toNat = iget r y
        · right; exact ⟨e2, by omega⟩
        · left; omega
      · exact h2 y (by omega) hya hne
/-- Good x is free, and of the first m goods each other one that is free is worse. -/
def WinTo (r a : List Int) (x m : Nat) : Prop := iget a x < 0 ∧ ∀ y, y < m → 0 ≤ iget a y ∨ x = y ∨ BetterP r x y
instance (r a : List Int) (x m : Nat) : Decidable (WinTo r a x m) := by unfold WinTo; infer_instance
/-- Who owns what after one turn; after k turns; what was taken. -/
def stepA (v : List (List Int)) (a : List Int) (i : Int) : List Int := if 0 ≤ pick (rget v i.toNat) a then a.set (pick (rget v i.toNat) a).toNat i else a
def pkA (v : List (List Int)) (ts : List Int) : Nat → List Int
  | 0 => List.replicate (wid v) (-1)
  | k + 1 => stepA v (pkA v ts k) (iget ts k)
def pkT (v : List (List Int)) (ts : List Int) : Nat → List Int
  | 0 => []
  | k + 1 => pkT v ts k ++ [pick (rget v (iget ts k).toNat) (pkA v ts k)]
theorem stepA_len (v : List (List Int)) (a : List Int) (i : Int) : (stepA v a i).length = a.length := by unfold stepA; split <;> simp
theorem pkA_len (v : List (List Int)) (ts : List Int) (k : Nat) : (pkA v ts k).length = wid v := by
  induction k with
  | zero => simp [pkA]
  | succ k ih => rw [pkA, stepA_len, ih]
theorem pkT_len (v : List (List Int)) (ts : List Int) (k : Nat) : (pkT v ts k).length = k := by
  induction k with
  | zero => rfl
  | succ k ih => rw [pkT, List.length_append, ih]; rfl
def pickE (v : List (List Int)) (ts : List Int) : Int := if chkG v = 0 then chkT v.length ts else chkG v
def pickL (v : List (List Int)) (ts : List Int) : List Int := if pickE v ts = 0 then pkA v ts ts.length else []
def pickT (v : List (List Int)) (ts : List Int) : List Int := if pickE v ts = 0 then pkT v ts ts.length else []
theorem pickE_bad {v : List (List Int)} {ts : List Int} (h : ¬ chkG v = 0) : pickE v ts = chkG v := if_neg h
theorem pickE_ok {v : List (List Int)} {ts : List Int} (h : chkG v = 0) : pickE v ts = chkT v.length ts := if_pos h

/-- No two turns of the same agent in one round. -/
def BalTo (n : Nat) (ts : List Int) (m : Nat) : Prop := ∀ s, s < m → ∀ t, t < s → ¬ (iget ts s = iget ts t ∧ s / n = t / n)
instance (n : Nat) (ts : List Int) (m : Nat) : Decidable (BalTo n ts m) := by unfold BalTo; infer_instance
def balB (n : Int) (ts : List Int) : Bool := decide (chkT n ts = 0 ∧ BalTo n.toNat ts ts.length)
end Go.Proofs.YtmcncflieoolmaaGreat
