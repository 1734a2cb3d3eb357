/- Exchanges in plain words; the walks of places, and of the reference's Place; no condition but sizes. -/
import Derived.Test.YtknincjfcicjfaaKeepQ
import Derived.Test.YtknincjfcicjfaaMove
namespace Go.Proofs.Ytknincjfcicjfaa
set_option linter.unusedVariables false
set_option linter.unusedSimpArgs false
open Go.ChangeShapes Go.WideShapes Go.ChangeAt Go.RowKit Go.Deep

/-- Where x stands in a ranking. -/
def placeI (l : List Int) (x : Int) : Int := firstN (fun k => decide (iget l k = x)) l.length
theorem placeI_of {l : List Int} {x : Int} {k : Nat} (hk : k < l.length) (h : iget l k = x) (hb : ∀ j, j < k → iget l j ≠ x) : placeI l x = k :=
  firstN_of hk (by simpa using h) (fun j hj => by simpa using hb j hj)
theorem placeI_none {l : List Int} {x : Int} (hb : ∀ j, j < l.length → iget l j ≠ x) : placeI l x = -1 := firstN_none (fun j hj => by simpa using hb j hj)
theorem placeI_at {l : List Int} {n : Nat} (h : IsA l n) {k : Nat} (hk : k < n) : placeI l (iget l k) = k :=
  placeI_of (by rw [h.1]; exact hk) rfl (fun j hj e => by have := isA_inj h (by omega) hk e; omega)
theorem placeI_some {l : List Int} {n : Nat} (h : IsA l n) {x : Nat} (hx : x < n) : ∃ k, k < n ∧ iget l k = (x : Int) ∧ placeI l (x : Int) = k := by
  obtain ⟨k, hk, he⟩ := List.getElem_of_mem (isA_mem h hx)
  have hk2 : k < n := by rw [← h.1]; exact hk
  refine ⟨k, hk2, by rw [iget_of hk, he], ?_⟩
  rw [← he, ← iget_of hk]
  exact placeI_at h hk2
/-- The places of all items in a ranking. -/
def plcR (l : List Int) : List Int := (List.range l.length).map fun (x : Nat) => placeI l (x : Int)
theorem plcR_len (l : List Int) : (plcR l).length = l.length := by simp [plcR]
theorem plcR_get {l : List Int} {x : Nat} (h : x < l.length) : iget (plcR l) x = placeI l (x : Int) := by simp [plcR, iget, h]
/-- .. while they are written. -/
def plcTo (l : List Int) (k : Nat) : List Int := (List.range l.length).map fun (x : Nat) => if placeI l (x : Int) < k then placeI l (x : Int) else 0
theorem plcTo_len (l : List Int) (k : Nat) : (plcTo l k).length = l.length := by simp [plcTo]
theorem plcTo_get {l : List Int} {k x : Nat} (h : x < l.length) : iget (plcTo l k) x = if placeI l (x : Int) < k then placeI l (x : Int) else 0 := by simp [plcTo, iget, h]
theorem kext {xs ys : List Int} (hl : xs.length = ys.length) (h : ∀ j, j < xs.length → iget xs j = iget ys j) : xs = ys := by
  apply List.ext_getElem hl
  intro i h1 h2
  have := h i h1
  rwa [iget_of h1, iget_of h2] at this
theorem plcTo_zero {l : List Int} (h : IsA l l.length) : plcTo l 0 = List.replicate l.length 0 := by
  refine kext (by simp [plcTo]) fun j hj => ?_
  rw [plcTo_len] at hj
  obtain ⟨k, _, _, e⟩ := placeI_some h hj
  rw [plcTo_get hj, e, if_neg (by omega)]
  simp [iget, hj]
theorem plcTo_full {l : List Int} (h : IsA l l.length) : plcTo l l.length = plcR l := by
  refine kext (by simp [plcTo, plcR]) fun j hj => ?_
  rw [plcTo_len] at hj
  obtain ⟨k, hk, _, e⟩ := placeI_some h hj
  rw [plcTo_get hj, plcR_get hj, e, if_pos (by omega)]
theorem plcTo_set {l : List Int} (h : IsA l l.length) {k : Nat} (hk : k < l.length) : (plcTo l k).set (itm l k) (k : Int) = plcTo l (k + 1) := by
  have hx := (isA_lt h k hk).2
  have hx0 : iget l k = ((itm l k : Nat) : Int) := by have := (isA_lt h k hk).1; unfold itm; omega
  refine kext (by simp [plcTo]) fun j hj => ?_
  rw [List.length_set, plcTo_len] at hj
  rw [iget_set (by rw [plcTo_len]; exact hx), plcTo_get hj, plcTo_get hj]
  by_cases e : itm l k = j
  · subst e
    have : placeI l ((itm l k : Nat) : Int) = k := by rw [← hx0]; exact placeI_at h hk
    rw [if_pos rfl, this, if_pos (by omega)]
  · rw [if_neg e]
    obtain ⟨q, hq, hq2, e2⟩ := placeI_some h hj
    rw [e2]
    have : q ≠ k := fun e3 => e (by rw [e3, hx0] at hq2; omega)
    by_cases e3 : q < k
    · rw [if_pos (by omega), if_pos (by omega)]
    · rw [if_neg (by omega), if_neg (by omega)]

/-- What f gives first below n. -/
def fs {α : Type} (f : Nat → Option α) (n : Nat) : Option α := (List.range n).findSome? f
theorem fs_none {α : Type} {f : Nat → Option α} {n : Nat} (h : ∀ j, j < n → f j = none) : fs f n = none := by
  unfold fs
  rw [List.findSome?_eq_none_iff]
  intro x hx
  exact h x (List.mem_range.1 hx)
theorem fs_hit {α : Type} {f : Nat → Option α} {n k : Nat} {r : α} (h : ∀ j, j < k → f j = none) (hk : k < n) (hf : f k = some r) : fs f n = some r := by
  obtain ⟨m, rfl⟩ : ∃ m, n = k + 1 + m := ⟨n - (k + 1), by omega⟩
  have h0 : fs f (k + 1) = some r := by
    have := fs_none h
    unfold fs at *
    rw [List.range_succ, List.findSome?_append, this]
    simp [hf]
  clear hk
  induction m with
  | zero => exact h0
  | succ m ih =>
    unfold fs at *
    rw [← Nat.add_assoc, List.range_succ, List.findSome?_append, ih]
    rfl
theorem fs_some {α : Type} {f : Nat → Option α} {n : Nat} {r : α} (h : fs f n = some r) : ∃ k, k < n ∧ f k = some r ∧ ∀ j, j < k → f j = none := by
  induction n with
  | zero => cases h
  | succ n ih =>
    unfold fs at *
    rw [List.range_succ, List.findSome?_append] at h
    cases hq : (List.range n).findSome? f with
    | some r2 =>
      rw [hq] at h
      have : r2 = r := by simpa using h
      subst this
      obtain ⟨k, h1, h2, h3⟩ := ih hq
      exact ⟨k, by omega, h2, h3⟩
    | none =>
      rw [hq] at h
      refine ⟨n, by omega, by simpa using h, fun j hj => ?_⟩
      rw [List.findSome?_eq_none_iff] at hq
      exact hq j (List.mem_range.2 hj)
theorem fs_no {α : Type} {f : Nat → Option α} {n : Nat} (h : fs f n = none) : ∀ j, j < n → f j = none := by
  unfold fs at h
  rw [List.findSome?_eq_none_iff] at h
  exact fun j hj => h j (List.mem_range.2 hj)

/-- Items x of agent i and y of agent j are exchanged gladly. -/
structure ExP (a : List Int) (v : List (List Int)) (i j x y : Nat) : Prop where
  own1 : iget a x = i
  own2 : iget a y = j
  like1 : placeI (rget v i) (y : Int) < placeI (rget v i) (x : Int)
  like2 : placeI (rget v j) (x : Int) < placeI (rget v j) (y : Int)
theorem exP_iff {a : List Int} {v : List (List Int)} {i j x y : Nat} : ExP a v i j x y ↔ iget a x = i ∧ iget a y = j ∧ placeI (rget v i) (y : Int) < placeI (rget v i) (x : Int) ∧ placeI (rget v j) (x : Int) < placeI (rget v j) (y : Int) :=
  ⟨fun ⟨a, b, c, d⟩ => ⟨a, b, c, d⟩, fun ⟨a, b, c, d⟩ => ⟨a, b, c, d⟩⟩
instance (a : List Int) (v : List (List Int)) (i j x y : Nat) : Decidable (ExP a v i j x y) := decidable_of_iff _ exP_iff.symm
def ex4 (a : List Int) (v : List (List Int)) (i j x y : Nat) : Option (Nat × Nat × Nat × Nat) := if ExP a v i j x y then some (i, j, x, y) else none
def ex3 (a : List Int) (v : List (List Int)) (i j x : Nat) : Option (Nat × Nat × Nat × Nat) := fs (ex4 a v i j x) a.length
def ex2 (a : List Int) (v : List (List Int)) (i j : Nat) : Option (Nat × Nat × Nat × Nat) := if i < j then fs (ex3 a v i j) a.length else none
def ex1 (a : List Int) (v : List (List Int)) (i : Nat) : Option (Nat × Nat × Nat × Nat) := fs (ex2 a v i) v.length
/-- The first exchange. -/
def exT (a : List Int) (v : List (List Int)) : Option (Nat × Nat × Nat × Nat) := fs (ex1 a v) v.length
theorem ex4_no {a : List Int} {v : List (List Int)} {i j x y : Nat} (h : ¬ ExP a v i j x y) : ex4 a v i j x y = none := if_neg h
theorem ex3_no {a : List Int} {v : List (List Int)} {i j x : Nat} (h : ∀ y, y < a.length → ex4 a v i j x y = none) : ex3 a v i j x = none := fs_none h
theorem ex2_no {a : List Int} {v : List (List Int)} {i j : Nat} (h : ∀ x, x < a.length → ex3 a v i j x = none) : ex2 a v i j = none := by
  unfold ex2
  by_cases e : i < j
  · rw [if_pos e]; exact fs_none h
  · rw [if_neg e]
theorem ex2_ge {a : List Int} {v : List (List Int)} {i j : Nat} (h : ¬ i < j) : ex2 a v i j = none := if_neg h
theorem ex1_no {a : List Int} {v : List (List Int)} {i : Nat} (h : ∀ j, j < v.length → ex2 a v i j = none) : ex1 a v i = none := fs_none h
theorem exT_no {a : List Int} {v : List (List Int)} (h : ∀ i, i < v.length → ex1 a v i = none) : exT a v = none := fs_none h
theorem exT_hit {a : List Int} {v : List (List Int)} {i j x y : Nat} (h1 : ∀ i', i' < i → ex1 a v i' = none) (h2 : ∀ j', j' < j → ex2 a v i j' = none) (h3 : ∀ x', x' < x → ex3 a v i j x' = none) (h4 : ∀ y', y' < y → ex4 a v i j x y' = none)
    (hi : i < v.length) (hij : i < j) (hj : j < v.length) (hx : x < a.length) (hy : y < a.length) (h : ExP a v i j x y) : exT a v = some (i, j, x, y) :=
  fs_hit h1 hi (fs_hit h2 hj (by unfold ex2; rw [if_pos hij]; exact fs_hit h3 hx (fs_hit h4 hy (if_pos h))))
/-- What is handed back of an exchange. -/
def exV : Option (Nat × Nat × Nat × Nat) → Value
  | some (i, j, x, y) => .agg #[.int .i64 (i : Int), .int .i64 (j : Int), .int .i64 (x : Int), .int .i64 (y : Int)]
  | none => .agg #[.int .i64 0, .int .i64 0, .int .i64 0, .int .i64 0]
def GivesX (w : World) (t : Option (Nat × Nat × Nat × Nat)) (e : Ending) (w' : World) : Prop := e = .returned (.tuple #[exV t, .bool t.isSome]) ∧ Below w.heap.size w w'

set_option maxHeartbeats 400000 in
theorem place29_any (p : Option Addr) (c : Nat) (xs : List Int) (x : Int) (w : World) (hx : Ints w p c xs) :
    Calls Try.prog 28 #[.slice p xs.length c, .int .i64 x] w fun e w' => e = .returned (.int .i64 (placeI xs x)) ∧ w' = w := by
  have hl1 := hx.length_le
  go_enter Try.func28, Try.ntmps28
  go_wp2_with fail
  go_loop [5] (fun t => ∃ k : Nat, k ≤ xs.length ∧ t = .int .i64 k ∧ Hid (∀ j, j < k → iget xs j ≠ x)) (fun t => xs.length - (intOf t).toNat)
  case atStart => exact ⟨0, Nat.zero_le _, rfl, fun j hj => absurd hj (Nat.not_lt_zero j)⟩
  case round =>
    obtain ⟨k, hk, rfl, ht⟩ := hrel
    by_cases hlt : k < xs.length
    · obtain ⟨b, o, rfl, _, hc⟩ := hx.get hlt
      have hk1 : (k : Int) < xs.length := by omega
      by_cases he : iget xs k = x
      · have hb : (iget xs k == x) = true := by simpa using he
        have HF := Lib.hid (placeI_of hlt he ht.out)
        clear he
        go_wp2_with fail
        go_ret
        exact ⟨ret_int HF.out.symm, rfl⟩
      · have hb : (iget xs k == x) = false := by simpa using he
        have HP := Lib.hid he
        clear he
        go_wp2_with fail
        go_round
        case rel => exact ⟨k + 1, by omega, by go_num, snoc_all' ht.out HP.out⟩
        case measure => simp [intOf]; omega
    · have hk1 : ¬ (k : Int) < xs.length := by omega
      go_wp2_with fail
      go_ret
      exact ⟨ret_int (placeI_none (fun j hj => ht.out j (by omega))).symm, rfl⟩
end Go.Proofs.Ytknincjfcicjfaa
