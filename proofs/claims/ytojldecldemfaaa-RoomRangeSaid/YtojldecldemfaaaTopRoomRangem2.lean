/- The invariant of a region that reckons two numbers of two words by calls and puts each into a block of its own; no condition. -/
import Derived.Test.YtojldecldemfaaaTopRoomRangem1
import Derived.Test.YtojldecldemfaaaTopRoomFreem10
import Derived.Test.YtojldecldemfaaaTopRoomFreem6
/- The invariant of a region that reckons two numbers of two words by calls and puts each into a block of its own; no condition. -/
namespace Go.Proofs.Ytojldecldemfaaa
set_option linter.unusedVariables false
set_option linter.unusedSimpArgs false
open Go.ChangeShapes Go.WideShapes Go.ChangeAt Go.RowKit Go.Deep

def BlockJ (B : World) (W : World) (u : Value) (done : Prop) (x : Int) : Prop := ∃ (g : Nat) (z : Int), u = .pointer (some ⟨g, 0, none⟩) ∧ B.heap.size ≤ g ∧ g < W.heap.size ∧ Two W g (.int .u64 0) (.int .u64 z) ∧ (done → z = x)
theorem BlockJ.below {B W W' : World} {u : Value} {d : Prop} {x : Int} (h : BlockJ B W u d x) (hb : Below W.heap.size W W') : BlockJ B W' u d x := by
  obtain ⟨g, z, h1, h2, h3, h4, h5⟩ := h
  exact ⟨g, z, h1, h2, Nat.lt_of_lt_of_le h3 hb.size, h4.below hb h3, h5⟩
/-- The operations below n are values or calls; n and n + 1 are the blocks, n + 2 and n + 3 the stores. -/
structure PairJ (B : World) (n : Nat) (val : Nat → Value) (x y : Int) (us : Nat → Value) (D : Nat → Prop) (W : World) : Prop where
  val : ∀ k, k < n → D k → us k = val k
  bel : Below B.heap.size B W
  a1 : D n → BlockJ B W (us n) (D (n + 2)) x
  a2 : D (n + 1) → BlockJ B W (us (n + 1)) (D (n + 3)) y
  ne : D n → D (n + 1) → us n ≠ us (n + 1)
  d1 : D (n + 2) → D n
  d2 : D (n + 3) → D (n + 1)
theorem PairJ.start {B : World} {n : Nat} {val : Nat → Value} {x y : Int} (us : Nat → Value) : PairJ B n val x y us (fun _ => False) B.drew :=
  ⟨fun k _ h => h.elim, below_drewN _ _ 1, fun h => h.elim, fun h => h.elim, fun h => h.elim, fun h => h, fun h => h⟩
section
variable {B : World} {n : Nat} {val : Nat → Value} {x y : Int} {us : Nat → Value} {D : Nat → Prop} {W W' : World}
theorem or_ne {i k : Nat} {D : Nat → Prop} (h : k = i ∨ D k) (hne : k ≠ i) : D k := h.resolve_left hne
theorem PairJ.pure (h : PairJ B n val x y us D W) {i : Nat} (hi : i < n) (hb : Below W.heap.size W W') : PairJ B n val x y (upd us i (val i)) (fun k => k = i ∨ D k) W' := by
  have hn : ∀ {k}, n ≤ k → k ≠ i := fun h => by omega
  refine ⟨fun k hk hd => ?_, h.bel.trans (hb.mono h.bel.size), fun hd => ?_, fun hd => ?_, fun hd hd2 => ?_, fun hd => .inr (h.d1 (or_ne hd (hn (by omega)))), fun hd => .inr (h.d2 (or_ne hd (hn (by omega))))⟩
  · by_cases e : k = i
    · subst e; rw [upd_same]
    · rw [upd_ne e]; exact h.val k hk (or_ne hd e)
  · rw [upd_ne (hn (Nat.le_refl n))]
    obtain ⟨g, z, h1, h2, h3, h4, h5⟩ := (h.a1 (or_ne hd (hn (Nat.le_refl n)))).below hb
    exact ⟨g, z, h1, h2, h3, h4, fun hd => h5 (or_ne hd (hn (by omega)))⟩
  · rw [upd_ne (hn (Nat.le_succ n))]
    obtain ⟨g, z, h1, h2, h3, h4, h5⟩ := (h.a2 (or_ne hd (hn (Nat.le_succ n)))).below hb
    exact ⟨g, z, h1, h2, h3, h4, fun hd => h5 (or_ne hd (hn (by omega)))⟩
  · rw [upd_ne (hn (Nat.le_refl n)), upd_ne (hn (Nat.le_succ n))]
    exact h.ne (or_ne hd (hn (Nat.le_refl n))) (or_ne hd2 (hn (Nat.le_succ n)))
theorem ptr_inj {g g' : Nat} (h : Value.pointer (some ⟨g, 0, none⟩) = .pointer (some ⟨g', 0, none⟩)) : g = g' := by simpa using h
theorem PairJ.alloc1 (h : PairJ B n val x y us D W) (hD : ¬ D n) (T : TypeId) : PairJ B n val x y (upd us n (.pointer (some ⟨W.heap.size, 0, none⟩))) (fun k => k = n ∨ D k) (W.alloc (.cells #[.int .u64 0, .int .u64 0] T)) := by
  have hb : Below W.heap.size W (W.alloc (.cells #[.int .u64 0, .int .u64 0] T)) := (Below.refl _ _).alloc (Nat.le_refl _) _
  refine ⟨fun k hk hd => ?_, h.bel.trans (hb.mono h.bel.size), fun hd => ?_, fun hd => ?_, fun hd hd2 => ?_, fun hd => .inl rfl, fun hd => .inr (h.d2 (or_ne hd (by omega)))⟩
  · rw [upd_ne (by omega)]; exact h.val k hk (or_ne hd (by omega))
  · rw [upd_same]
    exact ⟨_, 0, rfl, h.bel.size, by simp, Two.new rfl rfl, fun hd => (hD (h.d1 (or_ne hd (by omega)))).elim⟩
  · rw [upd_ne (by omega)]
    obtain ⟨g, z, h1, h2, h3, h4, h5⟩ := (h.a2 (or_ne hd (by omega))).below hb
    exact ⟨g, z, h1, h2, h3, h4, fun hd => h5 (or_ne hd (by omega))⟩
  · rw [upd_same, upd_ne (by omega)]
    obtain ⟨g, z, h1, h2, h3, h4, h5⟩ := h.a2 (or_ne hd2 (by omega))
    rw [h1]
    intro e
    have := ptr_inj e
    omega
theorem PairJ.alloc2 (h : PairJ B n val x y us D W) (hD : ¬ D (n + 1)) (T : TypeId) : PairJ B n val x y (upd us (n + 1) (.pointer (some ⟨W.heap.size, 0, none⟩))) (fun k => k = n + 1 ∨ D k) (W.alloc (.cells #[.int .u64 0, .int .u64 0] T)) := by
  have hb : Below W.heap.size W (W.alloc (.cells #[.int .u64 0, .int .u64 0] T)) := (Below.refl _ _).alloc (Nat.le_refl _) _
  refine ⟨fun k hk hd => ?_, h.bel.trans (hb.mono h.bel.size), fun hd => ?_, fun hd => ?_, fun hd hd2 => ?_, fun hd => .inr (h.d1 (or_ne hd (by omega))), fun hd => .inl rfl⟩
  · rw [upd_ne (by omega)]; exact h.val k hk (or_ne hd (by omega))
  · rw [upd_ne (by omega)]
    obtain ⟨g, z, h1, h2, h3, h4, h5⟩ := (h.a1 (or_ne hd (by omega))).below hb
    exact ⟨g, z, h1, h2, h3, h4, fun hd => h5 (or_ne hd (by omega))⟩
  · rw [upd_same]
    exact ⟨_, 0, rfl, h.bel.size, by simp, Two.new rfl rfl, fun hd => (hD (h.d2 (or_ne hd (by omega)))).elim⟩
  · rw [upd_same, upd_ne (by omega)]
    obtain ⟨g, z, h1, h2, h3, h4, h5⟩ := h.a1 (or_ne hd (by omega))
    rw [h1]
    intro e
    have := ptr_inj e
    omega
theorem PairJ.store1 (h : PairJ B n val x y us D W) (hD : D n) {g : Nat} (hg : us n = .pointer (some ⟨g, 0, none⟩)) (u : Value) : PairJ B n val x y (upd us (n + 2) u) (fun k => k = n + 2 ∨ D k) ((W.setCell ⟨g, 0, none⟩ (.int .u64 0)).setCell ⟨g, 1, none⟩ (.int .u64 x)) := by
  obtain ⟨g', z, h1, h2, h3, h4, h5⟩ := h.a1 hD
  rw [hg] at h1
  obtain rfl := ptr_inj h1
  refine ⟨fun k hk hd => ?_, (h.bel.setCell (p := ⟨g, 0, none⟩) h2 _).setCell (p := ⟨g, 1, none⟩) h2 _, fun hd => ?_, fun hd => ?_, fun hd hd2 => ?_, fun hd => .inr hD, fun hd => .inr (h.d2 (or_ne hd (by omega)))⟩
  · rw [upd_ne (by omega)]; exact h.val k hk (or_ne hd (by omega))
  · rw [upd_ne (by omega)]
    exact ⟨g, x, hg, h2, by simpa [World.setCell] using h3, h4.put, fun _ => rfl⟩
  · rw [upd_ne (by omega)]
    have hne := h.ne hD (or_ne hd (by omega))
    obtain ⟨g', z', k1, k2, k3, k4, k5⟩ := h.a2 (or_ne hd (by omega))
    have hgg : g ≠ g' := fun e => hne (by rw [hg, k1, e])
    exact ⟨g', z', k1, k2, by simpa [World.setCell] using k3, (k4.far hgg).far hgg, fun hd => k5 (or_ne hd (by omega))⟩
  · rw [upd_ne (by omega), upd_ne (by omega)]
    exact h.ne hD (or_ne hd2 (by omega))
theorem PairJ.store2 (h : PairJ B n val x y us D W) (hD : D (n + 1)) {g : Nat} (hg : us (n + 1) = .pointer (some ⟨g, 0, none⟩)) (u : Value) : PairJ B n val x y (upd us (n + 3) u) (fun k => k = n + 3 ∨ D k) ((W.setCell ⟨g, 0, none⟩ (.int .u64 0)).setCell ⟨g, 1, none⟩ (.int .u64 y)) := by
  obtain ⟨g', z, h1, h2, h3, h4, h5⟩ := h.a2 hD
  rw [hg] at h1
  obtain rfl := ptr_inj h1
  refine ⟨fun k hk hd => ?_, (h.bel.setCell (p := ⟨g, 0, none⟩) h2 _).setCell (p := ⟨g, 1, none⟩) h2 _, fun hd => ?_, fun hd => ?_, fun hd hd2 => ?_, fun hd => .inr (h.d1 (or_ne hd (by omega))), fun hd => .inr hD⟩
  · rw [upd_ne (by omega)]; exact h.val k hk (or_ne hd (by omega))
  · rw [upd_ne (by omega)]
    have hne := h.ne (or_ne hd (by omega)) hD
    obtain ⟨g', z', k1, k2, k3, k4, k5⟩ := h.a1 (or_ne hd (by omega))
    have hgg : g ≠ g' := fun e => hne (by rw [hg, k1, e])
    exact ⟨g', z', k1, k2, by simpa [World.setCell] using k3, (k4.far hgg).far hgg, fun hd => k5 (or_ne hd (by omega))⟩
  · rw [upd_ne (by omega)]
    exact ⟨g, y, hg, h2, by simpa [World.setCell] using h3, h4.put, fun _ => rfl⟩
  · rw [upd_ne (by omega), upd_ne (by omega)]
    exact h.ne (or_ne hd (by omega)) hD
end
end Go.Proofs.Ytojldecldemfaaa
