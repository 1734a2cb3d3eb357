/- The invariant of a region that appends one reckoned number to a row and puts the row back; no condition. -/
import Derived.Test.YtojldecldemfaaaTopRoomRangem1
import Derived.Test.YtojldecldemfaaaTopRoomRangem2
import Derived.Test.YtojldecldemfaaaTopRoomFreem9
/- The invariant of a region that appends one reckoned number to a row and puts the row back; no condition. -/
namespace Go.Proofs.Ytojldecldemfaaa
set_option linter.unusedVariables false
set_option linter.unusedSimpArgs false
open Go.ChangeShapes Go.WideShapes Go.ChangeAt Go.RowKit Go.Deep

/-- li loads the row, bi makes the row of the one number, ai appends, si puts back. -/
structure AppJ (B : Nat) (wB w0 : World) (li bi ai si : Nat) (val : Nat → Value) (X : Int) (n : Nat) (F : World → Option Addr → Nat → Prop) (G : World → Prop) (us : Nat → Value) (D : Nat → Prop) (W : World) : Prop where
  val : ∀ k, k ≠ bi → k ≠ ai → k ≠ si → D k → us k = val k
  bel : Below B wB W
  pre : ¬ D ai → Below w0.heap.size w0 W
  lit : D bi → ¬ D ai → ∃ b, us bi = .slice (some ⟨b, 0, none⟩) 1 1 ∧ W.cell? ⟨b, 0, none⟩ = some (.int .i64 X)
  mid : D ai → ¬ D si → ∃ p cap, us ai = .slice p (n + 1) cap ∧ F W p cap
  fin : D si → G W
  o1 : D ai → D bi ∧ D li
  o2 : D si → D ai
section
variable {B : Nat} {wB w0 : World} {li bi ai si : Nat} {val : Nat → Value} {X : Int} {n : Nat} {F : World → Option Addr → Nat → Prop} {G : World → Prop} {us : Nat → Value} {D : Nat → Prop} {W W' : World}
theorem AppJ.start (us : Nat → Value) (h : Below B wB w0) : AppJ B wB w0 li bi ai si val X n F G us (fun _ => False) w0.drew :=
  ⟨fun k _ _ _ h => h.elim, h.drew, fun _ => below_drewN _ _ 1, fun h => h.elim, fun h => h.elim, fun h => h.elim, fun h => h.elim, fun h => h⟩
theorem AppJ.pure (h : AppJ B wB w0 li bi ai si val X n F G us D W) {i : Nat} (h1 : i ≠ bi) (h2 : i ≠ ai) (h3 : i ≠ si) : AppJ B wB w0 li bi ai si val X n F G (upd us i (val i)) (fun k => k = i ∨ D k) W := by
  have n1 : ∀ {P : Prop}, ¬ (ai = i ∨ D ai) → ¬ D ai := fun h hd => h (.inr hd)
  refine ⟨fun k k1 k2 k3 hd => ?_, h.bel, fun hd => h.pre fun hd2 => hd (.inr hd2), fun hd hd2 => ?_, fun hd hd2 => ?_, fun hd => h.fin (or_ne hd (Ne.symm h3)), fun hd => ⟨.inr (h.o1 (or_ne hd (Ne.symm h2))).1, .inr (h.o1 (or_ne hd (Ne.symm h2))).2⟩, fun hd => .inr (h.o2 (or_ne hd (Ne.symm h3)))⟩
  · by_cases e : k = i
    · subst e; rw [upd_same]
    · rw [upd_ne e]; exact h.val k k1 k2 k3 (or_ne hd e)
  · rw [upd_ne (Ne.symm h1)]; exact h.lit (or_ne hd (Ne.symm h1)) fun hd3 => hd2 (.inr hd3)
  · rw [upd_ne (Ne.symm h2)]; exact h.mid (or_ne hd (Ne.symm h2)) fun hd3 => hd2 (.inr hd3)
theorem AppJ.build (h : AppJ B wB w0 li bi ai si val X n F G us D W) (hn : ¬ D bi) (e1 : bi ≠ ai) (e2 : bi ≠ si) (hB : B ≤ W.heap.size) (T : TypeId) : AppJ B wB w0 li bi ai si val X n F G (upd us bi (.slice (some ⟨W.heap.size, 0, none⟩) 1 1)) (fun k => k = bi ∨ D k) (W.alloc (.cells #[.int .i64 X] T)) := by
  have ha : ¬ D ai := fun hd => hn (h.o1 hd).1
  have hs : ¬ D si := fun hd => ha (h.o2 hd)
  refine ⟨fun k k1 k2 k3 hd => ?_, h.bel.alloc hB _, fun _ => (h.pre ha).alloc (h.pre ha).size _, fun _ _ => ⟨_, upd_same _ _ _, World.cell?_alloc_at _ _ _ _ rfl⟩, fun hd => (ha (or_ne hd (Ne.symm e1))).elim, fun hd => (hs (or_ne hd (Ne.symm e2))).elim, fun hd => (ha (or_ne hd (Ne.symm e1))).elim, fun hd => (hs (or_ne hd (Ne.symm e2))).elim⟩
  rw [upd_ne k1]; exact h.val k k1 k2 k3 (or_ne hd k1)
theorem AppJ.append (h : AppJ B wB w0 li bi ai si val X n F G us D W) (hn : ¬ D ai) (hb : D bi) (hl : D li) (e1 : bi ≠ ai) (e2 : ai ≠ si) (hB : Below B wB W') {p : Option Addr} {cap : Nat} (hF : F W' p cap) : AppJ B wB w0 li bi ai si val X n F G (upd us ai (.slice p (n + 1) cap)) (fun k => k = ai ∨ D k) W' := by
  have hs : ¬ D si := fun hd => hn (h.o2 hd)
  refine ⟨fun k k1 k2 k3 hd => ?_, hB, fun hd => (hd (.inl rfl)).elim, fun _ hd => (hd (.inl rfl)).elim, fun _ _ => ⟨p, cap, upd_same _ _ _, hF⟩, fun hd => (hs (or_ne hd (Ne.symm e2))).elim, fun _ => ⟨.inr hb, .inr hl⟩, fun hd => (hs (or_ne hd (Ne.symm e2))).elim⟩
  rw [upd_ne k2]; exact h.val k k1 k2 k3 (or_ne hd k2)
theorem AppJ.store (h : AppJ B wB w0 li bi ai si val X n F G us D W) (ha : D ai) (e1 : bi ≠ si) (e2 : ai ≠ si) (hB : Below B wB W') (hG : G W') (u : Value) : AppJ B wB w0 li bi ai si val X n F G (upd us si u) (fun k => k = si ∨ D k) W' := by
  refine ⟨fun k k1 k2 k3 hd => ?_, hB, fun hd => (hd (.inr ha)).elim, fun _ hd => (hd (.inr ha)).elim, fun _ hd => (hd (.inl rfl)).elim, fun _ => hG, fun _ => ⟨.inr (h.o1 ha).1, .inr (h.o1 ha).2⟩, fun _ => .inr ha⟩
  rw [upd_ne k3]; exact h.val k k1 k2 k3 (or_ne hd k3)
end
end Go.Proofs.Ytojldecldemfaaa

/- The invariant of a region that reckons a pair by a call and puts it into a block of its own; no condition. -/
namespace Go.Proofs.Ytojldecldemfaaa
set_option linter.unusedVariables false
set_option linter.unusedSimpArgs false
open Go.ChangeShapes Go.WideShapes Go.ChangeAt Go.RowKit Go.Deep

structure OneJ (B : World) (ai si : Nat) (val : Nat → Value) (X Y : Value) (us : Nat → Value) (D : Nat → Prop) (W : World) : Prop where
  val : ∀ k, k ≠ ai → k ≠ si → D k → us k = val k
  bel : Below B.heap.size B W
  blk : D ai → ∃ (g : Nat) (x y : Value), us ai = .pointer (some ⟨g, 0, none⟩) ∧ B.heap.size ≤ g ∧ g < W.heap.size ∧ Two W g x y ∧ (D si → x = X ∧ y = Y)
  o : D si → D ai
section
variable {B : World} {ai si : Nat} {val : Nat → Value} {X Y : Value} {us : Nat → Value} {D : Nat → Prop} {W W' : World}
theorem OneJ.start (us : Nat → Value) : OneJ B ai si val X Y us (fun _ => False) B.drew :=
  ⟨fun k _ _ h => h.elim, below_drewN _ _ 1, fun h => h.elim, fun h => h⟩
theorem OneJ.pure (h : OneJ B ai si val X Y us D W) {i : Nat} (h1 : i ≠ ai) (h2 : i ≠ si) (hb : Below W.heap.size W W') : OneJ B ai si val X Y (upd us i (val i)) (fun k => k = i ∨ D k) W' := by
  refine ⟨fun k k1 k2 hd => ?_, h.bel.trans (hb.mono h.bel.size), fun hd => ?_, fun hd => .inr (h.o (or_ne hd (Ne.symm h2)))⟩
  · by_cases e : k = i
    · subst e; rw [upd_same]
    · rw [upd_ne e]; exact h.val k k1 k2 (or_ne hd e)
  · rw [upd_ne (Ne.symm h1)]
    obtain ⟨g, x, y, q1, q2, q3, q4, q5⟩ := h.blk (or_ne hd (Ne.symm h1))
    exact ⟨g, x, y, q1, q2, Nat.lt_of_lt_of_le q3 hb.size, q4.below hb q3, fun hd => q5 (or_ne hd (Ne.symm h2))⟩
theorem OneJ.alloc (h : OneJ B ai si val X Y us D W) (hD : ¬ D ai) (e : ai ≠ si) (x y : Value) (T : TypeId) : OneJ B ai si val X Y (upd us ai (.pointer (some ⟨W.heap.size, 0, none⟩))) (fun k => k = ai ∨ D k) (W.alloc (.cells #[x, y] T)) := by
  have hb : Below W.heap.size W (W.alloc (.cells #[x, y] T)) := (Below.refl _ _).alloc (Nat.le_refl _) _
  refine ⟨fun k k1 k2 hd => ?_, h.bel.trans (hb.mono h.bel.size), fun hd => ?_, fun hd => .inl rfl⟩
  · rw [upd_ne k1]; exact h.val k k1 k2 (or_ne hd k1)
  · rw [upd_same]
    exact ⟨_, x, y, rfl, h.bel.size, by simp, Two.new rfl rfl, fun hd => (hD (h.o (or_ne hd (Ne.symm e)))).elim⟩
theorem OneJ.store (h : OneJ B ai si val X Y us D W) (hD : D ai) (e : ai ≠ si) {g : Nat} (hg : us ai = .pointer (some ⟨g, 0, none⟩)) (u : Value) : OneJ B ai si val X Y (upd us si u) (fun k => k = si ∨ D k) ((W.setCell ⟨g, 0, none⟩ X).setCell ⟨g, 1, none⟩ Y) := by
  obtain ⟨g', x, y, h1, h2, h3, h4, h5⟩ := h.blk hD
  rw [hg] at h1
  obtain rfl := ptr_inj h1
  refine ⟨fun k k1 k2 hd => ?_, (h.bel.setCell (p := ⟨g, 0, none⟩) h2 _).setCell (p := ⟨g, 1, none⟩) h2 _, fun hd => ?_, fun hd => .inr hD⟩
  · rw [upd_ne k2]; exact h.val k k1 k2 (or_ne hd k2)
  · rw [upd_ne e]
    exact ⟨g, X, Y, hg, h2, by simpa [World.setCell] using h3, h4.put, fun _ => ⟨rfl, rfl⟩⟩
end
end Go.Proofs.Ytojldecldemfaaa
