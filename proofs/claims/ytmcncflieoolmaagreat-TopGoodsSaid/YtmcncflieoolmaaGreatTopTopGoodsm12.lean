/- The invariant of a region that appends one reckoned number to a row that a variable holds; no condition. -/
import Derived.Test.YtmcncflieoolmaaGreatTopTopGoodsm11
import Derived.Deep.AppendLies
/- The invariant of a region that appends one reckoned number to a row that a variable holds; no condition. -/
namespace Go.Proofs.YtmcncflieoolmaaGreat
set_option linter.unusedVariables false
set_option linter.unusedSimpArgs false
open Go.ChangeShapes Go.WideShapes Go.ChangeAt Go.RowKit Go.Deep

section
variable {P : Program} {Q : Exit → Act → World → Prop} {ops : Array Oper}
end
theorem evalTmp (A : Act) (d : Nat) : A.eval (.tmp d) = A.tmps[d]?.getD undef := by simp [Act.eval]
theorem newsOne {W : World} {b : Nat} {X : Int} (h : W.cell? ⟨b, 0, none⟩ = some (.int .i64 X)) : ∀ j u, [Value.int .i64 X][j]? = some u → W.cell? ((⟨b, 0, none⟩ : Addr).add j) = some u := fun j u hu => by
  have hj : j = 0 := by
    have := (List.getElem?_eq_some_iff.1 hu).1
    simpa using this
  subst hj
  simp at hu; subst hu
  rw [add_plain]
  exact h
theorem orNe {D : Nat → Prop} {k i : Nat} (h : k = i ∨ D k) (e : k ≠ i) : D k := h.resolve_left e
/-- li loads the row, bi makes the row of the one number, ai appends, si lays it into the variable. -/
structure AppS (B : Nat) (wB w0 : World) (li bi ai si : Nat) (val : Nat → Value) (X : Int) (n : Nat) (F : World → Option Addr → Nat → Prop) (V0 : Value) (us : Nat → Value) (D : Nat → Prop) (W : World) : Prop where
  val : ∀ k, k ≠ bi → k ≠ ai → k ≠ si → D k → us k = val k
  bel : Below B wB W
  pre : ¬ D ai → Below w0.heap.size w0 W
  lit : D bi → ¬ D ai → ∃ b, us bi = .slice (some ⟨b, 0, none⟩) 1 1 ∧ W.cell? ⟨b, 0, none⟩ = some (.int .i64 X)
  mid : D ai → ∃ p cap, us ai = .slice p (n + 1) cap ∧ F W p cap ∧ (D si → us si = .slice p (n + 1) cap)
  o1 : D ai → D bi ∧ D li
  o2 : D si → D ai
  old : ¬ D si → us si = V0
section
variable {B : Nat} {wB w0 : World} {li bi ai si : Nat} {val : Nat → Value} {X : Int} {n : Nat} {F : World → Option Addr → Nat → Prop} {V0 : Value} {us : Nat → Value} {D : Nat → Prop} {W W' : World}
theorem AppS.start (us : Nat → Value) (hu : us si = V0) (h : Below B wB w0) : AppS B wB w0 li bi ai si val X n F V0 us (fun _ => False) w0.drew :=
  ⟨fun k _ _ _ h => h.elim, h.drew, fun _ => below_drewN _ _ 1, fun h => h.elim, fun h => h.elim, fun h => h.elim, fun h => h, fun _ => hu⟩
theorem AppS.pure (h : AppS B wB w0 li bi ai si val X n F V0 us D W) {i : Nat} (h1 : i ≠ bi) (h2 : i ≠ ai) (h3 : i ≠ si) : AppS B wB w0 li bi ai si val X n F V0 (upd us i (val i)) (fun k => k = i ∨ D k) W := by
  refine ⟨fun k k1 k2 k3 hd => ?_, h.bel, fun hd => h.pre fun hd2 => hd (.inr hd2), fun hd hd2 => ?_, fun hd => ?_, fun hd => ⟨.inr (h.o1 (orNe hd (Ne.symm h2))).1, .inr (h.o1 (orNe hd (Ne.symm h2))).2⟩, fun hd => .inr (h.o2 (orNe hd (Ne.symm h3))), fun hd => by rw [upd_ne (Ne.symm h3)]; exact h.old fun hd2 => hd (.inr hd2)⟩
  · by_cases e : k = i
    · subst e; rw [upd_same]
    · rw [upd_ne e]; exact h.val k k1 k2 k3 (orNe hd e)
  · rw [upd_ne (Ne.symm h1)]; exact h.lit (orNe hd (Ne.symm h1)) fun hd3 => hd2 (.inr hd3)
  · rw [upd_ne (Ne.symm h2), upd_ne (Ne.symm h3)]
    obtain ⟨p, cap, e1, e2, e3⟩ := h.mid (orNe hd (Ne.symm h2))
    exact ⟨p, cap, e1, e2, fun hs => e3 (orNe hs (Ne.symm h3))⟩
theorem AppS.build (h : AppS B wB w0 li bi ai si val X n F V0 us D W) (hn : ¬ D bi) (e1 : bi ≠ ai) (e2 : bi ≠ si) (hB : B ≤ W.heap.size) (T : TypeId) : AppS B wB w0 li bi ai si val X n F V0 (upd us bi (.slice (some ⟨W.heap.size, 0, none⟩) 1 1)) (fun k => k = bi ∨ D k) (W.alloc (.cells #[.int .i64 X] T)) := by
  have ha : ¬ D ai := fun hd => hn (h.o1 hd).1
  have hs : ¬ D si := fun hd => ha (h.o2 hd)
  refine ⟨fun k k1 k2 k3 hd => ?_, h.bel.alloc hB _, fun _ => (h.pre ha).alloc (h.pre ha).size _, fun _ _ => ⟨_, upd_same _ _ _, World.cell?_alloc_at _ _ _ _ rfl⟩, fun hd => (ha (orNe hd (Ne.symm e1))).elim, fun hd => (ha (orNe hd (Ne.symm e1))).elim, fun hd => (hs (orNe hd (Ne.symm e2))).elim, fun _ => by rw [upd_ne (Ne.symm e2)]; exact h.old hs⟩
  rw [upd_ne k1]; exact h.val k k1 k2 k3 (orNe hd k1)
theorem AppS.append (h : AppS B wB w0 li bi ai si val X n F V0 us D W) (hn : ¬ D ai) (hb : D bi) (hl : D li) (e1 : bi ≠ ai) (e2 : ai ≠ si) (hB : Below B wB W') {p : Option Addr} {cap : Nat} (hF : F W' p cap) : AppS B wB w0 li bi ai si val X n F V0 (upd us ai (.slice p (n + 1) cap)) (fun k => k = ai ∨ D k) W' := by
  have hs : ¬ D si := fun hd => hn (h.o2 hd)
  refine ⟨fun k k1 k2 k3 hd => ?_, hB, fun hd => (hd (.inl rfl)).elim, fun _ hd => (hd (.inl rfl)).elim, fun _ => ⟨p, cap, upd_same _ _ _, hF, fun hd => (hs (orNe hd (Ne.symm e2))).elim⟩, fun _ => ⟨.inr hb, .inr hl⟩, fun hd => (hs (orNe hd (Ne.symm e2))).elim, fun _ => by rw [upd_ne (Ne.symm e2)]; exact h.old hs⟩
  rw [upd_ne k2]; exact h.val k k1 k2 k3 (orNe hd k2)
theorem AppS.lay (h : AppS B wB w0 li bi ai si val X n F V0 us D W) (ha : D ai) (hn : ¬ D si) (e1 : bi ≠ si) (e2 : ai ≠ si) : AppS B wB w0 li bi ai si val X n F V0 (upd us si (us ai)) (fun k => k = si ∨ D k) W := by
  obtain ⟨p, cap, m1, m2, _⟩ := h.mid ha
  refine ⟨fun k k1 k2 k3 hd => ?_, h.bel, fun hd => (hd (.inr ha)).elim, fun _ hd => (hd (.inr ha)).elim, fun _ => ⟨p, cap, by rw [upd_ne e2]; exact m1, m2, fun _ => by rw [upd_same]; exact m1⟩, fun _ => ⟨.inr (h.o1 ha).1, .inr (h.o1 ha).2⟩, fun _ => .inr ha, fun hd => (hd (.inl rfl)).elim⟩
  rw [upd_ne k3]; exact h.val k k1 k2 k3 (orNe hd k3)
end
end Go.Proofs.YtmcncflieoolmaaGreat
