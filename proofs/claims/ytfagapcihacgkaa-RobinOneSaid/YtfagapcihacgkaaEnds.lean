/- Ranging over an iterator that would go on for ever, where the loop's body leaves the loop within a known number of rounds; no condition but that number. -/
import Derived.Test.YtfagapcihacgkaaOwn
import Derived.RangeFuncFrom
import Derived.RangeFuncBox
import Derived.RangeFuncLeaves
import Derived.RangeFuncCalls
namespace Go.Proofs.Ytfagapcihacgkaa
set_option linter.unusedSimpArgs false
open Go.ChangeShapes Go.WideShapes Go.ChangeAt Go.RowKit Go.Deep
set_option linter.unusedVariables false

/-- All blocks below n but O lie as they lay. -/
structure Keeps (O n : Nat) (A B : World) : Prop where
  bel : Below O A B
  same : ∀ k, O < k → k < n → B.heap[k]? = A.heap[k]?
theorem Keeps.refl (O n : Nat) (A : World) : Keeps O n A A := ⟨Below.refl _ _, fun _ _ _ => rfl⟩
theorem Keeps.trans {O n : Nat} {A B C : World} (h : Keeps O n A B) (k : Keeps O n B C) : Keeps O n A C := ⟨h.bel.trans k.bel, fun i h1 h2 => (k.same i h1 h2).trans (h.same i h1 h2)⟩
theorem Keeps.block {O n : Nat} {A B : World} (h : Keeps O n A B) {k : Nat} (hk : k < n) (hne : k ≠ O) : B.heap[k]? = A.heap[k]? := by
  rcases Nat.lt_or_gt_of_ne hne with h1 | h1
  · exact h.bel.block k h1
  · exact h.same k h1 hk
theorem Keeps.cell {O n : Nat} {A B : World} (h : Keeps O n A B) {b o : Nat} (hk : b < n) (hne : b ≠ O) : B.cell? ⟨b, o, none⟩ = A.cell? ⟨b, o, none⟩ := World.cell?_of_block (w := A) (a := ⟨b, o, none⟩) (h.block hk hne)
theorem Keeps.grown {O n : Nat} {w0 A B : World} {row : Option Nat} (h : Keeps O n w0 A) (hn : n ≤ A.heap.size) (hO : O < n) (hg : A.grownBy B row) (hr : ∀ k, row = some k → n ≤ k) : Keeps O n w0 B :=
  ⟨h.bel.grown hg (by omega) (fun k e => by have := hr k e; omega), fun k h1 h2 => (hg.block k (by omega) (fun e => by have := hr k e.symm; omega)).trans (h.same k h1 h2)⟩
theorem Keeps.setO {O n : Nat} {w0 A : World} {v : Value} (h : Keeps O n w0 A) : Keeps O n w0 (A.setCell ⟨O, 0, none⟩ v) :=
  ⟨h.bel.setCell (p := ⟨O, 0, none⟩) (Nat.le_refl _) _, fun k h1 h2 => (Below.heap_setCell A ⟨O, 0, none⟩ _ k (fun e => by simp only at e; omega)).trans (h.same k h1 h2)⟩
theorem Keeps.putObj {O n : Nat} {w : World} (hn : n ≤ w.heap.size) (hO : O < n) (W : World) (l : Nat) (o o' : Obj) (hl : w.heap.size ≤ l) (h : W.heap[l]? = some o) (_ : o.isCells = false) (_ : o.isWalk = false) : Keeps O n W (W.putObj l o') :=
  ⟨(Below.refl O W).grown (grownBy_putObj' W l o') (by have := (Array.getElem?_eq_some_iff.1 h).1; omega) (fun k e => by cases e; omega), fun k h1 h2 => World.putObj_heap_other (by omega)⟩

/-- The iterator's contract: if whoever ranges over it stops it after at most N rounds, it returns, stopped, with what it gave. -/
def SeqEnds {α : Type} (n gf : Nat) (lb : Array Value) (encs : α → Array Value) (Kp : World → World → Prop) (Sp : List α → Prop) (N : Nat) (w : World) : Prop :=
  ∀ (l : Nat) (J Jx : List α → World → Prop) (W : World), Below w.heap.size w W → AbidesFrom W.heap.size J → AbidesFrom W.heap.size Jx → (∀ pre W1, J pre W1 → pre.length ≤ N) →
    (∀ pre x W1, J pre W1 → YieldAt Fence.wide (n - 1) Try.prog l (encs x) W1 fun e W' =>
      (e = .returned (.bool true) ∧ J (pre ++ [x]) W' ∧ Kp W1 W') ∨ (e = .returned (.bool false) ∧ Jx (pre ++ [x]) W')) →
    J [] W → CallsIn Fence.wide n Try.prog gf (#[.func (.yield l) #[] #[]] ++ lb) W fun e W' => (∃ v, e = .returned v) ∧ ∃ pre, Sp pre ∧ Jx pre W'

/-- How a round may be left: at its end, or by the jump out of the loop. -/
def endsPost {α : Type} (Kp : World → World → Prop) (I Ix : List α → World → Prop) (id : Nat) (xs : List α) (W : World) : Exit → Act → World → Prop
  | .normal, _, W' => KeepsOthers W W' ∧ Kp W W' ∧ I xs W'
  | .exit i, _, W' => i = id ∧ KeepsOthers W W' ∧ Ix xs W'
  | _, _, _ => False

set_option maxHeartbeats 1000000 in
theorem range_ends {α : Type} {n : Nat} {g : Operand} {ps : Array Tmp} {assign body : Code} {Q : Exit → Act → World → Prop} {a : Act} {w : World} (h1 : 1 ≤ n) {gf : Nat} {lb : Array Value}
    (hg : a.eval g = .func (.func gf) #[] lb) (eg : ∀ args W, (callFunc gf args).run Try.prog W = .ok (.enter gf args) W) {encs : α → Array Value} {Kp : World → World → Prop} {Sp : List α → Prop} {N : Nat}
    (hseq : SeqEnds (n - 1) gf lb encs Kp Sp N w) (hKt : ∀ {A B C : World}, Kp A B → Kp B C → Kp A C)
    (hKb : ∀ (W : World) (l : Nat) (o o' : Obj), w.heap.size ≤ l → W.heap[l]? = some o → o.isCells = false → o.isWalk = false → Kp W (W.putObj l o')) (hps : ∀ x, (encs x).size = ps.size)
    (I Ix : List α → World → Prop) (id : Nat) (hI : OwnFrom w.heap.size I) (hIx : OwnFrom w.heap.size Ix) (hN : ∀ pre W, I pre W → pre.length ≤ N) (h0 : I [] w) (a₁ : α → Act)
    (hassign : ∀ (l : Nat) (x : α) (W : World) (K : Act → World → Prop), K (a₁ x) W →
      assign.wpIn (Fence.wide.inRound l) (n - 1 - 1) Try.prog (Exit.then K (fun _ _ _ => False)) { tmps := (ps.zip (encs x)).foldl (fun t (p, v) => t.setIfInBounds p v) a.tmps, defers := [] } W)
    (hbody : ∀ (l : Nat) (pre : List α) (x : α) (W : World), I pre W → body.wpIn (Fence.wide.inRound l) (n - 1 - 1) Try.prog (endsPost Kp I Ix id (pre ++ [x]) W) (a₁ x) W)
    (hstop : ∀ (D : Nat) (pre : List α) (W : World), w.heap.size ≤ D → Sp pre → Ix pre W → W.heap[D]? = some (.deferred (some [])) → (Code.exit id).wpIn Fence.wide n Try.prog Q { a with defers := { target := .collected D, args := #[] } :: a.defers } W) :
    (Code.rangeFunc g ps assign body).wpIn Fence.wide n Try.prog Q a w := by
  refine wpIn_rangeFunc fun fn hfn => ?_
  obtain ⟨R, hR⟩ : ∃ R : LoopState → Option Code → Loop, R = fun st pe => { state := st, pending := pe, fn, tmps := a.tmps, params := ps, assign, body, defers := w.heap.size } := ⟨_, rfl⟩
  obtain ⟨V, hV⟩ : ∃ V, (w.alloc (.deferred (some []))).alloc (.loop (R .ready none)) = V := ⟨_, rfl⟩
  obtain ⟨L, hL⟩ : ∃ L, w.heap.size + 1 = L := ⟨_, rfl⟩
  have hvs : V.heap.size = w.heap.size + 2 := by rw [← hV]; simp
  have vL : V.heap[L]? = some (.loop (R .ready none)) := by
    have := World.alloc_heap_new (w.alloc (.deferred (some []))) (.loop (R .ready none))
    rw [World.size_alloc, hL, hV] at this
    exact this
  have vD : V.heap[w.heap.size]? = some (.deferred (some [])) := by
    rw [← hV]; exact (Below.heap_alloc _ _ _ (by simp)).trans (World.alloc_heap_new w _)
  have vB : Below w.heap.size w V := by rw [← hV]; exact ((Below.refl _ w).alloc (Nat.le_refl _) _).alloc (by simp) _
  have vI : I [] V := by rw [← hV]; exact hI.alloc _ (hI.alloc _ h0)
  have hLD : L ≠ w.heap.size := by omega
  -- the loop's record in a state, the deferred calls' block empty
  let At : Loop → World → Prop := fun r W => W.heap[L]? = some (.loop r) ∧ W.heap[w.heap.size]? = some (.deferred (some []))
  have at_kept : ∀ {r : Loop} {A B : World} {row : Option Nat}, At r A → A.grownBy B row → (∀ k, row = some k → V.heap.size ≤ k ∧ ∃ o : Obj, A.heap[k]? = some o ∧ o.isWalk = true) → At r B := fun ha hg hr =>
    ⟨(grownBy_keeps hg (fun k e => (hr k e).2) ha.1 rfl).trans ha.1, (grownBy_keeps hg (fun k e => (hr k e).2) ha.2 rfl).trans ha.2⟩
  have at_others : ∀ {r : Loop} {A B : World}, At r A → KeepsOthers A B → At r B := fun ha hk => ⟨hk.same _ _ ha.1 rfl, hk.same _ _ ha.2 rfl⟩
  have at_put : ∀ {r r' : Loop} {A : World}, At r A → At r' (A.putObj L (.loop r')) := fun ha =>
    ⟨World.putObj_heap_same (Array.getElem?_eq_some_iff.1 ha.1).1, (World.putObj_heap_other hLD.symm).trans ha.2⟩
  have off : ∀ {A : World} {row : Option Nat}, (∀ k, row = some k → V.heap.size ≤ k ∧ ∃ o : Obj, A.heap[k]? = some o ∧ o.isWalk = true) → (∀ k, row = some k → w.heap.size ≤ k ∧ ∃ o : Obj, A.heap[k]? = some o ∧ o.isCells = false) := fun hr k e => by
    obtain ⟨h2, o, ho, hw⟩ := hr k e
    exact ⟨by omega, o, ho, Obj.not_cells_of_walk hw⟩
  refine ⟨L, [{ target := .collected w.heap.size, args := #[] }], V, { target := .fn (.func gf) lb, args := #[.func (.yield L) #[] #[]] }, V, gf, #[.func (.yield L) #[] #[]] ++ lb, V, ?_, ?_, fun f' _ => trivial, ?_, fun _ => h1, ?_⟩
  · have := run_enterLoop_outer (P := Try.prog) (w := w) fn a.tmps ps assign body
    rw [hL] at this
    rw [← hV, hR]
    exact this
  · simp only [resolve, hg]; simp [go_sem]
  · simp [invoke, go_sem, eg]
  refine (hseq L (fun pre W => I pre W ∧ At (R .ready none) W) (fun pre W => Ix pre W ∧ At (R .done (some (.exit id))) W) V vB
    (fun s A B row hs hg' hr => ⟨hI s A B row hs.1 hg' (off hr), at_kept hs.2 hg' hr⟩) (fun s A B row hs hg' hr => ⟨hIx s A B row hs.1 hg' (off hr), at_kept hs.2 hg' hr⟩)
    (fun pre W1 h => hN pre W1 h.1) ?round ⟨vI, vL, vD⟩).mono ?behind
  case round =>
    rintro pre x W ⟨hi, ha⟩
    have hy := run_yield (P := Try.prog) (args := encs x) ha.1 (by rw [hR]; exact hps x)
    rw [hR] at hy
    refine ⟨fn, _, assign, body, hy, roundIn_of_wpIn hfn (hassign _ x W _ ⟨_, run_beginRound ha.1 (by rw [hR]), ?_⟩)⟩
    have ha2 := at_put (r' := { R .ready none with state := .busy }) ha
    have hk2 : Kp W (W.putObj L (.loop { R .ready none with state := .busy })) := hKb _ _ _ _ (by omega) ha.1 rfl rfl
    refine wpIn_mono (hbody _ pre x _ (hI.putObj _ hi (by omega) ha.1 rfl)) fun e a3 W3 hp => ?_
    cases e with
    | normal =>
      obtain ⟨k1, k2, k3⟩ := hp
      have ha3 := at_others ha2 k1
      have hr := run_endRound (P := Try.prog) none ha3.1
      have ha4 := at_put (r' := R .ready none) ha3
      rw [hR] at hr ha3 ha4
      refine ⟨_, _, hr, .inl ⟨rfl, ⟨hI.putObj _ k3 (by omega) ha3.1 rfl, ?_⟩, hKt (hKt hk2 k2) (hKb _ _ _ _ (by omega) ha3.1 rfl rfl)⟩⟩
      rw [hR]; exact ha4
    | exit i =>
      obtain ⟨rfl, k1, k3⟩ := hp
      have ha3 := at_others ha2 k1
      have hr := run_endRound (P := Try.prog) (some (.exit i)) ha3.1
      have ha4 := at_put (r' := R .done (some (.exit i))) ha3
      rw [hR] at hr ha3 ha4
      refine ⟨_, _, hr, .inr ⟨rfl, hIx.putObj _ k3 (by omega) ha3.1 rfl, ?_⟩⟩
      rw [hR]; exact ha4
    | ret => exact hp.elim
    | goto t => exact hp.elim
    | panic ch => exact hp.elim
    | outgrown => exact hp.elim
  case behind =>
    rintro e W2 ⟨⟨v, rfl⟩, pre, hSp, hi, ha⟩
    have hr := run_endLoop (P := Try.prog) ha.1 (by rw [hR]; simp)
    rw [hR] at hr
    exact ⟨some (.exit id), _, hr, hstop _ pre _ (Nat.le_refl _) hSp (hIx.putObj _ hi (by omega) ha.1 rfl) ((World.putObj_heap_other hLD.symm).trans ha.2)⟩
end Go.Proofs.Ytfagapcihacgkaa
