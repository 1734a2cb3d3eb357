/- Counts to which weeks are added; rows of the call's own between two numbers of blocks. -/
import Derived.Test.YtcgaojnfgkfnkaaTopRotaCheapestm7
import Derived.Test.YtcgaojnfgkfnkaaTopRotaCheapestm4
import Derived.Test.YtcgaojnfgkfnkaaTopRotaCheapestm1
import Derived.RangeFuncFrom
import Derived.RangeFuncBox
import Derived.RangeFuncLeaves
import Derived.RangeFuncCalls
import Derived.Test.YtcgaojnfgkfnkaaTopRotaCheapestm2
import Derived.WalkSpells
/- Counts to which weeks are added; rows of the call's own between two numbers of blocks. -/
namespace Go.Proofs.Ytcgaojnfgkfnkaa
set_option linter.unusedVariables false
set_option linter.unusedSimpArgs false
open Go.ChangeShapes Go.WideShapes Go.ChangeAt Go.RowKit Go.Deep

/-- Counts of at most m. -/
structure CntM (m : Int) (v : List (List Int)) : Prop where
  len : v.length ≤ 12
  row : ∀ i, i < v.length → (rget v i).length = v.length
  cb : ∀ i k, i < v.length → k < v.length → 0 ≤ iget (rget v i) k ∧ iget (rget v i) k ≤ m
theorem CntM.counts {m : Int} {v : List (List Int)} (h : CntM m v) (hm : m ≤ 1000) : CountsP v := ⟨by have := h.len; omega, h.row, fun i k hi hk => by have := h.cb i k hi hk; unfold bid; omega⟩
theorem CntM.mono {m m' : Int} {v : List (List Int)} (h : CntM m v) (hm : m ≤ m') : CntM m' v := ⟨h.len, h.row, fun i k hi hk => by have := h.cb i k hi hk; omega⟩
theorem CntM.of_chk {v : List (List Int)} (h : chk32 v = 0) : CntM 400 v := by
  obtain ⟨h1, h2⟩ := chk32_zero h
  have : ¬ 12 < v.length := fun h => h1 (.inl h)
  exact ⟨by omega, fun i hi => (h2.2 i hi).1, fun i k hi hk => (h2.2 i hi).2 k hk⟩
theorem chk32_of {v : List (List Int)} (h : CntM 400 v) (h1 : 1 ≤ v.length) : chk32 v = 0 := by
  refine chk32_good (fun h2 => ?_) ⟨h1, fun i hi => ⟨h.row i hi, fun k hk => h.cb i k hi hk⟩⟩
  rcases h2 with h2 | ⟨i, hi, h2⟩
  · have := h.len; omega
  · have := h.row i hi; have := h.len; omega
/-- The first i agents of a week added. -/
def addN (v : List (List Int)) (a : List Int) : Nat → List (List Int)
  | 0 => v
  | i + 1 => (addN v a i).set i ((rget (addN v a i) i).set (itm a i) (iget (rget (addN v a i) i) (itm a i) + 1))
def addW (v : List (List Int)) (a : List Int) : List (List Int) := addN v a v.length
theorem addN_len (v : List (List Int)) (a : List Int) : ∀ i, (addN v a i).length = v.length
  | 0 => rfl
  | i + 1 => by simp only [addN, List.length_set]; exact addN_len v a i
theorem addW_len (v : List (List Int)) (a : List Int) : (addW v a).length = v.length := addN_len v a _
theorem addN_ge (v : List (List Int)) (a : List Int) : ∀ i j, i ≤ j → i ≤ v.length → rget (addN v a i) j = rget v j
  | 0, _, _, _ => rfl
  | i + 1, j, h, hl => by
    simp only [addN]
    rw [rget_set (by rw [addN_len]; omega), if_neg (by omega), addN_ge v a i j (by omega) (by omega)]
theorem addN_lt (v : List (List Int)) (a : List Int) : ∀ i j, j < i → i ≤ v.length → rget (addN v a i) j = (rget v j).set (itm a j) (iget (rget v j) (itm a j) + 1)
  | i + 1, j, h, hl => by
    simp only [addN]
    rw [rget_set (by rw [addN_len]; omega)]
    by_cases e : i = j
    · subst e; rw [if_pos rfl, addN_ge v a i i (Nat.le_refl _) (by omega)]
    · rw [if_neg e, addN_lt v a i j (by omega) (by omega)]
theorem addW_row {v : List (List Int)} {a : List Int} {j : Nat} (hj : j < v.length) : rget (addW v a) j = (rget v j).set (itm a j) (iget (rget v j) (itm a j) + 1) := addN_lt v a _ j hj (Nat.le_refl _)
theorem addW_at {v : List (List Int)} {a : List Int} {j k : Nat} (hj : j < v.length) (ha : itm a j < (rget v j).length) : iget (rget (addW v a) j) k = iget (rget v j) k + (if itm a j = k then 1 else 0) := by
  rw [addW_row hj, iget_set ha]
  by_cases e : itm a j = k
  · rw [if_pos e, if_pos e, e]
  · rw [if_neg e, if_neg e, Int.add_zero]
theorem addN_row_len {v : List (List Int)} {a : List Int} {i j : Nat} (hi : i ≤ v.length) : (rget (addN v a i) j).length = (rget v j).length := by
  by_cases h : j < i
  · rw [addN_lt v a i j h hi, List.length_set]
  · rw [addN_ge v a i j (by omega) hi]
theorem CntM.addW {m : Int} {v : List (List Int)} (h : CntM m v) {a : List Int} (ha : IsA a v.length) : CntM (m + 1) (addW v a) := by
  refine ⟨by rw [addW_len]; exact h.len, fun i hi => ?_, fun i k hi hk => ?_⟩
  · rw [addW_len] at hi ⊢
    rw [addW_row hi, List.length_set, h.row i hi]
  · rw [addW_len] at hi hk
    rw [addW_at hi (by rw [h.row i hi]; exact (isA_lt ha i hi).2)]
    have := h.cb i k hi hk
    split <;> omega
/-- The counts after t weeks, and the weeks. -/
noncomputable def cntN (v : List (List Int)) : Nat → List (List Int)
  | 0 => v
  | t + 1 => addW (cntN v t) (weekA (cntN v t))
noncomputable def wkN (v : List (List Int)) (t : Nat) : List Int := weekA (cntN v t)
noncomputable def folL (v : List (List Int)) (m : Nat) : List (List Int) := (List.range m).map (wkN v)
theorem folL_succ (v : List (List Int)) (m : Nat) : folL v (m + 1) = folL v m ++ [weekA (cntN v m)] := by simp [folL, wkN, List.range_succ]
theorem folL_len (v : List (List Int)) (m : Nat) : (folL v m).length = m := by simp [folL]
theorem folL_get (v : List (List Int)) {m t : Nat} (h : t < m) : rget (folL v m) t = wkN v t := by simp [folL, rget, h]
theorem cntN_len (v : List (List Int)) : ∀ t, (cntN v t).length = v.length
  | 0 => rfl
  | t + 1 => by show (addW (cntN v t) (weekA (cntN v t))).length = _; rw [addW_len, cntN_len v t]

/-- Rows of the call's own in blocks from b0 on, below B. -/
def Held (w : World) (b0 B : Nat) (q : Option Addr) (d : Nat) (v : List (List Int)) : Prop := ∃ Q D, DMat w b0 q d v Q D ∧ Within B q v.length Q
/-- What turns only blocks from b0 on, below B. -/
def Out (b0 B : Nat) (w w' : World) : Prop := Below b0 w w' ∧ ∀ k, B ≤ k → w'.heap[k]? = w.heap[k]?
theorem Out.refl (b0 B : Nat) (w : World) : Out b0 B w w := ⟨Below.refl _ _, fun _ _ => rfl⟩
theorem Out.trans {b0 B : Nat} {a b c : World} (h : Out b0 B a b) (k : Out b0 B b c) : Out b0 B a c := ⟨h.1.trans k.1, fun i hi => (k.2 i hi).trans (h.2 i hi)⟩
theorem Out.set {b0 B : Nat} {a b : World} (h : Out b0 B a b) {g t : Nat} (h1 : b0 ≤ g) (h2 : g < B) (x : Value) : Out b0 B a (b.setCell ⟨g, t, none⟩ x) :=
  ⟨h.1.setCell (p := ⟨g, t, none⟩) h1 x, fun k hk => (Below.heap_setCell b ⟨g, t, none⟩ x k (fun e => by simp only at e; omega)).trans (h.2 k hk)⟩
theorem Out.drewN {b0 B : Nat} {a b : World} (h : Out b0 B a b) (n : Nat) : Out b0 B a (b.drewN n) := ⟨h.1.drewN' n, fun k hk => ((below_drewN (k + 1) b n).block k (by omega)).trans (h.2 k hk)⟩
theorem Out.ints {b0 B : Nat} {w w' : World} (h : Out b0 B w w') {g c : Nat} {a : List Int} (hg : B ≤ g) (hi : Ints w (some ⟨g, 0, none⟩) c a) : Ints w' (some ⟨g, 0, none⟩) c a :=
  hi.keep h.1.size fun ad e _ => by cases e; exact h.2 g hg
theorem Out.dmat {b0 B : Nat} {w w' : World} (h : Out b0 B w w') {p : Option Addr} {c : Nat} {v : List (List Int)} {Q : Nat → Option Addr} {D : Nat → Nat} (hi : DMat w B p c v Q D) : DMat w' B p c v Q D := hi.above h.2
theorem Held.mat {w : World} {b0 B : Nat} {q : Option Addr} {d : Nat} {v : List (List Int)} (h : Held w b0 B q d v) : Mat w q d v := by obtain ⟨Q, D, h, _⟩ := h; exact h.mat
theorem Held.below {w w' : World} {b0 B : Nat} {q : Option Addr} {d : Nat} {v : List (List Int)} (h : Held w b0 B q d v) (hb : Below B w w') : Held w' b0 B q d v := by
  obtain ⟨Q, D, h, k⟩ := h; exact ⟨Q, D, h.belowW k hb, k⟩
theorem Held.of {w : World} {b0 : Nat} {q : Option Addr} {d : Nat} {v : List (List Int)} {Q : Nat → Option Addr} {D : Nat → Nat} (h : DMat w b0 q d v Q D) : Held w b0 w.heap.size q d v := ⟨Q, D, h, h.within⟩
theorem Held.at {w : World} {b0 B : Nat} {q : Option Addr} {d : Nat} {v : List (List Int)} (h : Held w b0 B q d v) {i t : Nat} (hi : i < v.length) (ht : t < (rget v i).length) :
    ∃ gt g dd, q = some ⟨gt, 0, none⟩ ∧ w.cell? ⟨gt, i, none⟩ = some (.slice (some ⟨g, 0, none⟩) (rget v i).length dd) ∧ w.cell? ⟨g, t, none⟩ = some (.int .i64 (iget (rget v i) t)) ∧ w.frozen? ⟨g, t, none⟩ = false ∧ b0 ≤ g ∧ g < B ∧
      ∀ x, in64 x → Held (w.setCell ⟨g, t, none⟩ (.int .i64 x)) b0 B q d (v.set i ((rget v i).set t x)) := by
  obtain ⟨Q, D, h, hw⟩ := h
  obtain ⟨gt, rfl, h1, h2, h3, h4⟩ := h.tmat.get hi
  obtain ⟨g, hQ, h5, h6, h7, h8⟩ := (h.rows i hi).get ht
  rw [hQ] at h3
  exact ⟨gt, g, D i, rfl, h3, h7, h8, h5, hw.2 i hi g (by rw [hQ]; rfl), fun x hx => ⟨Q, D, h.setElem hi hQ hx, by rw [List.length_set]; exact hw⟩⟩
/-- A step of adding a week. -/
theorem Held.add {w : World} {b0 B : Nat} {q : Option Addr} {d : Nat} {v : List (List Int)} {a : List Int} {i : Nat} (h : Held w b0 B q d (addN v a i)) (hi : i < v.length) (ht : itm a i < (rget v i).length) :
    ∃ gt g dd, q = some ⟨gt, 0, none⟩ ∧ w.cell? ⟨gt, i, none⟩ = some (.slice (some ⟨g, 0, none⟩) (rget v i).length dd) ∧ w.cell? ⟨g, itm a i, none⟩ = some (.int .i64 (iget (rget v i) (itm a i))) ∧ w.frozen? ⟨g, itm a i, none⟩ = false ∧ b0 ≤ g ∧ g < B ∧
      (in64 (iget (rget v i) (itm a i) + 1) → Held (w.setCell ⟨g, itm a i, none⟩ (.int .i64 (iget (rget v i) (itm a i) + 1))) b0 B q d (addN v a (i + 1))) := by
  have e := addN_ge v a i i (Nat.le_refl _) (by omega)
  obtain ⟨gt, g, dd, h1, h2, h3, h4, h5, h6, h7⟩ := h.at (i := i) (t := itm a i) (by rw [addN_len]; exact hi) (by rw [e]; exact ht)
  rw [e] at h2 h3
  refine ⟨gt, g, dd, h1, h2, h3, h4, h5, h6, fun hx => ?_⟩
  have h8 := h7 _ hx
  show Held _ b0 B q d ((addN v a i).set i ((rget (addN v a i) i).set (itm a i) (iget (rget (addN v a i) i) (itm a i) + 1)))
  rw [e]
  rw [e] at h8
  exact h8
end Go.Proofs.Ytcgaojnfgkfnkaa

/- The week of given counts, by looking at all lists; plain. -/
namespace Go.Proofs.Ytcgaojnfgkfnkaa
set_option linter.unusedVariables false
set_option linter.unusedSimpArgs false
def weekChk (v : List (List Int)) (a : List Int) : Bool :=
  isAB a v.length && (allD v.length v.length).all fun x => !isAB x v.length || decide (worthI v a < worthI v x) || (decide (worthI v x = worthI v a) && (x == a || lltB a x))
theorem isWeek_of_chk {v : List (List Int)} {a : List Int} (h : weekChk v a = true) : IsWeek v a := by
  unfold weekChk at h
  rw [Bool.and_eq_true] at h
  have hA : IsA a v.length := by simpa [isAB] using h.1
  refine ⟨hA, .inr ⟨hA, fun x hx => ?_⟩⟩
  have hm : x ∈ allD v.length v.length := mem_allD _ _ hx.1 (fun y hy => by
    obtain ⟨j, hj, rfl⟩ := List.getElem_of_mem hy
    have := isA_digits hx j hj
    rwa [iget_of hj] at this)
  have h2 := List.all_eq_true.1 h.2 x hm
  have hxb : isAB x v.length = true := by simp [isAB, hx]
  rw [hxb] at h2
  simp only [Bool.not_true, Bool.false_or, Bool.or_eq_true, Bool.and_eq_true, decide_eq_true_iff, beq_iff_eq] at h2
  simp only []
  rcases h2 with h3 | ⟨h3, h4 | h4⟩
  · exact .inl (by omega)
  · exact .inr ⟨by omega, .inl h4⟩
  · exact .inr ⟨by omega, .inr (llt_of h4)⟩
theorem weekA_chk {v : List (List Int)} {a : List Int} (h : weekChk v a = true) : weekA v = a := weekA_eq (isWeek_of_chk h)
theorem wk_z2 : weekA [[0, 0], [0, 0]] = [0, 1] := weekA_chk (by decide +kernel)
theorem wk_z2b : weekA [[1, 0], [0, 1]] = [1, 0] := weekA_chk (by decide +kernel)
theorem wk_i3 : weekA [[1, 0, 0], [0, 1, 0], [0, 0, 1]] = [1, 2, 0] := weekA_chk (by decide +kernel)
theorem fol_z2 : folL [[0, 0], [0, 0]] 2 = [[0, 1], [1, 0]] := by
  rw [folL_succ, folL_succ]
  show ([] ++ [weekA [[0, 0], [0, 0]]]) ++ [weekA (addW [[0, 0], [0, 0]] (weekA [[0, 0], [0, 0]]))] = _
  rw [wk_z2, show addW [[0, 0], [0, 0]] [0, 1] = [[1, 0], [0, 1]] by decide +kernel, wk_z2b]
  rfl
end Go.Proofs.Ytcgaojnfgkfnkaa

/- Ranging over an iterator that would go on for ever, where the loop's body leaves the loop within a known number of rounds; no condition but that number. -/
namespace Go.Proofs.Ytcgaojnfgkfnkaa
set_option linter.unusedSimpArgs false
open Go.ChangeShapes Go.WideShapes Go.ChangeAt Go.RowKit Go.Deep
set_option linter.unusedVariables false

/-- All blocks below n but O lie as they lay. -/
structure Keeps (O n : Nat) (A B : World) : Prop where
  bel : Below O A B
  same : ∀ k, O < k → k < n → B.heap[k]? = A.heap[k]?
theorem Keeps.refl (O n : Nat) (A : World) : Keeps O n A A := ⟨Below.refl _ _, fun _ _ _ => rfl⟩
theorem Keeps.trans {O n : Nat} {A B C : World} (h : Keeps O n A B) (k : Keeps O n B C) : Keeps O n A C := ⟨h.bel.trans k.bel, fun i h1 h2 => (k.same i h1 h2).trans (h.same i h1 h2)⟩
theorem Keeps.block {O n : Nat} {A B : World} (h : Keeps O n A B) {k : Nat} (hk : k < n) (hne : k ≠ O) : B.heap[k]? = A.heap[k]? := by
  rcases Nat.lt_or_gt_of_ne hne with h1 | h1
  · exact h.bel.block k h1
  · exact h.same k h1 hk
theorem Keeps.cell {O n : Nat} {A B : World} (h : Keeps O n A B) {b o : Nat} (hk : b < n) (hne : b ≠ O) : B.cell? ⟨b, o, none⟩ = A.cell? ⟨b, o, none⟩ := World.cell?_of_block (w := A) (a := ⟨b, o, none⟩) (h.block hk hne)
theorem Keeps.grown {O n : Nat} {w0 A B : World} {row : Option Nat} (h : Keeps O n w0 A) (hn : n ≤ A.heap.size) (hO : O < n) (hg : A.grownBy B row) (hr : ∀ k, row = some k → n ≤ k) : Keeps O n w0 B :=
  ⟨h.bel.grown hg (by omega) (fun k e => by have := hr k e; omega), fun k h1 h2 => (hg.block k (by omega) (fun e => by have := hr k e.symm; omega)).trans (h.same k h1 h2)⟩
theorem Keeps.setO {O n : Nat} {w0 A : World} {v : Value} (h : Keeps O n w0 A) : Keeps O n w0 (A.setCell ⟨O, 0, none⟩ v) :=
  ⟨h.bel.setCell (p := ⟨O, 0, none⟩) (Nat.le_refl _) _, fun k h1 h2 => (Below.heap_setCell A ⟨O, 0, none⟩ _ k (fun e => by simp only at e; omega)).trans (h.same k h1 h2)⟩
theorem Keeps.putObj {O n : Nat} {w : World} (hn : n ≤ w.heap.size) (hO : O < n) (W : World) (l : Nat) (o o' : Obj) (hl : w.heap.size ≤ l) (h : W.heap[l]? = some o) (_ : o.isCells = false) (_ : o.isWalk = false) : Keeps O n W (W.putObj l o') :=
  ⟨(Below.refl O W).grown (grownBy_putObj' W l o') (by have := (Array.getElem?_eq_some_iff.1 h).1; omega) (fun k e => by cases e; omega), fun k h1 h2 => World.putObj_heap_other (by omega)⟩

/-- The iterator's contract: if whoever ranges over it stops it after at most N rounds, it returns, stopped, with what it gave. -/
def SeqEnds {α : Type} (n gf : Nat) (lb : Array Value) (encs : α → Array Value) (Kp : World → World → Prop) (Sp : List α → Prop) (N : Nat) (w : World) : Prop :=
  ∀ (l : Nat) (J Jx : List α → World → Prop) (W : World), Below w.heap.size w W → AbidesFrom W.heap.size J → AbidesFrom W.heap.size Jx → (∀ pre W1, J pre W1 → pre.length ≤ N) →
    (∀ pre x W1, J pre W1 → YieldAt Fence.wide (n - 1) Try.prog l (encs x) W1 fun e W' =>
      (e = .returned (.bool true) ∧ J (pre ++ [x]) W' ∧ Kp W1 W') ∨ (e = .returned (.bool false) ∧ Jx (pre ++ [x]) W')) →
    J [] W → CallsIn Fence.wide n Try.prog gf (#[.func (.yield l) #[] #[]] ++ lb) W fun e W' => (∃ v, e = .returned v) ∧ ∃ pre, Sp pre ∧ Jx pre W'

/-- How a round may be left: at its end, or by the jump out of the loop. -/
def endsPost {α : Type} (Kp : World → World → Prop) (I Ix : List α → World → Prop) (id : Nat) (xs : List α) (W : World) : Exit → Act → World → Prop
  | .normal, _, W' => KeepsOthers W W' ∧ Kp W W' ∧ I xs W'
  | .exit i, _, W' => i = id ∧ KeepsOthers W W' ∧ Ix xs W'
  | _, _, _ => False

set_option maxHeartbeats 1000000 in
theorem range_ends {α : Type} {n : Nat} {g : Operand} {ps : Array Tmp} {assign body : Code} {Q : Exit → Act → World → Prop} {a : Act} {w : World} (h1 : 1 ≤ n) {gf : Nat} {lb : Array Value}
    (hg : a.eval g = .func (.func gf) #[] lb) (eg : ∀ args W, (callFunc gf args).run Try.prog W = .ok (.enter gf args) W) {encs : α → Array Value} {Kp : World → World → Prop} {Sp : List α → Prop} {N : Nat}
    (hseq : SeqEnds (n - 1) gf lb encs Kp Sp N w) (hKt : ∀ {A B C : World}, Kp A B → Kp B C → Kp A C)
    (hKb : ∀ (W : World) (l : Nat) (o o' : Obj), w.heap.size ≤ l → W.heap[l]? = some o → o.isCells = false → o.isWalk = false → Kp W (W.putObj l o')) (hps : ∀ x, (encs x).size = ps.size)
    (I Ix : List α → World → Prop) (id : Nat) (hI : OwnFrom w.heap.size I) (hIx : OwnFrom w.heap.size Ix) (hN : ∀ pre W, I pre W → pre.length ≤ N) (h0 : I [] w) (a₁ : α → Act)
    (hassign : ∀ (l : Nat) (x : α) (W : World) (K : Act → World → Prop), K (a₁ x) W →
      assign.wpIn (Fence.wide.inRound l) (n - 1 - 1) Try.prog (Exit.then K (fun _ _ _ => False)) { tmps := (ps.zip (encs x)).foldl (fun t (p, v) => t.setIfInBounds p v) a.tmps, defers := [] } W)
    (hbody : ∀ (l : Nat) (pre : List α) (x : α) (W : World), I pre W → body.wpIn (Fence.wide.inRound l) (n - 1 - 1) Try.prog (endsPost Kp I Ix id (pre ++ [x]) W) (a₁ x) W)
    (hstop : ∀ (D : Nat) (pre : List α) (W : World), w.heap.size ≤ D → Sp pre → Ix pre W → W.heap[D]? = some (.deferred (some [])) → (Code.exit id).wpIn Fence.wide n Try.prog Q { a with defers := { target := .collected D, args := #[] } :: a.defers } W) :
    (Code.rangeFunc g ps assign body).wpIn Fence.wide n Try.prog Q a w := by
  refine wpIn_rangeFunc fun fn hfn => ?_
  obtain ⟨R, hR⟩ : ∃ R : LoopState → Option Code → Loop, R = fun st pe => { state := st, pending := pe, fn, tmps := a.tmps, params := ps, assign, body, defers := w.heap.size } := ⟨_, rfl⟩
  obtain ⟨V, hV⟩ : ∃ V, (w.alloc (.deferred (some []))).alloc (.loop (R .ready none)) = V := ⟨_, rfl⟩
  obtain ⟨L, hL⟩ : ∃ L, w.heap.size + 1 = L := ⟨_, rfl⟩
  have hvs : V.heap.size = w.heap.size + 2 := by rw [← hV]; simp
  have vL : V.heap[L]? = some (.loop (R .ready none)) := by
    have := World.alloc_heap_new (w.alloc (.deferred (some []))) (.loop (R .ready none))
    rw [World.size_alloc, hL, hV] at this
    exact this
  have vD : V.heap[w.heap.size]? = some (.deferred (some [])) := by
    rw [← hV]; exact (Below.heap_alloc _ _ _ (by simp)).trans (World.alloc_heap_new w _)
  have vB : Below w.heap.size w V := by rw [← hV]; exact ((Below.refl _ w).alloc (Nat.le_refl _) _).alloc (by simp) _
  have vI : I [] V := by rw [← hV]; exact hI.alloc _ (hI.alloc _ h0)
  have hLD : L ≠ w.heap.size := by omega
  -- the loop's record in a state, the deferred calls' block empty
  let At : Loop → World → Prop := fun r W => W.heap[L]? = some (.loop r) ∧ W.heap[w.heap.size]? = some (.deferred (some []))
  have at_kept : ∀ {r : Loop} {A B : World} {row : Option Nat}, At r A → A.grownBy B row → (∀ k, row = some k → V.heap.size ≤ k ∧ ∃ o : Obj, A.heap[k]? = some o ∧ o.isWalk = true) → At r B := fun ha hg hr =>
    ⟨(grownBy_keeps hg (fun k e => (hr k e).2) ha.1 rfl).trans ha.1, (grownBy_keeps hg (fun k e => (hr k e).2) ha.2 rfl).trans ha.2⟩
  have at_others : ∀ {r : Loop} {A B : World}, At r A → KeepsOthers A B → At r B := fun ha hk => ⟨hk.same _ _ ha.1 rfl, hk.same _ _ ha.2 rfl⟩
  have at_put : ∀ {r r' : Loop} {A : World}, At r A → At r' (A.putObj L (.loop r')) := fun ha =>
    ⟨World.putObj_heap_same (Array.getElem?_eq_some_iff.1 ha.1).1, (World.putObj_heap_other hLD.symm).trans ha.2⟩
  have off : ∀ {A : World} {row : Option Nat}, (∀ k, row = some k → V.heap.size ≤ k ∧ ∃ o : Obj, A.heap[k]? = some o ∧ o.isWalk = true) → (∀ k, row = some k → w.heap.size ≤ k ∧ ∃ o : Obj, A.heap[k]? = some o ∧ o.isCells = false) := fun hr k e => by
    obtain ⟨h2, o, ho, hw⟩ := hr k e
    exact ⟨by omega, o, ho, Obj.not_cells_of_walk hw⟩
  refine ⟨L, [{ target := .collected w.heap.size, args := #[] }], V, { target := .fn (.func gf) lb, args := #[.func (.yield L) #[] #[]] }, V, gf, #[.func (.yield L) #[] #[]] ++ lb, V, ?_, ?_, fun f' _ => trivial, ?_, fun _ => h1, ?_⟩
  · have := run_enterLoop_outer (P := Try.prog) (w := w) fn a.tmps ps assign body
    rw [hL] at this
    rw [← hV, hR]
    exact this
  · simp only [resolve, hg]; simp [go_sem]
  · simp [invoke, go_sem, eg]
  refine (hseq L (fun pre W => I pre W ∧ At (R .ready none) W) (fun pre W => Ix pre W ∧ At (R .done (some (.exit id))) W) V vB
    (fun s A B row hs hg' hr => ⟨hI s A B row hs.1 hg' (off hr), at_kept hs.2 hg' hr⟩) (fun s A B row hs hg' hr => ⟨hIx s A B row hs.1 hg' (off hr), at_kept hs.2 hg' hr⟩)
    (fun pre W1 h => hN pre W1 h.1) ?round ⟨vI, vL, vD⟩).mono ?behind
  case round =>
    rintro pre x W ⟨hi, ha⟩
    have hy := run_yield (P := Try.prog) (args := encs x) ha.1 (by rw [hR]; exact hps x)
    rw [hR] at hy
    refine ⟨fn, _, assign, body, hy, roundIn_of_wpIn hfn (hassign _ x W _ ⟨_, run_beginRound ha.1 (by rw [hR]), ?_⟩)⟩
    have ha2 := at_put (r' := { R .ready none with state := .busy }) ha
    have hk2 : Kp W (W.putObj L (.loop { R .ready none with state := .busy })) := hKb _ _ _ _ (by omega) ha.1 rfl rfl
    refine wpIn_mono (hbody _ pre x _ (hI.putObj _ hi (by omega) ha.1 rfl)) fun e a3 W3 hp => ?_
    cases e with
    | normal =>
      obtain ⟨k1, k2, k3⟩ := hp
      have ha3 := at_others ha2 k1
      have hr := run_endRound (P := Try.prog) none ha3.1
      have ha4 := at_put (r' := R .ready none) ha3
      rw [hR] at hr ha3 ha4
      refine ⟨_, _, hr, .inl ⟨rfl, ⟨hI.putObj _ k3 (by omega) ha3.1 rfl, ?_⟩, hKt (hKt hk2 k2) (hKb _ _ _ _ (by omega) ha3.1 rfl rfl)⟩⟩
      rw [hR]; exact ha4
    | exit i =>
      obtain ⟨rfl, k1, k3⟩ := hp
      have ha3 := at_others ha2 k1
      have hr := run_endRound (P := Try.prog) (some (.exit i)) ha3.1
      have ha4 := at_put (r' := R .done (some (.exit i))) ha3
      rw [hR] at hr ha3 ha4
      refine ⟨_, _, hr, .inr ⟨rfl, hIx.putObj _ k3 (by omega) ha3.1 rfl, ?_⟩⟩
      rw [hR]; exact ha4
    | ret => exact hp.elim
    | goto t => exact hp.elim
    | panic ch => exact hp.elim
    | outgrown => exact hp.elim
  case behind =>
    rintro e W2 ⟨⟨v, rfl⟩, pre, hSp, hi, ha⟩
    have hr := run_endLoop (P := Try.prog) ha.1 (by rw [hR]; simp)
    rw [hR] at hr
    exact ⟨some (.exit id), _, hr, hstop _ pre _ (Nat.le_refl _) hSp (hIx.putObj _ hi (by omega) ha.1 rfl) ((World.putObj_heap_other hLD.symm).trans ha.2)⟩
end Go.Proofs.Ytcgaojnfgkfnkaa

/- Boxes of one cell. -/
namespace Go.Proofs.Ytcgaojnfgkfnkaa
set_option linter.unusedVariables false
set_option linter.unusedSimpArgs false
open Go.ChangeShapes Go.WideShapes Go.ChangeAt Go.RowKit Go.Deep

/-- Block S is one cell that holds v. -/
def OneV (w : World) (S : Nat) (v : Value) (t : TypeId) : Prop := w.heap[S]? = some (.cells #[v] t (0, 0))
theorem OneV.lt {w : World} {S : Nat} {v : Value} {t : TypeId} (h : OneV w S v t) : S < w.heap.size := (Array.getElem?_eq_some_iff.1 h).1
theorem OneV.cell {w : World} {S : Nat} {v : Value} {t : TypeId} (h : OneV w S v t) : w.cell? ⟨S, 0, none⟩ = some v := by
  unfold OneV at h; simp [World.cell?, h]
theorem OneV.free {w : World} {S : Nat} {v : Value} {t : TypeId} (h : OneV w S v t) : w.frozen? ⟨S, 0, none⟩ = false := by
  unfold OneV at h; simp [World.frozen?, h]
theorem OneV.below {w w' : World} {B S : Nat} {v : Value} {t : TypeId} (h : OneV w S v t) (hb : Below B w w') (hS : S < B) : OneV w' S v t := (hb.block S hS).trans h
theorem OneV.new {w w' : World} {S : Nat} {v : Value} {t : TypeId} (hS : w.heap.size = S) (hw : w.alloc (.cells #[v] t) = w') : OneV w' S v t := by
  subst hS hw; exact World.alloc_heap_new w _
theorem OneV.set {w : World} {S : Nat} {u v : Value} {t : TypeId} (h : OneV w S v t) : OneV (w.setCell ⟨S, 0, none⟩ u) S u t := by
  unfold OneV at *
  show (w.heap.modify S _)[S]? = _
  obtain ⟨h1, h2⟩ := Array.getElem?_eq_some_iff.1 h
  rw [Array.getElem?_eq_getElem (by rw [Array.size_modify]; exact h1), Array.getElem_modify_self, h2]
  rfl
theorem OneV.other {w : World} {S S' : Nat} {u v : Value} {t : TypeId} (h : OneV w S v t) (hne : S ≠ S') : OneV (w.setCell ⟨S', 0, none⟩ u) S v t :=
  (Below.heap_setCell w ⟨S', 0, none⟩ _ S hne).trans h
theorem OneV.kept {w w' : World} {S : Nat} {v : Value} {t : TypeId} {row : Option Nat} (h : OneV w S v t) (hg : w.grownBy w' row) (hr : ∀ r, row = some r → ∃ o : Obj, w.heap[r]? = some o ∧ o.isCells = false) : OneV w' S v t := by
  refine (hg.block S h.lt (fun e => ?_)).trans h
  obtain ⟨o, ho, hc⟩ := hr S e.symm
  unfold OneV at h
  rw [h] at ho; cases ho; cases hc
theorem OneV.putObj {w : World} {S D : Nat} {v : Value} {t : TypeId} {o : Obj} (h : OneV w S v t) (hne : S ≠ D) : OneV (w.putObj D o) S v t :=
  (World.putObj_heap_other (fun e => hne e)).trans h
theorem OneV.heap {w w' : World} {S : Nat} {v : Value} {t : TypeId} (h : OneV w S v t) (hh : w'.heap[S]? = w.heap[S]?) : OneV w' S v t := hh.trans h
theorem BoxV.heap {w w' : World} {S : Nat} {vs : List Value} (h : BoxV w S vs) (hs : w.heap.size ≤ w'.heap.size) (hh : w'.heap[S]? = w.heap[S]?) : BoxV w' S vs :=
  ⟨Nat.lt_of_lt_of_le h.lt hs, fun k v hk => (World.cell?_of_block (w := w) (a := ⟨S, k, none⟩) hh).trans (h.cell k v hk)⟩
theorem heap_set_ne (w : World) {g x S : Nat} {u : Value} (h : S ≠ g) : (w.setCell ⟨g, x, none⟩ u).heap[S]? = w.heap[S]? := Below.heap_setCell w ⟨g, x, none⟩ _ S h
theorem size_set (w : World) {g x : Nat} {u : Value} : (w.setCell ⟨g, x, none⟩ u).heap.size = w.heap.size := by simp [World.setCell]
end Go.Proofs.Ytcgaojnfgkfnkaa

/- Ranging over an iterator that would go on for ever and that writes rows of its own between the rounds; it gives rows of numbers; the loop's body writes one box and the row that it names. -/
namespace Go.Proofs.Ytcgaojnfgkfnkaa
set_option linter.unusedSimpArgs false
open Go.ChangeShapes Go.WideShapes Go.ChangeAt Go.RowKit Go.Deep
set_option linter.unusedVariables false

/-- The block of the slice in box O. -/
def outB (O : Nat) (W : World) : Option Nat := match W.cell? ⟨O, 0, none⟩ with
  | some (.slice p _ _) => blk p
  | _ => none
theorem outB_of {O : Nat} {W : World} {p : Option Addr} {n c : Nat} (h : W.cell? ⟨O, 0, none⟩ = some (.slice p n c)) : outB O W = blk p := by unfold outB; rw [h]
theorem outB_same {O : Nat} {W W' : World} (h : W'.heap[O]? = W.heap[O]?) : outB O W' = outB O W := by unfold outB; rw [World.cell?_of_block (w := W) (a := ⟨O, 0, none⟩) h]
def IsCells (W : World) (k : Nat) : Prop := ∃ o : Obj, W.heap[k]? = some o ∧ o.isCells = true
theorem IsCells.of_cell {W : World} {k j : Nat} {v : Value} (h : W.cell? ⟨k, j, none⟩ = some v) : IsCells W k := by
  unfold World.cell? at h
  cases hk : W.heap[k]? with
  | none => simp [hk] at h
  | some o =>
    refine ⟨o, hk, ?_⟩
    cases o <;> simp [hk, Obj.isCells] at h ⊢
/-- What the loop's body does: it writes box O and the row that it names. -/
structure KpO (O : Nat) (A B : World) : Prop where
  size : A.heap.size ≤ B.heap.size
  same : ∀ k, k < A.heap.size → IsCells A k → k ≠ O → outB O A ≠ some k → B.heap[k]? = A.heap[k]?
  fresh : ∀ k, outB O B = some k → outB O A = some k ∨ A.heap.size ≤ k
  lt : (∀ k, outB O A = some k → k < A.heap.size) → ∀ k, outB O B = some k → k < B.heap.size
theorem KpO.trans {O : Nat} {A B C : World} (h : KpO O A B) (k : KpO O B C) : KpO O A C := by
  refine ⟨Nat.le_trans h.size k.size, fun i hi hc hO ho => ?_, fun i hi => ?_, fun hl => k.lt (h.lt hl)⟩
  · have e := h.same i hi hc hO ho
    refine (k.same i (Nat.lt_of_lt_of_le hi h.size) ?_ hO fun e2 => ?_).trans e
    · obtain ⟨o, h1, h2⟩ := hc; exact ⟨o, e.trans h1, h2⟩
    · rcases h.fresh i e2 with h3 | h3
      · exact ho h3
      · omega
  · rcases k.fresh i hi with h1 | h1
    · exact h.fresh i h1
    · exact .inr (Nat.le_trans h.size h1)
theorem KpO.putObj {O : Nat} {W : World} {l : Nat} {o o' : Obj} (h : W.heap[l]? = some o) (hc : o.isCells = false) (hl : l ≠ O) : KpO O W (W.putObj l o') := by
  have e : outB O (W.putObj l o') = outB O W := outB_same (World.putObj_heap_other hl.symm)
  have hs : (W.putObj l o').heap.size = W.heap.size := by simp [World.putObj]
  refine ⟨by omega, fun k hk hc2 hO ho => World.putObj_heap_other fun e2 => ?_, fun k hk => .inl (e ▸ hk), fun h2 k hk => by rw [hs]; exact h2 k (e ▸ hk)⟩
  subst e2
  obtain ⟨o2, h1, h2⟩ := hc2
  rw [h] at h1; cases h1; rw [hc] at h2; cases h2
/-- What stands while only others' blocks turn. -/
def Stab (n O : Nat) (J : List (Nat × List Int) → World → Prop) : Prop :=
  ∀ s A B, J s A → A.heap.size ≤ B.heap.size → (B.os = A.os ∧ B.tape = A.tape ∧ B.output = A.output) → (∀ k, k < A.heap.size → (k < n ∨ (IsCells A k ∧ (outB O A = some k ∨ k ∈ s.map (·.1)))) → B.heap[k]? = A.heap[k]?) → J s B
theorem Stab.below {n O : Nat} {J : List (Nat × List Int) → World → Prop} (h : Stab n O J) {s : List (Nat × List Int)} {A B : World} (hJ : J s A) (hb : Below A.heap.size A B) : J s B :=
  h s A B hJ hb.size ⟨hb.os, hb.tape, hb.output⟩ fun k hk _ => hb.block k hk
theorem Stab.putObj {n O : Nat} {J : List (Nat × List Int) → World → Prop} (h : Stab n O J) {s : List (Nat × List Int)} {A : World} {l : Nat} {o o' : Obj} (hJ : J s A) (hn : n ≤ l) (ho : A.heap[l]? = some o) (hc : o.isCells = false) : J s (A.putObj l o') := by
  refine h s A _ hJ (by simp [World.putObj]) ⟨rfl, rfl, rfl⟩ fun k hk hq => World.putObj_heap_other fun e => ?_
  subst e
  rcases hq with h1 | ⟨⟨o2, h1, h2⟩, _⟩
  · omega
  · rw [ho] at h1; cases h1; rw [hc] at h2; cases h2
/-- A row that is given. -/
structure OkX (n O : Nat) (x : Nat × List Int) (W : World) : Prop where
  ge : n ≤ x.1
  ints : Ints W (some ⟨x.1, 0, none⟩) x.2.length x.2
  pos : 0 < x.2.length
  ne : outB O W ≠ some x.1
theorem OkX.cells {n O : Nat} {x : Nat × List Int} {W : World} (h : OkX n O x W) : IsCells W x.1 := IsCells.of_cell (j := 0 + 0) (h.ints.at h.pos)
def encX (x : Nat × List Int) : Array Value := #[.slice (some ⟨x.1, 0, none⟩) x.2.length x.2.length]
def SeqEndsW (n gf : Nat) (lb : Array Value) (O : Nat) (Sp : List (Nat × List Int) → Prop) (N : Nat) (w : World) : Prop :=
  ∀ (l : Nat) (J Jx : List (Nat × List Int) → World → Prop) (W : World), Below w.heap.size w W → Stab W.heap.size O J → (∀ pre W1, J pre W1 → pre.length ≤ N) →
    (∀ pre x W1, J pre W1 → OkX w.heap.size O x W1 → YieldAt Fence.wide (n - 1) Try.prog l (encX x) W1 fun e W' =>
      (e = .returned (.bool true) ∧ J (pre ++ [x]) W' ∧ KpO O W1 W') ∨ (e = .returned (.bool false) ∧ Jx (pre ++ [x]) W')) →
    J [] W → CallsIn Fence.wide n Try.prog gf (#[.func (.yield l) #[] #[]] ++ lb) W fun e W' => (∃ v, e = .returned v) ∧ ∃ pre, Sp pre ∧ Jx pre W'
def endsPostW (O : Nat) (I Ix : List (Nat × List Int) → World → Prop) (id : Nat) (xs : List (Nat × List Int)) (W : World) : Exit → Act → World → Prop
  | .normal, _, W' => KeepsOthers W W' ∧ KpO O W W' ∧ I xs W'
  | .exit i, _, W' => i = id ∧ KeepsOthers W W' ∧ Ix xs W'
  | _, _, _ => False

set_option maxHeartbeats 1000000 in
theorem range_endsW {n : Nat} {g : Operand} {ps : Array Tmp} {assign body : Code} {Q : Exit → Act → World → Prop} {a : Act} {w : World} (h1 : 1 ≤ n) {gf : Nat} {lb : Array Value}
    (hg : a.eval g = .func (.func gf) #[] lb) (eg : ∀ args W, (callFunc gf args).run Try.prog W = .ok (.enter gf args) W) {O : Nat} (hO : O < w.heap.size) {Sp : List (Nat × List Int) → Prop} {N : Nat}
    (hseq : SeqEndsW (n - 1) gf lb O Sp N w) (hps : ps.size = 1)
    (I Ix : List (Nat × List Int) → World → Prop) (id : Nat) (hI : Stab w.heap.size O I) (hIx : Stab w.heap.size O Ix) (hN : ∀ pre W, I pre W → pre.length ≤ N) (h0 : I [] w) (a₁ : Nat × List Int → Act)
    (hassign : ∀ (l : Nat) (x : Nat × List Int) (W : World) (K : Act → World → Prop), K (a₁ x) W →
      assign.wpIn (Fence.wide.inRound l) (n - 1 - 1) Try.prog (Exit.then K (fun _ _ _ => False)) { tmps := (ps.zip (encX x)).foldl (fun t (p, v) => t.setIfInBounds p v) a.tmps, defers := [] } W)
    (hbody : ∀ (l : Nat) (pre : List (Nat × List Int)) (x : Nat × List Int) (W : World), I pre W → OkX w.heap.size O x W → body.wpIn (Fence.wide.inRound l) (n - 1 - 1) Try.prog (endsPostW O I Ix id (pre ++ [x]) W) (a₁ x) W)
    (hstop : ∀ (D : Nat) (pre : List (Nat × List Int)) (W : World), w.heap.size ≤ D → Sp pre → Ix pre W → W.heap[D]? = some (.deferred (some [])) → (Code.exit id).wpIn Fence.wide n Try.prog Q { a with defers := { target := .collected D, args := #[] } :: a.defers } W) :
    (Code.rangeFunc g ps assign body).wpIn Fence.wide n Try.prog Q a w := by
  refine wpIn_rangeFunc fun fn hfn => ?_
  obtain ⟨R, hR⟩ : ∃ R : LoopState → Option Code → Loop, R = fun st pe => { state := st, pending := pe, fn, tmps := a.tmps, params := ps, assign, body, defers := w.heap.size } := ⟨_, rfl⟩
  obtain ⟨V, hV⟩ : ∃ V, (w.alloc (.deferred (some []))).alloc (.loop (R .ready none)) = V := ⟨_, rfl⟩
  obtain ⟨L, hL⟩ : ∃ L, w.heap.size + 1 = L := ⟨_, rfl⟩
  have hvs : V.heap.size = w.heap.size + 2 := by rw [← hV]; simp
  have vL : V.heap[L]? = some (.loop (R .ready none)) := by
    have := World.alloc_heap_new (w.alloc (.deferred (some []))) (.loop (R .ready none))
    rw [World.size_alloc, hL, hV] at this
    exact this
  have vD : V.heap[w.heap.size]? = some (.deferred (some [])) := by
    rw [← hV]; exact (Below.heap_alloc _ _ _ (by simp)).trans (World.alloc_heap_new w _)
  have vB : Below w.heap.size w V := by rw [← hV]; exact ((Below.refl _ w).alloc (Nat.le_refl _) _).alloc (by simp) _
  have vI : I [] V := hI.below h0 vB
  have hLD : L ≠ w.heap.size := by omega
  have hLO : L ≠ O := by omega
  let At : Loop → World → Prop := fun r W => W.heap[L]? = some (.loop r) ∧ W.heap[w.heap.size]? = some (.deferred (some []))
  have at_others : ∀ {r : Loop} {A B : World}, At r A → KeepsOthers A B → At r B := fun ha hk => ⟨hk.same _ _ ha.1 rfl, hk.same _ _ ha.2 rfl⟩
  have at_put : ∀ {r r' : Loop} {A : World}, At r A → At r' (A.putObj L (.loop r')) := fun ha =>
    ⟨World.putObj_heap_same (Array.getElem?_eq_some_iff.1 ha.1).1, (World.putObj_heap_other hLD.symm).trans ha.2⟩
  refine ⟨L, [{ target := .collected w.heap.size, args := #[] }], V, { target := .fn (.func gf) lb, args := #[.func (.yield L) #[] #[]] }, V, gf, #[.func (.yield L) #[] #[]] ++ lb, V, ?_, ?_, fun f' _ => trivial, ?_, fun _ => h1, ?_⟩
  · have := run_enterLoop_outer (P := Try.prog) (w := w) fn a.tmps ps assign body
    rw [hL] at this
    rw [← hV, hR]
    exact this
  · simp only [resolve, hg]; simp [go_sem]
  · simp [invoke, go_sem, eg]
  refine (hseq L (fun pre W => I pre W ∧ At (R .ready none) W) (fun pre W => Ix pre W ∧ At (R .done (some (.exit id))) W) V vB
    (fun s A B hs hsz hos hk => ⟨hI s A B hs.1 hsz hos fun k hk1 hk2 => hk k hk1 (hk2.imp (fun h => by omega) fun h => h), ⟨(hk L (Array.getElem?_eq_some_iff.1 hs.2.1).1 (.inl (by omega))).trans hs.2.1, (hk w.heap.size (Array.getElem?_eq_some_iff.1 hs.2.2).1 (.inl (by omega))).trans hs.2.2⟩⟩)
    (fun pre W1 h => hN pre W1 h.1) ?round ⟨vI, vL, vD⟩).mono ?behind
  case round =>
    rintro pre x W ⟨hi, ha⟩ hok
    have hy := run_yield (P := Try.prog) (args := encX x) ha.1 (by rw [hR]; exact hps.symm)
    rw [hR] at hy
    refine ⟨fn, _, assign, body, hy, roundIn_of_wpIn hfn (hassign _ x W _ ⟨_, run_beginRound ha.1 (by rw [hR]), ?_⟩)⟩
    have ha2 := at_put (r' := { R .ready none with state := .busy }) ha
    have hk2 : KpO O W (W.putObj L (.loop { R .ready none with state := .busy })) := KpO.putObj ha.1 rfl hLO
    have hx2 : OkX w.heap.size O x (W.putObj L (.loop { R .ready none with state := .busy })) := by
      refine ⟨hok.ge, hok.ints.keep (by simp [World.putObj]) (fun ad e _ => ?_), hok.pos, fun e => hok.ne ?_⟩
      · cases e
        refine World.putObj_heap_other fun e2 => ?_
        obtain ⟨o, h1, h2⟩ := hok.cells
        rw [show x.1 = L from e2] at h1
        rw [ha.1] at h1; cases h1; cases h2
      · rw [outB_same (World.putObj_heap_other hLO.symm)] at e; exact e
    refine wpIn_mono (hbody _ pre x _ (hI.putObj hi (by omega) ha.1 rfl) hx2) fun e a3 W3 hp => ?_
    cases e with
    | normal =>
      obtain ⟨k1, k2, k3⟩ := hp
      have ha3 := at_others ha2 k1
      have hr := run_endRound (P := Try.prog) none ha3.1
      have ha4 := at_put (r' := R .ready none) ha3
      rw [hR] at hr ha3 ha4
      refine ⟨_, _, hr, .inl ⟨rfl, ⟨hI.putObj k3 (by omega) ha3.1 rfl, ?_⟩, (hk2.trans k2).trans (KpO.putObj ha3.1 rfl hLO)⟩⟩
      rw [hR]; exact ha4
    | exit i =>
      obtain ⟨rfl, k1, k3⟩ := hp
      have ha3 := at_others ha2 k1
      have hr := run_endRound (P := Try.prog) (some (.exit i)) ha3.1
      have ha4 := at_put (r' := R .done (some (.exit i))) ha3
      rw [hR] at hr ha3 ha4
      refine ⟨_, _, hr, .inr ⟨rfl, hIx.putObj k3 (by omega) ha3.1 rfl, ?_⟩⟩
      rw [hR]; exact ha4
    | ret => exact hp.elim
    | goto t => exact hp.elim
    | panic ch => exact hp.elim
    | outgrown => exact hp.elim
  case behind =>
    rintro e W2 ⟨⟨v, rfl⟩, pre, hSp, hi, ha⟩
    have hr := run_endLoop (P := Try.prog) ha.1 (by rw [hR]; simp)
    rw [hR] at hr
    exact ⟨some (.exit id), _, hr, hstop _ pre _ (Nat.le_refl _) hSp (hIx.putObj hi (by omega) ha.1 rfl) ((World.putObj_heap_other hLD.symm).trans ha.2)⟩
end Go.Proofs.Ytcgaojnfgkfnkaa

/- The walk of slices.Clone at slices of integers; at most 900000 numbers. -/
namespace Go.Proofs.Ytcgaojnfgkfnkaa
set_option linter.unusedVariables false
set_option linter.unusedSimpArgs false
open Go.ChangeShapes Go.WideShapes Go.ChangeAt Go.RowKit Go.Deep

theorem Own.some_of {w : World} {base : Nat} {p : Option Addr} {c : Nat} {xs : List Int} (h : Own w base p c xs) (hne : xs ≠ []) : ∃ g, p = some ⟨g, 0, none⟩ := by
  rcases h.shape with ⟨_, _, rfl⟩ | ⟨g, rfl, _⟩
  · exact absurd rfl hne
  · exact ⟨g, rfl⟩

set_option maxHeartbeats 400000 in
theorem clone_any (p : Option Addr) (c : Nat) (xs : List Int) (w : World) (hx : Ints w p c xs) (hlen : xs.length ≤ 900000) :
    Calls Try.prog 52 #[.slice p xs.length c] w (Gives w xs) := by
  cases p with
  | none =>
    have hc := hx.nil rfl
    subst hc
    have hl : xs.length = 0 := by have := hx.le; omega
    obtain rfl : xs = [] := List.eq_nil_of_length_eq_zero hl
    have hq := fun W => Lib.run_eql_slice_nil (P := Try.prog) W 23 3 none 0 0 0 0 Try.underlying23
    go_enter Try.func52, Try.ntmps52
    go_wp2_with fail
    go_ret
    exact ⟨none, 0, rfl, Own.ofNil _ _, Below.refl _ _⟩
  | some a =>
    have hq := fun W => Lib.run_eql_slice_nil (P := Try.prog) W 23 3 (some a) xs.length c 0 0 Try.underlying23
    go_enter Try.func52, Try.ntmps52
    go_wp2_with (at_builtin; refine wpList_app rfl (.tmp 5) (.tmp 6) rfl w.heap.size _ _ _ _ [] xs rfl rfl (Own.made _ _ (Nat.le_refl _)) (hx.below ((Below.refl _ _).alloc (Nat.le_refl _) _) (Nat.le_refl _)) (by simp; omega) (by simp) ?_; intro p2 c2 w2 zs hz hO hg hf)
    obtain rfl : zs = xs := hz.out
    go_ret
    exact ⟨p2, c2, rfl, hO, ((Below.refl w.heap.size w).alloc (Nat.le_refl _) _).grown hg (by simp) (fun k e => by simp [blk] at e; omega)⟩
end Go.Proofs.Ytcgaojnfgkfnkaa
