/- The walks of robin.Check and of the reference's Check, Long and Great, for all turns; no condition. -/
import Derived.Test.YtmcncflieoolmaaGreatTopTopGoodsm4
import Derived.Test.YtmcncflieoolmaaGreatTopTopGoodsm1
import Derived.Test.YtmcncflieoolmaaGreatTopTopGoodsm3
import Derived.RangeFuncFrom
import Derived.RangeFuncBox
import Derived.RangeFuncLeaves
import Derived.OwnWalkIn
import Derived.TacticsInMore
import Derived.LoopNIn
import Derived.LoopIn
import Derived.Sort.QuietIn
import Derived.Maps.RangeWalk
import Derived.Shelf.Abstract
import Derived.RangeFuncCalls
import Derived.Test.YtmcncflieoolmaaGreatTopTopGoodsm2
/- The walks of robin.Check and of the reference's Check, Long and Great, for all turns; no condition. -/
namespace Go.Proofs.YtmcncflieoolmaaGreat
set_option linter.unusedVariables false
set_option linter.unusedSimpArgs false
open Go.ChangeShapes Go.WideShapes Go.ChangeAt Go.RowKit Go.Deep

def offTurn (n : Int) (ts : List Int) (j : Nat) : Bool := decide (iget ts j < 0 ∨ n ≤ iget ts j)
theorem enter_robinCheck1 (args : Array Value) (W : World) : (callFunc 64 args).run Tryz.prog W = .ok (.enter 64 args) W := by kernel_rfl
set_option maxHeartbeats 400000 in
theorem robinCheck1_any (x n : Int) (B : Nat) (w : World) (hx : in64 x) (hc : w.cell? ⟨B, 0, none⟩ = some (.int .i64 n)) :
    Calls Tryz.prog 64 #[.int .i64 x, .pointer (some ⟨B, 0, none⟩)] w fun e w' => e = .returned (.bool (decide (x < 0 ∨ n ≤ x))) ∧ w' = w := by
  obtain ⟨h1, h2⟩ := hx
  by_cases hlow : x < 0
  · have hd : decide (x < 0) = true := by simpa using hlow
    go_enter Tryz.func64, Tryz.ntmps64
    go_wp2_with fail
    go_ret
    exact ⟨ret_bool (by simp [hlow]), rfl⟩
  · have hd : decide (x < 0) = false := by simpa using hlow
    go_enter Tryz.func64, Tryz.ntmps64
    go_wp2_with fail
    go_ret
    exact ⟨ret_bool (by first | rfl | (rw [Bool.eq_iff_iff]; simp only [decide_eq_true_iff]; omega)), rfl⟩
set_option maxHeartbeats 800000 in
theorem robinCheck_any (n : Int) (p : Option Addr) (c : Nat) (ts : List Int) (w : World) (hx : Ints w p c ts) :
    Calls Tryz.prog 28 #[.int .i64 n, .slice p ts.length c] w fun e w' => e = .returned (.int .i64 (chkT n ts)) ∧ Below w.heap.size w w' := by
  obtain ⟨W0, hW0⟩ : ∃ W0, w.alloc (.cells #[.int .i64 n] 3) = W0 := ⟨_, rfl⟩
  have hB : Below w.heap.size w W0 := below_alloc hW0
  have bX : BoxV W0 w.heap.size [.int .i64 n] := BoxV.new rfl hW0
  have hx := hx.below hB (Nat.le_refl _)
  have x0 := bX.cell 0 _ rfl
  have HW0 := Lib.hid hW0
  clear hW0
  have hl1 := hx.length_le
  by_cases h1 : n < 1
  · have hd : decide (n < 1) = true := by simpa using h1
    have H := Lib.hid (chkT_arg (ts := ts) (.inl h1))
    go_enter Tryz.func28, Tryz.ntmps28
    go_wp2_with fail
    go_ret
    rw [HW0.out]
    exact ⟨ret_int H.out.symm, hB⟩
  have hd : decide (n < 1) = false := by simpa using h1
  by_cases h6 : 6 < n
  · have hd2 : decide (6 < n) = true := by simpa using h6
    have H := Lib.hid (chkT_arg (ts := ts) (.inr h6))
    go_enter Tryz.func28, Tryz.ntmps28
    go_wp2_with fail
    go_ret
    rw [HW0.out]
    exact ⟨ret_int H.out.symm, hB⟩
  have hd2 : decide (6 < n) = false := by simpa using h6
  by_cases hm : 60 < ts.length
  · have hd3 : decide (60 < (ts.length : Int)) = true := by simp; omega
    have H := Lib.hid (chkT_many (n := n) (ts := ts) (by omega) hm)
    go_enter Tryz.func28, Tryz.ntmps28
    go_wp2_with fail
    go_ret
    rw [HW0.out]
    exact ⟨ret_int H.out.symm, hB⟩
  have hd3 : decide (60 < (ts.length : Int)) = false := by simp; omega
  go_enter Tryz.func28, Tryz.ntmps28
  go_wp2_with fail
  rw [HW0.out]
  refine (containsFunc1_any 64 (.pointer (some ⟨w.heap.size, 0, none⟩)) (offTurn n ts) (fun W => W = W0) enter_robinCheck1 p c ts W0 rfl (fun W hW => by rw [hW]; exact hx)
    (fun j W hj hW => by subst hW; exact robinCheck1_any _ n _ _ (hx.rng j hj) x0)).mono ?_
  rintro e w' ⟨rfl, rfl⟩
  cases hany : anyN (offTurn n ts) ts.length with
  | true =>
    have H := Lib.hid (chkT_bad (n := n) (ts := ts) (by omega) hm (fun h => by
      obtain ⟨j, hj, hp⟩ := anyN_true.1 hany
      have := h j hj
      simp [offTurn] at hp; omega))
    clear hany
    go_wp2_with fail
    go_ret
    exact ⟨ret_int H.out.symm, hB⟩
  | false =>
    have H := Lib.hid (chkT_ok (n := n) (ts := ts) (by omega) hm (fun j hj => by
      have := anyN_false.1 hany j hj
      simp [offTurn] at this; omega))
    clear hany
    go_wp2_with fail
    go_ret
    exact ⟨ret_int H.out.symm, hB⟩


theorem greatG_true {v : List (List Int)} {xs : List Int} (h : GreatG v xs) : greatG v xs = true := by simp [greatG, h]
set_option maxHeartbeats 1600000 in
theorem great16_any (p q : Option Addr) (c d : Nat) (v : List (List Int)) (xs : List Int) (w : World) (hx : Mat w p c v) :
    Calls Tryz.prog 5 #[.agg #[.slice p v.length c], .slice q xs.length d] w fun e w' => e = .returned (.bool (greatG v xs)) ∧ Below w.heap.size w w' := by
  obtain ⟨W0, hW0⟩ : ∃ W0, w.alloc (.cells #[.slice p v.length c] 24) = W0 := ⟨_, rfl⟩
  have hB : Below w.heap.size w W0 := below_alloc hW0
  have bX : BoxV W0 w.heap.size [.slice p v.length c] := BoxV.new rfl hW0
  have hx := hx.below hB (Nat.le_refl _)
  have x0 := bX.cell 0 _ rfl
  have HW0 := Lib.hid hW0
  clear hW0
  have hl1 := hx.length_le
  go_enter Tryz.func5, Tryz.ntmps5
  go_wp2_with fail
  rw [HW0.out]
  go_loop [5] (fun t => ∃ k : Nat, k ≤ v.length ∧ k ≤ 20 ∧ t = .int .i64 k ∧ Hid (∀ i, i < k → (rget v i).length ≤ 50)) (fun t => v.length - (intOf t).toNat)
  case atStart => exact ⟨0, Nat.zero_le _, by omega, rfl, fun j hj => absurd hj (Nat.not_lt_zero j)⟩
  case round =>
    obtain ⟨k, hk, hk20, rfl, ht⟩ := hrel
    by_cases hlt : k < v.length
    · obtain ⟨b, o, rfl, _, q', d', hc, hi⟩ := hx.get hlt
      have hk1 : (k : Int) < v.length := by omega
      have hd1 : decide ((k : Int) < v.length) = true := by simpa using hk1
      by_cases h20 : k < 20
      · have hk2 : (k : Int) < 20 := by omega
        have hd2 : decide ((k : Int) < 20) = true := by simpa using hk2
        by_cases hl : 50 < (rget v k).length
        · have hd3 : decide (50 < ((rget v k).length : Int)) = true := by simp; omega
          have H := Lib.hid (greatG_true (v := v) (xs := xs) (.inl fun h => by have := h k hlt h20; omega))
          clear hl
          go_wp2_with fail
          go_ret
          exact ⟨ret_bool H.out.symm, hB⟩
        · have hd3 : decide (50 < ((rget v k).length : Int)) = false := by simp; omega
          have HP : Hid ((rget v k).length ≤ 50) := show _ ≤ _ by omega
          clear hl
          go_wp2_with fail
          go_round
          case rel => exact ⟨k + 1, by omega, by omega, by go_num, snoc_all' ht.out HP.out⟩
          case measure => simp [intOf]; omega
      · have hk2 : ¬ (k : Int) < 20 := by omega
        have hd2 : decide ((k : Int) < 20) = false := by simpa using hk2
        have hd3 : decide (20 < (v.length : Int)) = true := by simp; omega
        have H := Lib.hid (greatG_true (v := v) (xs := xs) (.inr (.inl (by omega))))
        go_wp2_with fail
        go_ret
        exact ⟨ret_bool H.out.symm, hB⟩
    · have hk1 : ¬ (k : Int) < v.length := by omega
      have hd1 : decide ((k : Int) < v.length) = false := by simpa using hk1
      have hd3 : decide (20 < (v.length : Int)) = false := by simp; omega
      have H : Hid (greatG v xs = decide (50 < (xs.length : Int))) := by
        unfold Hid greatG GreatG
        refine dec_congr ⟨fun h => ?_, fun h => .inr (.inr (by omega))⟩
        rcases h with h | h | h
        · exact absurd (fun i hi _ => ht.out i (by omega)) h
        · omega
        · omega
      go_wp2_with fail
      go_ret
      exact ⟨ret_bool H.out.symm, hB⟩
end Go.Proofs.YtmcncflieoolmaaGreat

/- slices.Chunk over a list of ints: the rounds that it gives; no condition but that n is 1 or more. -/
namespace Go.Proofs.YtmcncflieoolmaaGreat
set_option linter.unusedSimpArgs false
open Go.ChangeShapes Go.WideShapes Go.ChangeAt Go.RowKit Go.Deep
set_option linter.unusedVariables false
attribute [local go_sem] Oper.semAt_some

/-- Where round k begins. -/
def cst (n k : Nat) : Nat := k * n
theorem cst_zero (n : Nat) : cst n 0 = 0 := by simp [cst]
theorem cst_succ (n k : Nat) : cst n (k + 1) = cst n k + n := by simp [cst, Nat.succ_mul]
/-- Round k of a list. -/
def ck (ts : List Int) (n k : Nat) : List Int := (ts.drop (cst n k)).take n
end Go.Proofs.YtmcncflieoolmaaGreat

/- Boxes of one cell. -/
namespace Go.Proofs.YtmcncflieoolmaaGreat
set_option linter.unusedVariables false
set_option linter.unusedSimpArgs false
open Go.ChangeShapes Go.WideShapes Go.ChangeAt Go.RowKit Go.Deep

/-- Block S is one cell that holds v. -/
def OneV (w : World) (S : Nat) (v : Value) (t : TypeId) : Prop := w.heap[S]? = some (.cells #[v] t (0, 0))
theorem OneV.lt {w : World} {S : Nat} {v : Value} {t : TypeId} (h : OneV w S v t) : S < w.heap.size := (Array.getElem?_eq_some_iff.1 h).1
theorem OneV.cell {w : World} {S : Nat} {v : Value} {t : TypeId} (h : OneV w S v t) : w.cell? ⟨S, 0, none⟩ = some v := by
  unfold OneV at h; simp [World.cell?, h]
theorem OneV.free {w : World} {S : Nat} {v : Value} {t : TypeId} (h : OneV w S v t) : w.frozen? ⟨S, 0, none⟩ = false := by
  unfold OneV at h; simp [World.frozen?, h]
theorem OneV.below {w w' : World} {B S : Nat} {v : Value} {t : TypeId} (h : OneV w S v t) (hb : Below B w w') (hS : S < B) : OneV w' S v t := (hb.block S hS).trans h
theorem OneV.new {w w' : World} {S : Nat} {v : Value} {t : TypeId} (hS : w.heap.size = S) (hw : w.alloc (.cells #[v] t) = w') : OneV w' S v t := by
  subst hS hw; exact World.alloc_heap_new w _
theorem OneV.set {w : World} {S : Nat} {u v : Value} {t : TypeId} (h : OneV w S v t) : OneV (w.setCell ⟨S, 0, none⟩ u) S u t := by
  unfold OneV at *
  show (w.heap.modify S _)[S]? = _
  obtain ⟨h1, h2⟩ := Array.getElem?_eq_some_iff.1 h
  rw [Array.getElem?_eq_getElem (by rw [Array.size_modify]; exact h1), Array.getElem_modify_self, h2]
  rfl
theorem OneV.other {w : World} {S S' : Nat} {u v : Value} {t : TypeId} (h : OneV w S v t) (hne : S ≠ S') : OneV (w.setCell ⟨S', 0, none⟩ u) S v t :=
  (Below.heap_setCell w ⟨S', 0, none⟩ _ S hne).trans h
theorem OneV.kept {w w' : World} {S : Nat} {v : Value} {t : TypeId} {row : Option Nat} (h : OneV w S v t) (hg : w.grownBy w' row) (hr : ∀ r, row = some r → ∃ o : Obj, w.heap[r]? = some o ∧ o.isCells = false) : OneV w' S v t := by
  refine (hg.block S h.lt (fun e => ?_)).trans h
  obtain ⟨o, ho, hc⟩ := hr S e.symm
  unfold OneV at h
  rw [h] at ho; cases ho; cases hc
theorem OneV.putObj {w : World} {S D : Nat} {v : Value} {t : TypeId} {o : Obj} (h : OneV w S v t) (hne : S ≠ D) : OneV (w.putObj D o) S v t :=
  (World.putObj_heap_other (fun e => hne e)).trans h
theorem OneV.heap {w w' : World} {S : Nat} {v : Value} {t : TypeId} (h : OneV w S v t) (hh : w'.heap[S]? = w.heap[S]?) : OneV w' S v t := hh.trans h
theorem BoxV.heap {w w' : World} {S : Nat} {vs : List Value} (h : BoxV w S vs) (hs : w.heap.size ≤ w'.heap.size) (hh : w'.heap[S]? = w.heap[S]?) : BoxV w' S vs :=
  ⟨Nat.lt_of_lt_of_le h.lt hs, fun k v hk => (World.cell?_of_block (w := w) (a := ⟨S, k, none⟩) hh).trans (h.cell k v hk)⟩
theorem heap_set_ne (w : World) {g x S : Nat} {u : Value} (h : S ≠ g) : (w.setCell ⟨g, x, none⟩ u).heap[S]? = w.heap[S]? := Below.heap_setCell w ⟨g, x, none⟩ _ S h
theorem size_set (w : World) {g x : Nat} {u : Value} : (w.setCell ⟨g, x, none⟩ u).heap.size = w.heap.size := by simp [World.setCell]
end Go.Proofs.YtmcncflieoolmaaGreat

/- The walks of robin.Balanced and of the reference's Balanced, for all turns; no condition. -/
namespace Go.Proofs.YtmcncflieoolmaaGreat
set_option linter.unusedVariables false
set_option linter.unusedSimpArgs false
open Go.ChangeShapes Go.WideShapes Go.ChangeAt Go.RowKit Go.Deep
attribute [local go_sem] Oper.semAt_some

theorem Ints.pre {w : World} {p : Option Addr} {c : Nat} {xs : List Int} (h : Ints w p c xs) (k : Nat) : Ints w p c (xs.take k) := by
  have hg : ∀ j, j < (xs.take k).length → iget (xs.take k) j = iget xs j := fun j hj => by
    rw [List.length_take] at hj
    simp only [iget, List.getD]
    rw [List.getElem?_take, if_pos (by omega)]
  refine ⟨by have := h.le; rw [List.length_take]; omega, h.max, h.nil, h.plain, fun b o e j hj => ?_, fun j hj => ?_⟩
  · rw [hg j hj]; exact h.cell b o e j (by rw [List.length_take] at hj; omega)
  · rw [hg j hj]; exact h.rng j (by rw [List.length_take] at hj; omega)
theorem balB_ok {n : Nat} {ts : List Int} (h : chkT n ts = 0) : balB n ts = decide (BalTo n ts ts.length) := by
  unfold balB; exact dec_congr ⟨fun h => by simpa using h.2, fun h2 => ⟨h, by simpa using h2⟩⟩


end Go.Proofs.YtmcncflieoolmaaGreat

/- Ranging over an iterator that would go on for ever, where the loop's body leaves the loop within a known number of rounds; no condition but that number. -/
namespace Go.Proofs.YtmcncflieoolmaaGreat
set_option linter.unusedSimpArgs false
open Go.ChangeShapes Go.WideShapes Go.ChangeAt Go.RowKit Go.Deep
set_option linter.unusedVariables false

/-- All blocks below n but O lie as they lay. -/
structure Keeps (O n : Nat) (A B : World) : Prop where
  bel : Below O A B
  same : ∀ k, O < k → k < n → B.heap[k]? = A.heap[k]?
theorem Keeps.refl (O n : Nat) (A : World) : Keeps O n A A := ⟨Below.refl _ _, fun _ _ _ => rfl⟩
theorem Keeps.trans {O n : Nat} {A B C : World} (h : Keeps O n A B) (k : Keeps O n B C) : Keeps O n A C := ⟨h.bel.trans k.bel, fun i h1 h2 => (k.same i h1 h2).trans (h.same i h1 h2)⟩
theorem Keeps.block {O n : Nat} {A B : World} (h : Keeps O n A B) {k : Nat} (hk : k < n) (hne : k ≠ O) : B.heap[k]? = A.heap[k]? := by
  rcases Nat.lt_or_gt_of_ne hne with h1 | h1
  · exact h.bel.block k h1
  · exact h.same k h1 hk
theorem Keeps.cell {O n : Nat} {A B : World} (h : Keeps O n A B) {b o : Nat} (hk : b < n) (hne : b ≠ O) : B.cell? ⟨b, o, none⟩ = A.cell? ⟨b, o, none⟩ := World.cell?_of_block (w := A) (a := ⟨b, o, none⟩) (h.block hk hne)
theorem Keeps.grown {O n : Nat} {w0 A B : World} {row : Option Nat} (h : Keeps O n w0 A) (hn : n ≤ A.heap.size) (hO : O < n) (hg : A.grownBy B row) (hr : ∀ k, row = some k → n ≤ k) : Keeps O n w0 B :=
  ⟨h.bel.grown hg (by omega) (fun k e => by have := hr k e; omega), fun k h1 h2 => (hg.block k (by omega) (fun e => by have := hr k e.symm; omega)).trans (h.same k h1 h2)⟩
theorem Keeps.setO {O n : Nat} {w0 A : World} {v : Value} (h : Keeps O n w0 A) : Keeps O n w0 (A.setCell ⟨O, 0, none⟩ v) :=
  ⟨h.bel.setCell (p := ⟨O, 0, none⟩) (Nat.le_refl _) _, fun k h1 h2 => (Below.heap_setCell A ⟨O, 0, none⟩ _ k (fun e => by simp only at e; omega)).trans (h.same k h1 h2)⟩
theorem Keeps.putObj {O n : Nat} {w : World} (hn : n ≤ w.heap.size) (hO : O < n) (W : World) (l : Nat) (o o' : Obj) (hl : w.heap.size ≤ l) (h : W.heap[l]? = some o) (_ : o.isCells = false) (_ : o.isWalk = false) : Keeps O n W (W.putObj l o') :=
  ⟨(Below.refl O W).grown (grownBy_putObj' W l o') (by have := (Array.getElem?_eq_some_iff.1 h).1; omega) (fun k e => by cases e; omega), fun k h1 h2 => World.putObj_heap_other (by omega)⟩

/-- The iterator's contract: if whoever ranges over it stops it after at most N rounds, it returns, stopped, with what it gave. -/
def SeqEnds {α : Type} (n gf : Nat) (lb : Array Value) (encs : α → Array Value) (Kp : World → World → Prop) (Sp : List α → Prop) (N : Nat) (w : World) : Prop :=
  ∀ (l : Nat) (J Jx : List α → World → Prop) (W : World), Below w.heap.size w W → AbidesFrom W.heap.size J → AbidesFrom W.heap.size Jx → (∀ pre W1, J pre W1 → pre.length ≤ N) →
    (∀ pre x W1, J pre W1 → YieldAt Fence.wide (n - 1) Tryz.prog l (encs x) W1 fun e W' =>
      (e = .returned (.bool true) ∧ J (pre ++ [x]) W' ∧ Kp W1 W') ∨ (e = .returned (.bool false) ∧ Jx (pre ++ [x]) W')) →
    J [] W → CallsIn Fence.wide n Tryz.prog gf (#[.func (.yield l) #[] #[]] ++ lb) W fun e W' => (∃ v, e = .returned v) ∧ ∃ pre, Sp pre ∧ Jx pre W'

/-- How a round may be left: at its end, or by the jump out of the loop. -/
def endsPost {α : Type} (Kp : World → World → Prop) (I Ix : List α → World → Prop) (id : Nat) (xs : List α) (W : World) : Exit → Act → World → Prop
  | .normal, _, W' => KeepsOthers W W' ∧ Kp W W' ∧ I xs W'
  | .exit i, _, W' => i = id ∧ KeepsOthers W W' ∧ Ix xs W'
  | _, _, _ => False

set_option maxHeartbeats 1000000 in
theorem range_ends {α : Type} {n : Nat} {g : Operand} {ps : Array Tmp} {assign body : Code} {Q : Exit → Act → World → Prop} {a : Act} {w : World} (h1 : 1 ≤ n) {gf : Nat} {lb : Array Value}
    (hg : a.eval g = .func (.func gf) #[] lb) (eg : ∀ args W, (callFunc gf args).run Tryz.prog W = .ok (.enter gf args) W) {encs : α → Array Value} {Kp : World → World → Prop} {Sp : List α → Prop} {N : Nat}
    (hseq : SeqEnds (n - 1) gf lb encs Kp Sp N w) (hKt : ∀ {A B C : World}, Kp A B → Kp B C → Kp A C)
    (hKb : ∀ (W : World) (l : Nat) (o o' : Obj), w.heap.size ≤ l → W.heap[l]? = some o → o.isCells = false → o.isWalk = false → Kp W (W.putObj l o')) (hps : ∀ x, (encs x).size = ps.size)
    (I Ix : List α → World → Prop) (id : Nat) (hI : OwnFrom w.heap.size I) (hIx : OwnFrom w.heap.size Ix) (hN : ∀ pre W, I pre W → pre.length ≤ N) (h0 : I [] w) (a₁ : α → Act)
    (hassign : ∀ (l : Nat) (x : α) (W : World) (K : Act → World → Prop), K (a₁ x) W →
      assign.wpIn (Fence.wide.inRound l) (n - 1 - 1) Tryz.prog (Exit.then K (fun _ _ _ => False)) { tmps := (ps.zip (encs x)).foldl (fun t (p, v) => t.setIfInBounds p v) a.tmps, defers := [] } W)
    (hbody : ∀ (l : Nat) (pre : List α) (x : α) (W : World), I pre W → body.wpIn (Fence.wide.inRound l) (n - 1 - 1) Tryz.prog (endsPost Kp I Ix id (pre ++ [x]) W) (a₁ x) W)
    (hstop : ∀ (D : Nat) (pre : List α) (W : World), w.heap.size ≤ D → Sp pre → Ix pre W → W.heap[D]? = some (.deferred (some [])) → (Code.exit id).wpIn Fence.wide n Tryz.prog Q { a with defers := { target := .collected D, args := #[] } :: a.defers } W) :
    (Code.rangeFunc g ps assign body).wpIn Fence.wide n Tryz.prog Q a w := by
  refine wpIn_rangeFunc fun fn hfn => ?_
  obtain ⟨R, hR⟩ : ∃ R : LoopState → Option Code → Loop, R = fun st pe => { state := st, pending := pe, fn, tmps := a.tmps, params := ps, assign, body, defers := w.heap.size } := ⟨_, rfl⟩
  obtain ⟨V, hV⟩ : ∃ V, (w.alloc (.deferred (some []))).alloc (.loop (R .ready none)) = V := ⟨_, rfl⟩
  obtain ⟨L, hL⟩ : ∃ L, w.heap.size + 1 = L := ⟨_, rfl⟩
  have hvs : V.heap.size = w.heap.size + 2 := by rw [← hV]; simp
  have vL : V.heap[L]? = some (.loop (R .ready none)) := by
    have := World.alloc_heap_new (w.alloc (.deferred (some []))) (.loop (R .ready none))
    rw [World.size_alloc, hL, hV] at this
    exact this
  have vD : V.heap[w.heap.size]? = some (.deferred (some [])) := by
    rw [← hV]; exact (Below.heap_alloc _ _ _ (by simp)).trans (World.alloc_heap_new w _)
  have vB : Below w.heap.size w V := by rw [← hV]; exact ((Below.refl _ w).alloc (Nat.le_refl _) _).alloc (by simp) _
  have vI : I [] V := by rw [← hV]; exact hI.alloc _ (hI.alloc _ h0)
  have hLD : L ≠ w.heap.size := by omega
  -- the loop's record in a state, the deferred calls' block empty
  let At : Loop → World → Prop := fun r W => W.heap[L]? = some (.loop r) ∧ W.heap[w.heap.size]? = some (.deferred (some []))
  have at_kept : ∀ {r : Loop} {A B : World} {row : Option Nat}, At r A → A.grownBy B row → (∀ k, row = some k → V.heap.size ≤ k ∧ ∃ o : Obj, A.heap[k]? = some o ∧ o.isWalk = true) → At r B := fun ha hg hr =>
    ⟨(grownBy_keeps hg (fun k e => (hr k e).2) ha.1 rfl).trans ha.1, (grownBy_keeps hg (fun k e => (hr k e).2) ha.2 rfl).trans ha.2⟩
  have at_others : ∀ {r : Loop} {A B : World}, At r A → KeepsOthers A B → At r B := fun ha hk => ⟨hk.same _ _ ha.1 rfl, hk.same _ _ ha.2 rfl⟩
  have at_put : ∀ {r r' : Loop} {A : World}, At r A → At r' (A.putObj L (.loop r')) := fun ha =>
    ⟨World.putObj_heap_same (Array.getElem?_eq_some_iff.1 ha.1).1, (World.putObj_heap_other hLD.symm).trans ha.2⟩
  have off : ∀ {A : World} {row : Option Nat}, (∀ k, row = some k → V.heap.size ≤ k ∧ ∃ o : Obj, A.heap[k]? = some o ∧ o.isWalk = true) → (∀ k, row = some k → w.heap.size ≤ k ∧ ∃ o : Obj, A.heap[k]? = some o ∧ o.isCells = false) := fun hr k e => by
    obtain ⟨h2, o, ho, hw⟩ := hr k e
    exact ⟨by omega, o, ho, Obj.not_cells_of_walk hw⟩
  refine ⟨L, [{ target := .collected w.heap.size, args := #[] }], V, { target := .fn (.func gf) lb, args := #[.func (.yield L) #[] #[]] }, V, gf, #[.func (.yield L) #[] #[]] ++ lb, V, ?_, ?_, fun f' _ => trivial, ?_, fun _ => h1, ?_⟩
  · have := run_enterLoop_outer (P := Tryz.prog) (w := w) fn a.tmps ps assign body
    rw [hL] at this
    rw [← hV, hR]
    exact this
  · simp only [resolve, hg]; simp [go_sem]
  · simp [invoke, go_sem, eg]
  refine (hseq L (fun pre W => I pre W ∧ At (R .ready none) W) (fun pre W => Ix pre W ∧ At (R .done (some (.exit id))) W) V vB
    (fun s A B row hs hg' hr => ⟨hI s A B row hs.1 hg' (off hr), at_kept hs.2 hg' hr⟩) (fun s A B row hs hg' hr => ⟨hIx s A B row hs.1 hg' (off hr), at_kept hs.2 hg' hr⟩)
    (fun pre W1 h => hN pre W1 h.1) ?round ⟨vI, vL, vD⟩).mono ?behind
  case round =>
    rintro pre x W ⟨hi, ha⟩
    have hy := run_yield (P := Tryz.prog) (args := encs x) ha.1 (by rw [hR]; exact hps x)
    rw [hR] at hy
    refine ⟨fn, _, assign, body, hy, roundIn_of_wpIn hfn (hassign _ x W _ ⟨_, run_beginRound ha.1 (by rw [hR]), ?_⟩)⟩
    have ha2 := at_put (r' := { R .ready none with state := .busy }) ha
    have hk2 : Kp W (W.putObj L (.loop { R .ready none with state := .busy })) := hKb _ _ _ _ (by omega) ha.1 rfl rfl
    refine wpIn_mono (hbody _ pre x _ (hI.putObj _ hi (by omega) ha.1 rfl)) fun e a3 W3 hp => ?_
    cases e with
    | normal =>
      obtain ⟨k1, k2, k3⟩ := hp
      have ha3 := at_others ha2 k1
      have hr := run_endRound (P := Tryz.prog) none ha3.1
      have ha4 := at_put (r' := R .ready none) ha3
      rw [hR] at hr ha3 ha4
      refine ⟨_, _, hr, .inl ⟨rfl, ⟨hI.putObj _ k3 (by omega) ha3.1 rfl, ?_⟩, hKt (hKt hk2 k2) (hKb _ _ _ _ (by omega) ha3.1 rfl rfl)⟩⟩
      rw [hR]; exact ha4
    | exit i =>
      obtain ⟨rfl, k1, k3⟩ := hp
      have ha3 := at_others ha2 k1
      have hr := run_endRound (P := Tryz.prog) (some (.exit i)) ha3.1
      have ha4 := at_put (r' := R .done (some (.exit i))) ha3
      rw [hR] at hr ha3 ha4
      refine ⟨_, _, hr, .inr ⟨rfl, hIx.putObj _ k3 (by omega) ha3.1 rfl, ?_⟩⟩
      rw [hR]; exact ha4
    | ret => exact hp.elim
    | goto t => exact hp.elim
    | panic ch => exact hp.elim
    | outgrown => exact hp.elim
  case behind =>
    rintro e W2 ⟨⟨v, rfl⟩, pre, hSp, hi, ha⟩
    have hr := run_endLoop (P := Tryz.prog) ha.1 (by rw [hR]; simp)
    rw [hR] at hr
    exact ⟨some (.exit id), _, hr, hstop _ pre _ (Nat.le_refl _) hSp (hIx.putObj _ hi (by omega) ha.1 rfl) ((World.putObj_heap_other hLD.symm).trans ha.2)⟩
end Go.Proofs.YtmcncflieoolmaaGreat

/- The iterator of rounds of turns (robin.turns): what it gives until it is stopped; no condition but sizes. -/
namespace Go.Proofs.YtmcncflieoolmaaGreat
set_option linter.unusedSimpArgs false
open Go.ChangeShapes Go.WideShapes Go.ChangeAt Go.RowKit Go.Deep
set_option linter.unusedVariables false
attribute [local go_sem] Oper.semAt_some

/-- Turn t of rounds of a first round (b: each second one the other way round). -/
def seqI (f : List Int) (b : Bool) (t : Nat) : Int := iget f (if b = true ∧ (t / f.length) % 2 = 1 then f.length - 1 - t % f.length else t % f.length)
def seqL (f : List Int) (b : Bool) (m : Nat) : List Int := (List.range m).map (seqI f b)
theorem seqL_len (f : List Int) (b : Bool) (m : Nat) : (seqL f b m).length = m := by simp [seqL]
theorem seqL_succ (f : List Int) (b : Bool) (m : Nat) : seqL f b (m + 1) = seqL f b m ++ [seqI f b m] := by simp [seqL, List.range_succ]
theorem seq_at {f : List Int} {b : Bool} {r k : Nat} (hk : k < f.length) : seqI f b (cst f.length r + k) = iget f (if b = true ∧ r % 2 = 1 then f.length - 1 - k else k) := by
  unfold seqI cst
  have e1 : (r * f.length + k) / f.length = r := by rw [Nat.add_comm, Nat.add_mul_div_right _ _ (by omega), Nat.div_eq_of_lt hk, Nat.zero_add]
  have e2 : (r * f.length + k) % f.length = k := by rw [Nat.add_comm, Nat.add_mul_mod_self_right, Nat.mod_eq_of_lt hk]
  rw [e1, e2]

set_option maxRecDepth 100000 in
set_option maxHeartbeats 8000000 in
theorem turns1_ends (n : Nat) (hn : 1 ≤ n) (Bs Bb O n₀ : Nat) (p : Option Addr) (hOs : O < Bs) (hOb : O < Bb) (hbO : ∀ b o, p = some ⟨b, o, none⟩ → b < O) (c : Nat) (f : List Int) (b : Bool) (N : Nat) (hL1 : 1 ≤ f.length) (hL : f.length ≤ 1000) (hN : N ≤ 1000) (w : World) (hBs : Bs < w.heap.size) (hBb : Bb < w.heap.size) (hn₀ : w.heap.size = n₀)
    (hc : w.cell? ⟨Bs, 0, none⟩ = some (.slice p f.length c)) (hcb : w.cell? ⟨Bb, 0, none⟩ = some (.bool b)) (hI : Ints w p c f) :
    SeqEnds n 102 #[.pointer (some ⟨Bs, 0, none⟩), .pointer (some ⟨Bb, 0, none⟩)] (fun x : Int => #[.int .i64 x]) (Keeps O n₀) (fun pre => pre = seqL f b pre.length) N w := by
  intro l J Jx W hW _ _ hJN hY h0
  have hI0 := hI.below hW (Nat.le_refl _)
  have hc0 := (hW.cell (p := ⟨Bs, 0, none⟩) hBs).trans hc
  have hb0 := (hW.cell (p := ⟨Bb, 0, none⟩) hBb).trans hcb
  have hsW := hW.size
  obtain ⟨bp, o, rfl, hbl, _⟩ := hI.get (j := 0) (by omega)
  have HY := Lib.hid hY
  have HN := Lib.hid (fun (m : Nat) (W1 : World) (h : J (seqL f b m) W1) => (by have := hJN _ _ h; rwa [seqL_len] at this : m ≤ N))
  have h00 : J (seqL f b (cst f.length 0)) W := by rw [cst_zero]; exact h0
  have hs0 : Bs < n₀ := by omega
  have hb1 : Bb < n₀ := by omega
  have hbn : bp < n₀ := by omega
  have hlen := hI.length_le
  have hneS : Bs ≠ O := by omega
  have hneB : Bb ≠ O := by omega
  have hneP : bp ≠ O := by have := hbO bp o rfl; omega
  clear hbO
  clear hY hJN h0 hc hcb hW hI hn₀ hBs hBb hbl hsW
  refine callsIn_of_wp Tryz.func102 rfl trivial ?_ rfl
  simp only [Tryz.ntmps102, List.size_toArray, List.length_cons, List.length_nil, Nat.reduceAdd, Nat.reduceSub, Array.replicate_succ, Array.replicate_zero, List.push_toArray, List.append_toArray, List.nil_append, List.cons_append]
  gi_wp2
  gi_loopw [4] (fun t wr => ∃ r : Nat, t = .int .i64 r ∧ J (seqL f b (cst f.length r)) wr ∧ Keeps O n₀ W wr) (fun t _ => N + 1 - (intOf t).toNat)
  case atStart => exact ⟨0, rfl, h00, Keeps.refl _ _ _⟩
  case round =>
    obtain ⟨r, rfl, hJr, hbr⟩ := hrel
    have hrN : r ≤ N := Nat.le_trans (Nat.le_mul_of_pos_right r hL1) (HN.out _ _ hJr)
    have hcs : wr.cell? ⟨Bs, 0, none⟩ = some (.slice (some ⟨bp, o, none⟩) f.length c) := (hbr.cell hs0 hneS).trans hc0
    have Hnext := Lib.hid (cst_succ f.length r)
    obtain ⟨wo, rfl⟩ : ∃ wo : World, wo = wr := ⟨_, rfl⟩
    gi_wp2
    gi_loopw [10] (fun t wr => ∃ k : Nat, k ≤ f.length ∧ t = .int .i64 k ∧ J (seqL f b (cst f.length r + k)) wr ∧ Keeps O n₀ W wr) (fun t _ => f.length - (intOf t).toNat)
    case atStart => exact ⟨0, by omega, rfl, hJr, hbr⟩
    case round =>
      clear hJr hbr hcs
      obtain ⟨k, hk, rfl, hJk, hbk⟩ := hrel
      have hcs : wr.cell? ⟨Bs, 0, none⟩ = some (.slice (some ⟨bp, o, none⟩) f.length c) := (hbk.cell hs0 hneS).trans hc0
      have hcb : wr.cell? ⟨Bb, 0, none⟩ = some (.bool b) := (hbk.cell hb1 hneB).trans hb0
      by_cases hkL : k < f.length
      · have hk1 : (k : Int) < f.length := by omega
        have hr0 : (0 : Int) ≤ r := by omega
        have hcell : ∀ j, j < f.length → wr.cell? ⟨bp, o + j, none⟩ = some (.int .i64 (iget f j)) := fun j hj => (hbk.cell hbn hneP).trans (hI0.at hj)
        by_cases hflip : b = true ∧ r % 2 = 1
        · have hx : Hid (seqL f b (cst f.length r + (k + 1)) = seqL f b (cst f.length r + k) ++ [iget f (f.length - 1 - k)]) := by
            unfold Hid; rw [← Nat.add_assoc, seqL_succ, seq_at hkL, if_pos hflip]
          obtain ⟨fn, tmps, assign, body, hy, hR⟩ := HY.out _ (iget f (f.length - 1 - k)) wr hJk
          have hci := hcell (f.length - 1 - k) (by omega)
          obtain ⟨rfl, hodd⟩ := hflip
          have hd : (((r : Int) % 2) == 1) = true := by rw [beq_iff_eq]; omega
          have hj1 : (0 : Int) ≤ (f.length : Int) - 1 - k := by omega
          have hj2 : (f.length : Int) - 1 - k < f.length := by omega
          clear hcell hodd
          gi_wp2
          refine hR.mono ?_
          rintro e W3 (⟨rfl, hJ3, hk3⟩ | ⟨rfl, hJx3⟩)
          · gi_wp2
            go_roundw
            case rel => exact ⟨k + 1, by omega, by go_num, by rw [hx.out]; exact hJ3, hbk.trans hk3⟩
            case measure => simp [intOf]; omega
          · gi_wp2
            refine bodyPost_ret (results_none rfl _ _ _) rfl ?_
            exact ⟨⟨_, rfl⟩, _, by rw [← hx.out, seqL_len], hJx3⟩
        · have hx : Hid (seqL f b (cst f.length r + (k + 1)) = seqL f b (cst f.length r + k) ++ [iget f k]) := by
            unfold Hid; rw [← Nat.add_assoc, seqL_succ, seq_at hkL, if_neg hflip]
          obtain ⟨fn, tmps, assign, body, hy, hR⟩ := HY.out _ (iget f k) wr hJk
          have hci := hcell k hkL
          clear hcell
          cases b with
          | false =>
            clear hflip
            gi_wp2
            refine hR.mono ?_
            rintro e W3 (⟨rfl, hJ3, hk3⟩ | ⟨rfl, hJx3⟩)
            · gi_wp2
              go_roundw
              case rel => exact ⟨k + 1, by omega, by go_num, by rw [hx.out]; exact hJ3, hbk.trans hk3⟩
              case measure => simp [intOf]; omega
            · gi_wp2
              refine bodyPost_ret (results_none rfl _ _ _) rfl ?_
              exact ⟨⟨_, rfl⟩, _, by rw [← hx.out, seqL_len], hJx3⟩
          | true =>
            have hd : (((r : Int) % 2) == 1) = false := by rw [beq_eq_false_iff_ne]; intro h; exact hflip ⟨rfl, by omega⟩
            clear hflip
            gi_wp2
            refine hR.mono ?_
            rintro e W3 (⟨rfl, hJ3, hk3⟩ | ⟨rfl, hJx3⟩)
            · gi_wp2
              go_roundw
              case rel => exact ⟨k + 1, by omega, by go_num, by rw [hx.out]; exact hJ3, hbk.trans hk3⟩
              case measure => simp [intOf]; omega
            · gi_wp2
              refine bodyPost_ret (results_none rfl _ _ _) rfl ?_
              exact ⟨⟨_, rfl⟩, _, by rw [← hx.out, seqL_len], hJx3⟩
      · have hk1 : ¬ (k : Int) < f.length := by omega
        obtain rfl : k = f.length := by omega
        gi_wp2
        go_roundw
        case rel => exact ⟨r + 1, by go_num, by rw [Hnext.out]; exact hJk, hbk⟩
        case measure => simp [intOf]; omega

set_option maxHeartbeats 1000000 in
theorem turns_any (a : Option Addr) (len cap : Nat) (b : Bool) (w : World) :
    Calls Tryz.prog 59 #[.slice a len cap, .bool b] w fun e w' => e = .returned (.func (.func 102) #[] #[.pointer (some ⟨w.heap.size, 0, none⟩), .pointer (some ⟨w.heap.size + 1, 0, none⟩)]) ∧ w' = (w.alloc (.cells #[.slice a len cap] 25)).alloc (.cells #[.bool b] 4) := by
  go_enter Tryz.func59, Tryz.ntmps59
  go_wp2
  go_ret
  exact ⟨rfl, rfl⟩
end Go.Proofs.YtmcncflieoolmaaGreat
