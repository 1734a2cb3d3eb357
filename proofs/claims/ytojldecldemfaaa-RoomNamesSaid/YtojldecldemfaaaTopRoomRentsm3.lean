/- Rows of bools that a call itself makes; no condition but sizes. -/
import Derived.Test.YtojldecldemfaaaTopRoomRentsm2
/- Rows of bools that a call itself makes; no condition but sizes. -/
namespace Go.Proofs.Ytojldecldemfaaa
set_option linter.unusedVariables false
set_option linter.unusedSimpArgs false
open Go.ChangeShapes Go.WideShapes Go.ChangeAt Go.RowKit Go.Deep

theorem infoBool : (Try.prog.info? 4).map (fun i => (i.zero, i.size, i.bytes)) = some (some (.bool false), 1, 1) := by kernel_rfl
def bget (bs : List Bool) (k : Nat) : Bool := bs.getD k false
theorem bget_set {xs : List Bool} {j k : Nat} {x : Bool} (hj : j < xs.length) : bget (xs.set j x) k = if j = k then x else bget xs k := by
  simp only [bget, List.getD, List.getElem?_set]
  split
  · rename_i h; subst h; simp [hj]
  · rfl
/-- The slice (p, bs.length, c) is a row of bools of the call's own. -/
def OwnB (w : World) (base : Nat) (p : Option Addr) (c : Nat) (bs : List Bool) : Prop := w.ownsRow base 4 1 (.slice p bs.length c) bs.length (bs.map Value.bool)
theorem OwnB.get {w : World} {base : Nat} {p : Option Addr} {c : Nat} {bs : List Bool} (h : OwnB w base p c bs) {j : Nat} (hj : j < bs.length) :
    ∃ g, p = some ⟨g, 0, none⟩ ∧ base ≤ g ∧ g < w.heap.size ∧ w.cell? ⟨g, j, none⟩ = some (.bool (bget bs j)) ∧ w.frozen? ⟨g, j, none⟩ = false := by
  have h' := h
  unfold OwnB at h'
  rcases h.2 with ⟨h1, h2⟩ | ⟨g, cap, cur, h1, h2, h3, h4, h5, _, _⟩
  · omega
  · simp only [Value.slice.injEq] at h1
    obtain ⟨rfl, _, rfl⟩ := h1
    refine ⟨g, rfl, h2, (Array.getElem?_eq_some_iff.1 h3).1, ?_, h'.frozenAt j⟩
    rw [h'.cellAt j (by omega)]
    simp [bget, hj]
theorem OwnB.at {w : World} {base g : Nat} {c : Nat} {bs : List Bool} (h : OwnB w base (some ⟨g, 0, none⟩) c bs) {j : Nat} (hj : j < bs.length) : w.cell? ⟨g, j, none⟩ = some (.bool (bget bs j)) := by
  have h' := h
  unfold OwnB at h'
  rw [h'.cellAt j (by omega)]
  simp [bget, hj]
theorem OwnB.free {w : World} {base g : Nat} {c : Nat} {bs : List Bool} (h : OwnB w base (some ⟨g, 0, none⟩) c bs) (j : Nat) : w.frozen? ⟨g, j, none⟩ = false := World.ownsRow.frozenAt h j
theorem OwnB.set {w : World} {base g : Nat} {c : Nat} {bs : List Bool} (h : OwnB w base (some ⟨g, 0, none⟩) c bs) (j : Nat) (x : Bool) :
    OwnB (w.setCell ⟨g, j, none⟩ (.bool x)) base (some ⟨g, 0, none⟩) c (bs.set j x) ∧ w.grownBy (w.setCell ⟨g, j, none⟩ (.bool x)) (some g) := by
  obtain ⟨h1, h2⟩ := World.ownsRow.stored h j (.bool x)
  exact ⟨by unfold OwnB; rw [List.length_set, List.map_set]; exact h1, h2⟩
theorem OwnB.drewN {w : World} {base : Nat} {p : Option Addr} {c : Nat} {bs : List Bool} (h : OwnB w base p c bs) (n : Nat) : OwnB (w.drewN n) base p c bs :=
  World.ownsRow.kept h (grownBy_of_below (below_drewN w.heap.size w n) (Nat.le_refl _) none) (by cases (Value.slice p bs.length c).ownBlock <;> simp)
theorem OwnB.drew {w w' : World} {base : Nat} {p : Option Addr} {c : Nat} {bs : List Bool} (h : OwnB w base p c bs) (hw : ∃ n, w' = w.drewN n) : OwnB w' base p c bs := by obtain ⟨n, rfl⟩ := hw; exact h.drewN n
theorem setCell_back {w : World} {g j : Nat} {u old : Value} (h : w.cell? ⟨g, j, none⟩ = some old) : (w.setCell ⟨g, j, none⟩ u).setCell ⟨g, j, none⟩ old = w := by
  have hb := World.block_lt_of_cell? _ _ h
  simp only [World.setCell]
  cases w with
  | mk heap tape drawn os output =>
    simp only [World.mk.injEq, and_true, true_and]
    apply Array.ext
    · simp
    · intro i h1 h2
      simp only [Array.getElem_modify]
      by_cases e : g = i
      · subst e
        simp only [if_true]
        simp only [World.cell?] at h
        rw [Array.getElem?_eq_getElem h2] at h
        cases ho : heap[g] with
        | cells c elem frozen =>
          rw [ho] at h
          simp at h
          simp only [Obj.cells.injEq, and_true]
          apply Array.ext
          · simp
          · intro k k1 k2
            simp only [Option.isSome_none, Bool.false_eq_true, if_false, Array.getElem_setIfInBounds]
            simp at k1
            by_cases e : j = k
            · subst e
              simp
              have := (Array.getElem?_eq_some_iff.1 h).2
              exact this.symm
            · simp [e]
              rw [Array.getElem_setIfInBounds, if_neg e]
        | _ => rfl
      · simp [e]

/-- 'make([]bool, n)', n a variable. -/
theorem wpList_mkB {w : World} {ops : Array Oper} {rest : List Oper} {o : Oper} {a : Act} {Q : Exit → Act → World → Prop} (hg : o.guard = none) (l c : Operand) (hop : o.op = Op.makeSlice 85 l c)
    (base n : Nat) (hl : a.eval l = .int .i64 (n : Int)) (hc : a.eval c = .int .i64 (n : Int)) (hn : n ≤ 1000000) (hb : base ≤ w.heap.size)
    (hK : ∀ w', OwnB w' base (some ⟨w.heap.size, 0, none⟩) n (List.replicate n false) → w.grownBy w' none → w'.heap.size = w.heap.size + 1 → wpList Try.prog ops Q rest (a.put o.dst (.slice (some ⟨w.heap.size, 0, none⟩) n n)) w') : wpList Try.prog ops Q (o :: rest) a w := by
  obtain ⟨i, hi, hz0, hz1, hz2⟩ := info_parts infoBool
  refine wpList_plain hg fun K hK' => ?_
  have hrun := run_make (P := Try.prog) w 85 4 i (.bool false) Try.underlying85 hi hz0 .i64 .i64 (n : Int) (n : Int) (by omega) (by omega) (by rw [hz2]; omega) (by omega)
  have hcs : (madeCells (Value.bool false).cells (n * 1)).toList = List.replicate n (.bool false) := by
    rw [Nat.mul_one]; exact toList_madeCells_one _ _
  unfold Oper.wp
  rw [hz1] at hrun
  simp only [Int.toNat_natCast] at hrun
  simp [execOp, hop, hl, hc, hrun, Result.andThen]
  refine hK' _ _ (hK _ ?_ (World.grownBy_alloc _ _ _) (by simp))
  have := World.ownsRow_lit (e := 4) (size := 1) (base := base) w (madeCells (Value.bool false).cells (n * 1)) n hb (by simp [maxLen]; omega) (by rw [size_madeCells])
  rw [hcs] at this
  unfold OwnB
  simpa using this
/-- The cells of a new row of bools; the walk does not look behind the name. -/
def boolCells (n : Nat) : Array Value := madeCells (Value.bool false).cells (n * 1)
theorem run_mkB (n : Nat) (hn : n ≤ 1000000) (W : World) : (Instr.makeSlice 85 (.int .i64 (n : Int)) (.int .i64 (n : Int))).run Try.prog W = .ok (.slice (some ⟨W.heap.size, 0, none⟩) n n) (W.alloc (.cells (boolCells n) 4)) := by
  obtain ⟨i, hi, hz0, hz1, hz2⟩ := info_parts infoBool
  have hrun := run_make (P := Try.prog) W 85 4 i (.bool false) Try.underlying85 hi hz0 .i64 .i64 (n : Int) (n : Int) (by omega) (by omega) (by rw [hz2]; omega) (by omega)
  rw [hz1] at hrun
  simp only [Int.toNat_natCast] at hrun
  exact hrun
theorem ownB_cells (W : World) (base n : Nat) (hn : n ≤ 1000000) (hb : base ≤ W.heap.size) : OwnB (W.alloc (.cells (boolCells n) 4)) base (some ⟨W.heap.size, 0, none⟩) n (List.replicate n false) := by
  have hcs : (boolCells n).toList = List.replicate n (.bool false) := by
    unfold boolCells; rw [Nat.mul_one]; exact toList_madeCells_one _ _
  have := World.ownsRow_lit (e := 4) (size := 1) (base := base) W (boolCells n) n hb (by simp [maxLen]; omega) (by unfold boolCells; rw [size_madeCells])
  rw [hcs] at this
  unfold OwnB
  simpa using this
end Go.Proofs.Ytojldecldemfaaa

/- What the reference's Link computes is the greatest sum along a simple path; the least prices; plain, no program. -/
namespace Go.Proofs.Ytojldecldemfaaa
set_option linter.unusedVariables false
set_option linter.unusedSimpArgs false

/-- The greatest of g k over those k that are not marked, and whether there was one. -/
def scan (g : Nat → Int) (sb : List Bool) : Nat → Int × Bool
  | 0 => (0, false)
  | k + 1 => if bget sb k = true then scan g sb k else if (scan g sb k).2 = false ∨ (scan g sb k).1 < g k then (g k, true) else scan g sb k
theorem scan_spec (g : Nat → Int) (sb : List Bool) : ∀ k, ((scan g sb k).2 = false ∧ (scan g sb k).1 = 0 ∧ ∀ j, j < k → bget sb j = true) ∨
    ((scan g sb k).2 = true ∧ (∃ j, j < k ∧ bget sb j = false ∧ (scan g sb k).1 = g j) ∧ ∀ j, j < k → bget sb j = false → g j ≤ (scan g sb k).1)
  | 0 => .inl ⟨rfl, rfl, fun _ h => by omega⟩
  | k + 1 => by
    simp only [scan]
    by_cases hb : bget sb k = true
    · rw [if_pos hb]
      rcases scan_spec g sb k with ⟨h1, h2, h3⟩ | ⟨h1, ⟨j, h2, h3, h4⟩, h5⟩
      · refine .inl ⟨h1, h2, fun j hj => ?_⟩
        by_cases e : j = k
        · subst e; exact hb
        · exact h3 j (by omega)
      · refine .inr ⟨h1, ⟨j, by omega, h3, h4⟩, fun i hi hn => ?_⟩
        by_cases e : i = k
        · subst e; rw [hb] at hn; cases hn
        · exact h5 i (by omega) hn
    · rw [if_neg hb]
      have hb' : bget sb k = false := by simpa using hb
      by_cases hg : (scan g sb k).2 = false ∨ (scan g sb k).1 < g k
      · rw [if_pos hg]
        refine .inr ⟨rfl, ⟨k, by omega, hb', rfl⟩, fun i hi hn => ?_⟩
        by_cases e : i = k
        · subst e; exact Int.le_refl _
        · rcases scan_spec g sb k with ⟨h1, h2, h3⟩ | ⟨h1, _, h5⟩
          · have := h3 i (by omega); rw [this] at hn; cases hn
          · have := h5 i (by omega) hn
            rcases hg with hg | hg
            · rw [h1] at hg; cases hg
            · show g i ≤ g k; omega
      · rw [if_neg hg]
        rcases scan_spec g sb k with ⟨h1, h2, h3⟩ | ⟨h1, ⟨j, h2, h3, h4⟩, h5⟩
        · exact absurd (.inl h1) hg
        · refine .inr ⟨h1, ⟨j, by omega, h3, h4⟩, fun i hi hn => ?_⟩
          by_cases e : i = k
          · subst e; have : ¬ (scan g sb i).1 < g i := fun h => hg (.inr h); omega
          · exact h5 i (by omega) hn
theorem scan_congr {g h : Nat → Int} {sb : List Bool} : ∀ k, (∀ j, j < k → bget sb j = false → g j = h j) → scan g sb k = scan h sb k
  | 0, _ => rfl
  | k + 1, e => by
    simp only [scan]
    rw [scan_congr k (fun j hj hb => e j (by omega) hb)]
    by_cases hb : bget sb k = true
    · simp [hb]
    · rw [if_neg hb, if_neg hb, e k (by omega) (by simpa using hb)]

/-- What Link computes, at most f nodes being left. -/
def lnk (w : Nat → Nat → Int) (n : Nat) : Nat → List Bool → Nat → Nat → Int
  | 0, _, _, _ => 0
  | f + 1, sb, x, y => if x = y then 0 else (scan (fun j => w x j + lnk w n f (sb.set x true) j y) (sb.set x true) n).1

theorem count_set_false {sb : List Bool} {x : Nat} (hx : x < sb.length) (h : bget sb x = false) : (sb.set x true).count false + 1 = sb.count false := by
  induction sb generalizing x with
  | nil => simp at hx
  | cons b sb ih =>
    cases x with
    | zero =>
      simp [bget] at h; subst h
      simp
    | succ x =>
      simp [bget] at h
      have := ih (x := x) (by simpa using hx) (by simp [bget, h])
      simp only [List.set_cons_succ, List.count_cons]
      omega
theorem count_pos {sb : List Bool} {x : Nat} (hx : x < sb.length) (h : bget sb x = false) : 0 < sb.count false := by
  have := count_set_false hx h; omega

theorem lnk_spec (w : Nat → Nat → Int) (n : Nat) : ∀ (f : Nat) (sb : List Bool) (x y : Nat), sb.length = n → x < n → y < n → bget sb x = false → bget sb y = false → sb.count false ≤ f →
    (∃ L, Simple n x L ∧ (∀ z, z ∈ x :: L → bget sb z = false) ∧ lastOf x L = y ∧ psum w x L = lnk w n f sb x y) ∧
    (∀ L, Simple n x L → (∀ z, z ∈ x :: L → bget sb z = false) → lastOf x L = y → psum w x L ≤ lnk w n f sb x y)
  | 0, sb, x, y, hl, hx, _, h1, _, hc => by have := count_pos (by omega) h1; omega
  | f + 1, sb, x, y, hl, hx, hy, h1, h2, hc => by
    simp only [lnk]
    by_cases e : x = y
    · subst e
      rw [if_pos rfl]
      refine ⟨⟨[], ⟨by simp, fun z hz => by simp at hz; omega⟩, fun z hz => by simp at hz; subst hz; exact h1, rfl, rfl⟩, ?_⟩
      intro L hL _ hlast
      cases L with
      | nil => simp [psum]
      | cons z L =>
        simp only [lastOf] at hlast
        have hm := lastOf_mem z L
        rw [hlast] at hm
        exact absurd hm (List.nodup_cons.1 hL.nodup).1
    · rw [if_neg e]
      have hl' : (sb.set x true).length = n := by simp [hl]
      have hc' : (sb.set x true).count false ≤ f := by have := count_set_false (by omega) h1; omega
      have hg : ∀ z, bget (sb.set x true) z = false ↔ (z ≠ x ∧ bget sb z = false) := fun z => by
        rw [bget_set (by omega)]
        by_cases e : x = z
        · subst e; simp
        · simp [e, Ne.symm e]
      have hy' : bget (sb.set x true) y = false := (hg y).2 ⟨fun e' => e e'.symm, h2⟩
      have ih := fun j hj hb => lnk_spec w n f (sb.set x true) j y hl' hj hy hb hy' hc'
      rcases scan_spec (fun j => w x j + lnk w n f (sb.set x true) j y) (sb.set x true) n with ⟨_, _, h5⟩ | ⟨_, ⟨j, j1, j2, j3⟩, h5⟩
      · have := h5 y hy; rw [this] at hy'; cases hy'
      · refine ⟨?_, ?_⟩
        · obtain ⟨⟨L, hL, hav, hlast, hp⟩, _⟩ := ih j j1 j2
          refine ⟨j :: L, ⟨List.nodup_cons.2 ⟨fun hm => ((hg x).1 (hav x hm)).1 rfl, hL.nodup⟩, fun z hz => ?_⟩, fun z hz => ?_, hlast, ?_⟩
          · rcases List.mem_cons.1 hz with rfl | hz
            · exact hx
            · exact hL.lt z hz
          · rcases List.mem_cons.1 hz with rfl | hz
            · exact h1
            · exact ((hg z).1 (hav z hz)).2
          · rw [j3]; simp only [psum]; rw [hp]
        · intro L hL hav hlast
          cases L with
          | nil => exact absurd hlast e
          | cons z L =>
            have hnx := (List.nodup_cons.1 hL.nodup).1
            have hav' : ∀ u, u ∈ z :: L → bget (sb.set x true) u = false := fun u hu => (hg u).2 ⟨fun e' => hnx (e' ▸ hu), hav u (List.mem_cons_of_mem _ hu)⟩
            have hz := hL.tail.lt z (by simp)
            have h6 := (ih z hz (hav' z (by simp))).2 L hL.tail hav' hlast
            have h7 := h5 z hz (hav' z (by simp))
            simp only [psum]
            omega
theorem lnk_bound {w : Nat → Nat → Int} {n : Nat} {M : Int} (hM : 0 ≤ M) (hw : ∀ x y, x < n → y < n → -M ≤ w x y ∧ w x y ≤ M) : ∀ (f : Nat) (sb : List Bool) (x y : Nat), x < n → -(M * f) ≤ lnk w n f sb x y ∧ lnk w n f sb x y ≤ M * f
  | 0, _, _, _, _ => by simp [lnk]
  | f + 1, sb, x, y, hx => by
    simp only [lnk]
    have e : M * ((f + 1 : Nat) : Int) = M * f + M := by rw [Int.natCast_succ, Int.mul_add, Int.mul_one]
    have h0 : 0 ≤ M * f := Int.mul_nonneg hM (by omega)
    split
    · omega
    · rcases scan_spec (fun j => w x j + lnk w n f (sb.set x true) j y) (sb.set x true) n with ⟨_, h2, _⟩ | ⟨_, ⟨j, j1, _, j3⟩, _⟩
      · omega
      · have h1 := lnk_bound hM hw f (sb.set x true) j y j1
        have h2 := hw x j hx j1
        rw [j3]; omega
theorem scan_bound {g : Nat → Int} {sb : List Bool} {M : Int} (hM : 0 ≤ M) {k : Nat} (hg : ∀ j, j < k → -M ≤ g j ∧ g j ≤ M) : -M ≤ (scan g sb k).1 ∧ (scan g sb k).1 ≤ M := by
  rcases scan_spec g sb k with ⟨_, h2, _⟩ | ⟨_, ⟨j, j1, _, j3⟩, _⟩
  · omega
  · have := hg j j1; omega

/-- Link from the beginning: no node is marked. -/
def lnkS (w : Nat → Nat → Int) (n : Nat) (x y : Nat) : Int := lnk w n n (List.replicate n false) x y
theorem bget_replicate (n k : Nat) : bget (List.replicate n false) k = false := by
  simp only [bget, List.getD, List.getElem?_replicate]; split <;> rfl
theorem lnkS_clo (w : Nat → Nat → Int) (n : Nat) : Clo w n (lnkS w n) := by
  refine ⟨fun x y hx hy => ?_, fun x L hL => ?_⟩
  · obtain ⟨⟨L, h1, _, h3, h4⟩, _⟩ := lnk_spec w n n (List.replicate n false) x y (by simp) hx hy (bget_replicate n x) (bget_replicate n y) (by simp)
    exact ⟨L, h1, h3, h4⟩
  · exact (lnk_spec w n n (List.replicate n false) x (lastOf x L) (by simp) (hL.lt x (by simp)) (hL.lt _ (lastOf_mem x L)) (bget_replicate n x) (bget_replicate n _) (by simp)).2 L hL (fun z _ => bget_replicate n z) rfl

/-- The greatest of f 0 .. f (n - 1), and 0. -/
def maxTo (f : Nat → Int) : Nat → Int
  | 0 => 0
  | n + 1 => max (maxTo f n) (f n)
theorem maxTo_ge (f : Nat → Int) : ∀ n, 0 ≤ maxTo f n ∧ ∀ i, i < n → f i ≤ maxTo f n
  | 0 => ⟨Int.le_refl _, fun _ h => by omega⟩
  | n + 1 => by
    obtain ⟨h1, h2⟩ := maxTo_ge f n
    simp only [maxTo]
    refine ⟨by omega, fun i hi => ?_⟩
    by_cases e : i = n
    · subst e; omega
    · have := h2 i (by omega); omega
theorem maxTo_eq (f : Nat → Int) : ∀ n, maxTo f n = 0 ∨ ∃ i, i < n ∧ maxTo f n = f i
  | 0 => .inl rfl
  | n + 1 => by
    simp only [maxTo]
    rcases maxTo_eq f n with h | ⟨i, hi, h⟩
    · by_cases e : f n ≤ 0
      · left; omega
      · right; exact ⟨n, by omega, by omega⟩
    · by_cases e : f n ≤ f i
      · right; exact ⟨i, by omega, by omega⟩
      · right; exact ⟨n, by omega, by omega⟩
/-- The least price of item j. -/
def leastP (w : Nat → Nat → Int) (n : Nat) (j : Nat) : Int := maxTo (fun i => lnkS w n i j) n
end Go.Proofs.Ytojldecldemfaaa

/- Slices of rows that a call itself makes: the top row its own (TMat), or every row its own (DMat); no condition but sizes. -/
namespace Go.Proofs.Ytojldecldemfaaa
set_option linter.unusedVariables false
set_option linter.unusedSimpArgs false
open Go.ChangeShapes Go.WideShapes Go.ChangeAt Go.RowKit Go.Deep

theorem rget_append {v : List (List Int)} {r : List Int} {k : Nat} : rget (v ++ [r]) k = if k < v.length then rget v k else if k = v.length then r else [] := by
  simp only [rget, List.getD, List.getElem?_append]
  split
  · rfl
  · rename_i h
    by_cases e : k = v.length
    · subst e; simp
    · rw [if_neg e, List.getElem?_eq_none (by simp; omega)]; rfl
theorem rget_set {v : List (List Int)} {r : List Int} {j k : Nat} (hj : j < v.length) : rget (v.set j r) k = if j = k then r else rget v k := by
  simp only [rget, List.getD, List.getElem?_set]
  split
  · rename_i h; subst h; simp [hj]
  · rfl

def rowsV (Q : Nat → Option Addr) (D : Nat → Nat) (v : List (List Int)) : List Value := (List.range v.length).map fun j => .slice (Q j) (rget v j).length (D j)
theorem rowsV_get {Q : Nat → Option Addr} {D : Nat → Nat} {v : List (List Int)} {j : Nat} (hj : j < v.length) : (rowsV Q D v)[j]? = some (.slice (Q j) (rget v j).length (D j)) := by simp [rowsV, hj]
theorem rowsV_length (Q : Nat → Option Addr) (D : Nat → Nat) (v : List (List Int)) : (rowsV Q D v).length = v.length := by simp [rowsV]

/-- The top row is the call's own; each row reads as a list. -/
structure TMat (w : World) (base : Nat) (p : Option Addr) (c : Nat) (v : List (List Int)) (Q : Nat → Option Addr) (D : Nat → Nat) : Prop where
  top : w.ownsRow base 26 1 (.slice p v.length c) v.length (rowsV Q D v)
  rows : ∀ j, j < v.length → Ints w (Q j) (D j) (rget v j)
  sep : ∀ j, j < v.length → 0 < (rget v j).length → ∀ k, blk (Q j) = some k → blk p ≠ some k
/-- Every row is the call's own, each in a block of its own. -/
structure DMat (w : World) (base : Nat) (p : Option Addr) (c : Nat) (v : List (List Int)) (Q : Nat → Option Addr) (D : Nat → Nat) : Prop where
  top : w.ownsRow base 26 1 (.slice p v.length c) v.length (rowsV Q D v)
  rows : ∀ j, j < v.length → Own w base (Q j) (D j) (rget v j)
  apart : ∀ i j, i < v.length → j < v.length → i ≠ j → ∀ k, blk (Q i) = some k → blk (Q j) ≠ some k

section
variable {w : World} {base : Nat} {p : Option Addr} {c : Nat} {v : List (List Int)} {Q : Nat → Option Addr} {D : Nat → Nat}
/-- The block of the top row is not a block of numbers. -/
theorem top_not_row {g : Nat} {q : Option Addr} {d : Nat} {xs : List Int} (h : w.ownsRow base 26 1 (.slice (some ⟨g, 0, none⟩) v.length c) v.length (rowsV Q D v)) {base' : Nat} (hq : Own w base' q d xs) : blk q ≠ some g := by
  intro e
  rcases hq.row.2 with ⟨h1, _⟩ | ⟨g', cap, cur, h1, _, h3, _⟩
  · simp only [Value.slice.injEq] at h1
    rw [h1.1] at e; simp [blk] at e
  · simp only [Value.slice.injEq] at h1
    rw [h1.1] at e
    simp [blk] at e
    subst e
    rcases h.2 with ⟨h4, _⟩ | ⟨g2, cap2, cur2, h4, _, h6, _⟩
    · simp at h4
    · simp only [Value.slice.injEq, Option.some.injEq, Addr.mk.injEq] at h4
      obtain ⟨⟨rfl, _⟩, _⟩ := h4
      rw [h6] at h3
      simp at h3
theorem DMat.tmat (h : DMat w base p c v Q D) : TMat w base p c v Q D := ⟨h.top, fun j hj => (h.rows j hj).ints, fun j hj _ k hk hp => by
  rcases h.top.2 with ⟨h1, _⟩ | ⟨g, cap, cur, h1, _⟩
  · simp only [Value.slice.injEq] at h1
    rw [h1.1] at hp; simp [blk] at hp
  · have h2 := h.top
    simp only [Value.slice.injEq] at h1
    rw [h1.1] at hp h2
    simp [blk] at hp
    subst hp
    exact top_not_row h2 (h.rows j hj) hk⟩

theorem TMat.shape (h : TMat w base p c v Q D) : (p = none ∧ c = 0 ∧ v = []) ∨ ∃ g, p = some ⟨g, 0, none⟩ ∧ base ≤ g ∧ g < w.heap.size ∧ v.length ≤ c ∧ c ≤ 9223372036854775807 := by
  rcases h.top.2 with ⟨h1, h2⟩ | ⟨g, cap, cur, h1, h2, h3, h4, h5, _, _⟩
  · simp only [Value.slice.injEq] at h1
    exact .inl ⟨h1.1, h1.2.2, List.eq_nil_of_length_eq_zero h2⟩
  · simp only [Value.slice.injEq] at h1
    obtain ⟨rfl, _, rfl⟩ := h1
    exact .inr ⟨g, rfl, h2, (Array.getElem?_eq_some_iff.1 h3).1, h4, h5⟩
theorem TMat.at {g : Nat} (h : TMat w base (some ⟨g, 0, none⟩) c v Q D) {j : Nat} (hj : j < v.length) : w.cell? ⟨g, j, none⟩ = some (.slice (Q j) (rget v j).length (D j)) := by
  rw [h.top.cellAt j (by omega), rowsV_get hj]
theorem TMat.free {g : Nat} (h : TMat w base (some ⟨g, 0, none⟩) c v Q D) (j : Nat) : w.frozen? ⟨g, j, none⟩ = false := h.top.frozenAt j
theorem TMat.get (h : TMat w base p c v Q D) {j : Nat} (hj : j < v.length) : ∃ g, p = some ⟨g, 0, none⟩ ∧ base ≤ g ∧ g < w.heap.size ∧ w.cell? ⟨g, j, none⟩ = some (.slice (Q j) (rget v j).length (D j)) ∧ w.frozen? ⟨g, j, none⟩ = false := by
  rcases h.shape with ⟨rfl, rfl, rfl⟩ | ⟨g, rfl, h1, h2, h3, h4⟩
  · simp at hj
  · exact ⟨g, rfl, h1, h2, h.at hj, h.free j⟩
theorem TMat.mat (h : TMat w base p c v Q D) : Mat w p c v := by
  rcases h.shape with ⟨rfl, rfl, rfl⟩ | ⟨g, rfl, h1, h2, h3, h4⟩
  · exact Mat.ofNil w
  · refine ⟨h3, h4, fun h => (by cases h), ?_, ?_⟩
    · rintro a ⟨⟩ _; exact ⟨rfl, h2⟩
    · rintro b o ⟨⟩ j hj
      rw [Nat.zero_add]; exact ⟨_, _, h.at hj, h.rows j hj⟩
theorem TMat.lt (h : TMat w base p c v Q D) : ∀ k, blk p = some k → base ≤ k ∧ k < w.heap.size := fun k hk => h.top.lt k (by rw [ownBlock_slice]; exact hk)
theorem TMat.ofNil (w : World) (base : Nat) : TMat w base none 0 [] Q D := ⟨World.ownsRow_nil w base _ _, fun _ h => (by simp at h), fun _ h => (by simp at h)⟩
theorem DMat.ofNil (w : World) (base : Nat) : DMat w base none 0 [] Q D := ⟨World.ownsRow_nil w base _ _, fun _ h => (by simp at h), fun _ _ h => (by simp at h)⟩
theorem DMat.mat (h : DMat w base p c v Q D) : Mat w p c v := h.tmat.mat

theorem top_kept {w' : World} (h : w.ownsRow base 26 1 (.slice p v.length c) v.length (rowsV Q D v)) {row : Option Nat} (hg : w.grownBy w' row) (hne : ∀ k, blk p = some k → row ≠ some k) :
    w'.ownsRow base 26 1 (.slice p v.length c) v.length (rowsV Q D v) :=
  h.kept hg (by
    rw [ownBlock_slice]
    cases hb : blk p with
    | none => exact .inl rfl
    | some k => exact .inr fun e => hne k hb e.symm)
theorem TMat.below {w' : World} {B : Nat} (h : TMat w base p c v Q D) (hb : Below B w w') (hB : w.heap.size ≤ B) : TMat w' base p c v Q D :=
  ⟨top_kept h.top (grownBy_of_below hb hB none) (fun _ _ e => by cases e), fun j hj => (h.rows j hj).below hb hB, h.sep⟩
theorem DMat.below {w' : World} {B : Nat} (h : DMat w base p c v Q D) (hb : Below B w w') (hB : w.heap.size ≤ B) : DMat w' base p c v Q D :=
  ⟨top_kept h.top (grownBy_of_below hb hB none) (fun _ _ e => by cases e), fun j hj => (h.rows j hj).below hb hB, h.apart⟩
theorem DMat.lt (h : DMat w base p c v Q D) : ∀ j, j < v.length → ∀ k, blk (Q j) = some k → base ≤ k ∧ k < w.heap.size := fun j hj k hk => (h.rows j hj).lt k hk
theorem DMat.keptBy {w' : World} {row : Option Nat} (h : DMat w base p c v Q D) (hg : w.grownBy w' row) (hne : ∀ k, blk p = some k → row ≠ some k) (hne2 : ∀ j, j < v.length → ∀ k, blk (Q j) = some k → row ≠ some k) : DMat w' base p c v Q D :=
  ⟨top_kept h.top hg hne, fun j hj => (h.rows j hj).keptBy hg (hne2 j hj), h.apart⟩

end

/-- 'append(out, row)', the row's value laid in a new block. -/
theorem wpList_appRow {w : World} {ops : Array Oper} {rest : List Oper} {o : Oper} {a : Act} {K : Exit → Act → World → Prop} (hgd : o.guard = none) (s x : Operand)
    (ho : o.op = .call { callee := .builtin .append, args := #[s, x], argTypes := #[22, 22] })
    (base : Nat) (p : Option Addr) (c : Nat) (v : List (List Int)) (Q : Nat → Option Addr) (D : Nat → Nat) (q : Option Addr) (d : Nat) (r : List Int)
    (hs : a.eval s = .slice p v.length c) {B : Nat} (hx : a.eval x = .slice (some ⟨B, 0, none⟩) 1 1) (hB : w.heap.size = B) (hown : TMat w base p c v Q D) (hr : Ints w q d r) (hsep : 0 < r.length → ∀ k, blk q = some k → blk p ≠ some k)
    (hsz : v.length ≤ 900000) (hbase : base ≤ w.heap.size)
    (h : ∀ p' c' w' u, Hid (u = v ++ [r]) → TMat w' base p' c' u (fun j => if j < v.length then Q j else q) (fun j => if j < v.length then D j else d) → w.grownBy w' (blk p) → Fresh w p p' →
      wpList Try.prog ops K rest (a.put o.dst (.slice p' u.length c')) w') :
    wpList Try.prog ops K (o :: rest) a (w.alloc (.cells #[.slice q r.length d] 26)) := by
  subst hB
  refine wpList_appG (w := w.alloc (.cells #[.slice q r.length d] 26)) hgd s x 22 26 ho (.slice none 0 0) 1 24 Try.underlying22 infoRow rfl (by decide) base p (some ⟨w.heap.size, 0, none⟩) v.length 1 c 1 (rowsV Q D v) [.slice q r.length d] hs hx (hown.top.alloc _)
    (fun e => (by cases e)) (by simp) ?_ (by simp [Value.oneCell']) (by simp [maxLen]; omega) (by omega) (by simp; omega) ?_
  · rintro ad ⟨⟩ j u hu
    have hj : j = 0 := by
      have := (List.getElem?_eq_some_iff.1 hu).1
      simpa using this
    subst hj
    simp at hu; subst hu
    rw [add_plain, World.cell?_alloc_at _ _ _ _ rfl]; rfl
  · intro p' c' w' h2 h3 h4
    have hg : w.grownBy w' (blk p) := ⟨h3.os, h3.tape, h3.output, by have := h3.size; simp at this; omega, fun k hk hne => by
      rw [h3.block k (by simp; omega) hne]
      exact Below.heap_alloc _ _ _ hk⟩
    have hfr : Fresh w p p' := fun k hk => by
      rcases h4 k hk with h5 | h5
      · exact .inl h5
      · exact .inr (by simp at h5; omega)
    have hkeep : ∀ (q' : Option Addr) (d' : Nat) (xs : List Int), Ints w q' d' xs → (0 < xs.length → ∀ k, blk q' = some k → blk p ≠ some k) → Ints w' q' d' xs := by
      intro q' d' xs hi hne
      refine hi.keep hg.size fun ad had hd => ?_
      refine hg.block _ (hi.plain ad had (by have := hi.le; omega)).2 ?_
      intro e
      exact hne hd ad.block (by rw [had]; rfl) e.symm
    have hsep2 : ∀ (q' : Option Addr) (d' : Nat) (xs : List Int), Ints w q' d' xs → (0 < xs.length → ∀ k, blk q' = some k → blk p ≠ some k) → 0 < xs.length → ∀ k, blk q' = some k → blk p' ≠ some k := by
      intro q' d' xs hi hne hlen k hk hp
      rcases hfr k hp with h5 | h5
      · exact hne hlen k hk h5
      · obtain ⟨b, o, rfl, hb, _⟩ := hi.get hlen
        simp [blk] at hk
        omega
    have hget : ∀ j, j < (v ++ [r]).length → (j < v.length ∧ rget (v ++ [r]) j = rget v j) ∨ (¬ j < v.length ∧ rget (v ++ [r]) j = r) := by
      intro j hj
      rw [List.length_append, List.length_singleton] at hj
      rw [rget_append]
      by_cases hlt : j < v.length
      · exact .inl ⟨hlt, by rw [if_pos hlt]⟩
      · exact .inr ⟨hlt, by rw [if_neg hlt, if_pos (by omega)]⟩
    have := h p' c' w' (v ++ [r]) rfl ⟨by
        rw [List.length_append]
        have e : rowsV (fun j => if j < v.length then Q j else q) (fun j => if j < v.length then D j else d) (v ++ [r]) = rowsV Q D v ++ [.slice q r.length d] := by
          unfold rowsV
          rw [List.length_append, List.length_singleton, List.range_succ, List.map_append]
          congr 1
          · refine List.map_congr_left fun j hj => ?_
            have := List.mem_range.1 hj
            simp [this, rget_append]
          · simp [rget_append]
        rw [e]; exact h2, ?_, ?_⟩ hg hfr
    · rw [List.length_append] at this; exact this
    · intro j hj
      rcases hget j hj with ⟨hlt, e⟩ | ⟨hlt, e⟩ <;> rw [e] <;> simp only [hlt, if_true, if_false]
      · exact hkeep _ _ _ (hown.rows j hlt) (hown.sep j hlt)
      · exact hkeep _ _ _ hr hsep
    · intro j hj
      rcases hget j hj with ⟨hlt, e⟩ | ⟨hlt, e⟩ <;> rw [e] <;> simp only [hlt, if_true, if_false]
      · exact hsep2 _ _ _ (hown.rows j hlt) (hown.sep j hlt)
      · exact hsep2 _ _ _ hr hsep
/-- .. where every row is the call's own, the new one in a block of its own. -/
theorem wpList_appOwnRow {w : World} {ops : Array Oper} {rest : List Oper} {o : Oper} {a : Act} {K : Exit → Act → World → Prop} (hgd : o.guard = none) (s x : Operand)
    (ho : o.op = .call { callee := .builtin .append, args := #[s, x], argTypes := #[22, 22] })
    (base : Nat) (p : Option Addr) (c : Nat) (v : List (List Int)) (Q : Nat → Option Addr) (D : Nat → Nat) (q : Option Addr) (d : Nat) (r : List Int)
    (hs : a.eval s = .slice p v.length c) {B : Nat} (hx : a.eval x = .slice (some ⟨B, 0, none⟩) 1 1) (hB : w.heap.size = B) (hown : DMat w base p c v Q D) (hr : Own w base q d r)
    (hnew : ∀ j, j < v.length → ∀ k, blk (Q j) = some k → blk q ≠ some k)
    (hsz : v.length ≤ 900000) (hbase : base ≤ w.heap.size)
    (h : ∀ p' c' w' u, Hid (u = v ++ [r]) → DMat w' base p' c' u (fun j => if j < v.length then Q j else q) (fun j => if j < v.length then D j else d) → w.grownBy w' (blk p) → Fresh w p p' →
      wpList Try.prog ops K rest (a.put o.dst (.slice p' u.length c')) w') :
    wpList Try.prog ops K (o :: rest) a (w.alloc (.cells #[.slice q r.length d] 26)) := by
  have hpne : ∀ {q' : Option Addr} {d' : Nat} {xs : List Int}, Own w base q' d' xs → ∀ k, blk q' = some k → blk p ≠ some k := by
    intro q' d' xs hq k hk hp
    have h2 := hown.top
    rcases hown.tmat.shape with ⟨rfl, _⟩ | ⟨g, rfl, _⟩
    · simp [blk] at hp
    · simp [blk] at hp
      subst hp
      exact top_not_row h2 hq hk
  refine wpList_appRow hgd s x ho base p c v Q D q d r hs hx hB hown.tmat hr.ints (fun _ => hpne hr) hsz hbase ?_
  intro p' c' w' u hu h2 h3 h4
  obtain rfl := hu.out
  refine h p' c' w' _ rfl ⟨h2.top, ?_, ?_⟩ h3 h4
  · intro j hj
    rw [List.length_append, List.length_singleton] at hj
    rw [rget_append]
    by_cases hlt : j < v.length
    · simp only [hlt, if_true]
      exact (hown.rows j hlt).keptBy h3 (fun k hk e => hpne (hown.rows j hlt) k hk e)
    · simp only [hlt, if_false]
      rw [if_pos (by omega)]
      exact hr.keptBy h3 (fun k hk e => hpne hr k hk e)
  · intro i j hi hj hne k hk
    rw [List.length_append, List.length_singleton] at hi hj
    by_cases hi2 : i < v.length
    · by_cases hj2 : j < v.length
      · simp only [hi2, hj2, if_true] at hk ⊢
        exact hown.apart i j hi2 hj2 hne k hk
      · simp only [hi2, hj2, if_true, if_false] at hk ⊢
        exact hnew i hi2 k hk
    · by_cases hj2 : j < v.length
      · simp only [hi2, hj2, if_true, if_false] at hk ⊢
        exact fun e => hnew j hj2 k e hk
      · omega
theorem rowsV_set {Q : Nat → Option Addr} {D : Nat → Nat} {v : List (List Int)} {i : Nat} (hi : i < v.length) (q : Option Addr) (d : Nat) (r : List Int) :
    rowsV (fun j => if j = i then q else Q j) (fun j => if j = i then d else D j) (v.set i r) = (rowsV Q D v).set i (.slice q r.length d) := by
  apply List.ext_getElem
  · simp [rowsV]
  · intro j h1 h2
    rw [List.getElem_set]
    simp only [rowsV, List.getElem_map, List.getElem_range]
    by_cases e : i = j
    · subst e; simp [rget_set hi]
    · rw [rget_set hi, if_neg e, if_neg e, if_neg (fun h => e h.symm), if_neg (fun h => e h.symm)]
/-- One row is another one. -/
theorem TMat.set {w : World} {base g c : Nat} {v : List (List Int)} {Q : Nat → Option Addr} {D : Nat → Nat} (h : TMat w base (some ⟨g, 0, none⟩) c v Q D) {i : Nat} (hi : i < v.length) {q : Option Addr} {d : Nat} {r : List Int} (hr : Ints w q d r)
    (hsep : 0 < r.length → blk q ≠ some g) :
    TMat (w.setCell ⟨g, i, none⟩ (.slice q r.length d)) base (some ⟨g, 0, none⟩) c (v.set i r) (fun j => if j = i then q else Q j) (fun j => if j = i then d else D j) := by
  obtain ⟨h1, h2⟩ := h.top.stored i (.slice q r.length d)
  have hk : ∀ (q' : Option Addr) (d' : Nat) (xs : List Int), Ints w q' d' xs → (0 < xs.length → blk q' ≠ some g) → Ints (w.setCell ⟨g, i, none⟩ (.slice q r.length d)) q' d' xs := by
    intro q' d' xs hI hs
    refine hI.keep (by simp [World.setCell]) fun ad had hd => ?_
    refine h2.block _ (hI.plain ad had (by have := hI.le; omega)).2 ?_
    intro e
    exact hs hd (by rw [had, ← e]; rfl)
  have hsep' : ∀ j, j < v.length → 0 < (rget v j).length → blk (Q j) ≠ some g := fun j hj hl e => h.sep j hj hl g e rfl
  refine ⟨by rw [List.length_set, rowsV_set hi]; exact h1, fun j hj => ?_, fun j hj => ?_⟩
  · rw [List.length_set] at hj
    rw [rget_set hi]
    by_cases e : j = i
    · subst e; simp only [if_true]; exact hk _ _ _ hr hsep
    · simp only [if_neg e, if_neg (fun h : i = j => e h.symm)]; exact hk _ _ _ (h.rows j hj) (hsep' j hj)
  · rw [List.length_set] at hj
    rw [rget_set hi]
    intro hl k hk2 e2
    have e3 : k = g := by simp [blk] at e2; exact e2.symm
    subst e3
    by_cases e : j = i
    · subst e; simp only [if_true] at hk2 hl; exact hsep hl hk2
    · simp only [if_neg e, if_neg (fun h : i = j => e h.symm)] at hk2 hl; exact hsep' j hj hl hk2

/-- The call hands back a row of its own that holds xs; what lay before lies as it lay. -/
def Gives (w : World) (xs : List Int) (e : Ending) (w' : World) : Prop := ∃ p c, e = .returned (.slice p xs.length c) ∧ Own w' w.heap.size p c xs ∧ Below w.heap.size w w'
/-- .. a slice of rows, each its own. -/
def GivesD (w : World) (v : List (List Int)) (e : Ending) (w' : World) : Prop := ∃ p c Q D, e = .returned (.slice p v.length c) ∧ DMat w' w.heap.size p c v Q D ∧ Below w.heap.size w w'
/-- .. a row of its own and a number that is an error. -/
def Gives2 (w : World) (xs : List Int) (k : Int) (e : Ending) (w' : World) : Prop := ∃ p c, e = .returned (.tuple #[.slice p xs.length c, .int .i64 k]) ∧ Own w' w.heap.size p c xs ∧ Below w.heap.size w w'
/-- .. a row of its own, and two numbers. -/
def Gives3 (w : World) (xs : List Int) (m k : Int) (e : Ending) (w' : World) : Prop := ∃ p c, e = .returned (.tuple #[.slice p xs.length c, .int .i64 m, .int .i64 k]) ∧ Own w' w.heap.size p c xs ∧ Below w.heap.size w w'
end Go.Proofs.Ytojldecldemfaaa
