/- Rows of bools that a call itself makes; no condition but sizes. -/
import Derived.Test.YtmcncflieoolmaaTopTopRentm2
/- Rows of bools that a call itself makes; no condition but sizes. -/
namespace Go.Proofs.Ytmcncflieoolmaa
set_option linter.unusedVariables false
set_option linter.unusedSimpArgs false
open Go.ChangeShapes Go.WideShapes Go.ChangeAt Go.RowKit Go.Deep

theorem infoBool : (Try.prog.info? 4).map (fun i => (i.zero, i.size, i.bytes)) = some (some (.bool false), 1, 1) := by kernel_rfl
def bget (bs : List Bool) (k : Nat) : Bool := bs.getD k false
theorem bget_set {xs : List Bool} {j k : Nat} {x : Bool} (hj : j < xs.length) : bget (xs.set j x) k = if j = k then x else bget xs k := by
  simp only [bget, List.getD, List.getElem?_set]
  split
  · rename_i h; subst h; simp [hj]
  · rfl
/-- The slice (p, bs.length, c) is a row of bools of the call's own. -/
def OwnB (w : World) (base : Nat) (p : Option Addr) (c : Nat) (bs : List Bool) : Prop := w.ownsRow base 4 1 (.slice p bs.length c) bs.length (bs.map Value.bool)
theorem OwnB.get {w : World} {base : Nat} {p : Option Addr} {c : Nat} {bs : List Bool} (h : OwnB w base p c bs) {j : Nat} (hj : j < bs.length) :
    ∃ g, p = some ⟨g, 0, none⟩ ∧ base ≤ g ∧ g < w.heap.size ∧ w.cell? ⟨g, j, none⟩ = some (.bool (bget bs j)) ∧ w.frozen? ⟨g, j, none⟩ = false := by
  have h' := h
  unfold OwnB at h'
  rcases h.2 with ⟨h1, h2⟩ | ⟨g, cap, cur, h1, h2, h3, h4, h5, _, _⟩
  · omega
  · simp only [Value.slice.injEq] at h1
    obtain ⟨rfl, _, rfl⟩ := h1
    refine ⟨g, rfl, h2, (Array.getElem?_eq_some_iff.1 h3).1, ?_, h'.frozenAt j⟩
    rw [h'.cellAt j (by omega)]
    simp [bget, hj]
theorem OwnB.at {w : World} {base g : Nat} {c : Nat} {bs : List Bool} (h : OwnB w base (some ⟨g, 0, none⟩) c bs) {j : Nat} (hj : j < bs.length) : w.cell? ⟨g, j, none⟩ = some (.bool (bget bs j)) := by
  have h' := h
  unfold OwnB at h'
  rw [h'.cellAt j (by omega)]
  simp [bget, hj]
theorem OwnB.free {w : World} {base g : Nat} {c : Nat} {bs : List Bool} (h : OwnB w base (some ⟨g, 0, none⟩) c bs) (j : Nat) : w.frozen? ⟨g, j, none⟩ = false := World.ownsRow.frozenAt h j
theorem OwnB.set {w : World} {base g : Nat} {c : Nat} {bs : List Bool} (h : OwnB w base (some ⟨g, 0, none⟩) c bs) (j : Nat) (x : Bool) :
    OwnB (w.setCell ⟨g, j, none⟩ (.bool x)) base (some ⟨g, 0, none⟩) c (bs.set j x) ∧ w.grownBy (w.setCell ⟨g, j, none⟩ (.bool x)) (some g) := by
  obtain ⟨h1, h2⟩ := World.ownsRow.stored h j (.bool x)
  exact ⟨by unfold OwnB; rw [List.length_set, List.map_set]; exact h1, h2⟩
theorem OwnB.drewN {w : World} {base : Nat} {p : Option Addr} {c : Nat} {bs : List Bool} (h : OwnB w base p c bs) (n : Nat) : OwnB (w.drewN n) base p c bs :=
  World.ownsRow.kept h (grownBy_of_below (below_drewN w.heap.size w n) (Nat.le_refl _) none) (by cases (Value.slice p bs.length c).ownBlock <;> simp)
theorem OwnB.drew {w w' : World} {base : Nat} {p : Option Addr} {c : Nat} {bs : List Bool} (h : OwnB w base p c bs) (hw : ∃ n, w' = w.drewN n) : OwnB w' base p c bs := by obtain ⟨n, rfl⟩ := hw; exact h.drewN n
theorem setCell_back {w : World} {g j : Nat} {u old : Value} (h : w.cell? ⟨g, j, none⟩ = some old) : (w.setCell ⟨g, j, none⟩ u).setCell ⟨g, j, none⟩ old = w := by
  have hb := World.block_lt_of_cell? _ _ h
  simp only [World.setCell]
  cases w with
  | mk heap tape drawn os output =>
    simp only [World.mk.injEq, and_true, true_and]
    apply Array.ext
    · simp
    · intro i h1 h2
      simp only [Array.getElem_modify]
      by_cases e : g = i
      · subst e
        simp only [if_true]
        simp only [World.cell?] at h
        rw [Array.getElem?_eq_getElem h2] at h
        cases ho : heap[g] with
        | cells c elem frozen =>
          rw [ho] at h
          simp at h
          simp only [Obj.cells.injEq, and_true]
          apply Array.ext
          · simp
          · intro k k1 k2
            simp only [Option.isSome_none, Bool.false_eq_true, if_false, Array.getElem_setIfInBounds]
            simp at k1
            by_cases e : j = k
            · subst e
              simp
              have := (Array.getElem?_eq_some_iff.1 h).2
              exact this.symm
            · simp [e]
              rw [Array.getElem_setIfInBounds, if_neg e]
        | _ => rfl
      · simp [e]

/-- The cells of a new row of bools; the walk does not look behind the name. -/
def boolCells (n : Nat) : Array Value := madeCells (Value.bool false).cells (n * 1)
theorem ownB_cells (W : World) (base n : Nat) (hn : n ≤ 1000000) (hb : base ≤ W.heap.size) : OwnB (W.alloc (.cells (boolCells n) 4)) base (some ⟨W.heap.size, 0, none⟩) n (List.replicate n false) := by
  have hcs : (boolCells n).toList = List.replicate n (.bool false) := by
    unfold boolCells; rw [Nat.mul_one]; exact toList_madeCells_one _ _
  have := World.ownsRow_lit (e := 4) (size := 1) (base := base) W (boolCells n) n hb (by simp [maxLen]; omega) (by unfold boolCells; rw [size_madeCells])
  rw [hcs] at this
  unfold OwnB
  simpa using this
end Go.Proofs.Ytmcncflieoolmaa

/- What the reference's Link computes is the greatest sum along a simple path; the least prices; plain, no program. -/
namespace Go.Proofs.Ytmcncflieoolmaa
set_option linter.unusedVariables false
set_option linter.unusedSimpArgs false

/-- The greatest of g k over those k that are not marked, and whether there was one. -/
def scan (g : Nat → Int) (sb : List Bool) : Nat → Int × Bool
  | 0 => (0, false)
  | k + 1 => if bget sb k = true then scan g sb k else if (scan g sb k).2 = false ∨ (scan g sb k).1 < g k then (g k, true) else scan g sb k
theorem scan_spec (g : Nat → Int) (sb : List Bool) : ∀ k, ((scan g sb k).2 = false ∧ (scan g sb k).1 = 0 ∧ ∀ j, j < k → bget sb j = true) ∨
    ((scan g sb k).2 = true ∧ (∃ j, j < k ∧ bget sb j = false ∧ (scan g sb k).1 = g j) ∧ ∀ j, j < k → bget sb j = false → g j ≤ (scan g sb k).1)
  | 0 => .inl ⟨rfl, rfl, fun _ h => by omega⟩
  | k + 1 => by
    simp only [scan]
    by_cases hb : bget sb k = true
    · rw [if_pos hb]
      rcases scan_spec g sb k with ⟨h1, h2, h3⟩ | ⟨h1, ⟨j, h2, h3, h4⟩, h5⟩
      · refine .inl ⟨h1, h2, fun j hj => ?_⟩
        by_cases e : j = k
        · subst e; exact hb
        · exact h3 j (by omega)
      · refine .inr ⟨h1, ⟨j, by omega, h3, h4⟩, fun i hi hn => ?_⟩
        by_cases e : i = k
        · subst e; rw [hb] at hn; cases hn
        · exact h5 i (by omega) hn
    · rw [if_neg hb]
      have hb' : bget sb k = false := by simpa using hb
      by_cases hg : (scan g sb k).2 = false ∨ (scan g sb k).1 < g k
      · rw [if_pos hg]
        refine .inr ⟨rfl, ⟨k, by omega, hb', rfl⟩, fun i hi hn => ?_⟩
        by_cases e : i = k
        · subst e; exact Int.le_refl _
        · rcases scan_spec g sb k with ⟨h1, h2, h3⟩ | ⟨h1, _, h5⟩
          · have := h3 i (by omega); rw [this] at hn; cases hn
          · have := h5 i (by omega) hn
            rcases hg with hg | hg
            · rw [h1] at hg; cases hg
            · show g i ≤ g k; omega
      · rw [if_neg hg]
        rcases scan_spec g sb k with ⟨h1, h2, h3⟩ | ⟨h1, ⟨j, h2, h3, h4⟩, h5⟩
        · exact absurd (.inl h1) hg
        · refine .inr ⟨h1, ⟨j, by omega, h3, h4⟩, fun i hi hn => ?_⟩
          by_cases e : i = k
          · subst e; have : ¬ (scan g sb i).1 < g i := fun h => hg (.inr h); omega
          · exact h5 i (by omega) hn
theorem scan_congr {g h : Nat → Int} {sb : List Bool} : ∀ k, (∀ j, j < k → bget sb j = false → g j = h j) → scan g sb k = scan h sb k
  | 0, _ => rfl
  | k + 1, e => by
    simp only [scan]
    rw [scan_congr k (fun j hj hb => e j (by omega) hb)]
    by_cases hb : bget sb k = true
    · simp [hb]
    · rw [if_neg hb, if_neg hb, e k (by omega) (by simpa using hb)]

/-- What Link computes, at most f nodes being left. -/
def lnk (w : Nat → Nat → Int) (n : Nat) : Nat → List Bool → Nat → Nat → Int
  | 0, _, _, _ => 0
  | f + 1, sb, x, y => if x = y then 0 else (scan (fun j => w x j + lnk w n f (sb.set x true) j y) (sb.set x true) n).1

theorem count_set_false {sb : List Bool} {x : Nat} (hx : x < sb.length) (h : bget sb x = false) : (sb.set x true).count false + 1 = sb.count false := by
  induction sb generalizing x with
  | nil => simp at hx
  | cons b sb ih =>
    cases x with
    | zero =>
      simp [bget] at h; subst h
      simp
    | succ x =>
      simp [bget] at h
      have := ih (x := x) (by simpa using hx) (by simp [bget, h])
      simp only [List.set_cons_succ, List.count_cons]
      omega
theorem count_pos {sb : List Bool} {x : Nat} (hx : x < sb.length) (h : bget sb x = false) : 0 < sb.count false := by
  have := count_set_false hx h; omega

theorem lnk_spec (w : Nat → Nat → Int) (n : Nat) : ∀ (f : Nat) (sb : List Bool) (x y : Nat), sb.length = n → x < n → y < n → bget sb x = false → bget sb y = false → sb.count false ≤ f →
    (∃ L, Simple n x L ∧ (∀ z, z ∈ x :: L → bget sb z = false) ∧ lastOf x L = y ∧ psum w x L = lnk w n f sb x y) ∧
    (∀ L, Simple n x L → (∀ z, z ∈ x :: L → bget sb z = false) → lastOf x L = y → psum w x L ≤ lnk w n f sb x y)
  | 0, sb, x, y, hl, hx, _, h1, _, hc => by have := count_pos (by omega) h1; omega
  | f + 1, sb, x, y, hl, hx, hy, h1, h2, hc => by
    simp only [lnk]
    by_cases e : x = y
    · subst e
      rw [if_pos rfl]
      refine ⟨⟨[], ⟨by simp, fun z hz => by simp at hz; omega⟩, fun z hz => by simp at hz; subst hz; exact h1, rfl, rfl⟩, ?_⟩
      intro L hL _ hlast
      cases L with
      | nil => simp [psum]
      | cons z L =>
        simp only [lastOf] at hlast
        have hm := lastOf_mem z L
        rw [hlast] at hm
        exact absurd hm (List.nodup_cons.1 hL.nodup).1
    · rw [if_neg e]
      have hl' : (sb.set x true).length = n := by simp [hl]
      have hc' : (sb.set x true).count false ≤ f := by have := count_set_false (by omega) h1; omega
      have hg : ∀ z, bget (sb.set x true) z = false ↔ (z ≠ x ∧ bget sb z = false) := fun z => by
        rw [bget_set (by omega)]
        by_cases e : x = z
        · subst e; simp
        · simp [e, Ne.symm e]
      have hy' : bget (sb.set x true) y = false := (hg y).2 ⟨fun e' => e e'.symm, h2⟩
      have ih := fun j hj hb => lnk_spec w n f (sb.set x true) j y hl' hj hy hb hy' hc'
      rcases scan_spec (fun j => w x j + lnk w n f (sb.set x true) j y) (sb.set x true) n with ⟨_, _, h5⟩ | ⟨_, ⟨j, j1, j2, j3⟩, h5⟩
      · have := h5 y hy; rw [this] at hy'; cases hy'
      · refine ⟨?_, ?_⟩
        · obtain ⟨⟨L, hL, hav, hlast, hp⟩, _⟩ := ih j j1 j2
          refine ⟨j :: L, ⟨List.nodup_cons.2 ⟨fun hm => ((hg x).1 (hav x hm)).1 rfl, hL.nodup⟩, fun z hz => ?_⟩, fun z hz => ?_, hlast, ?_⟩
          · rcases List.mem_cons.1 hz with rfl | hz
            · exact hx
            · exact hL.lt z hz
          · rcases List.mem_cons.1 hz with rfl | hz
            · exact h1
            · exact ((hg z).1 (hav z hz)).2
          · rw [j3]; simp only [psum]; rw [hp]
        · intro L hL hav hlast
          cases L with
          | nil => exact absurd hlast e
          | cons z L =>
            have hnx := (List.nodup_cons.1 hL.nodup).1
            have hav' : ∀ u, u ∈ z :: L → bget (sb.set x true) u = false := fun u hu => (hg u).2 ⟨fun e' => hnx (e' ▸ hu), hav u (List.mem_cons_of_mem _ hu)⟩
            have hz := hL.tail.lt z (by simp)
            have h6 := (ih z hz (hav' z (by simp))).2 L hL.tail hav' hlast
            have h7 := h5 z hz (hav' z (by simp))
            simp only [psum]
            omega
theorem lnk_bound {w : Nat → Nat → Int} {n : Nat} {M : Int} (hM : 0 ≤ M) (hw : ∀ x y, x < n → y < n → -M ≤ w x y ∧ w x y ≤ M) : ∀ (f : Nat) (sb : List Bool) (x y : Nat), x < n → -(M * f) ≤ lnk w n f sb x y ∧ lnk w n f sb x y ≤ M * f
  | 0, _, _, _, _ => by simp [lnk]
  | f + 1, sb, x, y, hx => by
    simp only [lnk]
    have e : M * ((f + 1 : Nat) : Int) = M * f + M := by rw [Int.natCast_succ, Int.mul_add, Int.mul_one]
    have h0 : 0 ≤ M * f := Int.mul_nonneg hM (by omega)
    split
    · omega
    · rcases scan_spec (fun j => w x j + lnk w n f (sb.set x true) j y) (sb.set x true) n with ⟨_, h2, _⟩ | ⟨_, ⟨j, j1, _, j3⟩, _⟩
      · omega
      · have h1 := lnk_bound hM hw f (sb.set x true) j y j1
        have h2 := hw x j hx j1
        rw [j3]; omega
theorem scan_bound {g : Nat → Int} {sb : List Bool} {M : Int} (hM : 0 ≤ M) {k : Nat} (hg : ∀ j, j < k → -M ≤ g j ∧ g j ≤ M) : -M ≤ (scan g sb k).1 ∧ (scan g sb k).1 ≤ M := by
  rcases scan_spec g sb k with ⟨_, h2, _⟩ | ⟨_, ⟨j, j1, _, j3⟩, _⟩
  · omega
  · have := hg j j1; omega

/-- Link from the beginning: no node is marked. -/
def lnkS (w : Nat → Nat → Int) (n : Nat) (x y : Nat) : Int := lnk w n n (List.replicate n false) x y
theorem bget_replicate (n k : Nat) : bget (List.replicate n false) k = false := by
  simp only [bget, List.getD, List.getElem?_replicate]; split <;> rfl
theorem lnkS_clo (w : Nat → Nat → Int) (n : Nat) : Clo w n (lnkS w n) := by
  refine ⟨fun x y hx hy => ?_, fun x L hL => ?_⟩
  · obtain ⟨⟨L, h1, _, h3, h4⟩, _⟩ := lnk_spec w n n (List.replicate n false) x y (by simp) hx hy (bget_replicate n x) (bget_replicate n y) (by simp)
    exact ⟨L, h1, h3, h4⟩
  · exact (lnk_spec w n n (List.replicate n false) x (lastOf x L) (by simp) (hL.lt x (by simp)) (hL.lt _ (lastOf_mem x L)) (bget_replicate n x) (bget_replicate n _) (by simp)).2 L hL (fun z _ => bget_replicate n z) rfl

/-- The greatest of f 0 .. f (n - 1), and 0. -/
def maxTo (f : Nat → Int) : Nat → Int
  | 0 => 0
  | n + 1 => max (maxTo f n) (f n)
theorem maxTo_ge (f : Nat → Int) : ∀ n, 0 ≤ maxTo f n ∧ ∀ i, i < n → f i ≤ maxTo f n
  | 0 => ⟨Int.le_refl _, fun _ h => by omega⟩
  | n + 1 => by
    obtain ⟨h1, h2⟩ := maxTo_ge f n
    simp only [maxTo]
    refine ⟨by omega, fun i hi => ?_⟩
    by_cases e : i = n
    · subst e; omega
    · have := h2 i (by omega); omega
theorem maxTo_eq (f : Nat → Int) : ∀ n, maxTo f n = 0 ∨ ∃ i, i < n ∧ maxTo f n = f i
  | 0 => .inl rfl
  | n + 1 => by
    simp only [maxTo]
    rcases maxTo_eq f n with h | ⟨i, hi, h⟩
    · by_cases e : f n ≤ 0
      · left; omega
      · right; exact ⟨n, by omega, by omega⟩
    · by_cases e : f n ≤ f i
      · right; exact ⟨i, by omega, by omega⟩
      · right; exact ⟨n, by omega, by omega⟩
/-- The least price of item j. -/
def leastP (w : Nat → Nat → Int) (n : Nat) (j : Nat) : Int := maxTo (fun i => lnkS w n i j) n
end Go.Proofs.Ytmcncflieoolmaa

/- Lists that give each agent but one an item of its own, in their order, and the best of them; plain, no program. -/
namespace Go.Proofs.Ytmcncflieoolmaa
set_option linter.unusedVariables false
set_option linter.unusedSimpArgs false

/-- The first i entries fit: -1 at the agent that is left out, else a number below n, no number twice. -/
def PartTo (n : Nat) (sk : Int) (x : List Int) (i : Nat) : Prop :=
  ∀ k, k < i → ((k : Int) = sk → iget x k = -1) ∧ ((k : Int) ≠ sk → 0 ≤ iget x k ∧ iget x k < n ∧ ∀ l, l < k → (l : Int) ≠ sk → iget x l ≠ iget x k)
/-- x gives each agent but sk an item of its own. -/
def Part (n : Nat) (sk : Int) (x : List Int) : Prop := x.length = n ∧ PartTo n sk x n
/-- The value of the first i entries. -/
def pvTo (v : List (List Int)) (sk : Int) (x : List Int) (i : Nat) : Int := sumTo (fun k => if (k : Int) = sk then 0 else bid v k (itm x k)) i
def pv (v : List (List Int)) (sk : Int) (x : List Int) : Int := pvTo v sk x v.length
/-- The lists that begin with pre. -/
def Comp (n : Nat) (sk : Int) (pre : List Int) (x : List Int) : Prop := Part n sk x ∧ ∀ k, k < pre.length → iget x k = iget pre k

theorem ints_ext {xs ys : List Int} (h : ∀ j, j < xs.length → iget xs j = iget ys j) (hl : xs.length = ys.length) : xs = ys := by
  apply List.ext_getElem hl
  intro i h1 h2
  have := h i h1
  rwa [iget_of h1, iget_of h2] at this
theorem comp_leaf {n : Nat} {sk : Int} {pre : List Int} (hl : pre.length = n) (hp : PartTo n sk pre n) (x : List Int) : Comp n sk pre x ↔ x = pre := by
  constructor
  · rintro ⟨⟨h1, _⟩, h3⟩
    exact ints_ext (fun j hj => h3 j (by omega)) (by omega)
  · rintro rfl
    exact ⟨⟨hl, hp⟩, fun _ _ => rfl⟩
theorem iget_snoc_lt {pre : List Int} {y : Int} {k : Nat} (h : k < pre.length) : iget (pre ++ [y]) k = iget pre k := by rw [iget_append, if_pos h]
theorem iget_snoc_eq (pre : List Int) (y : Int) : iget (pre ++ [y]) pre.length = y := by rw [iget_append, if_neg (by omega), Nat.sub_self]; rfl
theorem partTo_snoc {n : Nat} {sk : Int} {pre : List Int} {y : Int} (hp : PartTo n sk pre pre.length) (hy : ((pre.length : Int) = sk → y = -1) ∧ ((pre.length : Int) ≠ sk → 0 ≤ y ∧ y < n ∧ ∀ l, l < pre.length → (l : Int) ≠ sk → iget pre l ≠ y)) :
    PartTo n sk (pre ++ [y]) (pre ++ [y]).length := by
  rw [List.length_append, List.length_singleton]
  intro k hk
  by_cases e : k = pre.length
  · subst e
    rw [iget_snoc_eq]
    exact ⟨hy.1, fun h => ⟨(hy.2 h).1, (hy.2 h).2.1, fun l hl hs => by rw [iget_snoc_lt hl]; exact (hy.2 h).2.2 l hl hs⟩⟩
  · have hk' : k < pre.length := by omega
    rw [iget_snoc_lt hk']
    obtain ⟨h1, h2⟩ := hp k hk'
    exact ⟨h1, fun h => ⟨(h2 h).1, (h2 h).2.1, fun l hl hs => by rw [iget_snoc_lt (by omega)]; exact (h2 h).2.2 l hl hs⟩⟩
theorem pvTo_snoc {v : List (List Int)} {sk : Int} {pre : List Int} {y : Int} : pvTo v sk (pre ++ [y]) (pre ++ [y]).length = pvTo v sk pre pre.length + if (pre.length : Int) = sk then 0 else bid v pre.length y.toNat := by
  rw [List.length_append, List.length_singleton]
  unfold pvTo
  simp only [sumTo]
  rw [sumTo_congr (g := fun k => if (k : Int) = sk then 0 else bid v k (itm pre k)) (fun k hk => by simp only [itm, iget_snoc_lt hk])]
  congr 1
  simp only [itm, iget_snoc_eq]
theorem comp_snoc {n : Nat} {sk : Int} {pre : List Int} {y : Int} (x : List Int) : Comp n sk (pre ++ [y]) x ↔ Comp n sk pre x ∧ iget x pre.length = y := by
  constructor
  · rintro ⟨h1, h2⟩
    refine ⟨⟨h1, fun k hk => ?_⟩, ?_⟩
    · have := h2 k (by simp; omega); rwa [iget_snoc_lt hk] at this
    · have := h2 pre.length (by simp); rwa [iget_snoc_eq] at this
  · rintro ⟨⟨h1, h2⟩, h3⟩
    refine ⟨h1, fun k hk => ?_⟩
    simp at hk
    by_cases e : k = pre.length
    · subst e; rw [iget_snoc_eq, h3]
    · rw [iget_snoc_lt (by omega)]; exact h2 k (by omega)
theorem comp_skip {n : Nat} {sk : Int} {pre : List Int} (hi : pre.length < n) (e : (pre.length : Int) = sk) (x : List Int) : Comp n sk pre x ↔ Comp n sk (pre ++ [-1]) x := by
  rw [comp_snoc]
  exact ⟨fun h => ⟨h, (h.1.2 _ hi).1 e⟩, fun h => h.1⟩
/-- What a list that begins with pre has at the next place: a number that is free. -/
theorem comp_free {n : Nat} {sk : Int} {pre : List Int} (hi : pre.length < n) (e : (pre.length : Int) ≠ sk) {x : List Int} (h : Comp n sk pre x) :
    0 ≤ iget x pre.length ∧ iget x pre.length < n ∧ ∀ l, l < pre.length → (l : Int) ≠ sk → iget pre l ≠ iget x pre.length := by
  obtain ⟨h1, h2, h3⟩ := (h.1.2 _ hi).2 e
  exact ⟨h1, h2, fun l hl hs => by rw [← h.2 l hl]; exact h3 l hl hs⟩
/-- Of two lists that begin alike the one with the lesser number next comes first. -/
theorem comp_llt {n : Nat} {sk : Int} {pre : List Int} (hi : pre.length < n) {x y : List Int} (hx : Comp n sk pre x) (hy : Comp n sk pre y) (h : iget x pre.length < iget y pre.length) : llt x y :=
  ⟨pre.length, by rw [hx.1.1]; exact hi, fun j hj => by rw [hx.2 j hj, hy.2 j hj], h⟩

/-- The lists that begin with pre and have one of the first j numbers next. -/
def CompTo (n : Nat) (sk : Int) (pre : List Int) (j : Nat) (x : List Int) : Prop := Comp n sk pre x ∧ iget x pre.length < j
theorem compTo_zero {n : Nat} {sk : Int} {pre : List Int} (hi : pre.length < n) (e : (pre.length : Int) ≠ sk) (x : List Int) : ¬ CompTo n sk pre 0 x := fun h => by
  have := comp_free hi e h.1; have := h.2; omega
theorem compTo_all {n : Nat} {sk : Int} {pre : List Int} (hi : pre.length < n) (e : (pre.length : Int) ≠ sk) (x : List Int) : CompTo n sk pre n x ↔ Comp n sk pre x :=
  ⟨fun h => h.1, fun h => ⟨h, (comp_free hi e h).2.1⟩⟩
theorem compTo_succ {n : Nat} {sk : Int} {pre : List Int} {j : Nat} (x : List Int) : CompTo n sk pre (j + 1) x ↔ CompTo n sk pre j x ∨ Comp n sk (pre ++ [(j : Int)]) x := by
  rw [comp_snoc]
  unfold CompTo
  constructor
  · rintro ⟨h1, h2⟩
    by_cases e : iget x pre.length < j
    · exact .inl ⟨h1, e⟩
    · exact .inr ⟨h1, by omega⟩
  · rintro (⟨h1, h2⟩ | ⟨h1, h2⟩)
    · exact ⟨h1, by omega⟩
    · exact ⟨h1, by omega⟩
theorem comp_used {n : Nat} {sk : Int} {pre : List Int} {j : Nat} (hi : pre.length < n) (e : (pre.length : Int) ≠ sk) (hu : ∃ l, l < pre.length ∧ (l : Int) ≠ sk ∧ iget pre l = j) (x : List Int) : ¬ Comp n sk (pre ++ [(j : Int)]) x := by
  rw [comp_snoc]
  rintro ⟨h1, h2⟩
  obtain ⟨l, l1, l2, l3⟩ := hu
  exact (comp_free hi e h1).2.2 l l1 l2 (by rw [l3, h2])
/-- The item j is taken in pre. -/
def Used (sk : Int) (pre : List Int) (j : Nat) : Prop := ∃ l, l < pre.length ∧ (l : Int) ≠ sk ∧ iget pre l = j
theorem used_snoc {sk : Int} {pre : List Int} {y : Int} {j : Nat} : Used sk (pre ++ [y]) j ↔ Used sk pre j ∨ ((pre.length : Int) ≠ sk ∧ y = j) := by
  unfold Used
  constructor
  · rintro ⟨l, l1, l2, l3⟩
    simp at l1
    by_cases e : l = pre.length
    · subst e; rw [iget_snoc_eq] at l3; exact .inr ⟨l2, l3⟩
    · rw [iget_snoc_lt (by omega)] at l3; exact .inl ⟨l, by omega, l2, l3⟩
  · rintro (⟨l, l1, l2, l3⟩ | ⟨h1, h2⟩)
    · exact ⟨l, by simp; omega, l2, by rw [iget_snoc_lt l1]; exact l3⟩
    · exact ⟨pre.length, by simp, h1, by rw [iget_snoc_eq]; exact h2⟩

/-- What the search has found: the best of the lists that it has seen. -/
def Found (v : List (List Int)) (sk : Int) (V : List Int → Prop) (b : List Int) (m : Int) : Prop := FirstMax V (pv v sk) b ∧ (∀ x, V x → Part v.length sk x) ∧ ((b = [] ∧ m = 0) ∨ (b ≠ [] ∧ m = pv v sk b))
theorem found_leaf_take {v : List (List Int)} {sk : Int} {V : List Int → Prop} {b pre : List Int} {m : Int} (hv : 0 < v.length) (h : Found v sk V b m) (hl : pre.length = v.length) (hp : PartTo v.length sk pre v.length) (hV : ∀ x, V x → ∀ y, Comp v.length sk pre y → llt x y)
    (hgt : b = [] ∨ m < pv v sk pre) : Found v sk (fun x => V x ∨ Comp v.length sk pre x) pre (pv v sk pre) := by
  have hc : ∀ x, (V x ∨ x = pre) ↔ (V x ∨ Comp v.length sk pre x) := fun x => by rw [comp_leaf hl hp]
  refine ⟨(h.1.add (fun x hx => hV x hx pre ((comp_leaf hl hp pre).2 rfl)) ?_).congr hc (fun _ _ => rfl), ?_, .inr ⟨fun e => by rw [e] at hl; simp at hl; omega, rfl⟩⟩
  · rcases h.1 with h1 | ⟨h1, _⟩
    · exact .inl h1
    · rcases hgt with hb | hb
      · have := (h.2.1 b h1).1; rw [hb] at this; simp at this; omega
      · rcases h.2.2 with ⟨hb2, _⟩ | ⟨_, hm⟩
        · have := (h.2.1 b h1).1; rw [hb2] at this; simp at this; omega
        · exact .inr ⟨h1, by omega⟩
  · rintro x (hx | hx)
    · exact h.2.1 x hx
    · exact hx.1
theorem found_leaf_keep {v : List (List Int)} {sk : Int} {V : List Int → Prop} {b pre : List Int} {m : Int} (h : Found v sk V b m) (hl : pre.length = v.length) (hp : PartTo v.length sk pre v.length) (hV : ∀ x, V x → ∀ y, Comp v.length sk pre y → llt x y)
    (hb : b ≠ []) (hle : pv v sk pre ≤ m) : Found v sk (fun x => V x ∨ Comp v.length sk pre x) b m := by
  have hc : ∀ x, (V x ∨ x = pre) ↔ (V x ∨ Comp v.length sk pre x) := fun x => by rw [comp_leaf hl hp]
  have hm : m = pv v sk b := by
    rcases h.2.2 with ⟨hb2, _⟩ | ⟨_, hm⟩
    · exact absurd hb2 hb
    · exact hm
  have hVb : V b := by
    rcases h.1 with ⟨h1, _⟩ | ⟨h1, _⟩
    · exact absurd h1 hb
    · exact h1
  refine ⟨(h.1.keep (fun x hx => hV x hx pre ((comp_leaf hl hp pre).2 rfl)) ⟨hVb, by omega⟩).congr hc (fun _ _ => rfl), ?_, h.2.2⟩
  rintro x (hx | hx)
  · exact h.2.1 x hx
  · exact hx.1
theorem Found.congr {v : List (List Int)} {sk : Int} {V W : List Int → Prop} {b : List Int} {m : Int} (h : Found v sk V b m) (e : ∀ x, V x ↔ W x) : Found v sk W b m :=
  ⟨h.1.congr e (fun _ _ => rfl), fun x hx => h.2.1 x ((e x).2 hx), h.2.2⟩

theorem pvTo_bound {v : List (List Int)} {sk : Int} {pre : List Int} (hv : Bids v) (hp : PartTo v.length sk pre pre.length) (hl : pre.length ≤ v.length) : 0 ≤ pvTo v sk pre pre.length ∧ pvTo v sk pre pre.length ≤ 1000000 * pre.length := by
  refine sumTo_bound (n := pre.length) (fun k hk => ?_) _ (Nat.le_refl _)
  by_cases e : (k : Int) = sk
  · simp [e]
  · rw [if_neg e]
    obtain ⟨h1, h2, _⟩ := (hp k hk).2 e
    exact (hv.2.2 k (by omega)).2 _ (by simp only [itm]; omega)
theorem pv_eq {v : List (List Int)} {sk : Int} {pre : List Int} (hl : pre.length = v.length) : pv v sk pre = pvTo v sk pre pre.length := by unfold pv; rw [hl]

/-- Where nobody is left out the lists are the assignments. -/
theorem part_isA {n : Nat} {x : List Int} : Part n (-1) x ↔ IsA x n := by
  constructor
  · rintro ⟨h1, h2⟩
    have h3 : ∀ k, k < n → 0 ≤ iget x k ∧ iget x k < n ∧ ∀ l, l < k → iget x l ≠ iget x k := fun k hk => by
      obtain ⟨a, b, c⟩ := (h2 k hk).2 (by omega)
      exact ⟨a, b, fun l hl => c l hl (by omega)⟩
    refine isA_of h1 (fun i hi => (h3 i hi).1) ⟨fun i hi => ?_, fun i j hi hj e => ?_⟩
    · have := h3 i hi; simp only [itm]; omega
    · have hi3 := h3 i hi
      have hj3 := h3 j hj
      have e' : iget x i = iget x j := by simp only [itm] at e; omega
      rcases Nat.lt_trichotomy i j with h | h | h
      · exact absurd e' (hj3.2.2 i h)
      · exact h
      · exact absurd e'.symm (hi3.2.2 j h)
  · intro h
    refine ⟨h.1, fun k hk => ⟨fun e => by omega, fun _ => ?_⟩⟩
    have := isA_lt h k hk
    refine ⟨this.1, by simp only [itm] at this; omega, fun l hl _ e => ?_⟩
    have := isA_inj h (by omega) hk e
    omega
theorem pv_worth {v : List (List Int)} {x : List Int} (h : x.length = v.length) : pv v (-1) x = worthI v x := by
  unfold pv pvTo worthI
  rw [h]
  exact sumTo_congr fun i _ => by rw [if_neg (by omega)]
end Go.Proofs.Ytmcncflieoolmaa
