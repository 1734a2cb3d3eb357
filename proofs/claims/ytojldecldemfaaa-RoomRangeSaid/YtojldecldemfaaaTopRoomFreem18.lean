/- Lists that a text lays out itself, and the best assignment of given numbers, by looking at all; no condition. -/
import Derived.Test.YtojldecldemfaaaTopRoomFreem3
import Derived.Maps.RangeWalk
import Derived.RangeFuncOwn
import Derived.Test.YtojldecldemfaaaTopRoomFreem2
import Derived.Test.YtojldecldemfaaaTopRoomFreem15
import Derived.Test.YtojldecldemfaaaTopRoomFreem16
import Derived.Test.YtojldecldemfaaaTopRoomFreem17
import Derived.Test.YtojldecldemfaaaTopRoomFreem6
import Derived.Deep.RegionHeld3
import Derived.BigQuiet
/- Lists that a text lays out itself, and the best assignment of given numbers, by looking at all; no condition. -/
namespace Go.Proofs.Ytojldecldemfaaa
open Go.ChangeShapes Go.WideShapes Go.ChangeAt Go.RowKit Go.Deep
set_option linter.unusedVariables false
set_option linter.unusedSimpArgs false

theorem Ints.lit (w : World) (xs : List Int) (hsz : xs.length ≤ 1000000) (hr : ∀ x ∈ xs, in64 x) :
    Ints (w.alloc (.cells (xs.map (Value.int .i64)).toArray 3)) (some ⟨w.heap.size, 0, none⟩) xs.length xs :=
  (Own.lit w w.heap.size (Nat.le_refl _) xs hsz (fun j hj => hr _ (iget_mem hj))).ints

theorem Mat.lit (w : World) (rows : List (Option Addr × Nat × List Int)) (hsz : rows.length ≤ 1000000) (hr : ∀ r ∈ rows, Ints w r.1 r.2.1 r.2.2) :
    Mat (w.alloc (.cells (rows.map fun r => Value.slice r.1 r.2.2.length r.2.1).toArray 26)) (some ⟨w.heap.size, 0, none⟩) rows.length (rows.map fun r => r.2.2) := by
  have hb : Below w.heap.size w (w.alloc (.cells (rows.map fun r => Value.slice r.1 r.2.2.length r.2.1).toArray 26)) := (Below.refl _ w).alloc (Nat.le_refl _) _
  have hn := World.alloc_heap_new w (.cells (rows.map fun r => Value.slice r.1 r.2.2.length r.2.1).toArray 26)
  refine ⟨by simp, by omega, fun h => (by cases h), ?_, ?_⟩
  · rintro a ⟨⟩ _
    exact ⟨rfl, by simp⟩
  · rintro b o ⟨⟩ j hj
    have hj' : j < rows.length := by simpa using hj
    have hg : rget (rows.map fun r => r.2.2) j = rows[j].2.2 := by rw [rget_of hj]; simp
    refine ⟨rows[j].1, rows[j].2.1, ?_, ?_⟩
    · simp only [World.cell?]
      rw [hn, hg, Nat.zero_add]
      simp [hj']
    · rw [hg]
      exact (hr _ (List.getElem_mem hj')).below hb (Nat.le_refl _)

/-- All lists of m numbers below n. -/
def allD (n : Nat) : Nat → List (List Int)
  | 0 => [[]]
  | m + 1 => (allD n m).flatMap fun l => (List.range n).map fun (j : Nat) => (j : Int) :: l
theorem mem_allD {n : Nat} : ∀ (m : Nat) (l : List Int), l.length = m → (∀ x ∈ l, 0 ≤ x ∧ x < n) → l ∈ allD n m := by
  intro m
  induction m with
  | zero => intro l hl _; obtain rfl := List.eq_nil_of_length_eq_zero hl; simp [allD]
  | succ m ih =>
    intro l hl hd
    cases l with
    | nil => simp at hl
    | cons x t =>
      simp only [allD, List.mem_flatMap, List.mem_map, List.mem_range]
      refine ⟨t, ih t (by simpa using hl) (fun y hy => hd y (List.mem_cons_of_mem _ hy)), x.toNat, ?_, ?_⟩
      · have := hd x (List.mem_cons_self ..); omega
      · have := hd x (List.mem_cons_self ..)
        rw [show ((x.toNat : Nat) : Int) = x from by omega]
def lltB (a b : List Int) : Bool := (List.range a.length).any fun i => ((List.range i).all fun j => iget a j == iget b j) && decide (iget a i < iget b i)
theorem llt_of {a b : List Int} (h : lltB a b = true) : llt a b := by
  unfold lltB at h
  obtain ⟨i, hi, h2⟩ := List.any_eq_true.1 h
  rw [Bool.and_eq_true] at h2
  refine ⟨i, by simpa using hi, fun j hj => ?_, by simpa using h2.2⟩
  have := List.all_eq_true.1 h2.1 j (by simpa using hj)
  simpa using this
/-- Looks at all lists: a is the best assignment. -/
def bestChk (v : List (List Int)) (a : List Int) : Bool :=
  isAB a v.length && (allD v.length v.length).all fun x => !isAB x v.length || decide (worthI v x < worthI v a) || (decide (worthI v x = worthI v a) && (x == a || lltB a x))
theorem isBest_of_chk {v : List (List Int)} {a : List Int} (h : bestChk v a = true) : IsBest v a := by
  unfold bestChk at h
  rw [Bool.and_eq_true] at h
  have hA : IsA a v.length := by simpa [isAB] using h.1
  refine ⟨hA, .inr ⟨hA, fun x hx => ?_⟩⟩
  have hm : x ∈ allD v.length v.length := mem_allD _ _ hx.1 (fun y hy => by
    obtain ⟨j, hj, rfl⟩ := List.getElem_of_mem hy
    have := isA_digits hx j hj
    rwa [iget_of hj] at this)
  have h2 := List.all_eq_true.1 h.2 x hm
  have hxb : isAB x v.length = true := by simp [isAB, hx]
  rw [hxb] at h2
  simp only [Bool.not_true, Bool.false_or, Bool.or_eq_true, Bool.and_eq_true, decide_eq_true_iff, beq_iff_eq] at h2
  rcases h2 with h3 | ⟨h3, h4 | h4⟩
  · exact .inl h3
  · exact .inr ⟨h3, .inl h4⟩
  · exact .inr ⟨h3, .inr (llt_of h4)⟩
end Go.Proofs.Ytojldecldemfaaa

/- What a text that runs straight on holds: rows, tables, lists of tables, under one name; literals, calls; no condition but sizes. -/
namespace Go.Proofs.Ytojldecldemfaaa
open Go.ChangeShapes Go.WideShapes Go.ChangeAt Go.RowKit Go.Deep
set_option linter.unusedVariables false
set_option linter.unusedSimpArgs false

def in64B (x : Int) : Bool := decide (-9223372036854775808 ≤ x) && decide (x ≤ 9223372036854775807)
theorem in64_all {xs : List Int} (h : xs.all in64B = true) : ∀ x ∈ xs, in64 x := fun x hx => by
  have := List.all_eq_true.1 h x hx
  simp [in64B] at this
  exact this
theorem ints_lit (w : World) (xs : List Int) (hsz : xs.length ≤ 1000000) (hr : ∀ x ∈ xs, in64 x) :
    Ints (w.alloc (.cells (xs.map (Value.int .i64)).toArray 3)) (some ⟨w.heap.size, 0, none⟩) xs.length xs :=
  (Own.lit w w.heap.size (Nat.le_refl _) xs hsz (fun j hj => hr _ (iget_mem hj))).ints
theorem mat_lit (w : World) (rows : List (Option Addr × Nat × List Int)) (hsz : rows.length ≤ 1000000) (hr : ∀ r ∈ rows, Ints w r.1 r.2.1 r.2.2) :
    Mat (w.alloc (.cells (rows.map fun r => Value.slice r.1 r.2.2.length r.2.1).toArray 26)) (some ⟨w.heap.size, 0, none⟩) rows.length (rows.map fun r => r.2.2) := by
  have hb : Below w.heap.size w (w.alloc (.cells (rows.map fun r => Value.slice r.1 r.2.2.length r.2.1).toArray 26)) := (Below.refl _ w).alloc (Nat.le_refl _) _
  have hn := World.alloc_heap_new w (.cells (rows.map fun r => Value.slice r.1 r.2.2.length r.2.1).toArray 26)
  refine ⟨by simp, by omega, fun h => (by cases h), ?_, ?_⟩
  · rintro a ⟨⟩ _
    exact ⟨rfl, by simp⟩
  · rintro b o ⟨⟩ j hj
    have hj' : j < rows.length := by simpa using hj
    have hg : rget (rows.map fun r => r.2.2) j = rows[j].2.2 := by rw [rget_of hj]; simp
    refine ⟨rows[j].1, rows[j].2.1, ?_, ?_⟩
    · simp only [World.cell?]
      rw [hn, hg, Nat.zero_add]
      simp [hj']
    · rw [hg]
      exact (hr _ (List.getElem_mem hj')).below hb (Nat.le_refl _)

inductive Item where
  | ints (p : Option Addr) (n c : Nat) (xs : List Int)
  | mat (p : Option Addr) (n c : Nat) (v : List (List Int))
  | mats (b : Nat) (vs : List Value) (ms : List (List (List Int)))
  | box (b : Nat) (vs : List Value)
def Item.ok (w : World) : Item → Prop
  | .ints p n c xs => xs.length = n ∧ Ints w p c xs
  | .mat p n c v => v.length = n ∧ Mat w p c v
  | .mats b vs ms => vs.length = ms.length ∧ b < w.heap.size ∧ ∀ (j : Nat) (v : List (List Int)), ms[j]? = some v → ∃ p c, w.cell? ⟨b, j, none⟩ = some (.slice p v.length c) ∧ vs[j]? = some (.slice p v.length c) ∧ Mat w p c v
  | .box b vs => b < w.heap.size ∧ ∀ (j : Nat) (u : Value), vs[j]? = some u → w.cell? ⟨b, j, none⟩ = some u
theorem Item.ok_below {w w' : World} {i : Item} (h : i.ok w) (hb : Below w.heap.size w w') : i.ok w' := by
  cases i with
  | ints p n c xs => exact ⟨h.1, Ints.below h.2 hb (Nat.le_refl _)⟩
  | mat p n c v => exact ⟨h.1, Mat.below h.2 hb (Nat.le_refl _)⟩
  | mats b vs ms =>
    obtain ⟨h0, h1, h2⟩ := h
    refine ⟨h0, Nat.lt_of_lt_of_le h1 hb.size, fun j v hm => ?_⟩
    obtain ⟨p, c, h3, h4, h5⟩ := h2 j v hm
    exact ⟨p, c, (hb.cell (p := ⟨b, j, none⟩) h1).trans h3, h4, h5.below hb (Nat.le_refl _)⟩
  | box b vs => exact ⟨Nat.lt_of_lt_of_le h.1 hb.size, fun j u hj => (hb.cell (p := ⟨b, j, none⟩) h.1).trans (h.2 j u hj)⟩
/-- The items of these numbers are rows: what they hold, and their values. -/
inductive RowsAt (l : List Item) : List Nat → List (List Int) → List Value → Prop where
  | nil : RowsAt l [] [] []
  | cons {k : Nat} {ks : List Nat} {p : Option Addr} {n c : Nat} {x : List Int} {v : List (List Int)} {vs : List Value} (h : l[k]? = some (.ints p n c x)) (t : RowsAt l ks v vs) : RowsAt l (k :: ks) (x :: v) (.slice p n c :: vs)
  | nul {k : Nat} {ks : List Nat} {v : List (List Int)} {vs : List Value} (t : RowsAt l ks v vs) : RowsAt l (k :: ks) ([] :: v) (.slice none 0 0 :: vs)
inductive MatsAt (l : List Item) : List Nat → List (List (List Int)) → List Value → Prop where
  | nil : MatsAt l [] [] []
  | cons {k : Nat} {ks : List Nat} {p : Option Addr} {n c : Nat} {x : List (List Int)} {v : List (List (List Int))} {vs : List Value} (h : l[k]? = some (.mat p n c x)) (t : MatsAt l ks v vs) : MatsAt l (k :: ks) (x :: v) (.slice p n c :: vs)
  | nul {k : Nat} {ks : List Nat} {v : List (List (List Int))} {vs : List Value} (t : MatsAt l ks v vs) : MatsAt l (k :: ks) ([] :: v) (.slice none 0 0 :: vs)
theorem RowsAt.spec {l : List Item} {w : World} (hl : ∀ i ∈ l, i.ok w) {ks : List Nat} {v : List (List Int)} {vs : List Value} (h : RowsAt l ks v vs) :
    vs.length = v.length ∧ ∀ (j : Nat) (x : List Int), v[j]? = some x → ∃ p c, vs[j]? = some (Value.slice p x.length c) ∧ Ints w p c x := by
  induction h with
  | nil => exact ⟨rfl, fun j x h => (by simp at h)⟩
  | cons h t ih =>
    refine ⟨by simp [ih.1], fun j x hj => ?_⟩
    cases j with
    | zero =>
      simp at hj; subst hj
      obtain ⟨h1, h2⟩ := hl _ (List.mem_of_getElem? h)
      exact ⟨_, _, by rw [h1]; rfl, h2⟩
    | succ j => exact ih.2 j x (by simpa using hj)
  | nul t ih =>
    refine ⟨by simp [ih.1], fun j x hj => ?_⟩
    cases j with
    | zero => simp at hj; subst hj; exact ⟨none, 0, rfl, Ints.ofNil w⟩
    | succ j => exact ih.2 j x (by simpa using hj)
theorem MatsAt.spec {l : List Item} {w : World} (hl : ∀ i ∈ l, i.ok w) {ks : List Nat} {v : List (List (List Int))} {vs : List Value} (h : MatsAt l ks v vs) :
    vs.length = v.length ∧ ∀ (j : Nat) (x : List (List Int)), v[j]? = some x → ∃ p c, vs[j]? = some (Value.slice p x.length c) ∧ Mat w p c x := by
  induction h with
  | nil => exact ⟨rfl, fun j x h => (by simp at h)⟩
  | cons h t ih =>
    refine ⟨by simp [ih.1], fun j x hj => ?_⟩
    cases j with
    | zero =>
      simp at hj; subst hj
      obtain ⟨h1, h2⟩ := hl _ (List.mem_of_getElem? h)
      exact ⟨_, _, by rw [h1]; rfl, h2⟩
    | succ j => exact ih.2 j x (by simpa using hj)
  | nul t ih =>
    refine ⟨by simp [ih.1], fun j x hj => ?_⟩
    cases j with
    | zero => simp at hj; subst hj; exact ⟨none, 0, rfl, Mat.ofNil w⟩
    | succ j => exact ih.2 j x (by simpa using hj)
theorem mat_new (w : World) (v : List (List Int)) (vs : List Value) (hsz : v.length ≤ 1000000) (hl : vs.length = v.length) (h : ∀ (j : Nat) (x : List Int), v[j]? = some x → ∃ p c, vs[j]? = some (Value.slice p x.length c) ∧ Ints w p c x) :
    Mat (w.alloc (.cells vs.toArray 26)) (some ⟨w.heap.size, 0, none⟩) v.length v := by
  have hb : Below w.heap.size w (w.alloc (.cells vs.toArray 26)) := (Below.refl _ w).alloc (Nat.le_refl _) _
  have hn := World.alloc_heap_new w (.cells vs.toArray 26)
  refine ⟨Nat.le_refl _, by omega, fun h => (by cases h), ?_, ?_⟩
  · rintro a ⟨⟩ _
    exact ⟨rfl, by simp⟩
  · rintro b o ⟨⟩ j hj
    obtain ⟨p, c, h1, h2⟩ := h j (rget v j) (by rw [rget_of hj]; simp [hj])
    refine ⟨p, c, ?_, h2.below hb (Nat.le_refl _)⟩
    simp only [World.cell?]
    rw [hn, Nat.zero_add]
    simp [h1]

/-- In w, of B blocks, the items read as they say; what lay in w0 lies as it lay. -/
structure St (w0 w : World) (B : Nat) (l : List Item) : Prop where
  size : w.heap.size = B
  bel : Below w0.heap.size w0 w
  all : ∀ i ∈ l, i.ok w
theorem St.start (w : World) : St w w w.heap.size [] := ⟨rfl, Below.refl _ _, fun _ h => (by cases h)⟩
section
variable {w0 w : World} {B : Nat} {l : List Item}
theorem St.step {w' : World} (h : St w0 w B l) (hb : Below w.heap.size w w') : St w0 w' w'.heap.size l :=
  ⟨rfl, h.bel.trans (hb.mono h.bel.size), fun i hi => Item.ok_below (h.all i hi) hb⟩
theorem St.drew {w' : World} (h : St w0 w B l) (hw : ∃ n, w' = w.drewN n) : St w0 w' w'.heap.size l := by
  obtain ⟨n, rfl⟩ := hw; exact h.step (below_drewN _ _ _)
theorem St.add (h : St w0 w B l) (i : Item) (hi : i.ok w) : St w0 w B (i :: l) :=
  ⟨h.size, h.bel, fun j hj => by
    rcases List.mem_cons.1 hj with rfl | hj
    · exact hi
    · exact h.all j hj⟩
theorem St.pop {i : Item} (h : St w0 w B (i :: l)) : St w0 w B l := ⟨h.size, h.bel, fun j hj => h.all j (List.mem_cons_of_mem _ hj)⟩
theorem St.addI {n c : Nat} {p : Option Addr} {xs : List Int} (h : St w0 w B l) (hn : xs.length = n) (hi : Ints w p c xs) : St w0 w B (.ints p n c xs :: l) := h.add _ ⟨hn, hi⟩
theorem St.addM {n c : Nat} {p : Option Addr} {v : List (List Int)} (h : St w0 w B l) (hn : v.length = n) (hi : Mat w p c v) : St w0 w B (.mat p n c v :: l) := h.add _ ⟨hn, hi⟩
theorem St.intsAt (h : St w0 w B l) (k : Nat) {p : Option Addr} {n c : Nat} {xs : List Int} (hk : l[k]? = some (.ints p n c xs)) : Ints w p c xs := (h.all _ (List.mem_of_getElem? hk)).2
theorem St.matAt (h : St w0 w B l) (k : Nat) {p : Option Addr} {n c : Nat} {v : List (List Int)} (hk : l[k]? = some (.mat p n c v)) : Mat w p c v := (h.all _ (List.mem_of_getElem? hk)).2
theorem St.matsAt (h : St w0 w B l) (k : Nat) {b : Nat} {vs : List Value} {ms : List (List (List Int))} (hk : l[k]? = some (.mats b vs ms)) : ∀ (j : Nat) (v : List (List Int)), ms[j]? = some v → ∃ p c, w.cell? ⟨b, j, none⟩ = some (.slice p v.length c) ∧ Mat w p c v := fun j v hj => by
  obtain ⟨p, c, h1, _, h2⟩ := (h.all _ (List.mem_of_getElem? hk)).2.2 j v hj
  exact ⟨p, c, h1, h2⟩
theorem St.bump (h : St w0 w B l) (o : Obj) : St w0 (w.alloc o) (B + 1) l :=
  ⟨by simp [h.size], h.bel.alloc h.bel.size _, fun i hi => Item.ok_below (h.all i hi) ((Below.refl _ _).alloc (Nat.le_refl _) _)⟩
/-- A new block of known cells. -/
theorem St.box (h : St w0 w B l) (vs : List Value) (T : TypeId) : St w0 (w.alloc (.cells vs.toArray T)) (B + 1) (.box B vs :: l) :=
  (h.bump _).add _ ⟨by simp [h.size], fun j u hj => by rw [← h.size]; exact (World.cell?_alloc_at _ _ _ _ rfl).trans (by simpa using hj)⟩
theorem St.boxAt (h : St w0 w B l) (k j : Nat) {b : Nat} {vs : List Value} {u : Value} (hk : l[k]? = some (.box b vs)) (hj : vs[j]? = some u) : w.cell? ⟨b, j, none⟩ = some u := (h.all _ (List.mem_of_getElem? hk)).2 j u hj
theorem St.boxLt (h : St w0 w B l) (k : Nat) {b : Nat} {vs : List Value} (hk : l[k]? = some (.box b vs)) : b < w.heap.size := (h.all _ (List.mem_of_getElem? hk)).1
/-- '[]int{..}'. -/
theorem St.lit (h : St w0 w B l) (xs : List Int) (n : Nat) (hn : xs.length = n := by rfl) (hsz : n ≤ 1000 := by decide) (hr : xs.all in64B = true := by decide +kernel) :
    St w0 (w.alloc (.cells (xs.map (Value.int .i64)).toArray 3)) (B + 1) (.ints (some ⟨B, 0, none⟩) n n xs :: l) :=
  (h.bump _).add _ ⟨hn, by subst hn; rw [← h.size]; exact ints_lit w xs (by omega) (in64_all hr)⟩
/-- '[][]int{..}', its rows being items (by their numbers). -/
theorem St.litM (h : St w0 w B l) {ks : List Nat} {v : List (List Int)} {vs : List Value} (hm : RowsAt l ks v vs) (n : Nat) (hn : v.length = n := by rfl) (hsz : n ≤ 1000 := by decide) :
    St w0 (w.alloc (.cells vs.toArray 26)) (B + 1) (.mat (some ⟨B, 0, none⟩) n n v :: l) :=
  (h.bump _).add _ ⟨hn, by
    subst hn; rw [← h.size]
    obtain ⟨h1, h2⟩ := hm.spec h.all
    exact mat_new w v vs (by omega) h1 h2⟩
/-- 'make([][]int, n)', n a numeral. -/
theorem St.mkM (h : St w0 w B l) (n : Nat) (hsz : n ≤ 1000 := by decide) :
    St w0 (w.alloc (.cells (List.replicate n (.slice none 0 0)).toArray 26)) (B + 1) (.mat (some ⟨B, 0, none⟩) n n (List.replicate n []) :: l) :=
  (h.bump _).add _ ⟨by simp, by
    rw [← h.size]
    have := mat_new w (List.replicate n []) (List.replicate n (.slice none 0 0)) (by simp; omega) (by simp) (fun j x hj => by
      rw [List.getElem?_replicate] at hj
      split at hj
      · rename_i hlt
        cases hj
        exact ⟨none, 0, by rw [List.getElem?_replicate, if_pos hlt]; rfl, Ints.ofNil w⟩
      · cases hj)
    simpa using this⟩
/-- '[][][]int{..}', its tables being items. -/
theorem St.litMs (h : St w0 w B l) {ks : List Nat} {ms : List (List (List Int))} {vs : List Value} (hm : MatsAt l ks ms vs) (T : TypeId) :
    St w0 (w.alloc (.cells vs.toArray T)) (B + 1) (.mats B vs ms :: l) := by
  obtain ⟨h1, h2⟩ := hm.spec h.all
  refine (h.bump _).add _ ⟨h1, by simp [h.size], fun j v hj => ?_⟩
  obtain ⟨p, c, h3, h4⟩ := h2 j v hj
  refine ⟨p, c, ?_, h3, h4.below ((Below.refl _ w).alloc (Nat.le_refl _) _) (Nat.le_refl _)⟩
  have hn := World.alloc_heap_new w (.cells vs.toArray T)
  rw [← h.size]
  simp only [World.cell?]
  rw [hn]
  simp [h3]
/-- What goes on: the items, in every world that keeps what lies. -/
theorem St.frame (h : St w0 w B l) : ∃ G : World → Prop, G w ∧ Hid (∀ a b, G a → Below a.heap.size a b → G b) ∧ Hid (∀ a, G a → St w0 a a.heap.size l) :=
  ⟨fun a => St w0 a a.heap.size l, ⟨rfl, h.bel, h.all⟩, fun a b ha hb => ha.step hb, fun a ha => ha⟩
end
end Go.Proofs.Ytojldecldemfaaa

/- Room's functions at given flats and leases, for examples; links that can be reckoned; no condition but what each says. -/
namespace Go.Proofs.Ytojldecldemfaaa
set_option linter.unusedVariables false
set_option linter.unusedSimpArgs false
open Go.ChangeShapes Go.WideShapes Go.ChangeAt Go.RowKit Go.Deep

/-- Who has room j. -/
def owC (a : List Int) (j : Nat) : Nat := (firstC (fun i => decide (itm a i = j)) a.length)
where
  firstC (P : Nat → Bool) (n : Nat) : Nat := ((List.range n).find? P).getD 0
theorem owC_of {a : List Int} {n : Nat} (h : IsA a n) {i : Nat} (hi : i < n) : owC a (itm a i) = i := by
  unfold owC owC.firstC
  cases hf : (List.range a.length).find? (fun k => decide (itm a k = itm a i)) with
  | none =>
    have := List.find?_eq_none.1 hf i (List.mem_range.2 (by rw [h.1]; exact hi))
    simp at this
  | some k =>
    have h1 := List.find?_some hf
    have h2 := List.mem_range.1 (List.mem_of_find?_eq_some hf)
    rw [decide_eq_true_iff] at h1
    exact (isA_per h).inj k i (by rw [← h.1]; exact h2) hi h1
def wlC (v : List (List Int)) (a : List Int) (j k : Nat) : Int := bid v (owC a j) k - bid v (owC a j) j
theorem wlC_eq {v : List (List Int)} {a : List Int} (h : IsA a v.length) {j : Nat} (hj : j < v.length) (k : Nat) : wl v a j k = wlC v a j k := by
  obtain ⟨i, hi, rfl⟩ := (isA_per h).surj hj
  rw [wl_of h hi]
  unfold wlC
  rw [owC_of h hi]
def linkC (v : List (List Int)) (a : List Int) : List (List Int) := fwB v.length ((List.range v.length).map fun j => (List.range v.length).map fun k => wlC v a j k) v.length
theorem linkC_eq {v : List (List Int)} {a : List Int} (hb : IsBest v a) (h0 : 0 < v.length) : linkL v a = linkC v a := by
  rw [← fw_links hb h0]
  unfold linkC link0
  congr 1
  refine List.map_congr_left fun j hj => List.map_congr_left fun k _ => wlC_eq hb.1 (List.mem_range.1 hj) k
/-- What can be reckoned of the even lease and the ranges, the best assignment being known. -/
def rawC (v : List (List Int)) (a : List Int) (r : Int) : List Int := (List.range v.length).map fun j => iget (bfR v a v.length) j * v.length + (r - sumTo (iget (bfR v a v.length)) v.length)
theorem rawC_eq {v : List (List Int)} {a : List Int} (hb : IsBest v a) (h0 : 0 < v.length) (r : Int) : rawP v r = rawC v a r := by
  unfold rawP restI rawC
  rw [bestA_eq hb, bfR_least hb h0]
theorem even_e {v : List (List Int)} {a ps : List Int} {r z : Int} (hb : IsBest v a) (h0 : 0 < v.length) (hc : chkR v r = 0) (h1 : lowL v.length (rawC v a r) = ps) (h2 : lowN v.length (rawC v a r) = z) : evenX v r = a ∧ evenY v r = ps ∧ evenZ v r = z := by
  unfold evenX evenY evenZ
  rw [if_pos hc, if_pos hc, if_pos hc, bestA_eq hb, rawC_eq hb h0, h1, h2]
  exact ⟨rfl, rfl, rfl⟩
theorem links_e {v D : List (List Int)} {a : List Int} {r : Int} (hb : IsBest v a) (h0 : 0 < v.length) (hc : chkR v r = 0) (h1 : linkC v a = D) : linksL v r = D := by
  unfold linksL
  rw [if_pos hc, bestA_eq hb, linkC_eq hb h0, h1]
theorem range_e {v : List (List Int)} {a : List Int} {r : Int} {j : Nat} (hb : IsBest v a) (h0 : 0 < v.length) (hc : chkR v r = 0) (hj : j < v.length) {x y p q : Int}
    (h1 : rN (r + sumTo (fun i => bid (linkC v a) i j) v.length) v.length = x) (h2 : rD (r + sumTo (fun i => bid (linkC v a) i j) v.length) v.length = y)
    (h3 : rN (r - sumTo (fun i => bid (linkC v a) j i) v.length) v.length = p) (h4 : rD (r - sumTo (fun i => bid (linkC v a) j i) v.length) v.length = q) :
    rngLo v r j = .agg #[.int .i64 x, .int .i64 y] ∧ rngHi v r j = .agg #[.int .i64 p, .int .i64 q] ∧ rngE v r j = 0 := by
  obtain ⟨e1, e2, e3⟩ := rng_in (v := v) (r := r) hc hj
  rw [e1, e2, e3]
  unfold ratV lowI highI
  rw [bestA_eq hb, linkC_eq hb h0, h1, h2, h3, h4]
  exact ⟨rfl, rfl, rfl⟩

theorem roomCheck_e {p : Option Addr} {c n : Nat} {v : List (List Int)} {r e : Int} {w : World} (h : chkR v r = e) (hx : Mat w p c v) (hv : v.length = n := by rfl) :
    Calls Try.prog 17 #[.agg #[.slice p n c, .int .i64 r]] w fun e' w' => e' = .returned (.int .i64 e) ∧ Below w.heap.size w w' := by
  subst hv h; exact roomCheck_any p c v r w hx
theorem roomEven_e {p : Option Addr} {c n na np : Nat} {v : List (List Int)} {r z e : Int} {a ps : List Int} {w : World} (h : evenX v r = a ∧ evenY v r = ps ∧ evenZ v r = z) (he : chkR v r = e) (hx : Mat w p c v) (hv : v.length = n := by rfl) (h1 : a.length = na := by rfl) (h2 : ps.length = np := by rfl) :
    Calls Try.prog 11 #[.agg #[.slice p n c, .int .i64 r]] w fun e' w' => ∃ q d s f, e' = .returned (.tuple #[.agg #[.slice q na d, .slice s np f, .int .i64 z], .int .i64 e]) ∧ Ints w' q d a ∧ Ints w' s f ps ∧ Below w.heap.size w w' := by
  obtain ⟨rfl, rfl, rfl⟩ := h
  subst hv h1 h2 he
  exact roomEven_any p c v r w hx
theorem roomLinks_e {p : Option Addr} {c n m : Nat} {v D : List (List Int)} {r e : Int} {w : World} (h : linksL v r = D) (he : chkR v r = e) (hx : Mat w p c v) (hv : v.length = n := by rfl) (h1 : D.length = m := by rfl) :
    Calls Try.prog 13 #[.agg #[.slice p n c, .int .i64 r]] w fun e' w' => ∃ q d, e' = .returned (.tuple #[.slice q m d, .int .i64 e]) ∧ Mat w' q d D ∧ Below w.heap.size w w' := by
  subst hv h he h1
  refine (roomLinks_any p c v r w hx).mono ?_
  rintro e w' ⟨q, d, Q, D, h1, h2, h3⟩
  exact ⟨q, d, h1, h2.mat, h3⟩
theorem roomRange_e {p : Option Addr} {c n : Nat} {v : List (List Int)} {r j e : Int} {x y p' q' : Int} {w : World} (h : rngLo v r j = .agg #[.int .i64 x, .int .i64 y] ∧ rngHi v r j = .agg #[.int .i64 p', .int .i64 q'] ∧ rngE v r j = e) (hx : Mat w p c v) (hv : v.length = n := by rfl) (hj : in64B j = true := by decide) :
    Calls Try.prog 15 #[.agg #[.slice p n c, .int .i64 r], .int .i64 j] w fun e' w' => e' = .returned (.tuple #[.agg #[.int .i64 x, .int .i64 y], .agg #[.int .i64 p', .int .i64 q'], .int .i64 e]) ∧ Below w.heap.size w w' := by
  subst hv
  have hj2 : in64 j := by simp [in64B] at hj; exact hj
  refine (roomRange_any p c v r j w hx hj2).mono ?_
  rintro e w' ⟨h1, h2⟩
  rw [h.1, h.2.1, h.2.2] at h1
  exact ⟨h1, h2⟩
theorem roomValid_e {p q s : Option Addr} {c d f n m k : Nat} {v : List (List Int)} {r z e : Int} {al ps : List Int} {w : World} (h : vldR v r al ps z = e) (hx : Mat w p c v) (hy : Ints w q d al) (hz : Ints w s f ps) (hv : v.length = n := by rfl) (h1 : al.length = m := by rfl) (h2 : ps.length = k := by rfl) (hl : m ≤ 1000000 := by decide) :
    Calls Try.prog 25 #[.agg #[.slice p n c, .int .i64 r], .agg #[.slice q m d, .slice s k f, .int .i64 z]] w fun e' w' => e' = .returned (.int .i64 e) ∧ Below w.heap.size w w' := by
  subst hv h1 h2 h
  exact roomValid_any p q s c d f v r al ps z w hx hy hz hl
theorem roomGains_e {p q s : Option Addr} {c d f n m k ng : Nat} {v : List (List Int)} {r z e : Int} {al ps gs : List Int} {w : World} (h : vldR v r al ps z = e) (hg : gnsL v r al ps z = gs) (hx : Mat w p c v) (hy : Ints w q d al) (hz : Ints w s f ps) (hv : v.length = n := by rfl) (h1 : al.length = m := by rfl) (h2 : ps.length = k := by rfl) (hl : m ≤ 1000000 := by decide) (h3 : gs.length = ng := by rfl) :
    Calls Try.prog 21 #[.agg #[.slice p n c, .int .i64 r], .agg #[.slice q m d, .slice s k f, .int .i64 z]] w fun e' w' => ∃ q' d', e' = .returned (.tuple #[.slice q' ng d', .int .i64 e]) ∧ Ints w' q' d' gs ∧ Below w.heap.size w w' := by
  subst hv h1 h2 h hg h3
  refine (roomGains_any p q s c d f v r al ps z w hx hy hz hl).mono ?_
  rintro e w' ⟨q', d', h1, h2, h3⟩
  exact ⟨q', d', h1, h2.ints, h3⟩
theorem roomEnvies_e {p q s : Option Addr} {c d f n m k ng : Nat} {v : List (List Int)} {r z e : Int} {al ps : List Int} {gs : List (Nat × Nat)} {w : World} (h : vldR v r al ps z = e) (hg : envsL v r al ps z = gs) (hx : Mat w p c v) (hy : Ints w q d al) (hz : Ints w s f ps) (hv : v.length = n := by rfl) (h1 : al.length = m := by rfl) (h2 : ps.length = k := by rfl) (hl : m ≤ 1000000 := by decide) (h3 : gs.length = ng := by rfl) :
    Calls Try.prog 23 #[.agg #[.slice p n c, .int .i64 r], .agg #[.slice q m d, .slice s k f, .int .i64 z]] w fun e' w' => ∃ q' d', e' = .returned (.tuple #[.slice q' ng d', .int .i64 e]) ∧ OwnP w' w.heap.size q' d' gs ∧ Below w.heap.size w w' := by
  subst hv h1 h2 h hg h3
  exact roomEnvies_any p q s c d f v r al ps z w hx hy hz hl

/-- A literal row of pairs. -/
theorem ownP_lit (w : World) (xs : List (Nat × Nat)) (hsz : xs.length ≤ 1000000) :
    OwnP (w.alloc (.cells (cellsP xs).toArray 91)) w.heap.size (some ⟨w.heap.size, 0, none⟩) xs.length xs := by
  have hl : (cellsP xs).length = xs.length * 2 := by
    clear hsz
    induction xs with
    | nil => rfl
    | cons x xs ih => simp only [cellsP, List.flatMap_cons, List.length_append, List.length_cons, List.length_nil] at ih ⊢; omega
  refine ⟨?_⟩
  have := World.ownsRow_lit (e := 91) (size := 2) (base := w.heap.size) w (cellsP xs).toArray xs.length (Nat.le_refl _) (by simp [maxLen]; omega) (by simp [hl])
  simpa using this
set_option maxHeartbeats 800000 in
theorem given14_any (w : World) : Calls Try.prog 29 #[] w fun e w' => ∃ p c, e = .returned (.agg #[.slice p 2 c, .int .i64 5]) ∧ Mat w' p c [[5, 3], [4, 1]] ∧ Below w.heap.size w w' := by
  go_enter Try.func29, Try.ntmps29
  have hS := (((((St.start w).bump (.cells #[.slice (some ⟨w.heap.size + 1 + 1 + 1, 0, none⟩) 2 2, .int .i64 5] 24)).lit [5, 3] 2).lit [4, 1] 2).litM (ks := [1, 0]) (.cons rfl (.cons rfl .nil)) 2)
  go_wp2
  exact bodyPost_ret (v := .agg #[.slice (some ⟨w.heap.size + 1 + 1 + 1, 0, none⟩) 2 2, .int .i64 5]) (by simp [results, Try.results29, go_sem]) rfl ⟨_, _, rfl, hS.matAt 0 rfl, hS.bel⟩
set_option maxHeartbeats 800000 in
theorem other14_any (w : World) : Calls Try.prog 54 #[] w fun e w' => ∃ p c q d, e = .returned (.agg #[.slice p 2 c, .slice q 2 d, .int .i64 1]) ∧ Ints w' p c [0, 1] ∧ Ints w' q d [3, 2] ∧ Below w.heap.size w w' := by
  go_enter Try.func54, Try.ntmps54
  have hS := (((St.start w).bump (.cells #[.slice (some ⟨w.heap.size + 1, 0, none⟩) 2 2, .slice (some ⟨w.heap.size + 1 + 1, 0, none⟩) 2 2, .int .i64 1] 28)).lit [0, 1] 2).lit [3, 2] 2
  go_wp2
  exact bodyPost_ret (v := .agg #[.slice (some ⟨w.heap.size + 1, 0, none⟩) 2 2, .slice (some ⟨w.heap.size + 1 + 1, 0, none⟩) 2 2, .int .i64 1]) (by simp [results, Try.results54, go_sem]) rfl ⟨_, _, _, _, rfl, hS.intsAt 1 rfl, hS.intsAt 0 rfl, hS.bel⟩
/-- The chapter's flat. -/
def GV14 : List (List Int) := [[5, 3], [4, 1]]
theorem gv14_best : IsBest GV14 [1, 0] := isBest_of_chk (by decide +kernel)
theorem gv14_chk : chkR GV14 5 = 0 := by decide +kernel
theorem gv14_even : evenX GV14 5 = [1, 0] ∧ evenY GV14 5 = [7, 3] ∧ evenZ GV14 5 = 2 := even_e gv14_best (by decide) gv14_chk (by decide +kernel) (by decide +kernel)
theorem gv14_links : linksL GV14 5 = [[0, -3], [2, 0]] := links_e gv14_best (by decide) gv14_chk (by decide +kernel)
theorem gv14_range : rngLo GV14 5 (0 : Nat) = .agg #[.int .i64 7, .int .i64 2] ∧ rngHi GV14 5 (0 : Nat) = .agg #[.int .i64 4, .int .i64 1] ∧ rngE GV14 5 (0 : Nat) = 0 :=
  range_e gv14_best (by decide) gv14_chk (by decide) (by decide +kernel) (by decide +kernel) (by decide +kernel) (by decide +kernel)
end Go.Proofs.Ytojldecldemfaaa

/- The walk of alive (room): the chapter's examples hold; no condition.  (Printed by wip/genalive14.py.) -/
namespace Go.Proofs.Ytojldecldemfaaa
set_option linter.unusedVariables false
set_option linter.unusedSimpArgs false
open Go.ChangeShapes Go.WideShapes Go.ChangeAt Go.RowKit Go.Deep

set_option maxHeartbeats 8000000 in
set_option maxRecDepth 100000 in
theorem alive14_any (w : World) : Calls Try.prog 30 #[] w fun e w' => e = .returned (.bool true) ∧ Below w.heap.size w w' := by
  go_enter Try.func30, Try.ntmps30
  have hS := St.start w
  go_wp2_with fail
  refine (given14_any _).mono ?_
  rintro e w1 ⟨p1, c1, rfl, hM, hb⟩
  replace hS := hS.step hb
  replace hS := hS.addM rfl hM
  clear hb hM
  go_wp2_with fail
  refine (roomEven_e gv14_even gv14_chk (hS.matAt 0 rfl)).mono ?_
  rintro e w2 ⟨pa, ca, pp, cp, rfl, hA, hP, hb⟩
  replace hS := hS.step hb
  replace hS := hS.addI rfl hA
  replace hS := hS.addI rfl hP
  clear hb hA hP
  replace hS := hS.box [.slice pa 2 ca, .slice pp 2 cp, .int .i64 2] 28
  obtain ⟨W1, hW1⟩ : ∃ W, w2.alloc (.cells #[.slice pa 2 ca, .slice pp 2 cp, .int .i64 2] 28) = W := ⟨_, rfl⟩
  have hS1 : St w W1 W1.heap.size _ := hW1 ▸ (hS.step (below_drewN _ _ 0))
  clear hS
  have HW1 := Lib.hid hW1
  clear hW1
  have iA := hS1.intsAt 2 rfl
  have iP := hS1.intsAt 1 rfl
  have kl_0 := hS1.boxAt 0 0 rfl rfl
  have kl_1 := hS1.boxAt 0 1 rfl rfl
  have kl_2 := hS1.boxAt 0 2 rfl rfl
  have ll := hS1.boxLt 0 rfl
  have HG := Lib.hid (fun W q d (h : Below W1.heap.size W1 W) (hm : Mat W q d [[5, 3], [4, 1]]) => roomGains_e (r := 5) (z := 2) (e := 0) (gs := [3, 1]) (by decide +kernel) (by decide +kernel) hm (iA.below h (Nat.le_refl _)) (iP.below h (Nat.le_refl _)))
  go_upto_region 2 with (fail)
  rw [HW1.out]
  obtain ⟨S, hSz⟩ : ∃ S, w2.heap.size = S := ⟨_, rfl⟩
  rw [hSz] at kl_0 kl_1 kl_2 ll
  have Hmk : Hid (∀ W, Below W1.heap.size W1 W → (W.cell? ⟨S, 0, none⟩ = some (.slice pa 2 ca) ∧ W.cell? ⟨S, 1, none⟩ = some (.slice pp 2 cp) ∧ W.cell? ⟨S, 2, none⟩ = some (.int .i64 2) ∧ Below W1.heap.size W1 W)) := fun W hG => ⟨(hG.cell (p := ⟨S, 0, none⟩) ll).trans kl_0, (hG.cell (p := ⟨S, 1, none⟩) ll).trans kl_1, (hG.cell (p := ⟨S, 2, none⟩) ll).trans kl_2, hG⟩
  go_region_held3 (fun W => W.cell? ⟨S, 0, none⟩ = some (.slice pa 2 ca) ∧ W.cell? ⟨S, 1, none⟩ = some (.slice pp 2 cp) ∧ W.cell? ⟨S, 2, none⟩ = some (.int .i64 2) ∧ Below W1.heap.size W1 W)
    (first | assumption | exact Hmk.out _ hGc | exact Hmk.out _ hGb | exact Hmk.out _ (below_drewN W1.heap.size W1 1) | exact Hmk.out _ (Below.refl _ _))
    (first
      | (go_at_call 29; refine (given14_any _).mono ?_; rintro e w3 ⟨pg, cg, rfl, hMg, hbg⟩; have hGb : Below W1.heap.size W1 w3 := Below.trans (by go_split_ands; assumption) (hbg.mono (Below.size (B := W1.heap.size) (w := W1) (by go_split_ands; assumption))))
      | (go_at_call 21; refine (HG.out _ _ _ hGb hMg).mono ?_; rintro e w4 ⟨pq, cq, rfl, hGs, hb4⟩; have hGc : Below W1.heap.size W1 w4 := hGb.trans (hb4.mono hGb.size)))
  have hS := hS1.step hGc
  replace hS := hS.addI rfl hGs
  clear hS1 hGc hGb hGs hMg hbg hb4 kl_0 kl_1 kl_2 ll iA iP HG Hmk
  go_wp2_with fail
  refine (given14_any _).mono ?_
  rintro e w5 ⟨p5, c5, rfl, hM, hb⟩
  replace hS := hS.step hb
  replace hS := hS.addM rfl hM
  clear hb hM
  go_wp2_with fail
  refine (roomLinks_e gv14_links gv14_chk (hS.matAt 0 rfl)).mono ?_
  rintro e w6 ⟨pk, ck, rfl, hM, hb⟩
  replace hS := hS.step hb
  replace hS := hS.addM rfl hM
  clear hb hM
  go_wp2_with fail
  refine (given14_any _).mono ?_
  rintro e w7 ⟨p7, c7, rfl, hM, hb⟩
  replace hS := hS.step hb
  replace hS := hS.addM rfl hM
  clear hb hM
  go_wp2_with fail
  refine (roomRange_e gv14_range (hS.matAt 0 rfl)).mono ?_
  rintro e w8 ⟨rfl, hb⟩
  replace hS := hS.step hb
  clear hb 
  replace hS := hS.box [.int .i64 7, .int .i64 2] 40
  replace hS := hS.box [.int .i64 4, .int .i64 1] 40
  go_wp2_with fail
  refine (given14_any _).mono ?_
  rintro e w9 ⟨p9, c9, rfl, hM, hb⟩
  replace hS := hS.step hb
  replace hS := hS.addM rfl hM
  clear hb hM
  go_wp2_with fail
  refine (other14_any _).mono ?_
  rintro e wa ⟨po, co, qo, d0, rfl, hA, hP, hb⟩
  replace hS := hS.step hb
  replace hS := hS.addI rfl hA
  replace hS := hS.addI rfl hP
  clear hb hA hP
  go_wp2_with fail
  refine (roomGains_e (e := 0) (gs := [2, -1]) (by decide +kernel) (by decide +kernel) (hS.matAt 2 rfl) (hS.intsAt 1 rfl) (hS.intsAt 0 rfl)).mono ?_
  rintro e wb ⟨pb, cb, rfl, hA, hb⟩
  replace hS := hS.step hb
  replace hS := hS.addI rfl hA
  clear hb hA
  go_wp2_with fail
  refine (given14_any _).mono ?_
  rintro e wc ⟨pc, cc, rfl, hM, hb⟩
  replace hS := hS.step hb
  replace hS := hS.addM rfl hM
  clear hb hM
  go_wp2_with fail
  refine (other14_any _).mono ?_
  rintro e wd ⟨pd, cd, qd, dd, rfl, hA, hP, hb⟩
  replace hS := hS.step hb
  replace hS := hS.addI rfl hA
  replace hS := hS.addI rfl hP
  clear hb hA hP
  go_wp2_with fail
  refine (roomEnvies_e (e := 0) (gs := [(1, 0)]) (by decide +kernel) (by decide +kernel) (hS.matAt 2 rfl) (hS.intsAt 1 rfl) (hS.intsAt 0 rfl)).mono ?_
  rintro e we ⟨pe, ce, rfl, oX, hb⟩
  replace hS := hS.step hb
  clear hb 
  have kl_0 := hS.boxAt 13 0 rfl rfl
  have kl_1 := hS.boxAt 13 1 rfl rfl
  have kl_2 := hS.boxAt 13 2 rfl rfl
  have ll := hS.boxLt 13 rfl
  rw [hSz] at kl_0 kl_1 kl_2 ll
  replace oX := oX.alloc (.cells (([1, 0] : List Int).map (Value.int .i64)).toArray 3)
  replace hS := hS.lit [1, 0] 2
  replace oX := oX.alloc (.cells (([7, 3] : List Int).map (Value.int .i64)).toArray 3)
  replace hS := hS.lit [7, 3] 2
  go_wp2_with fail
  skip
  refine (sameLease_true rfl rfl rfl rfl rfl rfl rfl (hS.intsAt 17 rfl) (hS.intsAt 16 rfl) (hS.intsAt 1 rfl) (hS.intsAt 0 rfl)).mono ?_
  rintro e wf ⟨rfl, hb⟩
  replace oX := oX.below hb (Nat.le_refl _)
  replace hS := hS.step hb
  clear hb 
  clear kl_0 kl_1 kl_2 ll
  replace oX := oX.alloc (.cells (([3, 1] : List Int).map (Value.int .i64)).toArray 3)
  replace hS := hS.lit [3, 1] 2
  go_wp2_with fail
  refine (sameI_true rfl rfl rfl (hS.intsAt 15 rfl) (hS.intsAt 0 rfl)).mono ?_
  rintro e wg ⟨rfl, hw⟩
  replace oX := oX.drew hw
  replace hS := hS.drew hw
  clear hw 
  replace oX := oX.alloc (.cells (([0, -3] : List Int).map (Value.int .i64)).toArray 3)
  replace hS := hS.lit [0, -3] 2
  replace oX := oX.alloc (.cells (([2, 0] : List Int).map (Value.int .i64)).toArray 3)
  replace hS := hS.lit [2, 0] 2
  replace oX := oX.alloc (.cells #[.slice (some ⟨wg.heap.size, 0, none⟩) 2 2, .slice (some ⟨wg.heap.size + 1, 0, none⟩) 2 2] 26)
  replace hS := hS.litM (ks := [1, 0]) (.cons rfl (.cons rfl .nil)) 2
  go_wp2_with fail
  refine (sameM_true rfl rfl rfl (hS.matAt 16 rfl) (hS.matAt 0 rfl)).mono ?_
  rintro e wh ⟨rfl, hw⟩
  replace oX := oX.drew hw
  replace hS := hS.drew hw
  clear hw 
  have klo_0 := hS.boxAt 14 0 rfl rfl
  have klo_1 := hS.boxAt 14 1 rfl rfl
  have llo := hS.boxLt 14 rfl
  have khi_0 := hS.boxAt 13 0 rfl rfl
  have khi_1 := hS.boxAt 13 1 rfl rfl
  have lhi := hS.boxLt 13 rfl
  replace oX := oX.alloc (.cells (([2, -1] : List Int).map (Value.int .i64)).toArray 3)
  replace hS := hS.lit [2, -1] 2
  go_wp2_with fail
  refine (sameI_true rfl rfl rfl (hS.intsAt 10 rfl) (hS.intsAt 0 rfl)).mono ?_
  rintro e wi ⟨rfl, hw⟩
  replace oX := oX.drew hw
  replace hS := hS.drew hw
  clear hw 
  clear klo_0 klo_1 llo khi_0 khi_1 lhi
  have hL := ownP_lit wi [(1, 0)] (by decide)
  have hbL : Below wi.heap.size wi (wi.alloc (.cells (cellsP [(1, 0)]).toArray 91)) := (Below.refl _ _).alloc (Nat.le_refl _) _
  replace oX := oX.below hbL (Nat.le_refl _)
  replace hS := hS.step hbL
  go_wp2_with fail
  refine (samePairs_any _ _ _ _ _ _ [(1, 0)] _ oX hL).mono ?_
  rintro e wj ⟨rfl, hw⟩
  replace hS := hS.drew hw
  clear hw hbL
  go_wp2_with fail
  go_ret
  exact ⟨rfl, hS.bel⟩
end Go.Proofs.Ytojldecldemfaaa
