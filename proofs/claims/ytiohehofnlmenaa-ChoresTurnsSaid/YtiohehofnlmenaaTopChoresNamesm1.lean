/- The top circle and the division in rounds, reckoned; plain, no program. -/
import Derived.Test.YtiohehofnlmenaaTopChoresRunsm12
import Derived.Test.YtiohehofnlmenaaTopChoresRunsm2
import Derived.Maps.RangeWalk
import Derived.RangeFuncOwn
import Derived.Test.YtiohehofnlmenaaTopChoresRunsm15
import Derived.Test.YtiohehofnlmenaaTopChoresRunsm16
import Derived.Test.YtiohehofnlmenaaTopChoresRunsm6
namespace Go.Proofs.Ytiohehofnlmenaa
set_option linter.unusedVariables false
set_option linter.unusedSimpArgs false
def topC (f : Nat → Nat) (n : Nat) : List Int :=
  match (List.range n).find? (fun k => itN f (k + 1) (lowIt f (itN f (2 * n) 0) n) == lowIt f (itN f (2 * n) 0) n) with
  | some k => if k = 0 then [] else orb f (lowIt f (itN f (2 * n) 0) n) (k + 1)
  | none => []
theorem topC_eq {f : Nat → Nat} {n : Nat} (hf : ∀ x, x < n → f x < n) (h0 : 0 < n) : topL f n = topC f n := by
  obtain ⟨L, hL1, hLn, hP, ht⟩ := top_of_low hf h0
  unfold topC
  have : (List.range n).find? (fun k => itN f (k + 1) (lowIt f (itN f (2 * n) 0) n) == lowIt f (itN f (2 * n) 0) n) = some (L - 1) := by
    rw [List.find?_range_eq_some]
    refine ⟨by rw [show L - 1 + 1 = L by omega]; simpa using hP.2.1, by simp; omega, fun j hj => ?_⟩
    have := hP.2.2 (j + 1) (by omega) (by omega)
    simpa using this
  rw [this, ht]
  simp only
  by_cases h1 : L = 1
  · rw [if_pos h1, if_pos (by omega)]
  · rw [if_neg h1, if_neg (by omega), show L - 1 + 1 = L by omega]
theorem itN_congr {f g : Nat → Nat} {n : Nat} (hf : ∀ x, x < n → f x < n) (h : ∀ x, x < n → f x = g x) : ∀ k x, x < n → itN f k x = itN g k x
  | 0, _, _ => rfl
  | k + 1, x, hx => by rw [itN, itN, ← itN_congr hf h k x hx]; exact h _ (itN_lt hf k x hx)
theorem lowIt_congr {f g : Nat → Nat} {n : Nat} (hf : ∀ x, x < n → f x < n) (h : ∀ x, x < n → f x = g x) {z : Nat} (hz : z < n) : ∀ k, lowIt f z k = lowIt g z k
  | 0 => rfl
  | k + 1 => by rw [lowIt, lowIt, lowIt_congr hf h hz k, itN_congr hf h _ _ hz]
theorem lowIt_lt {f : Nat → Nat} {n : Nat} (hf : ∀ x, x < n → f x < n) {z : Nat} (hz : z < n) (k : Nat) : lowIt f z k < n := by
  obtain ⟨j, _, e⟩ := lowIt_mem f z k
  rw [e]; exact itN_lt hf j z hz
/-- The circle, by a table of the map. -/
theorem topL_table {f : Nat → Nat} {n : Nat} (g : Nat → Nat) (h : ∀ x, x < n → f x = g x) (hg : ∀ x, x < n → g x < n) (h0 : 0 < n) : topL f n = topC g n := by
  have hf : ∀ x, x < n → f x < n := fun x hx => by rw [h x hx]; exact hg x hx
  rw [topC_eq hf h0]
  unfold topC
  have hz := itN_lt hf (2 * n) 0 h0
  have hm := lowIt_lt hf hz n
  rw [← itN_congr hf h (2 * n) 0 h0, ← lowIt_congr hf h hz n]
  have e1 : (fun k => itN f (k + 1) (lowIt f (itN f (2 * n) 0) n) == lowIt f (itN f (2 * n) 0) n) = (fun k => itN g (k + 1) (lowIt f (itN f (2 * n) 0) n) == lowIt f (itN f (2 * n) 0) n) := by
    funext k; rw [itN_congr hf h (k + 1) _ hm]
  have e2 : ∀ L, orb f (lowIt f (itN f (2 * n) 0) n) L = orb g (lowIt f (itN f (2 * n) 0) n) L := fun L => by
    unfold orb
    exact List.map_congr_left fun k _ => by rw [itN_congr hf h k _ hm]
  rw [e1]
  cases (List.range n).find? (fun k => itN g (k + 1) (lowIt f (itN f (2 * n) 0) n) == lowIt f (itN f (2 * n) 0) n) with
  | none => rfl
  | some k => simp only [e2]
def topGC (v : List (List Int)) (a : List Int) : List Int := topC (bestF (valsG v a)) v.length
theorem topG_C {v : List (List Int)} {a : List Int} (h0 : 0 < v.length) : topG v a = topGC v a :=
  topC_eq (fun y _ => by have := bestF_lt (v := valsG v a) (i := y) (by rw [valsG_len]; exact h0); rwa [valsG_len] at this) h0
def circC (v : List (List Int)) (a : List Int) : List Int := if chkA v a = 0 then topGC v a else []
theorem circL_C {v : List (List Int)} {a : List Int} : circL v a = circC v a := by
  unfold circL circC
  by_cases h : chkA v a = 0
  · rw [if_pos h, if_pos h, topG_C (chkA_zero.1 h).1.1]
  · rw [if_neg h, if_neg h]
def runC1 (v : List (List Int)) (s : List Int × List Stp) : List Int × List Stp := if freeI v s.1 < 0 then (passL s.1 (topGC v s.1), s.2 ++ [(topGC v s.1, -1, -1)]) else s
def runCStep (v : List (List Int)) (s : List Int × List Stp) (g : Int) : List Int × List Stp :=
  ((runC1 v s).1.set g.toNat (freeI v (runC1 v s).1), (runC1 v s).2 ++ [([], freeI v (runC1 v s).1, g)])
def runToC (v : List (List Int)) (o : List Int) : Nat → List Int × List Stp
  | 0 => (List.replicate (wid v) (-1), [])
  | k + 1 => runCStep v (runToC v o k) (iget o k)
theorem runTo_C {v : List (List Int)} (o : List Int) (h0 : 0 < v.length) : ∀ k, runTo v o k = runToC v o k
  | 0 => rfl
  | k + 1 => by
    rw [runTo, runToC, runTo_C o h0 k]
    unfold runStep runCStep runS1 runC1
    rw [topG_C h0]
def runAC (v : List (List Int)) (o : List Int) : List Int := if runE v o = 0 then (runToC v o o.length).1 else []
def runSC (v : List (List Int)) (o : List Int) : List Stp := if runE v o = 0 then (runToC v o o.length).2 else []
theorem runE_pos {v : List (List Int)} {o : List Int} (h : runE v o = 0) : Gds v ∧ OrdP o (wid v) := by
  unfold runE at h
  by_cases hg : chkG v = 0
  · rw [if_pos hg] at h
    by_cases ho : OrdP o (wid v)
    · exact ⟨chkG_zero.1 hg, ho⟩
    · rw [if_neg ho] at h; cases h
  · rw [if_neg hg] at h; exact absurd h hg
theorem runA_C {v : List (List Int)} {o : List Int} : runA v o = runAC v o := by
  unfold runA runAC
  by_cases h : runE v o = 0
  · rw [if_pos h, if_pos h, runTo_C o (runE_pos h).1.1]
  · rw [if_neg h, if_neg h]
theorem runS_C {v : List (List Int)} {o : List Int} : runS v o = runSC v o := by
  unfold runS runSC
  by_cases h : runE v o = 0
  · rw [if_pos h, if_pos h, runTo_C o (runE_pos h).1.1]
  · rw [if_neg h, if_neg h]
end Go.Proofs.Ytiohehofnlmenaa

/- What a text that runs straight on holds: rows, tables, lists of tables, under one name; literals, calls; no condition but sizes. -/
namespace Go.Proofs.Ytiohehofnlmenaa
open Go.ChangeShapes Go.WideShapes Go.ChangeAt Go.RowKit Go.Deep
set_option linter.unusedVariables false
set_option linter.unusedSimpArgs false

def in64B (x : Int) : Bool := decide (-9223372036854775808 ≤ x) && decide (x ≤ 9223372036854775807)
theorem in64_all {xs : List Int} (h : xs.all in64B = true) : ∀ x ∈ xs, in64 x := fun x hx => by
  have := List.all_eq_true.1 h x hx
  simp [in64B] at this
  exact this
theorem ints_lit (w : World) (xs : List Int) (hsz : xs.length ≤ 1000000) (hr : ∀ x ∈ xs, in64 x) :
    Ints (w.alloc (.cells (xs.map (Value.int .i64)).toArray 3)) (some ⟨w.heap.size, 0, none⟩) xs.length xs :=
  (Own.lit w w.heap.size (Nat.le_refl _) xs hsz (fun j hj => hr _ (iget_mem hj))).ints
theorem mat_lit (w : World) (rows : List (Option Addr × Nat × List Int)) (hsz : rows.length ≤ 1000000) (hr : ∀ r ∈ rows, Ints w r.1 r.2.1 r.2.2) :
    Mat (w.alloc (.cells (rows.map fun r => Value.slice r.1 r.2.2.length r.2.1).toArray 25)) (some ⟨w.heap.size, 0, none⟩) rows.length (rows.map fun r => r.2.2) := by
  have hb : Below w.heap.size w (w.alloc (.cells (rows.map fun r => Value.slice r.1 r.2.2.length r.2.1).toArray 25)) := (Below.refl _ w).alloc (Nat.le_refl _) _
  have hn := World.alloc_heap_new w (.cells (rows.map fun r => Value.slice r.1 r.2.2.length r.2.1).toArray 25)
  refine ⟨by simp, by omega, fun h => (by cases h), ?_, ?_⟩
  · rintro a ⟨⟩ _
    exact ⟨rfl, by simp⟩
  · rintro b o ⟨⟩ j hj
    have hj' : j < rows.length := by simpa using hj
    have hg : rget (rows.map fun r => r.2.2) j = rows[j].2.2 := by rw [rget_of hj]; simp
    refine ⟨rows[j].1, rows[j].2.1, ?_, ?_⟩
    · simp only [World.cell?]
      rw [hn, hg, Nat.zero_add]
      simp [hj']
    · rw [hg]
      exact (hr _ (List.getElem_mem hj')).below hb (Nat.le_refl _)

inductive Item where
  | ints (p : Option Addr) (n c : Nat) (xs : List Int)
  | mat (p : Option Addr) (n c : Nat) (v : List (List Int))
  | mats (b : Nat) (vs : List Value) (ms : List (List (List Int)))
def Item.ok (w : World) : Item → Prop
  | .ints p n c xs => xs.length = n ∧ Ints w p c xs
  | .mat p n c v => v.length = n ∧ Mat w p c v
  | .mats b vs ms => vs.length = ms.length ∧ b < w.heap.size ∧ ∀ (j : Nat) (v : List (List Int)), ms[j]? = some v → ∃ p c, w.cell? ⟨b, j, none⟩ = some (.slice p v.length c) ∧ vs[j]? = some (.slice p v.length c) ∧ Mat w p c v
theorem Item.ok_below {w w' : World} {i : Item} (h : i.ok w) (hb : Below w.heap.size w w') : i.ok w' := by
  cases i with
  | ints p n c xs => exact ⟨h.1, Ints.below h.2 hb (Nat.le_refl _)⟩
  | mat p n c v => exact ⟨h.1, Mat.below h.2 hb (Nat.le_refl _)⟩
  | mats b vs ms =>
    obtain ⟨h0, h1, h2⟩ := h
    refine ⟨h0, Nat.lt_of_lt_of_le h1 hb.size, fun j v hm => ?_⟩
    obtain ⟨p, c, h3, h4, h5⟩ := h2 j v hm
    exact ⟨p, c, (hb.cell (p := ⟨b, j, none⟩) h1).trans h3, h4, h5.below hb (Nat.le_refl _)⟩
/-- The items of these numbers are rows: what they hold, and their values. -/
inductive RowsAt (l : List Item) : List Nat → List (List Int) → List Value → Prop where
  | nil : RowsAt l [] [] []
  | cons {k : Nat} {ks : List Nat} {p : Option Addr} {n c : Nat} {x : List Int} {v : List (List Int)} {vs : List Value} (h : l[k]? = some (.ints p n c x)) (t : RowsAt l ks v vs) : RowsAt l (k :: ks) (x :: v) (.slice p n c :: vs)
  | nul {k : Nat} {ks : List Nat} {v : List (List Int)} {vs : List Value} (t : RowsAt l ks v vs) : RowsAt l (k :: ks) ([] :: v) (.slice none 0 0 :: vs)
inductive MatsAt (l : List Item) : List Nat → List (List (List Int)) → List Value → Prop where
  | nil : MatsAt l [] [] []
  | cons {k : Nat} {ks : List Nat} {p : Option Addr} {n c : Nat} {x : List (List Int)} {v : List (List (List Int))} {vs : List Value} (h : l[k]? = some (.mat p n c x)) (t : MatsAt l ks v vs) : MatsAt l (k :: ks) (x :: v) (.slice p n c :: vs)
  | nul {k : Nat} {ks : List Nat} {v : List (List (List Int))} {vs : List Value} (t : MatsAt l ks v vs) : MatsAt l (k :: ks) ([] :: v) (.slice none 0 0 :: vs)
theorem RowsAt.spec {l : List Item} {w : World} (hl : ∀ i ∈ l, i.ok w) {ks : List Nat} {v : List (List Int)} {vs : List Value} (h : RowsAt l ks v vs) :
    vs.length = v.length ∧ ∀ (j : Nat) (x : List Int), v[j]? = some x → ∃ p c, vs[j]? = some (Value.slice p x.length c) ∧ Ints w p c x := by
  induction h with
  | nil => exact ⟨rfl, fun j x h => (by simp at h)⟩
  | cons h t ih =>
    refine ⟨by simp [ih.1], fun j x hj => ?_⟩
    cases j with
    | zero =>
      simp at hj; subst hj
      obtain ⟨h1, h2⟩ := hl _ (List.mem_of_getElem? h)
      exact ⟨_, _, by rw [h1]; rfl, h2⟩
    | succ j => exact ih.2 j x (by simpa using hj)
  | nul t ih =>
    refine ⟨by simp [ih.1], fun j x hj => ?_⟩
    cases j with
    | zero => simp at hj; subst hj; exact ⟨none, 0, rfl, Ints.ofNil w⟩
    | succ j => exact ih.2 j x (by simpa using hj)
theorem MatsAt.spec {l : List Item} {w : World} (hl : ∀ i ∈ l, i.ok w) {ks : List Nat} {v : List (List (List Int))} {vs : List Value} (h : MatsAt l ks v vs) :
    vs.length = v.length ∧ ∀ (j : Nat) (x : List (List Int)), v[j]? = some x → ∃ p c, vs[j]? = some (Value.slice p x.length c) ∧ Mat w p c x := by
  induction h with
  | nil => exact ⟨rfl, fun j x h => (by simp at h)⟩
  | cons h t ih =>
    refine ⟨by simp [ih.1], fun j x hj => ?_⟩
    cases j with
    | zero =>
      simp at hj; subst hj
      obtain ⟨h1, h2⟩ := hl _ (List.mem_of_getElem? h)
      exact ⟨_, _, by rw [h1]; rfl, h2⟩
    | succ j => exact ih.2 j x (by simpa using hj)
  | nul t ih =>
    refine ⟨by simp [ih.1], fun j x hj => ?_⟩
    cases j with
    | zero => simp at hj; subst hj; exact ⟨none, 0, rfl, Mat.ofNil w⟩
    | succ j => exact ih.2 j x (by simpa using hj)
theorem mat_new (w : World) (v : List (List Int)) (vs : List Value) (hsz : v.length ≤ 1000000) (hl : vs.length = v.length) (h : ∀ (j : Nat) (x : List Int), v[j]? = some x → ∃ p c, vs[j]? = some (Value.slice p x.length c) ∧ Ints w p c x) :
    Mat (w.alloc (.cells vs.toArray 25)) (some ⟨w.heap.size, 0, none⟩) v.length v := by
  have hb : Below w.heap.size w (w.alloc (.cells vs.toArray 25)) := (Below.refl _ w).alloc (Nat.le_refl _) _
  have hn := World.alloc_heap_new w (.cells vs.toArray 25)
  refine ⟨Nat.le_refl _, by omega, fun h => (by cases h), ?_, ?_⟩
  · rintro a ⟨⟩ _
    exact ⟨rfl, by simp⟩
  · rintro b o ⟨⟩ j hj
    obtain ⟨p, c, h1, h2⟩ := h j (rget v j) (by rw [rget_of hj]; simp [hj])
    refine ⟨p, c, ?_, h2.below hb (Nat.le_refl _)⟩
    simp only [World.cell?]
    rw [hn, Nat.zero_add]
    simp [h1]

/-- In w, of B blocks, the items read as they say; what lay in w0 lies as it lay. -/
structure St (w0 w : World) (B : Nat) (l : List Item) : Prop where
  size : w.heap.size = B
  bel : Below w0.heap.size w0 w
  all : ∀ i ∈ l, i.ok w
theorem St.start (w : World) : St w w w.heap.size [] := ⟨rfl, Below.refl _ _, fun _ h => (by cases h)⟩
section
variable {w0 w : World} {B : Nat} {l : List Item}
theorem St.step {w' : World} (h : St w0 w B l) (hb : Below w.heap.size w w') : St w0 w' w'.heap.size l :=
  ⟨rfl, h.bel.trans (hb.mono h.bel.size), fun i hi => Item.ok_below (h.all i hi) hb⟩
theorem St.drew {w' : World} (h : St w0 w B l) (hw : ∃ n, w' = w.drewN n) : St w0 w' w'.heap.size l := by
  obtain ⟨n, rfl⟩ := hw; exact h.step (below_drewN _ _ _)
theorem St.add (h : St w0 w B l) (i : Item) (hi : i.ok w) : St w0 w B (i :: l) :=
  ⟨h.size, h.bel, fun j hj => by
    rcases List.mem_cons.1 hj with rfl | hj
    · exact hi
    · exact h.all j hj⟩
theorem St.pop {i : Item} (h : St w0 w B (i :: l)) : St w0 w B l := ⟨h.size, h.bel, fun j hj => h.all j (List.mem_cons_of_mem _ hj)⟩
theorem St.addI {n c : Nat} {p : Option Addr} {xs : List Int} (h : St w0 w B l) (hn : xs.length = n) (hi : Ints w p c xs) : St w0 w B (.ints p n c xs :: l) := h.add _ ⟨hn, hi⟩
theorem St.addM {n c : Nat} {p : Option Addr} {v : List (List Int)} (h : St w0 w B l) (hn : v.length = n) (hi : Mat w p c v) : St w0 w B (.mat p n c v :: l) := h.add _ ⟨hn, hi⟩
theorem St.intsAt (h : St w0 w B l) (k : Nat) {p : Option Addr} {n c : Nat} {xs : List Int} (hk : l[k]? = some (.ints p n c xs)) : Ints w p c xs := (h.all _ (List.mem_of_getElem? hk)).2
theorem St.matAt (h : St w0 w B l) (k : Nat) {p : Option Addr} {n c : Nat} {v : List (List Int)} (hk : l[k]? = some (.mat p n c v)) : Mat w p c v := (h.all _ (List.mem_of_getElem? hk)).2
theorem St.matsAt (h : St w0 w B l) (k : Nat) {b : Nat} {vs : List Value} {ms : List (List (List Int))} (hk : l[k]? = some (.mats b vs ms)) : ∀ (j : Nat) (v : List (List Int)), ms[j]? = some v → ∃ p c, w.cell? ⟨b, j, none⟩ = some (.slice p v.length c) ∧ Mat w p c v := fun j v hj => by
  obtain ⟨p, c, h1, _, h2⟩ := (h.all _ (List.mem_of_getElem? hk)).2.2 j v hj
  exact ⟨p, c, h1, h2⟩
theorem St.bump (h : St w0 w B l) (o : Obj) : St w0 (w.alloc o) (B + 1) l :=
  ⟨by simp [h.size], h.bel.alloc h.bel.size _, fun i hi => Item.ok_below (h.all i hi) ((Below.refl _ _).alloc (Nat.le_refl _) _)⟩
/-- '[]int{..}'. -/
theorem St.lit (h : St w0 w B l) (xs : List Int) (n : Nat) (hn : xs.length = n := by rfl) (hsz : n ≤ 1000 := by decide) (hr : xs.all in64B = true := by decide +kernel) :
    St w0 (w.alloc (.cells (xs.map (Value.int .i64)).toArray 3)) (B + 1) (.ints (some ⟨B, 0, none⟩) n n xs :: l) :=
  (h.bump _).add _ ⟨hn, by subst hn; rw [← h.size]; exact ints_lit w xs (by omega) (in64_all hr)⟩
/-- '[][]int{..}', its rows being items (by their numbers). -/
theorem St.litM (h : St w0 w B l) {ks : List Nat} {v : List (List Int)} {vs : List Value} (hm : RowsAt l ks v vs) (n : Nat) (hn : v.length = n := by rfl) (hsz : n ≤ 1000 := by decide) :
    St w0 (w.alloc (.cells vs.toArray 25)) (B + 1) (.mat (some ⟨B, 0, none⟩) n n v :: l) :=
  (h.bump _).add _ ⟨hn, by
    subst hn; rw [← h.size]
    obtain ⟨h1, h2⟩ := hm.spec h.all
    exact mat_new w v vs (by omega) h1 h2⟩
/-- 'make([][]int, n)', n a numeral. -/
theorem St.mkM (h : St w0 w B l) (n : Nat) (hsz : n ≤ 1000 := by decide) :
    St w0 (w.alloc (.cells (List.replicate n (.slice none 0 0)).toArray 25)) (B + 1) (.mat (some ⟨B, 0, none⟩) n n (List.replicate n []) :: l) :=
  (h.bump _).add _ ⟨by simp, by
    rw [← h.size]
    have := mat_new w (List.replicate n []) (List.replicate n (.slice none 0 0)) (by simp; omega) (by simp) (fun j x hj => by
      rw [List.getElem?_replicate] at hj
      split at hj
      · rename_i hlt
        cases hj
        exact ⟨none, 0, by rw [List.getElem?_replicate, if_pos hlt]; rfl, Ints.ofNil w⟩
      · cases hj)
    simpa using this⟩
/-- '[][][]int{..}', its tables being items. -/
theorem St.litMs (h : St w0 w B l) {ks : List Nat} {ms : List (List (List Int))} {vs : List Value} (hm : MatsAt l ks ms vs) (T : TypeId) :
    St w0 (w.alloc (.cells vs.toArray T)) (B + 1) (.mats B vs ms :: l) := by
  obtain ⟨h1, h2⟩ := hm.spec h.all
  refine (h.bump _).add _ ⟨h1, by simp [h.size], fun j v hj => ?_⟩
  obtain ⟨p, c, h3, h4⟩ := h2 j v hj
  refine ⟨p, c, ?_, h3, h4.below ((Below.refl _ w).alloc (Nat.le_refl _) _) (Nat.le_refl _)⟩
  have hn := World.alloc_heap_new w (.cells vs.toArray T)
  rw [← h.size]
  simp only [World.cell?]
  rw [hn]
  simp [h3]
/-- What goes on: the items, in every world that keeps what lies. -/
theorem St.frame (h : St w0 w B l) : ∃ G : World → Prop, G w ∧ Hid (∀ a b, G a → Below a.heap.size a b → G b) ∧ Hid (∀ a, G a → St w0 a a.heap.size l) :=
  ⟨fun a => St w0 a a.heap.size l, ⟨rfl, h.bel, h.all⟩, fun a b ha hb => ha.step hb, fun a ha => ha⟩
end
end Go.Proofs.Ytiohehofnlmenaa

/- Contracts of the chores' functions at given lists, for examples; no condition but what each says. -/
namespace Go.Proofs.Ytiohehofnlmenaa
set_option linter.unusedVariables false
set_option linter.unusedSimpArgs false
open Go.ChangeShapes Go.WideShapes Go.ChangeAt Go.RowKit Go.Deep

theorem sameC_e {p q : Option Addr} {c d n m : Nat} {xs ys : List Int} {w : World} (e : xs = ys) (hx : Ints w p c xs) (hy : Ints w q d ys) (hn : xs.length = n := by rfl) (hm : ys.length = m := by rfl) :
    Calls Try.prog 16 #[.slice p n c, .slice q m d] w fun e w' => e = .returned (.bool true) ∧ ∃ n, w' = w.drewN n := by
  subst hn hm e; exact eqI_true hx hy
theorem pickC_e {p q : Option Addr} {c d n m : Nat} {v : List (List Int)} {ts a k : List Int} {e : Int} {w : World} (h1 : cpickL v ts = a) (h2 : cpickT v ts = k) (h3 : pickE v ts = e) (hx : Mat w p c v) (hy : Ints w q d ts) {na nk : Nat} (hna : a.length = na := by rfl) (hnk : k.length = nk := by rfl) (hv : v.length = n := by rfl) (ht : ts.length = m := by rfl) :
    Calls Try.prog 24 #[.agg #[.slice p n c], .slice q m d] w fun e' w' => ∃ pa ca pk ck, e' = .returned (.tuple #[.slice pa na ca, .slice pk nk ck, .int .i64 e]) ∧ Ints w' pa ca a ∧ Ints w' pk ck k ∧ Below w.heap.size w w' := by
  subst hv ht hna hnk h1 h2 h3
  refine (choresPick_any p q c d v ts w hx hy).mono ?_
  rintro e' w' ⟨pa, ca, pk, ck, he, h1, h2, h3⟩
  exact ⟨pa, ca, pk, ck, he, h1.ints, h2.ints, h3⟩
theorem enviesC_e {p q : Option Addr} {c d n m : Nat} {v : List (List Int)} {a : List Int} {k : Nat} {e : Int} {w : World} (h1 : (envG cP v a).length = k) (h3 : chkA v a = e) (hx : Mat w p c v) (hy : Ints w q d a) (hv : v.length = n := by rfl) (ht : a.length = m := by rfl) :
    Calls Try.prog 11 #[.agg #[.slice p n c], .slice q m d] w fun e' w' => ∃ pa ca, e' = .returned (.tuple #[.slice pa k ca, .int .i64 e]) ∧ Below w.heap.size w w' := by
  subst hv ht h1 h3
  refine (choresEnvies_any p c v q d a w hx hy).mono ?_
  rintro e' w' ⟨pa, ca, he, _, h3⟩
  exact ⟨pa, ca, he, h3⟩
theorem runC_e {p q : Option Addr} {c d n m : Nat} {v : List (List Int)} {o a : List Int} {k : Nat} {e : Int} {w : World} (h1 : runA v o = a) (h2 : (runS v o).length = k) (h3 : runE v o = e) (hx : Mat w p c v) (hy : Ints w q d o) {na : Nat} (hna : a.length = na := by rfl) (hv : v.length = n := by rfl) (ht : o.length = m := by rfl) :
    Calls Try.prog 26 #[.agg #[.slice p n c], .slice q m d] w fun e' w' => ∃ pa ca pk ck, e' = .returned (.tuple #[.slice pa na ca, .slice pk k ck, .int .i64 e]) ∧ Ints w' pa ca a ∧ Below w.heap.size w w' := by
  subst hv ht hna h1 h2 h3
  refine (choresRun_any p q c d v o w hx hy).mono ?_
  rintro e' w' ⟨pa, ca, pk, ck, Q, D, he, h1, h2, h3⟩
  exact ⟨pa, ca, pk, ck, he, h1.ints, h3⟩
theorem burdC_e {p q : Option Addr} {c d n m : Nat} {v : List (List Int)} {a xs : List Int} {e : Int} {w : World} (h1 : burdL v a = xs) (h3 : chkA v a = e) (hx : Mat w p c v) (hy : Ints w q d a) {k : Nat} (hk : xs.length = k := by rfl) (hv : v.length = n := by rfl) (ht : a.length = m := by rfl) :
    Calls Try.prog 13 #[.agg #[.slice p n c], .slice q m d] w fun e' w' => ∃ pa ca, e' = .returned (.tuple #[.slice pa k ca, .int .i64 e]) ∧ Ints w' pa ca xs ∧ Below w.heap.size w w' := by
  subst hv ht hk h1 h3
  refine (choresBurdened_any p c v q d a w hx hy).mono ?_
  rintro e' w' ⟨pa, ca, he, h1, h3⟩
  exact ⟨pa, ca, he, h1.ints, h3⟩
theorem circC_e {p q : Option Addr} {c d n m : Nat} {v : List (List Int)} {a xs : List Int} {e : Int} {w : World} (h1 : circL v a = xs) (h3 : chkA v a = e) (hx : Mat w p c v) (hy : Ints w q d a) {k : Nat} (hk : xs.length = k := by rfl) (hv : v.length = n := by rfl) (ht : a.length = m := by rfl) :
    Calls Try.prog 19 #[.agg #[.slice p n c], .slice q m d] w fun e' w' => ∃ pa ca, e' = .returned (.tuple #[.slice pa k ca, .int .i64 e]) ∧ Ints w' pa ca xs ∧ Below w.heap.size w w' := by
  subst hv ht hk h1 h3
  refine (choresCircle_any p c v q d a w hx hy).mono ?_
  rintro e' w' ⟨pa, ca, he, h1, h3⟩
  exact ⟨pa, ca, he, h1.ints, h3⟩
theorem oneC_e {p q : Option Addr} {c d n m : Nat} {v : List (List Int)} {a : List Int} {j : Nat} {ps : List (Nat × Nat)} {e : Int} {w : World} (h1 : (oneM v a).length = j) (h2 : oneN v a = ps) (h3 : chkA v a = e) (hx : Mat w p c v) (hy : Ints w q d a) {k : Nat} (hk : ps.length = k := by rfl) (hv : v.length = n := by rfl) (ht : a.length = m := by rfl) :
    Calls Try.prog 17 #[.agg #[.slice p n c], .slice q m d] w fun e' w' => ∃ pm cm pq cq, e' = .returned (.tuple #[.slice pm j cm, .slice pq k cq, .int .i64 e]) ∧ OwnP w' w.heap.size pq cq ps ∧ Below w.heap.size w w' := by
  subst hv ht hk h1 h2 h3
  refine (choresOne_any p c v q d a w hx hy).mono ?_
  rintro e' w' ⟨pm, cm, pq, cq, he, h1, h2, h3⟩
  exact ⟨pm, cm, pq, cq, he, h2, h3⟩

/-- The top circle, by a table of the best bundles. -/
theorem topG_table {v : List (List Int)} {a : List Int} (g : Nat → Nat) {l : List Int} (h : ∀ x, x < v.length → bestF (valsG v a) x = g x) (hg : ∀ x, x < v.length → g x < v.length) (h0 : 0 < v.length) (hl : topC g v.length = l) : topG v a = l := by
  unfold topG
  rw [topL_table g h hg h0]; exact hl
theorem run_table {v : List (List Int)} {o : List Int} {A : List Int} {S : List Stp} (hE : runE v o = 0) (h : runTo v o o.length = (A, S)) : runA v o = A ∧ runS v o = S := by
  unfold runA runS
  rw [if_pos hE, if_pos hE, h]
  exact ⟨rfl, rfl⟩

/-- The chapter's chores. -/
def GV24 : List (List Int) := [[5, 3, 1], [2, 2, 2]]
set_option maxHeartbeats 800000 in
theorem given24_any (w : World) : Calls Try.prog 35 #[] w fun e w' => ∃ p c, e = .returned (.agg #[.slice p 2 c]) ∧ Mat w' p c GV24 ∧ Below w.heap.size w w' := by
  go_enter Try.func35, Try.ntmps35
  have hS := (((((St.start w).bump (.cells #[.slice (some ⟨w.heap.size + 1 + 1 + 1, 0, none⟩) 2 2] 24)).lit [5, 3, 1] 3).lit [2, 2, 2] 3).litM (ks := [1, 0]) (.cons rfl (.cons rfl .nil)) 2)
  go_wp2
  exact bodyPost_ret (v := .agg #[.slice (some ⟨w.heap.size + 1 + 1 + 1, 0, none⟩) 2 2]) (by simp [results, Try.results35, go_sem]) rfl ⟨_, _, rfl, hS.matAt 0 rfl, hS.bel⟩
end Go.Proofs.Ytiohehofnlmenaa

/- The walk of alive (chores): the chapter's examples hold; no condition. -/
namespace Go.Proofs.Ytiohehofnlmenaa
set_option linter.unusedVariables false
set_option linter.unusedSimpArgs false
open Go.ChangeShapes Go.WideShapes Go.ChangeAt Go.RowKit Go.Deep

set_option maxHeartbeats 4000000 in
set_option maxRecDepth 100000 in
theorem alive24_any (w : World) : Calls Try.prog 29 #[] w fun e w' => e = .returned (.bool true) ∧ Below w.heap.size w w' := by
  go_enter Try.func29, Try.ntmps29
  have hS := St.start w
  go_wp2_with fail
  refine (given24_any _).mono ?_
  rintro e w1 ⟨p1, c1, rfl, hM, hb⟩
  replace hS := hS.step hb
  replace hS := hS.addM rfl hM
  clear hb hM
  replace hS := hS.lit [0, 1, 0] 3
  go_wp2_with fail
  refine (pickC_e (a := [1, 0, 0]) (k := [2, 0, 1]) (e := 0) (by decide +kernel) (by decide +kernel) (by decide +kernel) (hS.matAt 1 rfl) (hS.intsAt 0 rfl)).mono ?_
  rintro e w2 ⟨pa, ca, pk, ck, rfl, hA, hK, hb⟩
  replace hS := hS.step hb
  replace hS := hS.addI rfl hA
  replace hS := hS.addI rfl hK
  clear hb hA hK
  go_wp2_with fail
  refine (given24_any _).mono ?_
  rintro e w3 ⟨p2, c2, rfl, hM, hb⟩
  replace hS := hS.step hb
  replace hS := hS.addM rfl hM
  clear hb hM
  replace hS := hS.lit [1, 0, 0] 3
  go_wp2_with fail
  refine (enviesC_e (k := 0) (e := 0) (by decide +kernel) (by decide +kernel) (hS.matAt 1 rfl) (hS.intsAt 0 rfl)).mono ?_
  rintro e w4 ⟨pb, cb, rfl, hb⟩
  replace hS := hS.step hb
  clear hb 
  go_wp2_with fail
  refine (given24_any _).mono ?_
  rintro e w5 ⟨p3, c3, rfl, hM, hb⟩
  replace hS := hS.step hb
  replace hS := hS.addM rfl hM
  clear hb hM
  replace hS := hS.lit [0, 1, 2] 3
  go_wp2_with fail
  refine (runC_e (a := [0, 1, 1]) (k := (runS GV24 [0, 1, 2]).length) (e := 0) (runA_C.trans (by decide +kernel)) rfl (by decide +kernel) (hS.matAt 1 rfl) (hS.intsAt 0 rfl)).mono ?_
  rintro e w6 ⟨pr, cr, ps, cs, rfl, hA, hb⟩
  replace hS := hS.step hb
  replace hS := hS.addI rfl hA
  clear hb hA
  replace hS := hS.lit [1, 0, 0] 3
  go_wp2_with fail
  refine (sameC_e rfl (hS.intsAt 7 rfl) (hS.intsAt 0 rfl)).mono ?_
  rintro e w7 ⟨rfl, hw⟩
  replace hS := hS.drew hw
  clear hw 
  replace hS := hS.lit [2, 0, 1] 3
  go_wp2_with fail
  refine (sameC_e rfl (hS.intsAt 7 rfl) (hS.intsAt 0 rfl)).mono ?_
  rintro e w8 ⟨rfl, hw⟩
  replace hS := hS.drew hw
  clear hw 
  replace hS := hS.lit [0, 1, 1] 3
  go_wp2_with fail
  refine (sameC_e rfl (hS.intsAt 3 rfl) (hS.intsAt 0 rfl)).mono ?_
  rintro e w9 ⟨rfl, hw⟩
  replace hS := hS.drew hw
  clear hw 
  go_wp2_with fail
  go_ret
  exact ⟨rfl, hS.bel⟩
end Go.Proofs.Ytiohehofnlmenaa

/- The walk of ChoresNames: the errors and the examples are as they are told; no condition.  (Printed by wip/gennames24.py.) -/
namespace Go.Proofs.Ytiohehofnlmenaa
set_option linter.unusedVariables false
set_option linter.unusedSimpArgs false
open Go.ChangeShapes Go.WideShapes Go.ChangeAt Go.RowKit Go.Deep

/-- A literal row of pairs. -/
theorem OwnP.lit (w : World) (xs : List (Nat × Nat)) (hsz : xs.length ≤ 1000000) :
    OwnP (w.alloc (.cells (cellsP xs).toArray 63)) w.heap.size (some ⟨w.heap.size, 0, none⟩) xs.length xs := by
  have hl : (cellsP xs).length = xs.length * 2 := by
    clear hsz
    induction xs with
    | nil => rfl
    | cons x xs ih => simp only [cellsP, List.flatMap_cons, List.length_append, List.length_cons, List.length_nil] at ih ⊢; omega
  refine ⟨?_⟩
  have := World.ownsRow_lit (e := 63) (size := 2) (base := w.heap.size) w (cellsP xs).toArray xs.length (Nat.le_refl _) (by simp [maxLen]; omega) (by simp [hl])
  simpa using this

/-- 'make([][]int, n)' at a numeral, run wherever it stands. -/
theorem run_mkM (n : Nat) (hn : n ≤ 100000) (W : World) : (Instr.makeSlice 22 (.int .i64 (n : Int)) (.int .i64 (n : Int))).run Try.prog W = .ok (.slice (some ⟨W.heap.size, 0, none⟩) n n) (W.alloc (.cells (List.replicate n (.slice none 0 0)).toArray 25)) := by
  obtain ⟨i, hi, hz0, hz1, hz2⟩ := info_parts infoRow
  have hrun := run_make (P := Try.prog) W 22 25 i (.slice none 0 0) Try.underlying22 hi hz0 .i64 .i64 (n : Int) (n : Int) (by omega) (by omega) (by rw [hz2]; omega) (by omega)
  rw [hz1] at hrun
  simp only [Int.toNat_natCast] at hrun
  have hcs : madeCells (Value.slice none 0 0).cells (n * 1) = (List.replicate n (Value.slice none 0 0)).toArray := by
    apply Array.toList_inj.1
    rw [Nat.mul_one]
    exact (toList_madeCells_one _ _).trans (by simp)
  rw [hcs] at hrun
  exact hrun
def BV24 : List (List Int) := [[5, 1, 1], [1, 5, 1]]
def SV24 : List (List Int) := [[1, 10, 10], [1, 10, 10]]
theorem both_top : topG BV24 [0, 1, -1] = [0, 1] := topG_table (fun x => if x = 0 then 1 else 0) (by decide +kernel) (by decide +kernel) (by decide) (by decide +kernel)
theorem both_none : topG BV24 [1, 0, -1] = [] := topG_table (fun x => x) (by decide +kernel) (by decide +kernel) (by decide) (by decide +kernel)
theorem both_run : runTo BV24 [0, 1, 2] 3 = ([1, 0, 0], [([], 0, 0), ([], 1, 1), ([0, 1], -1, -1), ([], 0, 2)]) := by
  have h0 : runTo BV24 [0, 1, 2] 0 = ([-1, -1, -1], []) := rfl
  have h1 : runTo BV24 [0, 1, 2] 1 = ([0, -1, -1], [([], 0, 0)]) := (run_no h0 (by decide +kernel)).trans (by decide +kernel)
  have h2 : runTo BV24 [0, 1, 2] 2 = ([0, 1, -1], [([], 0, 0), ([], 1, 1)]) := (run_no h1 (by decide +kernel)).trans (by decide +kernel)
  exact (run_yes h2 (by decide +kernel) both_top.symm).trans (by decide +kernel)
theorem both_all : runA BV24 [0, 1, 2] = [1, 0, 0] ∧ (runS BV24 [0, 1, 2]).length = 4 := by
  obtain ⟨h1, h2⟩ := run_table (v := BV24) (o := [0, 1, 2]) (by decide +kernel) both_run
  exact ⟨h1, by rw [h2]; rfl⟩
theorem circ_of {v : List (List Int)} {a l : List Int} (h : chkA v a = 0) (hl : topG v a = l) : circL v a = l := (circL_ok h).trans hl
theorem circ_err {v : List (List Int)} {a : List Int} (h : chkA v a ≠ 0) : circL v a = [] := circL_err h
set_option maxHeartbeats 8000000 in
set_option maxRecDepth 100000 in
theorem names24_walk (w : World) : Calls Try.prog 6 #[] w fun e w' => e = .returned (.bool true) ∧ Below w.heap.size w w' := by
  go_enter Try.func6, Try.ntmps6
  have mk7 : ∀ W, (Instr.makeSlice 22 (.int .i64 7) (.int .i64 7)).run Try.prog W = .ok (.slice (some ⟨W.heap.size, 0, none⟩) 7 7) (W.alloc (.cells (List.replicate 7 (.slice none 0 0)).toArray 25)) := fun W => run_mkM 7 (by omega) W
  have hS := St.start w
  go_wp2_with fail
  refine (given24_any _).mono ?_
  rintro e w1 ⟨pw1, cw1, rfl, hM, hb⟩
  replace hS := hS.step hb
  replace hS := hS.addM rfl hM
  clear hb hM
  replace hS := hS.lit [0] 1
  go_wp2_with fail
  refine (enviesC_e (k := 0) (e := 8) (by decide +kernel) (by decide +kernel) (hS.matAt 1 rfl) (hS.intsAt 0 rfl)).mono ?_
  rintro e w2 ⟨pw2, cw2, rfl, hb⟩
  replace hS := hS.step hb
  clear hb 
  go_wp2_with fail
  refine (burdC_e (xs := []) (e := 8) (by decide +kernel) (by decide +kernel) (Mat.ofNil _) (Ints.ofNil _)).mono ?_
  rintro e w3 ⟨pw3, cw3, rfl, hA, hb⟩
  replace hS := hS.step hb
  replace hS := hS.addI rfl hA
  clear hb hA
  go_wp2_with fail
  refine (given24_any _).mono ?_
  rintro e w4 ⟨pw4, cw4, rfl, hM, hb⟩
  replace hS := hS.step hb
  replace hS := hS.addM rfl hM
  clear hb hM
  replace hS := hS.lit [0, 1, 2] 3
  go_wp2_with fail
  refine (oneC_e (j := 0) (ps := []) (e := 8) (by decide +kernel) (by decide +kernel) (by decide +kernel) (hS.matAt 1 rfl) (hS.intsAt 0 rfl)).mono ?_
  rintro e w5 ⟨pw5, cw5, qw5, dw5, rfl, _, hb⟩
  replace hS := hS.step hb
  clear hb 
  go_wp2_with fail
  refine (given24_any _).mono ?_
  rintro e w6 ⟨pw6, cw6, rfl, hM, hb⟩
  replace hS := hS.step hb
  replace hS := hS.addM rfl hM
  clear hb hM
  replace hS := hS.lit [2] 1
  go_wp2_with fail
  refine (pickC_e (a := []) (k := []) (e := 8) (by decide +kernel) (by decide +kernel) (by decide +kernel) (hS.matAt 1 rfl) (hS.intsAt 0 rfl)).mono ?_
  rintro e w7 ⟨paw7, caw7, pkw7, ckw7, rfl, hA, hK, hb⟩
  replace hS := hS.step hb
  replace hS := hS.addI rfl hA
  replace hS := hS.addI rfl hK
  clear hb hA hK
  replace hS := hS.mkM 7
  replace hS := hS.lit [9] 1
  go_wp2_with fail
  refine (pickC_e (a := []) (k := []) (e := 4) (by decide +kernel) (by decide +kernel) (by decide +kernel) (hS.matAt 1 rfl) (hS.intsAt 0 rfl)).mono ?_
  rintro e w8 ⟨paw8, caw8, pkw8, ckw8, rfl, hA, hK, hb⟩
  replace hS := hS.step hb
  replace hS := hS.addI rfl hA
  replace hS := hS.addI rfl hK
  clear hb hA hK
  go_wp2_with fail
  refine (given24_any _).mono ?_
  rintro e w9 ⟨pw9, cw9, rfl, hM, hb⟩
  replace hS := hS.step hb
  replace hS := hS.addM rfl hM
  clear hb hM
  go_wp2_with fail
  refine (circC_e (xs := []) (e := 8) (circ_err (by decide +kernel)) (by decide +kernel) (hS.matAt 0 rfl) (Ints.ofNil _)).mono ?_
  rintro e w10 ⟨pw10, cw10, rfl, hA, hb⟩
  replace hS := hS.step hb
  replace hS := hS.addI rfl hA
  clear hb hA
  go_wp2_with fail
  refine (given24_any _).mono ?_
  rintro e w11 ⟨pw11, cw11, rfl, hM, hb⟩
  replace hS := hS.step hb
  replace hS := hS.addM rfl hM
  clear hb hM
  replace hS := hS.lit [0, 0] 2
  go_wp2_with fail
  refine (runC_e (a := []) (k := 0) (e := 8) (runA_C.trans (by decide +kernel)) ((congrArg List.length runS_C).trans (by decide +kernel)) (by decide +kernel) (hS.matAt 1 rfl) (hS.intsAt 0 rfl)).mono ?_
  rintro e w12 ⟨paw12, caw12, pkw12, ckw12, rfl, hA, hb⟩
  replace hS := hS.step hb
  replace hS := hS.addI rfl hA
  clear hb hA
  go_wp2_with fail
  refine (given24_any _).mono ?_
  rintro e w13 ⟨pw13, cw13, rfl, hM, hb⟩
  replace hS := hS.step hb
  replace hS := hS.addM rfl hM
  clear hb hM
  replace hS := hS.lit [3] 1
  go_wp2_with fail
  refine (runC_e (a := []) (k := 0) (e := 8) (runA_C.trans (by decide +kernel)) ((congrArg List.length runS_C).trans (by decide +kernel)) (by decide +kernel) (hS.matAt 1 rfl) (hS.intsAt 0 rfl)).mono ?_
  rintro e w14 ⟨paw14, caw14, pkw14, ckw14, rfl, hA, hb⟩
  replace hS := hS.step hb
  replace hS := hS.addI rfl hA
  clear hb hA
  replace hS := hS.lit [5, 1, 1] 3
  replace hS := hS.lit [1, 5, 1] 3
  replace hS := hS.litM (ks := [1, 0]) (.cons rfl (.cons rfl .nil)) 2
  replace hS := hS.litMs (ks := [0]) (.cons rfl .nil) 24
  replace hS := hS.lit [0, 1, -1] 3
  go_wp2_with fail
  refine (circC_e (xs := [0, 1]) (e := 0) (circ_of (v := BV24) (by decide +kernel) both_top) (by decide +kernel) (hS.matAt 2 rfl) (hS.intsAt 0 rfl)).mono ?_
  rintro e w15 ⟨pw15, cw15, rfl, hA, hb⟩
  replace hS := hS.step hb
  replace hS := hS.addI rfl hA
  clear hb hA
  obtain ⟨pw16, cw16, hw16, mw16⟩ := hS.matsAt 2 rfl 0 BV24 rfl
  replace hw16 : (_ : World).cell? _ = some (.slice pw16 2 cw16) := hw16
  replace hS := hS.addM (n := 2) rfl mw16
  clear mw16
  replace hS := hS.lit [0, 1, 2] 3
  go_wp2_with fail
  refine (runC_e (a := [1, 0, 0]) (k := 4) (e := 0) both_all.1 both_all.2 (by decide +kernel) (hS.matAt 1 rfl) (hS.intsAt 0 rfl)).mono ?_
  rintro e w17 ⟨paw17, caw17, pkw17, ckw17, rfl, hA, hb⟩
  replace hS := hS.step hb
  replace hS := hS.addI rfl hA
  clear hb hA
  clear hw16
  obtain ⟨pw18, cw18, hw18, mw18⟩ := hS.matsAt 5 rfl 0 BV24 rfl
  replace hw18 : (_ : World).cell? _ = some (.slice pw18 2 cw18) := hw18
  replace hS := hS.addM (n := 2) rfl mw18
  clear mw18
  replace hS := hS.lit [1, 0, -1] 3
  go_wp2_with fail
  refine (circC_e (xs := []) (e := 0) (circ_of (by decide +kernel) both_none) (by decide +kernel) (hS.matAt 1 rfl) (hS.intsAt 0 rfl)).mono ?_
  rintro e w19 ⟨pw19, cw19, rfl, hA, hb⟩
  replace hS := hS.step hb
  replace hS := hS.addI rfl hA
  clear hb hA
  clear hw18
  replace hS := hS.lit [1, 10, 10] 3
  replace hS := hS.lit [1, 10, 10] 3
  replace hS := hS.litM (ks := [1, 0]) (.cons rfl (.cons rfl .nil)) 2
  replace hS := hS.litMs (ks := [0]) (.cons rfl .nil) 24
  replace hS := hS.lit [0, 1, 1] 3
  go_wp2_with fail
  refine (pickC_e (a := [0, 1, 1]) (k := [0, 1, 2]) (e := 0) (by decide +kernel) (by decide +kernel) (by decide +kernel) (hS.matAt 2 rfl) (hS.intsAt 0 rfl)).mono ?_
  rintro e w20 ⟨paw20, caw20, pkw20, ckw20, rfl, hA, hK, hb⟩
  replace hS := hS.step hb
  replace hS := hS.addI rfl hA
  replace hS := hS.addI rfl hK
  clear hb hA hK
  obtain ⟨pw21, cw21, hw21, mw21⟩ := hS.matsAt 3 rfl 0 SV24 rfl
  replace hw21 : (_ : World).cell? _ = some (.slice pw21 2 cw21) := hw21
  replace hS := hS.addM (n := 2) rfl mw21
  clear mw21
  go_wp2_with fail
  refine (oneC_e (j := 0) (ps := [(1, 0)]) (e := 0) (by decide +kernel) (by decide +kernel) (by decide +kernel) (hS.matAt 0 rfl) (hS.intsAt 2 rfl)).mono ?_
  rintro e w22 ⟨pw22, cw22, qw22, dw22, rfl, hP, hb⟩
  replace hS := hS.step hb
  clear hb 
  clear hw21
  obtain ⟨pw23, cw23, hw23, mw23⟩ := hS.matsAt 4 rfl 0 SV24 rfl
  replace hw23 : (_ : World).cell? _ = some (.slice pw23 2 cw23) := hw23
  replace hS := hS.addM (n := 2) rfl mw23
  clear mw23
  go_wp2_with fail
  refine (burdC_e (xs := [1]) (e := 0) (by decide +kernel) (by decide +kernel) (hS.matAt 0 rfl) (hS.intsAt 3 rfl)).mono ?_
  rintro e w24 ⟨pw24, cw24, rfl, hA, hb⟩
  replace hP := hP.below hb (Nat.le_refl _)
  replace hS := hS.step hb
  replace hS := hS.addI rfl hA
  clear hb hA
  clear hw23
  go_wp2_with fail
  refine (given24_any _).mono ?_
  rintro e w25 ⟨pw25, cw25, rfl, hM, hb⟩
  replace hP := hP.below hb (Nat.le_refl _)
  replace hS := hS.step hb
  replace hS := hS.addM rfl hM
  clear hb hM
  replace hP := hP.alloc (.cells (([0, 0, 0, 1] : List Int).map (Value.int .i64)).toArray 3)
  replace hS := hS.lit [0, 0, 0, 1] 4
  go_wp2_with fail
  refine (pickC_e (a := [0, 0, 0]) (k := [2, 1, 0, -1]) (e := 0) (by decide +kernel) (by decide +kernel) (by decide +kernel) (hS.matAt 1 rfl) (hS.intsAt 0 rfl)).mono ?_
  rintro e w26 ⟨paw26, caw26, pkw26, ckw26, rfl, hA, hK, hb⟩
  replace hP := hP.below hb (Nat.le_refl _)
  replace hS := hS.step hb
  replace hS := hS.addI rfl hA
  replace hS := hS.addI rfl hK
  clear hb hA hK
  go_wp2_with fail
  refine (alive24_any _).mono ?_
  rintro e w27 ⟨rfl, hb⟩
  replace hP := hP.below hb (Nat.le_refl _)
  replace hS := hS.step hb
  clear hb 
  replace hP := hP.alloc (.cells (([0, 1] : List Int).map (Value.int .i64)).toArray 3)
  replace hS := hS.lit [0, 1] 2
  go_wp2_with fail
  refine (sameC_e rfl (hS.intsAt 21 rfl) (hS.intsAt 0 rfl)).mono ?_
  rintro e w28 ⟨rfl, hw⟩
  replace hP := hP.drew hw
  replace hS := hS.drew hw
  clear hw 
  replace hP := hP.alloc (.cells (([1, 0, 0] : List Int).map (Value.int .i64)).toArray 3)
  replace hS := hS.lit [1, 0, 0] 3
  go_wp2_with fail
  refine (sameC_e rfl (hS.intsAt 19 rfl) (hS.intsAt 0 rfl)).mono ?_
  rintro e w29 ⟨rfl, hw⟩
  replace hP := hP.drew hw
  replace hS := hS.drew hw
  clear hw 
  replace hP := hP.alloc (.cells (([0, 1, 1] : List Int).map (Value.int .i64)).toArray 3)
  replace hS := hS.lit [0, 1, 1] 3
  go_wp2_with fail
  refine (sameC_e rfl (hS.intsAt 11 rfl) (hS.intsAt 0 rfl)).mono ?_
  rintro e w30 ⟨rfl, hw⟩
  replace hP := hP.drew hw
  replace hS := hS.drew hw
  clear hw 
  have hQ := OwnP.lit w30 [(1, 0)] (by decide)
  have hP2 := hP.alloc (.cells (cellsP [(1, 0)]).toArray 63)
  replace hS := hS.bump (.cells (cellsP [(1, 0)]).toArray 63)
  go_wp2_with fail
  refine (samePairs_any _ _ _ _ _ _ [(1, 0)] _ hP2 hQ).mono ?_
  rintro e wz ⟨rfl, hw⟩
  replace hS := hS.drew hw
  clear hw hQ hP2 hP
  replace hS := hS.lit [1] 1
  go_wp2_with fail
  refine (sameC_e rfl (hS.intsAt 8 rfl) (hS.intsAt 0 rfl)).mono ?_
  rintro e w31 ⟨rfl, hw⟩
  replace hS := hS.drew hw
  clear hw 
  replace hS := hS.lit [2, 1, 0, -1] 4
  go_wp2_with fail
  refine (sameC_e rfl (hS.intsAt 5 rfl) (hS.intsAt 0 rfl)).mono ?_
  rintro e w32 ⟨rfl, hw⟩
  replace hS := hS.drew hw
  clear hw 
  go_wp2_with fail
  go_ret
  exact ⟨rfl, hS.bel⟩
end Go.Proofs.Ytiohehofnlmenaa
