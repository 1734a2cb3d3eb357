/- Rows of bools that a call itself makes; no condition but sizes. -/
import Derived.Test.YtmcncflieoolmaaGreatTopTopGoodsm2
import Derived.Test.YtmcncflieoolmaaGreatTopTopGoodsm1
/- Rows of bools that a call itself makes; no condition but sizes. -/
namespace Go.Proofs.YtmcncflieoolmaaGreat
set_option linter.unusedVariables false
set_option linter.unusedSimpArgs false
open Go.ChangeShapes Go.WideShapes Go.ChangeAt Go.RowKit Go.Deep

def bget (bs : List Bool) (k : Nat) : Bool := bs.getD k false
/-- The slice (p, bs.length, c) is a row of bools of the call's own. -/
def OwnB (w : World) (base : Nat) (p : Option Addr) (c : Nat) (bs : List Bool) : Prop := w.ownsRow base 4 1 (.slice p bs.length c) bs.length (bs.map Value.bool)
theorem OwnB.get {w : World} {base : Nat} {p : Option Addr} {c : Nat} {bs : List Bool} (h : OwnB w base p c bs) {j : Nat} (hj : j < bs.length) :
    ∃ g, p = some ⟨g, 0, none⟩ ∧ base ≤ g ∧ g < w.heap.size ∧ w.cell? ⟨g, j, none⟩ = some (.bool (bget bs j)) ∧ w.frozen? ⟨g, j, none⟩ = false := by
  have h' := h
  unfold OwnB at h'
  rcases h.2 with ⟨h1, h2⟩ | ⟨g, cap, cur, h1, h2, h3, h4, h5, _, _⟩
  · omega
  · simp only [Value.slice.injEq] at h1
    obtain ⟨rfl, _, rfl⟩ := h1
    refine ⟨g, rfl, h2, (Array.getElem?_eq_some_iff.1 h3).1, ?_, h'.frozenAt j⟩
    rw [h'.cellAt j (by omega)]
    simp [bget, hj]
theorem OwnB.at {w : World} {base g : Nat} {c : Nat} {bs : List Bool} (h : OwnB w base (some ⟨g, 0, none⟩) c bs) {j : Nat} (hj : j < bs.length) : w.cell? ⟨g, j, none⟩ = some (.bool (bget bs j)) := by
  have h' := h
  unfold OwnB at h'
  rw [h'.cellAt j (by omega)]
  simp [bget, hj]
theorem OwnB.free {w : World} {base g : Nat} {c : Nat} {bs : List Bool} (h : OwnB w base (some ⟨g, 0, none⟩) c bs) (j : Nat) : w.frozen? ⟨g, j, none⟩ = false := World.ownsRow.frozenAt h j
theorem OwnB.set {w : World} {base g : Nat} {c : Nat} {bs : List Bool} (h : OwnB w base (some ⟨g, 0, none⟩) c bs) (j : Nat) (x : Bool) :
    OwnB (w.setCell ⟨g, j, none⟩ (.bool x)) base (some ⟨g, 0, none⟩) c (bs.set j x) ∧ w.grownBy (w.setCell ⟨g, j, none⟩ (.bool x)) (some g) := by
  obtain ⟨h1, h2⟩ := World.ownsRow.stored h j (.bool x)
  exact ⟨by unfold OwnB; rw [List.length_set, List.map_set]; exact h1, h2⟩
theorem OwnB.drewN {w : World} {base : Nat} {p : Option Addr} {c : Nat} {bs : List Bool} (h : OwnB w base p c bs) (n : Nat) : OwnB (w.drewN n) base p c bs :=
  World.ownsRow.kept h (grownBy_of_below (below_drewN w.heap.size w n) (Nat.le_refl _) none) (by cases (Value.slice p bs.length c).ownBlock <;> simp)
theorem OwnB.drew {w w' : World} {base : Nat} {p : Option Addr} {c : Nat} {bs : List Bool} (h : OwnB w base p c bs) (hw : ∃ n, w' = w.drewN n) : OwnB w' base p c bs := by obtain ⟨n, rfl⟩ := hw; exact h.drewN n
end Go.Proofs.YtmcncflieoolmaaGreat

/- What picking in turns leaves: the goods that are free, their number, and who gets what; plain, no program. -/
namespace Go.Proofs.YtmcncflieoolmaaGreat
set_option linter.unusedVariables false
set_option linter.unusedSimpArgs false

def cntF (a : List Int) : Nat := a.countP fun x => decide (x < 0)
theorem cntF_zero {a : List Int} : cntF a = 0 ↔ ∀ j, j < a.length → ¬ iget a j < 0 := by
  unfold cntF
  rw [List.countP_eq_zero]
  constructor
  · intro h j hj; have := h _ (iget_mem hj); simpa using this
  · intro h x hx
    obtain ⟨j, hj, rfl⟩ := List.getElem_of_mem hx
    have := h j hj
    rw [iget_of hj] at this
    simpa using this
theorem cntF_set : ∀ {a : List Int} {x : Nat} {i : Int}, x < a.length → iget a x < 0 → 0 ≤ i → cntF a = cntF (a.set x i) + 1
  | [], _, _, h, _, _ => by simp at h
  | y :: a, 0, i, _, h, hi => by
    have h0 : y < 0 := by simpa [iget] using h
    simp [cntF, h0, Int.not_lt.2 hi]
  | y :: a, x + 1, i, hx, h, hi => by
    have := cntF_set (a := a) (x := x) (i := i) (by simpa using hx) (by simpa [iget] using h) hi
    unfold cntF at *
    simp only [List.set_cons_succ, List.countP_cons]
    omega
theorem pick_none {r a : List Int} : pick r a < 0 ↔ cntF a = 0 := by unfold pick; rw [pickTo_none, cntF_zero]

theorem pkT_get (v : List (List Int)) (ts : List Int) : ∀ (L t : Nat), t < L → iget (pkT v ts L) t = pick (rget v (iget ts t).toNat) (pkA v ts t)
  | 0, _, h => by omega
  | L + 1, t, h => by
    rw [pkT, iget_append, pkT_len]
    split
    · exact pkT_get v ts L t (by omega)
    · have : t = L := by omega
      subst this
      simp [iget]
theorem pkA_keep {v : List (List Int)} {ts : List Int} {k x : Nat} (hx : x < wid v) (h : 0 ≤ iget (pkA v ts k) x) : ∀ m, k ≤ m → iget (pkA v ts m) x = iget (pkA v ts k) x
  | m, hm => by
    by_cases e : m = k
    · rw [e]
    · obtain ⟨m', rfl⟩ : ∃ m', m = m' + 1 := ⟨m - 1, by omega⟩
      have ih := pkA_keep (ts := ts) hx h m' (by omega)
      rw [pkA, stepA]
      split
      · rename_i h0
        have hr := pickTo_range (rget v (iget ts m').toNat) (pkA v ts m') (pkA v ts m').length
        have hb := (pickTo_best h0).1
        have h0' : 0 ≤ pickTo (rget v (iget ts m').toNat) (pkA v ts m') (pkA v ts m').length := h0
        rw [iget_set (by unfold pick; omega)]
        split
        · rename_i e2
          unfold pick at e2
          rw [e2, ih] at hb
          omega
        · exact ih
      · exact ih
  termination_by m => m
theorem pkA_ok {v : List (List Int)} {ts : List Int} (ht : ∀ t, t < ts.length → 0 ≤ iget ts t ∧ iget ts t < v.length) : ∀ k, k ≤ ts.length → AllOk v.length (pkA v ts k)
  | 0, _ => by
    intro j hj
    rw [pkA_len] at hj
    have : iget (pkA v ts 0) j = -1 := by simp [pkA, iget, hj]
    rw [this]; omega
  | k + 1, hk => by
    have ih := pkA_ok ht k (by omega)
    intro j hj
    have hj' : j < (pkA v ts k).length := by rw [pkA_len] at hj ⊢; exact hj
    rw [pkA, stepA]
    split
    · rename_i h0
      have hr := pickTo_range (rget v (iget ts k).toNat) (pkA v ts k) (pkA v ts k).length
      have h0' : 0 ≤ pickTo (rget v (iget ts k).toNat) (pkA v ts k) (pkA v ts k).length := h0
      rw [iget_set (by unfold pick; omega)]
      split
      · have := ht k (by omega); omega
      · exact ih j hj'
    · exact ih j hj'
/-- One turn: none is left, or the best of those that are left is taken, and stays taken. -/
theorem pk_step {v : List (List Int)} {ts : List Int} (ht : ∀ t, t < ts.length → 0 ≤ iget ts t ∧ iget ts t < v.length) {t : Nat} (h : t < ts.length) :
    (cntF (pkA v ts t) = 0 ∧ iget (pkT v ts ts.length) t = -1 ∧ pkA v ts (t + 1) = pkA v ts t) ∨
    (cntF (pkA v ts t) ≠ 0 ∧ ∃ x : Nat, iget (pkT v ts ts.length) t = x ∧ x < wid v ∧ iget (pkA v ts t) x < 0 ∧ iget (pkA v ts ts.length) x = iget ts t ∧
      (∀ y, y < wid v → iget (pkA v ts t) y < 0 → y ≠ x → BetterP (rget v (iget ts t).toNat) x y) ∧ pkA v ts (t + 1) = (pkA v ts t).set x (iget ts t) ∧ cntF (pkA v ts t) = cntF (pkA v ts (t + 1)) + 1) := by
  have hr := pickTo_range (rget v (iget ts t).toNat) (pkA v ts t) (pkA v ts t).length
  have hT := pkT_get v ts ts.length t h
  have hl := pkA_len v ts t
  have hti := ht t h
  rcases Int.lt_or_le (pick (rget v (iget ts t).toNat) (pkA v ts t)) 0 with h0 | h0
  · left
    refine ⟨pick_none.1 h0, ?_, ?_⟩
    · rw [hT]; unfold pick at *; omega
    · rw [pkA, stepA, if_neg (by omega)]
  · right
    obtain ⟨x, hx⟩ : ∃ x : Nat, pick (rget v (iget ts t).toNat) (pkA v ts t) = x := ⟨(pick (rget v (iget ts t).toNat) (pkA v ts t)).toNat, by omega⟩
    obtain ⟨h1, h2⟩ := pickTo_best (show 0 ≤ pickTo (rget v (iget ts t).toNat) (pkA v ts t) (pkA v ts t).length from h0)
    have hx' : pickTo (rget v (iget ts t).toNat) (pkA v ts t) (pkA v ts t).length = x := hx
    rw [hx', Int.toNat_natCast] at h1 h2
    have hxl : x < wid v := by rw [hx'] at hr; omega
    have hst : pkA v ts (t + 1) = (pkA v ts t).set x (iget ts t) := by rw [pkA, stepA, hx, if_pos (by omega), Int.toNat_natCast]
    have hc := cntF_set (a := pkA v ts t) (x := x) (i := iget ts t) (by omega) h1 hti.1
    refine ⟨by omega, x, by rw [hT, hx], hxl, h1, ?_, fun y hy => h2 y (by omega), hst, by rw [hst]; exact hc⟩
    have hg : iget (pkA v ts (t + 1)) x = iget ts t := by rw [hst, iget_set (by omega), if_pos rfl]
    rw [pkA_keep hxl (by rw [hg]; exact hti.1) ts.length (by omega), hg]
end Go.Proofs.YtmcncflieoolmaaGreat

/- What the bundles after picking are worth: sums over the turns; who picks first picks no worse; plain, no program. -/
namespace Go.Proofs.YtmcncflieoolmaaGreat
set_option linter.unusedVariables false
set_option linter.unusedSimpArgs false

/-- What turn t takes; what that is worth for i. -/
def tkX (v : List (List Int)) (ts : List Int) (t : Nat) : Int := pick (rget v (iget ts t).toNat) (pkA v ts t)
def tkV (v : List (List Int)) (ts : List Int) (i t : Nat) : Int := if 0 ≤ tkX v ts t then iget (rget v i) (tkX v ts t).toNat else 0
/-- What k takes before turn m, of the first L turns, is worth for i. -/
def tkS (v : List (List Int)) (ts : List Int) (i : Nat) (k : Int) : Nat → Int
  | 0 => 0
  | m + 1 => tkS v ts i k m + (if m < ts.length ∧ iget ts m = k then tkV v ts i m else 0)
structure TurnOk (v : List (List Int)) (ts : List Int) : Prop where
  gds : Gds v
  turn : ∀ t, t < ts.length → 0 ≤ iget ts t ∧ iget ts t < v.length
theorem turnOk_of {v : List (List Int)} {ts : List Int} (hg : chkG v = 0) (ht : chkT v.length ts = 0) : TurnOk v ts := ⟨chkG_zero.1 hg, (chkT_zero.1 ht).2.2.2⟩
section
variable {v : List (List Int)} {ts : List Int}
theorem tkX_range (t : Nat) : -1 ≤ tkX v ts t ∧ tkX v ts t < wid v := by
  have := pickTo_range (rget v (iget ts t).toNat) (pkA v ts t) (pkA v ts t).length
  rw [pkA_len] at this
  unfold tkX pick
  rw [pkA_len]; exact this
theorem tkV_nonneg (h : Gds v) {i : Nat} (hi : i < v.length) (t : Nat) : 0 ≤ tkV v ts i t := by
  unfold tkV
  split
  · have := tkX_range (v := v) (ts := ts) t
    exact (gds_bid h hi (by omega)).1
  · exact Int.le_refl _
theorem tkX_free {t : Nat} (h : 0 ≤ tkX v ts t) : iget (pkA v ts t) (tkX v ts t).toNat < 0 := (pickTo_best (show 0 ≤ pickTo _ (pkA v ts t) (pkA v ts t).length from h)).1
theorem pkA_free {x : Nat} (hx : x < wid v) {s t : Nat} (hst : s ≤ t) (h : iget (pkA v ts t) x < 0) : iget (pkA v ts s) x < 0 := by
  rcases Int.lt_or_le (iget (pkA v ts s) x) 0 with h0 | h0
  · exact h0
  · rw [pkA_keep hx h0 t hst] at h; omega
/-- Who picks first picks no worse. -/
theorem tk_dom (h : TurnOk v ts) {i s t : Nat} (hi : i < v.length) (hs : s < ts.length) (hsi : iget ts s = i) (hst : s ≤ t) : tkV v ts i t ≤ tkV v ts i s := by
  have h0 := tkV_nonneg (ts := ts) h.gds hi s
  unfold tkV at h0 ⊢
  by_cases ht : 0 ≤ tkX v ts t
  · rw [if_pos ht]
    have hr := tkX_range (v := v) (ts := ts) t
    have hf := pkA_free (v := v) (ts := ts) (x := (tkX v ts t).toNat) (by omega) hst (tkX_free ht)
    have hp : 0 ≤ tkX v ts s := by
      rcases Int.lt_or_le (tkX v ts s) 0 with h1 | h1
      · exact absurd hf (pickTo_none.1 (show pickTo _ (pkA v ts s) (pkA v ts s).length < 0 from h1) _ (by rw [pkA_len]; omega))
      · exact h1
    rw [if_pos hp]
    obtain ⟨_, hb⟩ := pickTo_best (show 0 ≤ pickTo _ (pkA v ts s) (pkA v ts s).length from hp)
    by_cases e : (tkX v ts t).toNat = (tkX v ts s).toNat
    · rw [e]; exact Int.le_refl _
    · have hb' := hb (tkX v ts t).toNat (by rw [pkA_len]; omega) hf e
      rw [hsi, Int.toNat_natCast] at hb'
      have e2 : pickTo (rget v i) (pkA v ts s) (pkA v ts s).length = tkX v ts s := by unfold tkX pick; rw [hsi, Int.toNat_natCast]
      rw [e2] at hb'
      rcases hb' with h3 | h3 <;> omega
  · rw [if_neg ht]; exact h0
theorem worthUp_set {a : List Int} {i x : Nat} {j k : Int} (hx : x < a.length) (hf : iget a x < 0) (hk : 0 ≤ k) : ∀ m, worthUp v (a.set x j) i k m = worthUp v a i k m + (if x < m ∧ j = k then iget (rget v i) x else 0)
  | 0 => by simp [worthUp]
  | m + 1 => by
    rw [worthUp, worthUp, worthUp_set hx hf hk m, iget_set hx]
    by_cases e : x = m
    · subst e
      by_cases hj : j = k
      · simp [hj]; omega
      · simp [hj]; omega
    · by_cases hj : j = k
      · by_cases hm : x < m
        · simp [e, hj, hm, Nat.lt_succ_of_lt hm]; omega
        · have : ¬ x < m + 1 := by omega
          simp [e, hm, this]
      · simp [e, hj]
theorem worth_pk (h : TurnOk v ts) {i : Nat} {k : Int} (hk : 0 ≤ k) : ∀ m, m ≤ ts.length → worth v (pkA v ts m) i k = tkS v ts i k m
  | 0, _ => by
    unfold worth
    rw [tkS, pkA]
    have : ∀ m, m ≤ wid v → worthUp v (List.replicate (wid v) (-1)) i k m = 0 := by
      intro m
      induction m with
      | zero => intro _; rfl
      | succ m ih =>
        intro hm
        rw [worthUp_ne, ih (by omega)]
        have : iget (List.replicate (wid v) (-1)) m = -1 := by rw [iget_of (by simp; omega)]; simp
        omega
    exact this _ (by simp)
  | m + 1, hm => by
    have ih := worth_pk h hk m (by omega) (i := i)
    rw [tkS]
    have hr := tkX_range (v := v) (ts := ts) m
    have hti := h.turn m (by omega)
    by_cases h0 : 0 ≤ tkX v ts m
    · have hst : pkA v ts (m + 1) = (pkA v ts m).set (tkX v ts m).toNat (iget ts m) := by unfold tkX at h0 ⊢; rw [pkA, stepA, if_pos h0]
      have hw := worthUp_set (v := v) (a := pkA v ts m) (i := i) (x := (tkX v ts m).toNat) (j := iget ts m) (k := k) (by rw [pkA_len]; omega) (tkX_free h0) hk (pkA v ts m).length
      unfold worth at ih ⊢
      rw [hst, List.length_set, hw, ih]
      congr 1
      by_cases hj : iget ts m = k
      · rw [if_pos ⟨by rw [pkA_len]; omega, hj⟩, if_pos ⟨by omega, hj⟩]
        unfold tkV; rw [if_pos h0]
      · rw [if_neg (fun h => hj h.2), if_neg (fun h => hj h.2)]
    · have hst : pkA v ts (m + 1) = pkA v ts m := by unfold tkX at h0; rw [pkA, stepA, if_neg h0]
      rw [hst, ih]
      have : tkV v ts i m = 0 := by unfold tkV; rw [if_neg h0]
      rw [this]; split <;> omega
theorem tkS_mono (h : Gds v) {i : Nat} (hi : i < v.length) (k : Int) {m n : Nat} (hmn : m ≤ n) : tkS v ts i k m ≤ tkS v ts i k n := by
  induction n with
  | zero => have : m = 0 := by omega
            rw [this]; exact Int.le_refl _
  | succ n ih =>
    by_cases e : m = n + 1
    · rw [e]; exact Int.le_refl _
    · have := ih (by omega)
      have h2 := tkV_nonneg (ts := ts) h hi n
      rw [tkS]; split <;> omega
theorem tkS_past {i : Nat} {k : Int} {m : Nat} (h : ts.length ≤ m) : tkS v ts i k m = tkS v ts i k ts.length := by
  induction m with
  | zero => have : ts.length = 0 := by omega
            rw [this]
  | succ m ih =>
    by_cases e : ts.length = m + 1
    · rw [e]
    · rw [tkS, if_neg (by omega), ih (by omega), Int.add_zero]
/-- At most one turn of k from s on, before s + j: its value bounds what is added. -/
theorem tkS_most {i : Nat} {k : Int} {s : Nat} {M : Int} (hM : 0 ≤ M) : ∀ j, (∀ a, s ≤ a → a < s + j → a < ts.length → iget ts a = k → tkV v ts i a ≤ M) →
    (∀ a b, s ≤ a → a < b → b < s + j → b < ts.length → iget ts a = k → iget ts b ≠ k) → tkS v ts i k (s + j) ≤ tkS v ts i k s + M ∧ ((∀ a, s ≤ a → a < s + j → a < ts.length → iget ts a ≠ k) → tkS v ts i k (s + j) = tkS v ts i k s)
  | 0, _, _ => ⟨by simp only [Nat.add_zero]; omega, fun _ => rfl⟩
  | j + 1, h1, h2 => by
    obtain ⟨i1, i2⟩ := tkS_most (i := i) hM j (fun a h3 h4 => h1 a h3 (by omega)) (fun a b h3 h4 h5 => h2 a b h3 h4 (by omega))
    have e : tkS v ts i k (s + (j + 1)) = tkS v ts i k (s + j) + (if s + j < ts.length ∧ iget ts (s + j) = k then tkV v ts i (s + j) else 0) := rfl
    by_cases hc : s + j < ts.length ∧ iget ts (s + j) = k
    · rw [if_pos hc] at e
      have hz := i2 fun a h3 h4 h5 h6 => h2 a (s + j) h3 h4 (by omega) hc.1 h6 hc.2
      have hm := h1 (s + j) (by omega) (by omega) hc.1 hc.2
      exact ⟨by omega, fun h => absurd hc.2 (h (s + j) (by omega) (by omega) hc.1)⟩
    · rw [if_neg hc, Int.add_zero] at e
      rw [e]
      exact ⟨i1, fun h => i2 fun a h3 h4 h5 => h a h3 (by omega) h5⟩
theorem tkS_least (h : Gds v) {i : Nat} (hi : i < v.length) {k : Int} {s t m : Nat} (h1 : s ≤ t) (h2 : t < m) (ht : t < ts.length) (hk : iget ts t = k) : tkS v ts i k s + tkV v ts i t ≤ tkS v ts i k m := by
  have a := tkS_mono (ts := ts) h hi k h1
  have b := tkS_mono (ts := ts) h hi k (show t + 1 ≤ m from h2)
  rw [tkS, if_pos ⟨ht, hk⟩] at b
  omega
end
/-- As many numbers below m as they are many, and no two alike, take every place. -/
theorem pigeon : ∀ (n m : Nat) (f : Nat → Nat), (∀ j, j < n → f j < m) → (∀ a b, a < b → b < n → f a ≠ f b) → n ≤ m
  | 0, _, _, _, _ => Nat.zero_le _
  | n + 1, m, f, h1, h2 => by
    have hm := h1 n (by omega)
    have := pigeon n (m - 1) (fun j => if f n < f j then f j - 1 else f j) (fun j hj => by
      have a := h1 j (by omega)
      have b := h2 j n hj (by omega)
      split <;> omega) (fun a b hab hb => by
      have c := h2 a b hab (by omega)
      have d := h2 a n (by omega) (by omega)
      have e := h2 b n hb (by omega)
      split <;> split <;> omega)
    omega
theorem pigeon_onto {n : Nat} {f : Nat → Nat} (h1 : ∀ j, j < n → f j < n) (h2 : ∀ a b, a < b → b < n → f a ≠ f b) {k : Nat} (hk : k < n) : ∃ j, j < n ∧ f j = k := by
  apply Classical.byContradiction
  intro hn
  have hne : ∀ j, j < n → f j ≠ k := fun j hj e => hn ⟨j, hj, e⟩
  have := pigeon n (n - 1) (fun j => if k < f j then f j - 1 else f j) (fun j hj => by
    have a := h1 j hj
    have b := hne j hj
    split <;> omega) (fun a b hab hb => by
    have c := h2 a b hab hb
    have d := hne a (by omega)
    have e := hne b hb
    split <;> split <;> omega)
  omega
end Go.Proofs.YtmcncflieoolmaaGreat

/- Turns in rounds: who comes first in each envies nobody, and balanced turns are fair up to one good; more turns take what the first ones take; plain, no program. -/
namespace Go.Proofs.YtmcncflieoolmaaGreat
set_option linter.unusedVariables false
set_option linter.unusedSimpArgs false
section
variable {v : List (List Int)} {ts : List Int}
/-- Where each turn of k in round r + d comes after one of i in round r. -/
theorem tkS_rounds (h : TurnOk v ts) {n d : Nat} (hn : 1 ≤ n) (hb : BalTo n ts ts.length) {i k : Nat} (hi : i < v.length)
    (hs : ∀ r t, t / n = r + d → t < ts.length → iget ts t = (k : Int) → ∃ s, s / n = r ∧ s ≤ t ∧ s < ts.length ∧ iget ts s = (i : Int)) :
    ∀ R, tkS v ts i k ((R + d) * n) ≤ tkS v ts i k (d * n) + tkS v ts i i (R * n)
  | 0 => by simp [tkS]
  | R + 1 => by
    have ih := tkS_rounds h hn hb hi hs R
    have e1 : (R + 1 + d) * n = (R + d) * n + n := by rw [show R + 1 + d = (R + d) + 1 by omega, Nat.add_mul, Nat.one_mul]
    have e2 : (R + 1) * n = R * n + n := by rw [Nat.add_mul, Nat.one_mul]
    have hm := tkS_mono (ts := ts) h.gds hi (i : Int) (show R * n ≤ (R + 1) * n by omega)
    have hdiv : ∀ a q, q * n ≤ a → a < q * n + n → a / n = q := fun a q h1 h2 => by
      rw [Nat.div_eq_of_lt_le h1 (by rw [Nat.succ_mul]; exact h2)]
    have hmul : ∀ a q, a / n = q → q * n ≤ a ∧ a < q * n + n := fun a q h1 => by
      have := Nat.div_add_mod a n
      have h2 := Nat.mod_lt a (show 0 < n by omega)
      rw [h1, Nat.mul_comm] at this
      omega
    have := (tkS_most (v := v) (ts := ts) (i := i) (k := (k : Int)) (s := (R + d) * n) (M := tkS v ts i i ((R + 1) * n) - tkS v ts i i (R * n)) (by omega) n
      (fun a h1 h2 h3 h4 => by
        obtain ⟨s, s1, s2, s3, s4⟩ := hs R a (hdiv a _ h1 h2) h3 h4
        have hd := tk_dom h hi s3 s4 s2
        obtain ⟨m1, m2⟩ := hmul s R s1
        have hl := tkS_least (ts := ts) h.gds hi (m := (R + 1) * n) m1 (by omega) s3 s4
        omega)
      (fun a b h1 h2 h3 h4 h5 h6 => hb b h4 a h2 ⟨by rw [h5, h6], by rw [hdiv a _ h1 (by omega), hdiv b _ (by omega) h3]⟩)).1
    rw [e1]
    omega
theorem bal_full (h : TurnOk v ts) (hb : BalTo v.length ts ts.length) {r i : Nat} (hi : i < v.length) (hr : r * v.length + v.length ≤ ts.length) : ∃ s, s / v.length = r ∧ s < r * v.length + v.length ∧ iget ts s = (i : Int) := by
  have hdiv : ∀ j, j < v.length → (r * v.length + j) / v.length = r := fun j hj => Nat.div_eq_of_lt_le (by omega) (by rw [Nat.succ_mul]; omega)
  obtain ⟨j, hj, hji⟩ := pigeon_onto (n := v.length) (f := fun j => (iget ts (r * v.length + j)).toNat) (fun j hj => by
      have := h.turn (r * v.length + j) (by omega)
      omega) (fun a b hab hb2 e => by
      have h1 := h.turn (r * v.length + a) (by omega)
      have h2 := h.turn (r * v.length + b) (by omega)
      exact hb (r * v.length + b) (by omega) (r * v.length + a) (by omega) ⟨by omega, by rw [hdiv a (by omega), hdiv b hb2]⟩) hi
  have h1 := h.turn (r * v.length + j) (by omega)
  exact ⟨r * v.length + j, hdiv j hj, by omega, by omega⟩
/-- Balanced turns: but for the first good that k takes, i is content. -/
theorem bal_one (h : TurnOk v ts) (hb : BalTo v.length ts ts.length) {i k : Nat} (hi : i < v.length) {M : Int} (hM : 0 ≤ M) (hF : ∀ t, t < v.length → t < ts.length → iget ts t = (k : Int) → tkV v ts i t ≤ M) :
    tkS v ts i k ts.length ≤ M + tkS v ts i i ts.length := by
  have hn : 1 ≤ v.length := h.gds.1
  have h1 := tkS_rounds h hn hb (d := 1) (k := k) hi (fun r t h1 h2 h3 => by
    have hle : (r + 1) * v.length ≤ t := by
      have := Nat.div_add_mod t v.length
      rw [h1, Nat.mul_comm] at this
      omega
    rw [Nat.add_mul, Nat.one_mul] at hle
    obtain ⟨s, s1, s2, s3⟩ := bal_full h hb hi (r := r) (by omega)
    exact ⟨s, s1, by omega, by omega, s3⟩) ts.length
  have hbig : ts.length ≤ ts.length * v.length := Nat.le_mul_of_pos_right _ hn
  have hbig2 : ts.length ≤ (ts.length + 1) * v.length := by rw [Nat.add_mul]; omega
  rw [tkS_past hbig, tkS_past hbig2] at h1
  have h2 := (tkS_most (v := v) (ts := ts) (i := i) (k := (k : Int)) (s := 0) hM v.length (fun a _ h2 h3 h4 => hF a (by omega) h3 h4)
    (fun a b _ h3 h4 h5 h6 h7 => hb b h5 a h3 ⟨by rw [h6, h7], by rw [Nat.div_eq_of_lt (by omega), Nat.div_eq_of_lt (by omega)]⟩)).1
  have e0 : tkS v ts i k 0 = 0 := rfl
  rw [Nat.one_mul] at h1
  rw [Nat.zero_add, e0] at h2
  omega
theorem iget_take {xs : List Int} {m t : Nat} (h : t < m) : iget (xs.take m) t = iget xs t := by
  simp only [iget, List.getD, List.getElem?_take, h, if_true]
end
end Go.Proofs.YtmcncflieoolmaaGreat

/- The walks of slices.IndexFunc and slices.ContainsFunc at slices of integers, for a function that only computes. -/
namespace Go.Proofs.YtmcncflieoolmaaGreat
set_option linter.unusedVariables false
set_option linter.unusedSimpArgs false
open Go.ChangeShapes Go.WideShapes Go.ChangeAt Go.RowKit Go.Deep

/-- The first index at which P holds, or -1. -/
def firstIdx (P : Int → Bool) (xs : List Int) : Int := match xs.findIdx? P with
  | some k => k
  | none => -1
def anyB (P : Int → Bool) (xs : List Int) : Bool := xs.any P
theorem findIdx?_of {P : Int → Bool} {xs : List Int} {k : Nat} (hk : k < xs.length) (h : P (iget xs k) = true) (hb : ∀ j, j < k → P (iget xs j) = false) : xs.findIdx? P = some k := by
  rw [List.findIdx?_eq_some_iff_getElem]
  refine ⟨hk, by rw [← iget_of hk]; exact h, fun j hj => ?_⟩
  have := hb j hj
  rw [iget_of (by omega)] at this
  simp [this]
theorem findIdx?_none {P : Int → Bool} {xs : List Int} (hb : ∀ j, j < xs.length → P (iget xs j) = false) : xs.findIdx? P = none := by
  rw [List.findIdx?_eq_none_iff]
  intro x hx
  obtain ⟨j, hj, rfl⟩ := List.getElem_of_mem hx
  have := hb j hj
  rwa [iget_of hj] at this
theorem firstIdx_any (P : Int → Bool) (xs : List Int) : decide (0 ≤ firstIdx P xs) = anyB P xs := by
  unfold firstIdx anyB
  cases h : xs.findIdx? P with
  | none =>
    rw [List.findIdx?_eq_none_iff] at h
    symm
    simp
    intro x hx; simpa using h x hx
  | some k =>
    rw [List.findIdx?_eq_some_iff_getElem] at h
    obtain ⟨h1, h2, _⟩ := h
    have : (xs.any P) = true := List.any_eq_true.2 ⟨_, List.getElem_mem h1, h2⟩
    simp [this]

set_option maxHeartbeats 800000 in
theorem indexFunc_any (K : Nat) (P : Int → Bool) (hcf : ∀ args W, (callFunc K args).run Tryz.prog W = .ok (.enter K args) W) (hf : ∀ x W, in64 x → Calls Tryz.prog K #[.int .i64 x] W fun e w' => e = .returned (.bool (P x)) ∧ w' = W) (p : Option Addr) (c : Nat) (xs : List Int) (w : World) (hx : Ints w p c xs) :
    Calls Tryz.prog 104 #[.slice p xs.length c, .func (.func K) #[] #[]] w fun e w' => e = .returned (.int .i64 (firstIdx P xs)) ∧ w' = w := by
  have hl1 := hx.length_le
  have Hf := Lib.hid hf
  clear hf
  go_enter Tryz.func104, Tryz.ntmps104
  go_wp2_with fail
  go_loop [8] (fun t => ∃ k : Nat, k ≤ xs.length ∧ t = .int .i64 k ∧ Hid (∀ j, j < k → P (iget xs j) = false)) (fun t => xs.length - (intOf t).toNat)
  case atStart => exact ⟨0, Nat.zero_le _, rfl, fun j hj => absurd hj (Nat.not_lt_zero j)⟩
  case round =>
    obtain ⟨k, hk, rfl, ht⟩ := hrel
    by_cases hlt : k < xs.length
    · obtain ⟨b, o, rfl, _, hc⟩ := hx.get hlt
      have hk1 : (k : Int) < xs.length := by omega
      have hin := hx.rng k hlt
      go_wp2_with fail
      refine (Hf.out _ _ hin).mono ?_
      rintro e w' ⟨rfl, rfl⟩
      cases hP : P (iget xs k) with
      | true =>
        have HP := Lib.hid hP
        clear hP
        go_wp2_with fail
        go_ret
        refine ⟨ret_int ?_, rfl⟩
        simp only [firstIdx, findIdx?_of hlt HP.out ht.out]
      | false =>
        have HP := Lib.hid hP
        clear hP
        go_wp2_with fail
        go_round
        case rel => exact ⟨k + 1, by omega, by go_num, snoc_all' ht.out HP.out⟩
        case measure => simp [intOf]; omega
    · have hk1 : ¬ (k : Int) < xs.length := by omega
      go_wp2_with fail
      go_ret
      refine ⟨ret_int ?_, rfl⟩
      simp only [firstIdx, findIdx?_none (fun j hj => ht.out j (by omega))]

set_option maxHeartbeats 400000 in
theorem containsFunc_any (K : Nat) (P : Int → Bool) (hcf : ∀ args W, (callFunc K args).run Tryz.prog W = .ok (.enter K args) W) (hf : ∀ x W, in64 x → Calls Tryz.prog K #[.int .i64 x] W fun e w' => e = .returned (.bool (P x)) ∧ w' = W) (p : Option Addr) (c : Nat) (xs : List Int) (w : World) (hx : Ints w p c xs) :
    Calls Tryz.prog 63 #[.slice p xs.length c, .func (.func K) #[] #[]] w fun e w' => e = .returned (.bool (anyB P xs)) ∧ w' = w := by
  have HA := Lib.hid (firstIdx_any P xs)
  go_enter Tryz.func63, Tryz.ntmps63
  go_wp2_with fail
  refine (indexFunc_any K P hcf hf p c xs w hx).mono ?_
  rintro e w' ⟨rfl, rfl⟩
  go_wp2_with fail
  go_ret
  exact ⟨ret_bool HA.out, rfl⟩
end Go.Proofs.YtmcncflieoolmaaGreat

/- Searching a list or a table with a predicate: what slices.Index, Contains, IndexFunc, ContainsFunc hand back; no condition but what the predicate asks. -/
namespace Go.Proofs.YtmcncflieoolmaaGreat
set_option linter.unusedVariables false
set_option linter.unusedSimpArgs false
open Go.ChangeShapes Go.WideShapes Go.ChangeAt Go.RowKit Go.Deep

/-- The first number below n at which P holds, or -1; whether there is one. -/
def firstN (P : Nat → Bool) (n : Nat) : Int := match (List.range n).find? P with
  | some k => k
  | none => -1
def anyN (P : Nat → Bool) (n : Nat) : Bool := (List.range n).any P
theorem anyN_true {P : Nat → Bool} {n : Nat} : anyN P n = true ↔ ∃ j, j < n ∧ P j = true := by simp [anyN]
theorem anyN_false {P : Nat → Bool} {n : Nat} : anyN P n = false ↔ ∀ j, j < n → P j = false := by simp [anyN]
theorem firstN_none {P : Nat → Bool} {n : Nat} (hb : ∀ j, j < n → P j = false) : firstN P n = -1 := by
  have : (List.range n).find? P = none := by
    rw [List.find?_eq_none]; intro x hx; have := hb x (List.mem_range.1 hx); simp [this]
  unfold firstN; rw [this]
theorem firstN_of {P : Nat → Bool} {n k : Nat} (hk : k < n) (h : P k = true) (hb : ∀ j, j < k → P j = false) : firstN P n = k := by
  have : (List.range n).find? P = some k := by
    rw [List.find?_range_eq_some]
    exact ⟨h, by simpa using hk, fun j hj => by simp [hb j hj]⟩
  unfold firstN; rw [this]
theorem firstN_any (P : Nat → Bool) (n : Nat) : decide (0 ≤ firstN P n) = anyN P n := by
  cases h : anyN P n with
  | false => rw [firstN_none (anyN_false.1 h)]; rfl
  | true =>
    unfold firstN
    cases h2 : (List.range n).find? P with
    | none =>
      rw [List.find?_eq_none] at h2
      obtain ⟨j, hj, hp⟩ := anyN_true.1 h
      exact absurd hp (h2 j (List.mem_range.2 hj))
    | some k => simp
theorem firstN_lt {P : Nat → Bool} {n : Nat} (h : anyN P n = true) : ∃ k : Nat, firstN P n = k ∧ k < n ∧ P k = true ∧ ∀ j, j < k → P j = false := by
  cases h2 : (List.range n).find? P with
  | none =>
    rw [List.find?_eq_none] at h2
    obtain ⟨j, hj, hp⟩ := anyN_true.1 h
    exact absurd hp (h2 j (List.mem_range.2 hj))
  | some k =>
    refine ⟨k, by unfold firstN; rw [h2], ?_⟩
    rw [List.find?_range_eq_some] at h2
    exact ⟨by simpa using h2.2.1, h2.1, fun j hj => by simpa using h2.2.2 j hj⟩

/-- Where x is in xs. -/
def idxP (xs : List Int) (x : Int) (j : Nat) : Bool := decide (x = iget xs j)
def hasB (xs : List Int) (x : Int) : Bool := decide (x ∈ xs)
theorem any_idx (xs : List Int) (x : Int) : anyN (idxP xs x) xs.length = hasB xs x := by
  rw [Bool.eq_iff_iff, anyN_true]
  unfold hasB idxP
  simp only [decide_eq_true_iff]
  constructor
  · rintro ⟨j, hj, rfl⟩; exact iget_mem hj
  · intro h
    obtain ⟨j, hj, rfl⟩ := List.getElem_of_mem h
    exact ⟨j, hj, by rw [iget_of hj]⟩
set_option maxHeartbeats 800000 in
theorem sIndex_any (p : Option Addr) (c : Nat) (xs : List Int) (x : Int) (w : World) (hx : Ints w p c xs) :
    Calls Tryz.prog 66 #[.slice p xs.length c, .int .i64 x] w fun e w' => e = .returned (.int .i64 (firstN (idxP xs x) xs.length)) ∧ w' = w := by
  have hl1 := hx.length_le
  go_enter Tryz.func66, Tryz.ntmps66
  go_wp2_with fail
  go_loop [8] (fun t => ∃ k : Nat, k ≤ xs.length ∧ t = .int .i64 k ∧ Hid (∀ j, j < k → idxP xs x j = false)) (fun t => xs.length - (intOf t).toNat)
  case atStart => exact ⟨0, Nat.zero_le _, rfl, fun j hj => absurd hj (Nat.not_lt_zero j)⟩
  case round =>
    obtain ⟨k, hk, rfl, ht⟩ := hrel
    by_cases hlt : k < xs.length
    · obtain ⟨b, o, rfl, _, hc⟩ := hx.get hlt
      have hk1 : (k : Int) < xs.length := by omega
      by_cases he : x = iget xs k
      · have hb : (x == iget xs k) = true := by simpa using he
        have HP : Hid (idxP xs x k = true) := by unfold Hid idxP; simpa using he
        clear he
        go_wp2_with fail
        go_ret
        exact ⟨ret_int (firstN_of hlt HP.out ht.out).symm, rfl⟩
      · have hb : (x == iget xs k) = false := by simpa using he
        have HP : Hid (idxP xs x k = false) := by unfold Hid idxP; simpa using he
        clear he
        go_wp2_with fail
        go_round
        case rel => exact ⟨k + 1, by omega, by go_num, snoc_all' ht.out HP.out⟩
        case measure => simp [intOf]; omega
    · have hk1 : ¬ (k : Int) < xs.length := by omega
      go_wp2_with fail
      go_ret
      exact ⟨ret_int (firstN_none (fun j hj => ht.out j (by omega))).symm, rfl⟩
set_option maxHeartbeats 400000 in
theorem contains_any (p : Option Addr) (c : Nat) (xs : List Int) (x : Int) (w : World) (hx : Ints w p c xs) :
    Calls Tryz.prog 30 #[.slice p xs.length c, .int .i64 x] w fun e w' => e = .returned (.bool (hasB xs x)) ∧ w' = w := by
  have HA := Lib.hid ((firstN_any (idxP xs x) xs.length).trans (any_idx xs x))
  go_enter Tryz.func30, Tryz.ntmps30
  go_wp2_with fail
  refine (sIndex_any p c xs x w hx).mono ?_
  rintro e w' ⟨rfl, rfl⟩
  go_wp2_with fail
  go_ret
  exact ⟨ret_bool HA.out, rfl⟩

/-- A predicate that holds one variable of its own, at the numbers of a list: what it answers, whatever world of R it is asked in. -/
def Asks1 (K : Nat) (u : Value) (xs : List Int) (P : Nat → Bool) (R : World → Prop) : Prop :=
  ∀ j W, j < xs.length → R W → Calls Tryz.prog K #[.int .i64 (iget xs j), u] W fun e w' => e = .returned (.bool (P j)) ∧ R w'
set_option maxHeartbeats 800000 in
theorem indexFunc1_any (K : Nat) (u : Value) (P : Nat → Bool) (R : World → Prop) (hcf : ∀ args W, (callFunc K args).run Tryz.prog W = .ok (.enter K args) W) (p : Option Addr) (c : Nat) (xs : List Int) (w : World) (hR : R w) (hI : Hid (∀ W, R W → Ints W p c xs)) (hf : Asks1 K u xs P R) :
    Calls Tryz.prog 104 #[.slice p xs.length c, .func (.func K) #[] #[u]] w fun e w' => e = .returned (.int .i64 (firstN P xs.length)) ∧ R w' := by
  have hl1 := (hI.out _ hR).length_le
  have Hf := Lib.hid hf
  clear hf
  go_enter Tryz.func104, Tryz.ntmps104
  go_wp2_with fail
  go_loopw [8] (fun t wr => ∃ k : Nat, k ≤ xs.length ∧ t = .int .i64 k ∧ Hid (∀ j, j < k → P j = false) ∧ R wr) (fun t _ => xs.length - (intOf t).toNat)
  case atStart => exact ⟨0, Nat.zero_le _, rfl, (fun j hj => absurd hj (Nat.not_lt_zero j)), hR⟩
  case round =>
    obtain ⟨k, hk, rfl, ht, hRr⟩ := hrel
    have hx := hI.out _ hRr
    by_cases hlt : k < xs.length
    · obtain ⟨b, o, rfl, _, hc⟩ := hx.get hlt
      have hk1 : (k : Int) < xs.length := by omega
      go_wp2_with fail
      refine (Hf.out k _ hlt hRr).mono ?_
      rintro e w' ⟨rfl, hR'⟩
      cases hP : P k with
      | true =>
        have HP := Lib.hid hP
        clear hP
        go_wp2_with fail
        go_ret
        exact ⟨ret_int (firstN_of hlt HP.out ht.out).symm, hR'⟩
      | false =>
        have HP := Lib.hid hP
        clear hP
        go_wp2_with fail
        go_roundw
        case rel => exact ⟨k + 1, by omega, by go_num, snoc_all' ht.out HP.out, hR'⟩
        case measure => simp [intOf]; omega
    · have hk1 : ¬ (k : Int) < xs.length := by omega
      go_wp2_with fail
      go_ret
      exact ⟨ret_int (firstN_none (fun j hj => ht.out j (by omega))).symm, hRr⟩
set_option maxHeartbeats 400000 in
theorem containsFunc1_any (K : Nat) (u : Value) (P : Nat → Bool) (R : World → Prop) (hcf : ∀ args W, (callFunc K args).run Tryz.prog W = .ok (.enter K args) W) (p : Option Addr) (c : Nat) (xs : List Int) (w : World) (hR : R w) (hI : Hid (∀ W, R W → Ints W p c xs)) (hf : Asks1 K u xs P R) :
    Calls Tryz.prog 63 #[.slice p xs.length c, .func (.func K) #[] #[u]] w fun e w' => e = .returned (.bool (anyN P xs.length)) ∧ R w' := by
  have HA := Lib.hid (firstN_any P xs.length)
  have Hf := Lib.hid hf
  clear hf
  go_enter Tryz.func63, Tryz.ntmps63
  go_wp2_with fail
  refine (indexFunc1_any K u P R hcf p c xs w hR hI Hf.out).mono ?_
  rintro e w' ⟨rfl, hR'⟩
  go_wp2_with fail
  go_ret
  exact ⟨ret_bool HA.out, hR'⟩

/-- A predicate at the rows of a table. -/
def AsksR (K : Nat) (v : List (List Int)) (P : Nat → Bool) (R : World → Prop) : Prop :=
  ∀ j q d W, j < v.length → R W → Ints W q d (rget v j) → Calls Tryz.prog K #[.slice q (rget v j).length d] W fun e w' => e = .returned (.bool (P j)) ∧ R w'
set_option maxHeartbeats 800000 in
theorem indexFuncR_any (K : Nat) (P : Nat → Bool) (R : World → Prop) (hcf : ∀ args W, (callFunc K args).run Tryz.prog W = .ok (.enter K args) W) (p : Option Addr) (c : Nat) (v : List (List Int)) (w : World) (hR : R w) (hI : Hid (∀ W, R W → Mat W p c v)) (hf : AsksR K v P R) :
    Calls Tryz.prog 103 #[.slice p v.length c, .func (.func K) #[] #[]] w fun e w' => e = .returned (.int .i64 (firstN P v.length)) ∧ R w' := by
  have hl1 := (hI.out _ hR).length_le
  have Hf := Lib.hid hf
  clear hf
  go_enter Tryz.func103, Tryz.ntmps103
  go_wp2_with fail
  go_loopw [8] (fun t wr => ∃ k : Nat, k ≤ v.length ∧ t = .int .i64 k ∧ Hid (∀ j, j < k → P j = false) ∧ R wr) (fun t _ => v.length - (intOf t).toNat)
  case atStart => exact ⟨0, Nat.zero_le _, rfl, (fun j hj => absurd hj (Nat.not_lt_zero j)), hR⟩
  case round =>
    obtain ⟨k, hk, rfl, ht, hRr⟩ := hrel
    have hx := hI.out _ hRr
    by_cases hlt : k < v.length
    · obtain ⟨b, o, rfl, _, q, d, hc, hi⟩ := hx.get hlt
      have hk1 : (k : Int) < v.length := by omega
      go_wp2_with fail
      refine (Hf.out k q d _ hlt hRr hi).mono ?_
      rintro e w' ⟨rfl, hR'⟩
      cases hP : P k with
      | true =>
        have HP := Lib.hid hP
        clear hP
        go_wp2_with fail
        go_ret
        exact ⟨ret_int (firstN_of hlt HP.out ht.out).symm, hR'⟩
      | false =>
        have HP := Lib.hid hP
        clear hP
        go_wp2_with fail
        go_roundw
        case rel => exact ⟨k + 1, by omega, by go_num, snoc_all' ht.out HP.out, hR'⟩
        case measure => simp [intOf]; omega
    · have hk1 : ¬ (k : Int) < v.length := by omega
      go_wp2_with fail
      go_ret
      exact ⟨ret_int (firstN_none (fun j hj => ht.out j (by omega))).symm, hRr⟩
set_option maxHeartbeats 400000 in
theorem containsFuncR_any (K : Nat) (P : Nat → Bool) (R : World → Prop) (hcf : ∀ args W, (callFunc K args).run Tryz.prog W = .ok (.enter K args) W) (p : Option Addr) (c : Nat) (v : List (List Int)) (w : World) (hR : R w) (hI : Hid (∀ W, R W → Mat W p c v)) (hf : AsksR K v P R) :
    Calls Tryz.prog 60 #[.slice p v.length c, .func (.func K) #[] #[]] w fun e w' => e = .returned (.bool (anyN P v.length)) ∧ R w' := by
  have HA := Lib.hid (firstN_any P v.length)
  have Hf := Lib.hid hf
  clear hf
  go_enter Tryz.func60, Tryz.ntmps60
  go_wp2_with fail
  refine (indexFuncR_any K P R hcf p c v w hR hI Hf.out).mono ?_
  rintro e w' ⟨rfl, hR'⟩
  go_wp2_with fail
  go_ret
  exact ⟨ret_bool HA.out, hR'⟩
end Go.Proofs.YtmcncflieoolmaaGreat

/- Boxes: blocks whose first cells are known, below what comes later; no condition. -/
namespace Go.Proofs.YtmcncflieoolmaaGreat
set_option linter.unusedVariables false
set_option linter.unusedSimpArgs false
open Go.ChangeShapes Go.WideShapes Go.ChangeAt Go.RowKit Go.Deep

/-- A block whose first cells are known. -/
structure BoxV (w : World) (S : Nat) (vs : List Value) : Prop where
  lt : S < w.heap.size
  cell : ∀ (k : Nat) (v : Value), vs[k]? = some v → w.cell? ⟨S, k, none⟩ = some v
theorem BoxV.below {w w' : World} {S : Nat} {vs : List Value} (h : BoxV w S vs) (hb : Below w.heap.size w w') : BoxV w' S vs :=
  ⟨Nat.lt_of_lt_of_le h.lt hb.size, fun k v hk => (hb.cell (p := ⟨S, k, none⟩) h.lt).trans (h.cell k v hk)⟩
theorem BoxV.new {w w' : World} {S : Nat} {vs : List Value} {t : TypeId} (hS : w.heap.size = S) (hw : w.alloc (.cells vs.toArray t) = w') : BoxV w' S vs := by
  subst hS hw
  exact ⟨by simp, fun k v hk => (World.cell?_alloc_at _ _ _ _ rfl).trans (by simpa using hk)⟩
theorem below_alloc {w w' : World} {o : Obj} (hw : w.alloc o = w') : Below w.heap.size w w' := by subst hw; exact (Below.refl _ _).alloc (Nat.le_refl _) _
end Go.Proofs.YtmcncflieoolmaaGreat
