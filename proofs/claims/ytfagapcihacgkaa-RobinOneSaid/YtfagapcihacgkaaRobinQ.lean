/- What picking in turns leaves: the goods that are free, their number, and who gets what; plain, no program. -/
import Derived.Test.YtfagapcihacgkaaRobinP
import Derived.Test.YtfagapcihacgkaaGoodsW
import Derived.Test.YtfagapcihacgkaaBool
namespace Go.Proofs.Ytfagapcihacgkaa
set_option linter.unusedVariables false
set_option linter.unusedSimpArgs false

def frB (a : List Int) : List Bool := a.map fun x => decide (x < 0)
theorem frB_len (a : List Int) : (frB a).length = a.length := by simp [frB]
theorem frB_get {a : List Int} {k : Nat} (hk : k < a.length) : bget (frB a) k = decide (iget a k < 0) := by simp [bget, frB, iget, hk]
theorem frB_set (a : List Int) (x : Nat) {i : Int} (hi : 0 ≤ i) : frB (a.set x i) = (frB a).set x false := by
  unfold frB; rw [List.map_set]; congr 1; simp; omega
def cntF (a : List Int) : Nat := a.countP fun x => decide (x < 0)
theorem cntF_zero {a : List Int} : cntF a = 0 ↔ ∀ j, j < a.length → ¬ iget a j < 0 := by
  unfold cntF
  rw [List.countP_eq_zero]
  constructor
  · intro h j hj; have := h _ (iget_mem hj); simpa using this
  · intro h x hx
    obtain ⟨j, hj, rfl⟩ := List.getElem_of_mem hx
    have := h j hj
    rw [iget_of hj] at this
    simpa using this
theorem cntF_set : ∀ {a : List Int} {x : Nat} {i : Int}, x < a.length → iget a x < 0 → 0 ≤ i → cntF a = cntF (a.set x i) + 1
  | [], _, _, h, _, _ => by simp at h
  | y :: a, 0, i, _, h, hi => by
    have h0 : y < 0 := by simpa [iget] using h
    simp [cntF, h0, Int.not_lt.2 hi]
  | y :: a, x + 1, i, hx, h, hi => by
    have := cntF_set (a := a) (x := x) (i := i) (by simpa using hx) (by simpa [iget] using h) hi
    unfold cntF at *
    simp only [List.set_cons_succ, List.countP_cons]
    omega
theorem cntF_new (m : Nat) : cntF (List.replicate m (-1)) = m := by unfold cntF; rw [List.countP_replicate]; simp
theorem pick_none {r a : List Int} : pick r a < 0 ↔ cntF a = 0 := by unfold pick; rw [pickTo_none, cntF_zero]

/-- k true ones, then false ones. -/
def fillB (m k : Nat) : List Bool := (List.range m).map fun j => decide (j < k)
theorem fillB_len (m k : Nat) : (fillB m k).length = m := by simp [fillB]
theorem fillB_zero (m : Nat) : fillB m 0 = List.replicate m false := by
  apply List.ext_getElem
  · simp [fillB]
  · intro j h1 h2; simp [fillB]
theorem fillB_set {m k : Nat} (hk : k < m) : (fillB m k).set k true = fillB m (k + 1) := by
  apply List.ext_getElem
  · simp [fillB]
  · intro j h1 h2
    rw [List.getElem_set]
    split
    · rename_i h; subst h; simp [fillB]
    · by_cases e : j < k
      · simp [fillB, e]; omega
      · simp [fillB, e]; omega
theorem fillB_full (m : Nat) : fillB m m = frB (List.replicate m (-1)) := by
  apply List.ext_getElem
  · simp [fillB, frB]
  · intro j h1 h2
    have : j < m := by simpa [fillB] using h1
    simp [fillB, frB, this]

theorem pkT_get (v : List (List Int)) (ts : List Int) : ∀ (L t : Nat), t < L → iget (pkT v ts L) t = pick (rget v (iget ts t).toNat) (pkA v ts t)
  | 0, _, h => by omega
  | L + 1, t, h => by
    rw [pkT, iget_append, pkT_len]
    split
    · exact pkT_get v ts L t (by omega)
    · have : t = L := by omega
      subst this
      simp [iget]
theorem pkA_keep {v : List (List Int)} {ts : List Int} {k x : Nat} (hx : x < wid v) (h : 0 ≤ iget (pkA v ts k) x) : ∀ m, k ≤ m → iget (pkA v ts m) x = iget (pkA v ts k) x
  | m, hm => by
    by_cases e : m = k
    · rw [e]
    · obtain ⟨m', rfl⟩ : ∃ m', m = m' + 1 := ⟨m - 1, by omega⟩
      have ih := pkA_keep (ts := ts) hx h m' (by omega)
      rw [pkA, stepA]
      split
      · rename_i h0
        have hr := pickTo_range (rget v (iget ts m').toNat) (pkA v ts m') (pkA v ts m').length
        have hb := (pickTo_best h0).1
        have h0' : 0 ≤ pickTo (rget v (iget ts m').toNat) (pkA v ts m') (pkA v ts m').length := h0
        rw [iget_set (by unfold pick; omega)]
        split
        · rename_i e2
          unfold pick at e2
          rw [e2, ih] at hb
          omega
        · exact ih
      · exact ih
  termination_by m => m
theorem pkA_ok {v : List (List Int)} {ts : List Int} (ht : ∀ t, t < ts.length → 0 ≤ iget ts t ∧ iget ts t < v.length) : ∀ k, k ≤ ts.length → AllOk v.length (pkA v ts k)
  | 0, _ => by
    intro j hj
    rw [pkA_len] at hj
    have : iget (pkA v ts 0) j = -1 := by simp [pkA, iget, hj]
    rw [this]; omega
  | k + 1, hk => by
    have ih := pkA_ok ht k (by omega)
    intro j hj
    have hj' : j < (pkA v ts k).length := by rw [pkA_len] at hj ⊢; exact hj
    rw [pkA, stepA]
    split
    · rename_i h0
      have hr := pickTo_range (rget v (iget ts k).toNat) (pkA v ts k) (pkA v ts k).length
      have h0' : 0 ≤ pickTo (rget v (iget ts k).toNat) (pkA v ts k) (pkA v ts k).length := h0
      rw [iget_set (by unfold pick; omega)]
      split
      · have := ht k (by omega); omega
      · exact ih j hj'
    · exact ih j hj'
/-- One turn: none is left, or the best of those that are left is taken, and stays taken. -/
theorem pk_step {v : List (List Int)} {ts : List Int} (ht : ∀ t, t < ts.length → 0 ≤ iget ts t ∧ iget ts t < v.length) {t : Nat} (h : t < ts.length) :
    (cntF (pkA v ts t) = 0 ∧ iget (pkT v ts ts.length) t = -1 ∧ pkA v ts (t + 1) = pkA v ts t) ∨
    (cntF (pkA v ts t) ≠ 0 ∧ ∃ x : Nat, iget (pkT v ts ts.length) t = x ∧ x < wid v ∧ iget (pkA v ts t) x < 0 ∧ iget (pkA v ts ts.length) x = iget ts t ∧
      (∀ y, y < wid v → iget (pkA v ts t) y < 0 → y ≠ x → BetterP (rget v (iget ts t).toNat) x y) ∧ pkA v ts (t + 1) = (pkA v ts t).set x (iget ts t) ∧ cntF (pkA v ts t) = cntF (pkA v ts (t + 1)) + 1) := by
  have hr := pickTo_range (rget v (iget ts t).toNat) (pkA v ts t) (pkA v ts t).length
  have hT := pkT_get v ts ts.length t h
  have hl := pkA_len v ts t
  have hti := ht t h
  rcases Int.lt_or_le (pick (rget v (iget ts t).toNat) (pkA v ts t)) 0 with h0 | h0
  · left
    refine ⟨pick_none.1 h0, ?_, ?_⟩
    · rw [hT]; unfold pick at *; omega
    · rw [pkA, stepA, if_neg (by omega)]
  · right
    obtain ⟨x, hx⟩ : ∃ x : Nat, pick (rget v (iget ts t).toNat) (pkA v ts t) = x := ⟨(pick (rget v (iget ts t).toNat) (pkA v ts t)).toNat, by omega⟩
    obtain ⟨h1, h2⟩ := pickTo_best (show 0 ≤ pickTo (rget v (iget ts t).toNat) (pkA v ts t) (pkA v ts t).length from h0)
    have hx' : pickTo (rget v (iget ts t).toNat) (pkA v ts t) (pkA v ts t).length = x := hx
    rw [hx', Int.toNat_natCast] at h1 h2
    have hxl : x < wid v := by rw [hx'] at hr; omega
    have hst : pkA v ts (t + 1) = (pkA v ts t).set x (iget ts t) := by rw [pkA, stepA, hx, if_pos (by omega), Int.toNat_natCast]
    have hc := cntF_set (a := pkA v ts t) (x := x) (i := iget ts t) (by omega) h1 hti.1
    refine ⟨by omega, x, by rw [hT, hx], hxl, h1, ?_, fun y hy => h2 y (by omega), hst, by rw [hst]; exact hc⟩
    have hg : iget (pkA v ts (t + 1)) x = iget ts t := by rw [hst, iget_set (by omega), if_pos rfl]
    rw [pkA_keep hxl (by rw [hg]; exact hti.1) ts.length (by omega), hg]
end Go.Proofs.Ytfagapcihacgkaa
