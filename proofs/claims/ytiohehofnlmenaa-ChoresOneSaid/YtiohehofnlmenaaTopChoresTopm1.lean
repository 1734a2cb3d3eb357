/- The top circle and the division in rounds, reckoned; plain, no program. -/
import Derived.Test.YtiohehofnlmenaaTopChoresRunsm12
import Derived.Test.YtiohehofnlmenaaTopChoresRunsm13
import Derived.Test.YtiohehofnlmenaaTopChoresRunsm10
import Derived.Test.YtiohehofnlmenaaTopChoresRunsm2
import Derived.Maps.RangeWalk
import Derived.RangeFuncOwn
import Derived.Test.YtiohehofnlmenaaTopChoresRunsm15
import Derived.Test.YtiohehofnlmenaaTopChoresRunsm16
namespace Go.Proofs.Ytiohehofnlmenaa
set_option linter.unusedVariables false
set_option linter.unusedSimpArgs false
def topC (f : Nat → Nat) (n : Nat) : List Int :=
  match (List.range n).find? (fun k => itN f (k + 1) (lowIt f (itN f (2 * n) 0) n) == lowIt f (itN f (2 * n) 0) n) with
  | some k => if k = 0 then [] else orb f (lowIt f (itN f (2 * n) 0) n) (k + 1)
  | none => []
theorem topC_eq {f : Nat → Nat} {n : Nat} (hf : ∀ x, x < n → f x < n) (h0 : 0 < n) : topL f n = topC f n := by
  obtain ⟨L, hL1, hLn, hP, ht⟩ := top_of_low hf h0
  unfold topC
  have : (List.range n).find? (fun k => itN f (k + 1) (lowIt f (itN f (2 * n) 0) n) == lowIt f (itN f (2 * n) 0) n) = some (L - 1) := by
    rw [List.find?_range_eq_some]
    refine ⟨by rw [show L - 1 + 1 = L by omega]; simpa using hP.2.1, by simp; omega, fun j hj => ?_⟩
    have := hP.2.2 (j + 1) (by omega) (by omega)
    simpa using this
  rw [this, ht]
  simp only
  by_cases h1 : L = 1
  · rw [if_pos h1, if_pos (by omega)]
  · rw [if_neg h1, if_neg (by omega), show L - 1 + 1 = L by omega]
def topGC (v : List (List Int)) (a : List Int) : List Int := topC (bestF (valsG v a)) v.length
theorem topG_C {v : List (List Int)} {a : List Int} (h0 : 0 < v.length) : topG v a = topGC v a :=
  topC_eq (fun y _ => by have := bestF_lt (v := valsG v a) (i := y) (by rw [valsG_len]; exact h0); rwa [valsG_len] at this) h0
def circC (v : List (List Int)) (a : List Int) : List Int := if chkA v a = 0 then topGC v a else []
theorem circL_C {v : List (List Int)} {a : List Int} : circL v a = circC v a := by
  unfold circL circC
  by_cases h : chkA v a = 0
  · rw [if_pos h, if_pos h, topG_C (chkA_zero.1 h).1.1]
  · rw [if_neg h, if_neg h]
def runC1 (v : List (List Int)) (s : List Int × List Stp) : List Int × List Stp := if freeI v s.1 < 0 then (passL s.1 (topGC v s.1), s.2 ++ [(topGC v s.1, -1, -1)]) else s
def runCStep (v : List (List Int)) (s : List Int × List Stp) (g : Int) : List Int × List Stp :=
  ((runC1 v s).1.set g.toNat (freeI v (runC1 v s).1), (runC1 v s).2 ++ [([], freeI v (runC1 v s).1, g)])
def runToC (v : List (List Int)) (o : List Int) : Nat → List Int × List Stp
  | 0 => (List.replicate (wid v) (-1), [])
  | k + 1 => runCStep v (runToC v o k) (iget o k)
theorem runTo_C {v : List (List Int)} (o : List Int) (h0 : 0 < v.length) : ∀ k, runTo v o k = runToC v o k
  | 0 => rfl
  | k + 1 => by
    rw [runTo, runToC, runTo_C o h0 k]
    unfold runStep runCStep runS1 runC1
    rw [topG_C h0]
def runAC (v : List (List Int)) (o : List Int) : List Int := if runE v o = 0 then (runToC v o o.length).1 else []
def runSC (v : List (List Int)) (o : List Int) : List Stp := if runE v o = 0 then (runToC v o o.length).2 else []
theorem runE_pos {v : List (List Int)} {o : List Int} (h : runE v o = 0) : Gds v ∧ OrdP o (wid v) := by
  unfold runE at h
  by_cases hg : chkG v = 0
  · rw [if_pos hg] at h
    by_cases ho : OrdP o (wid v)
    · exact ⟨chkG_zero.1 hg, ho⟩
    · rw [if_neg ho] at h; cases h
  · rw [if_neg hg] at h; exact absurd h hg
theorem runA_C {v : List (List Int)} {o : List Int} : runA v o = runAC v o := by
  unfold runA runAC
  by_cases h : runE v o = 0
  · rw [if_pos h, if_pos h, runTo_C o (runE_pos h).1.1]
  · rw [if_neg h, if_neg h]
theorem runS_C {v : List (List Int)} {o : List Int} : runS v o = runSC v o := by
  unfold runS runSC
  by_cases h : runE v o = 0
  · rw [if_pos h, if_pos h, runTo_C o (runE_pos h).1.1]
  · rw [if_neg h, if_neg h]
end Go.Proofs.Ytiohehofnlmenaa

/- What the top circle brings: nobody of it envies afterwards; plain, no program. -/
namespace Go.Proofs.Ytiohehofnlmenaa
set_option linter.unusedVariables false
set_option linter.unusedSimpArgs false
theorem best_le {v : List (List Int)} {a : List Int} {i k : Nat} (hi : i < v.length) (hk : k < v.length) : worth v a i (bestF (valsG v a) i : Nat) ≤ worth v a i (k : Int) := by
  have hl := valsG_len v a
  have h0 : 0 < v.length := by omega
  have h1 := bestF_eq (v := valsG v a) (i := i) (by omega)
  have h2 := bestF_lt (v := valsG v a) (i := i) (by omega)
  have h3 := leastTo_is (rget (valsG v a) i) allP (valsG v a).length
  rw [h1] at h3
  rw [hl, valsG_row hi] at h3
  rw [hl] at h2
  rcases h3 with ⟨h4, _⟩ | ⟨m, h4, _, _, _, h5⟩
  · omega
  · have h6 := h5 k (by omega) hk rfl
    have e : bestF (valsG v a) i = m := by omega
    rw [e] at h2 ⊢
    rw [worthRow_get hk, worthRow_get h2] at h6
    rcases h6 with h6 | h6 <;> omega
theorem topG_facts {v : List (List Int)} {a : List Int} (h0 : 0 < v.length) :
    (topG v a).length ≠ 1 ∧ (∀ j, j < (topG v a).length → iget (topG v a) ((j + 1) % (topG v a).length) = (bestF (valsG v a) (iget (topG v a) j).toNat : Int)) ∧ ((topG v a).length = 0 → ∃ i, i < v.length ∧ bestF (valsG v a) i = i) := by
  have hl := valsG_len v a
  have hf : ∀ x, x < v.length → bestF (valsG v a) x < v.length := fun y _ => by have := bestF_lt (v := valsG v a) (i := y) (by omega); omega
  obtain ⟨L, hL1, hLn, hP, ht⟩ := top_of_low hf h0
  obtain ⟨j, hj, he⟩ := lowIt_mem (bestF (valsG v a)) (itN (bestF (valsG v a)) (2 * v.length) 0) v.length
  have hm : lowIt (bestF (valsG v a)) (itN (bestF (valsG v a)) (2 * v.length) 0) v.length < v.length := by rw [he]; exact itN_lt hf j _ (itN_lt hf _ 0 h0)
  unfold topG
  rw [ht]
  generalize lowIt (bestF (valsG v a)) (itN (bestF (valsG v a)) (2 * v.length) 0) v.length = m at *
  generalize bestF (valsG v a) = f at *
  by_cases h1 : L = 1
  · rw [if_pos h1]
    refine ⟨by simp, fun j h => by simp at h, fun _ => ⟨m, hm, ?_⟩⟩
    have := hP.2.1
    rw [h1] at this
    exact this
  · rw [if_neg h1]
    refine ⟨by rw [orb_len]; exact h1, fun j hj => ?_, fun h => by rw [orb_len] at h; omega⟩
    rw [orb_len] at hj ⊢
    rw [orb_get (Nat.mod_lt _ (by omega)), orb_get hj, Int.toNat_natCast, ← per_mod hP]
    rfl
theorem worth_pass {v : List (List Int)} {a l : List Int} {i k : Nat} (hl : CircOk l v.length) (ha : AllOk v.length a) (hk : k < v.length) : worth v (passL a l) i (k : Int) = worth v a i (iget (toL l v.length) k) := by
  have hA := toL_isA hl
  obtain ⟨t1, t2⟩ := isA_lt hA k hk
  have key : ∀ m, m < a.length → (iget (passL a l) m = (k : Int) ↔ iget a m = iget (toL l v.length) k) := by
    intro m hm
    have hr := ha m hm
    rw [passL_get hm]
    obtain ⟨x, hx⟩ : ∃ x, iget a m = x := ⟨_, rfl⟩
    rw [hx] at hr ⊢
    by_cases h0 : 0 ≤ x
    · obtain ⟨y, rfl⟩ : ∃ y : Nat, x = y := ⟨x.toNat, by omega⟩
      obtain ⟨z, hz, e1, e2⟩ := lastP_to hl (k := y) (by omega)
      rw [e1, ← e2]
      constructor
      · intro e; have : z = k := by omega
        subst this; rfl
      · intro e
        have := isA_inj hA hz hk e
        subst this; rfl
    · have hneg : lastP l x l.length = x := by
        rcases lastP_spec l x l.length with ⟨h3, _⟩ | ⟨j, h3, _, h5⟩
        · exact h3
        · have := hl.at' ((j + 1) % l.length) (Nat.mod_lt _ (by omega)); omega
      rw [hneg]
      constructor <;> intro e <;> omega
  unfold worth
  rw [passL_len]
  have : ∀ m, m ≤ a.length → worthUp v (passL a l) i (k : Int) m = worthUp v a i (iget (toL l v.length) k) m := by
    intro m
    induction m with
    | zero => intro _; rfl
    | succ m ih =>
      intro hm
      rw [worthUp, worthUp, ih (by omega)]
      by_cases e : iget (passL a l) m = (k : Int)
      · rw [if_pos e, if_pos ((key m (by omega)).1 e)]
      · rw [if_neg e, if_neg (fun h => e ((key m (by omega)).2 h))]
  exact this a.length (Nat.le_refl _)
/-- Nobody of the top circle envies after the passing. -/
theorem top_calm {v : List (List Int)} {a : List Int} (ha : AlcOk v a) (h0 : 0 < v.length) {j k : Nat} (hj : j < (topG v a).length) (hk : k < v.length) : cP v (passL a (topG v a)) (iget (topG v a) j).toNat k = false := by
  obtain ⟨hl, _⟩ := topG_circ (v := v) (a := a) h0
  obtain ⟨_, hn, _⟩ := topG_facts (v := v) (a := a) h0
  have hi := hl.at' j hj
  have hA := toL_isA hl
  obtain ⟨t1, t2⟩ := isA_lt hA k hk
  unfold cP
  rw [decide_eq_false_iff_not, worth_pass hl ha.2 (by omega : (iget (topG v a) j).toNat < v.length), worth_pass hl ha.2 hk, toL_on hl hj, hn j hj]
  have := best_le (v := v) (a := a) (i := (iget (topG v a) j).toNat) (k := itm (toL (topG v a) v.length) k) (by omega) t2
  have e : ((itm (toL (topG v a) v.length) k : Nat) : Int) = iget (toL (topG v a) v.length) k := by simp only [itm]; omega
  rw [e] at this
  omega
/-- If everyone envies there is a circle. -/
theorem top_some {v : List (List Int)} {a : List Int} (h0 : 0 < v.length) (h : ∀ i, i < v.length → ∃ k, k < v.length ∧ cP v a i k = true) : (topG v a).length ≠ 0 := by
  intro h1
  obtain ⟨i, hi, e⟩ := (topG_facts (v := v) (a := a) h0).2.2 h1
  obtain ⟨k, hk, hc⟩ := h i hi
  have := best_le (v := v) (a := a) hi hk
  rw [e] at this
  unfold cP at hc
  rw [decide_eq_true_iff] at hc
  omega
theorem sum_one (r : Int) (x : Int) : ∀ n : Nat, sumTo (fun k => if x = (k : Int) then r else 0) n = if 0 ≤ x ∧ x < n then r else 0
  | 0 => by rw [if_neg (by omega)]; rfl
  | n + 1 => by
    rw [sumTo, sum_one r x n]
    by_cases h1 : 0 ≤ x ∧ x < (n : Int)
    · rw [if_pos h1, if_neg (by omega), if_pos (by omega)]; omega
    · rw [if_neg h1]
      by_cases h2 : x = (n : Int)
      · rw [if_pos h2, if_pos (by omega)]; omega
      · rw [if_neg h2, if_neg (by omega)]; rfl
theorem sumTo_add2 (f g : Nat → Int) : ∀ n, sumTo (fun k => f k + g k) n = sumTo f n + sumTo g n
  | 0 => rfl
  | n + 1 => by simp only [sumTo, sumTo_add2 f g n]; omega
theorem worth_sum {v : List (List Int)} {a : List Int} {i : Nat} (hc : ∀ m, m < a.length → 0 ≤ iget a m ∧ iget a m < v.length) : ∀ m, m ≤ a.length → sumTo (fun k => worthUp v a i (k : Int) m) v.length = sumUp (rget v i) m
  | 0, _ => by
    have : ∀ n, sumTo (fun k => worthUp v a i (k : Int) 0) n = 0 := by
      intro n; induction n with
      | zero => rfl
      | succ n ih => rw [sumTo, ih]; rfl
    rw [this]; rfl
  | m + 1, hm => by
    have ih := worth_sum hc (i := i) m (by omega)
    have e : (fun k : Nat => worthUp v a i (k : Int) (m + 1)) = fun k : Nat => worthUp v a i (k : Int) m + (if iget a m = (k : Int) then iget (rget v i) m else 0) := by
      funext k; rw [worthUp]
    rw [e, sumTo_add2, ih, sum_one, if_pos (hc m (by omega)), sumUp]
theorem sumTo_ge {f : Nat → Int} {b : Int} : ∀ n, (∀ k, k < n → b ≤ f k) → b * n ≤ sumTo f n
  | 0, _ => by simp [sumTo]
  | n + 1, h => by
    have := sumTo_ge n (fun k hk => h k (by omega))
    have h2 := h n (by omega)
    rw [sumTo, Int.natCast_succ, Int.mul_add, Int.mul_one]
    omega
/-- In a complete allocation a burdened agent envies somebody. -/
theorem burd_envy {v : List (List Int)} {a : List Int} {i : Nat} (hg : Gds v) (ha : AlcOk v a) (hi : i < v.length) (hc : ∀ m, m < a.length → 0 ≤ iget a m) (hb : bP v a i = true) : ∃ k, k < v.length ∧ cP v a i k = true := by
  apply Classical.byContradiction
  intro hn
  unfold bP at hb
  rw [decide_eq_true_iff] at hb
  have h1 := worth_sum (v := v) (a := a) (i := i) (fun m hm => ⟨hc m hm, by have := ha.2 m hm; omega⟩) a.length (Nat.le_refl _)
  have h2 := sumTo_ge (f := fun k => worthUp v a i (k : Int) a.length) (b := worth v a i (i : Int)) v.length (fun k hk => by
    apply Classical.byContradiction
    intro h3
    exact hn ⟨k, hk, by unfold cP worth; rw [decide_eq_true_iff]; unfold worth at h3; omega⟩)
  rw [h1] at h2
  have e : sumUp (rget v i) a.length = allG v i := by unfold allG; rw [(hg.2.2.2 i hi).1, ha.1]
  rw [e] at h2
  omega
end Go.Proofs.Ytiohehofnlmenaa

/- The walks of the laws' fit (chores), and of the reference's Complete. -/
namespace Go.Proofs.Ytiohehofnlmenaa
set_option linter.unusedVariables false
set_option linter.unusedSimpArgs false
open Go.ChangeShapes Go.WideShapes Go.ChangeAt Go.RowKit Go.Deep
def fit24 (v : List (List Int)) (l : List Int) : Bool := decide (¬ GreatG v l ∧ chkG v = 0)
set_option maxHeartbeats 1600000 in
theorem fit24_any (p q : Option Addr) (c d : Nat) (v : List (List Int)) (l : List Int) (w : World) (hx : Mat w p c v) (hy : Ints w q d l) :
    Calls Try.prog 30 #[.agg #[.slice p v.length c], .slice q l.length d] w fun e w' => e = .returned (.bool (fit24 v l)) ∧ Below w.heap.size w w' := by
  obtain ⟨W0, hW0⟩ : ∃ W0, w.alloc (.cells #[.slice p v.length c] 24) = W0 := ⟨_, rfl⟩
  have hB : Below w.heap.size w W0 := below_alloc hW0
  have bX : BoxV W0 w.heap.size [.slice p v.length c] := BoxV.new rfl hW0
  have hx := hx.below hB (Nat.le_refl _)
  have x0 := bX.cell 0 _ rfl
  have HW0 := Lib.hid hW0
  clear hW0
  have hl1 := hx.length_le
  go_enter Try.func30, Try.ntmps30
  go_wp2_with fail
  rw [HW0.out]
  refine (great16_any p q c d v l _ hx).mono ?_
  rintro e w1 ⟨rfl, hb1⟩
  have hx := hx.below hb1 (Nat.le_refl _)
  have bX := bX.below hb1
  have x0 := bX.cell 0 _ rfl
  have hB := hB.trans (hb1.mono hB.size)
  by_cases hG : GreatG v l
  · have hg : greatG v l = true := by simp [greatG, hG]
    have HR : Hid (fit24 v l = false) := by unfold Hid fit24; rw [decide_eq_false_iff_not]; exact fun h => h.1 hG
    rw [hg]
    clear hG hb1 hg
    go_wp2_with fail
    go_ret
    exact ⟨ret_bool HR.out.symm, hB⟩
  · have hg : greatG v l = false := by simp [greatG, hG]
    have HG := Lib.hid hG
    rw [hg]
    clear hG hb1 hg
    go_wp2_with fail
    refine (ref16Check_any p c v _ hx).mono ?_
    rintro e w2 ⟨rfl, hb1⟩
    have hB := hB.trans (hb1.mono hB.size)
    have HR : Hid (fit24 v l = (chkG v == 0)) := by
      unfold Hid fit24; rw [Bool.eq_iff_iff, decide_eq_true_iff, beq_iff_eq]; exact ⟨fun h => h.2, fun h => ⟨HG.out, h⟩⟩
    cases hT : (chkG v == 0) with
    | true =>
      rw [hT] at HR
      clear hb1
      go_wp2_with fail
      go_ret
      exact ⟨ret_bool HR.out.symm, hB⟩
    | false =>
      rw [hT] at HR
      clear hb1
      go_wp2_with fail
      go_ret
      exact ⟨ret_bool HR.out.symm, hB⟩
def complP (a : List Int) : Prop := ∀ k, k < a.length → 0 ≤ iget a k
instance (a : List Int) : Decidable (complP a) := by unfold complP; infer_instance
set_option maxHeartbeats 800000 in
theorem complete_any (p : Option Addr) (c : Nat) (a : List Int) (w : World) (hx : Ints w p c a) :
    Calls Try.prog 33 #[.slice p a.length c] w fun e w' => e = .returned (.bool (decide (complP a))) ∧ w' = w := by
  have hl1 := hx.length_le
  go_enter Try.func33, Try.ntmps33
  go_wp2_with fail
  go_loop [3] (fun t => ∃ k : Nat, k ≤ a.length ∧ t = .int .i64 k ∧ Hid (∀ j, j < k → 0 ≤ iget a j)) (fun t => a.length - (intOf t).toNat)
  case atStart => exact ⟨0, Nat.zero_le _, rfl, fun j hj => absurd hj (Nat.not_lt_zero j)⟩
  case round =>
    obtain ⟨k, hk, rfl, ht⟩ := hrel
    by_cases hlt : k < a.length
    · obtain ⟨b, o, rfl, _, hc⟩ := hx.get hlt
      have hk1 : (k : Int) < a.length := by omega
      by_cases h0 : iget a k < 0
      · have hd : decide (iget a k < 0) = true := by simpa using h0
        have HP : Hid (decide (complP a) = false) := by unfold Hid; rw [decide_eq_false_iff_not]; exact fun h => by have := h k hlt; omega
        clear h0
        go_wp2_with fail
        go_ret
        exact ⟨ret_bool HP.out.symm, rfl⟩
      · have hd : decide (iget a k < 0) = false := by simpa using h0
        have HP : Hid (0 ≤ iget a k) := by unfold Hid; omega
        clear h0
        go_wp2_with fail
        go_round
        case rel => exact ⟨k + 1, by omega, by go_num, snoc_all' ht.out HP.out⟩
        case measure => simp [intOf]; omega
    · have hk1 : ¬ (k : Int) < a.length := by omega
      go_wp2_with fail
      go_ret
      exact ⟨ret_bool (decide_eq_true (fun j hj => ht.out j (by omega))).symm, rfl⟩
end Go.Proofs.Ytiohehofnlmenaa

/- What a text that runs straight on holds: rows, tables, lists of tables, under one name; literals, calls; no condition but sizes. -/
namespace Go.Proofs.Ytiohehofnlmenaa
open Go.ChangeShapes Go.WideShapes Go.ChangeAt Go.RowKit Go.Deep
set_option linter.unusedVariables false
set_option linter.unusedSimpArgs false

def in64B (x : Int) : Bool := decide (-9223372036854775808 ≤ x) && decide (x ≤ 9223372036854775807)
theorem in64_all {xs : List Int} (h : xs.all in64B = true) : ∀ x ∈ xs, in64 x := fun x hx => by
  have := List.all_eq_true.1 h x hx
  simp [in64B] at this
  exact this
theorem ints_lit (w : World) (xs : List Int) (hsz : xs.length ≤ 1000000) (hr : ∀ x ∈ xs, in64 x) :
    Ints (w.alloc (.cells (xs.map (Value.int .i64)).toArray 3)) (some ⟨w.heap.size, 0, none⟩) xs.length xs :=
  (Own.lit w w.heap.size (Nat.le_refl _) xs hsz (fun j hj => hr _ (iget_mem hj))).ints
theorem mat_lit (w : World) (rows : List (Option Addr × Nat × List Int)) (hsz : rows.length ≤ 1000000) (hr : ∀ r ∈ rows, Ints w r.1 r.2.1 r.2.2) :
    Mat (w.alloc (.cells (rows.map fun r => Value.slice r.1 r.2.2.length r.2.1).toArray 25)) (some ⟨w.heap.size, 0, none⟩) rows.length (rows.map fun r => r.2.2) := by
  have hb : Below w.heap.size w (w.alloc (.cells (rows.map fun r => Value.slice r.1 r.2.2.length r.2.1).toArray 25)) := (Below.refl _ w).alloc (Nat.le_refl _) _
  have hn := World.alloc_heap_new w (.cells (rows.map fun r => Value.slice r.1 r.2.2.length r.2.1).toArray 25)
  refine ⟨by simp, by omega, fun h => (by cases h), ?_, ?_⟩
  · rintro a ⟨⟩ _
    exact ⟨rfl, by simp⟩
  · rintro b o ⟨⟩ j hj
    have hj' : j < rows.length := by simpa using hj
    have hg : rget (rows.map fun r => r.2.2) j = rows[j].2.2 := by rw [rget_of hj]; simp
    refine ⟨rows[j].1, rows[j].2.1, ?_, ?_⟩
    · simp only [World.cell?]
      rw [hn, hg, Nat.zero_add]
      simp [hj']
    · rw [hg]
      exact (hr _ (List.getElem_mem hj')).below hb (Nat.le_refl _)

inductive Item where
  | ints (p : Option Addr) (n c : Nat) (xs : List Int)
  | mat (p : Option Addr) (n c : Nat) (v : List (List Int))
  | mats (b : Nat) (vs : List Value) (ms : List (List (List Int)))
def Item.ok (w : World) : Item → Prop
  | .ints p n c xs => xs.length = n ∧ Ints w p c xs
  | .mat p n c v => v.length = n ∧ Mat w p c v
  | .mats b vs ms => vs.length = ms.length ∧ b < w.heap.size ∧ ∀ (j : Nat) (v : List (List Int)), ms[j]? = some v → ∃ p c, w.cell? ⟨b, j, none⟩ = some (.slice p v.length c) ∧ vs[j]? = some (.slice p v.length c) ∧ Mat w p c v
theorem Item.ok_below {w w' : World} {i : Item} (h : i.ok w) (hb : Below w.heap.size w w') : i.ok w' := by
  cases i with
  | ints p n c xs => exact ⟨h.1, Ints.below h.2 hb (Nat.le_refl _)⟩
  | mat p n c v => exact ⟨h.1, Mat.below h.2 hb (Nat.le_refl _)⟩
  | mats b vs ms =>
    obtain ⟨h0, h1, h2⟩ := h
    refine ⟨h0, Nat.lt_of_lt_of_le h1 hb.size, fun j v hm => ?_⟩
    obtain ⟨p, c, h3, h4, h5⟩ := h2 j v hm
    exact ⟨p, c, (hb.cell (p := ⟨b, j, none⟩) h1).trans h3, h4, h5.below hb (Nat.le_refl _)⟩
/-- The items of these numbers are rows: what they hold, and their values. -/
inductive RowsAt (l : List Item) : List Nat → List (List Int) → List Value → Prop where
  | nil : RowsAt l [] [] []
  | cons {k : Nat} {ks : List Nat} {p : Option Addr} {n c : Nat} {x : List Int} {v : List (List Int)} {vs : List Value} (h : l[k]? = some (.ints p n c x)) (t : RowsAt l ks v vs) : RowsAt l (k :: ks) (x :: v) (.slice p n c :: vs)
  | nul {k : Nat} {ks : List Nat} {v : List (List Int)} {vs : List Value} (t : RowsAt l ks v vs) : RowsAt l (k :: ks) ([] :: v) (.slice none 0 0 :: vs)
inductive MatsAt (l : List Item) : List Nat → List (List (List Int)) → List Value → Prop where
  | nil : MatsAt l [] [] []
  | cons {k : Nat} {ks : List Nat} {p : Option Addr} {n c : Nat} {x : List (List Int)} {v : List (List (List Int))} {vs : List Value} (h : l[k]? = some (.mat p n c x)) (t : MatsAt l ks v vs) : MatsAt l (k :: ks) (x :: v) (.slice p n c :: vs)
  | nul {k : Nat} {ks : List Nat} {v : List (List (List Int))} {vs : List Value} (t : MatsAt l ks v vs) : MatsAt l (k :: ks) ([] :: v) (.slice none 0 0 :: vs)
theorem RowsAt.spec {l : List Item} {w : World} (hl : ∀ i ∈ l, i.ok w) {ks : List Nat} {v : List (List Int)} {vs : List Value} (h : RowsAt l ks v vs) :
    vs.length = v.length ∧ ∀ (j : Nat) (x : List Int), v[j]? = some x → ∃ p c, vs[j]? = some (Value.slice p x.length c) ∧ Ints w p c x := by
  induction h with
  | nil => exact ⟨rfl, fun j x h => (by simp at h)⟩
  | cons h t ih =>
    refine ⟨by simp [ih.1], fun j x hj => ?_⟩
    cases j with
    | zero =>
      simp at hj; subst hj
      obtain ⟨h1, h2⟩ := hl _ (List.mem_of_getElem? h)
      exact ⟨_, _, by rw [h1]; rfl, h2⟩
    | succ j => exact ih.2 j x (by simpa using hj)
  | nul t ih =>
    refine ⟨by simp [ih.1], fun j x hj => ?_⟩
    cases j with
    | zero => simp at hj; subst hj; exact ⟨none, 0, rfl, Ints.ofNil w⟩
    | succ j => exact ih.2 j x (by simpa using hj)
theorem MatsAt.spec {l : List Item} {w : World} (hl : ∀ i ∈ l, i.ok w) {ks : List Nat} {v : List (List (List Int))} {vs : List Value} (h : MatsAt l ks v vs) :
    vs.length = v.length ∧ ∀ (j : Nat) (x : List (List Int)), v[j]? = some x → ∃ p c, vs[j]? = some (Value.slice p x.length c) ∧ Mat w p c x := by
  induction h with
  | nil => exact ⟨rfl, fun j x h => (by simp at h)⟩
  | cons h t ih =>
    refine ⟨by simp [ih.1], fun j x hj => ?_⟩
    cases j with
    | zero =>
      simp at hj; subst hj
      obtain ⟨h1, h2⟩ := hl _ (List.mem_of_getElem? h)
      exact ⟨_, _, by rw [h1]; rfl, h2⟩
    | succ j => exact ih.2 j x (by simpa using hj)
  | nul t ih =>
    refine ⟨by simp [ih.1], fun j x hj => ?_⟩
    cases j with
    | zero => simp at hj; subst hj; exact ⟨none, 0, rfl, Mat.ofNil w⟩
    | succ j => exact ih.2 j x (by simpa using hj)
theorem mat_new (w : World) (v : List (List Int)) (vs : List Value) (hsz : v.length ≤ 1000000) (hl : vs.length = v.length) (h : ∀ (j : Nat) (x : List Int), v[j]? = some x → ∃ p c, vs[j]? = some (Value.slice p x.length c) ∧ Ints w p c x) :
    Mat (w.alloc (.cells vs.toArray 25)) (some ⟨w.heap.size, 0, none⟩) v.length v := by
  have hb : Below w.heap.size w (w.alloc (.cells vs.toArray 25)) := (Below.refl _ w).alloc (Nat.le_refl _) _
  have hn := World.alloc_heap_new w (.cells vs.toArray 25)
  refine ⟨Nat.le_refl _, by omega, fun h => (by cases h), ?_, ?_⟩
  · rintro a ⟨⟩ _
    exact ⟨rfl, by simp⟩
  · rintro b o ⟨⟩ j hj
    obtain ⟨p, c, h1, h2⟩ := h j (rget v j) (by rw [rget_of hj]; simp [hj])
    refine ⟨p, c, ?_, h2.below hb (Nat.le_refl _)⟩
    simp only [World.cell?]
    rw [hn, Nat.zero_add]
    simp [h1]

/-- In w, of B blocks, the items read as they say; what lay in w0 lies as it lay. -/
structure St (w0 w : World) (B : Nat) (l : List Item) : Prop where
  size : w.heap.size = B
  bel : Below w0.heap.size w0 w
  all : ∀ i ∈ l, i.ok w
theorem St.start (w : World) : St w w w.heap.size [] := ⟨rfl, Below.refl _ _, fun _ h => (by cases h)⟩
section
variable {w0 w : World} {B : Nat} {l : List Item}
theorem St.step {w' : World} (h : St w0 w B l) (hb : Below w.heap.size w w') : St w0 w' w'.heap.size l :=
  ⟨rfl, h.bel.trans (hb.mono h.bel.size), fun i hi => Item.ok_below (h.all i hi) hb⟩
theorem St.drew {w' : World} (h : St w0 w B l) (hw : ∃ n, w' = w.drewN n) : St w0 w' w'.heap.size l := by
  obtain ⟨n, rfl⟩ := hw; exact h.step (below_drewN _ _ _)
theorem St.add (h : St w0 w B l) (i : Item) (hi : i.ok w) : St w0 w B (i :: l) :=
  ⟨h.size, h.bel, fun j hj => by
    rcases List.mem_cons.1 hj with rfl | hj
    · exact hi
    · exact h.all j hj⟩
theorem St.pop {i : Item} (h : St w0 w B (i :: l)) : St w0 w B l := ⟨h.size, h.bel, fun j hj => h.all j (List.mem_cons_of_mem _ hj)⟩
theorem St.addI {n c : Nat} {p : Option Addr} {xs : List Int} (h : St w0 w B l) (hn : xs.length = n) (hi : Ints w p c xs) : St w0 w B (.ints p n c xs :: l) := h.add _ ⟨hn, hi⟩
theorem St.addM {n c : Nat} {p : Option Addr} {v : List (List Int)} (h : St w0 w B l) (hn : v.length = n) (hi : Mat w p c v) : St w0 w B (.mat p n c v :: l) := h.add _ ⟨hn, hi⟩
theorem St.intsAt (h : St w0 w B l) (k : Nat) {p : Option Addr} {n c : Nat} {xs : List Int} (hk : l[k]? = some (.ints p n c xs)) : Ints w p c xs := (h.all _ (List.mem_of_getElem? hk)).2
theorem St.matAt (h : St w0 w B l) (k : Nat) {p : Option Addr} {n c : Nat} {v : List (List Int)} (hk : l[k]? = some (.mat p n c v)) : Mat w p c v := (h.all _ (List.mem_of_getElem? hk)).2
theorem St.matsAt (h : St w0 w B l) (k : Nat) {b : Nat} {vs : List Value} {ms : List (List (List Int))} (hk : l[k]? = some (.mats b vs ms)) : ∀ (j : Nat) (v : List (List Int)), ms[j]? = some v → ∃ p c, w.cell? ⟨b, j, none⟩ = some (.slice p v.length c) ∧ Mat w p c v := fun j v hj => by
  obtain ⟨p, c, h1, _, h2⟩ := (h.all _ (List.mem_of_getElem? hk)).2.2 j v hj
  exact ⟨p, c, h1, h2⟩
theorem St.bump (h : St w0 w B l) (o : Obj) : St w0 (w.alloc o) (B + 1) l :=
  ⟨by simp [h.size], h.bel.alloc h.bel.size _, fun i hi => Item.ok_below (h.all i hi) ((Below.refl _ _).alloc (Nat.le_refl _) _)⟩
/-- '[]int{..}'. -/
theorem St.lit (h : St w0 w B l) (xs : List Int) (n : Nat) (hn : xs.length = n := by rfl) (hsz : n ≤ 1000 := by decide) (hr : xs.all in64B = true := by decide +kernel) :
    St w0 (w.alloc (.cells (xs.map (Value.int .i64)).toArray 3)) (B + 1) (.ints (some ⟨B, 0, none⟩) n n xs :: l) :=
  (h.bump _).add _ ⟨hn, by subst hn; rw [← h.size]; exact ints_lit w xs (by omega) (in64_all hr)⟩
/-- '[][]int{..}', its rows being items (by their numbers). -/
theorem St.litM (h : St w0 w B l) {ks : List Nat} {v : List (List Int)} {vs : List Value} (hm : RowsAt l ks v vs) (n : Nat) (hn : v.length = n := by rfl) (hsz : n ≤ 1000 := by decide) :
    St w0 (w.alloc (.cells vs.toArray 25)) (B + 1) (.mat (some ⟨B, 0, none⟩) n n v :: l) :=
  (h.bump _).add _ ⟨hn, by
    subst hn; rw [← h.size]
    obtain ⟨h1, h2⟩ := hm.spec h.all
    exact mat_new w v vs (by omega) h1 h2⟩
/-- 'make([][]int, n)', n a numeral. -/
theorem St.mkM (h : St w0 w B l) (n : Nat) (hsz : n ≤ 1000 := by decide) :
    St w0 (w.alloc (.cells (List.replicate n (.slice none 0 0)).toArray 25)) (B + 1) (.mat (some ⟨B, 0, none⟩) n n (List.replicate n []) :: l) :=
  (h.bump _).add _ ⟨by simp, by
    rw [← h.size]
    have := mat_new w (List.replicate n []) (List.replicate n (.slice none 0 0)) (by simp; omega) (by simp) (fun j x hj => by
      rw [List.getElem?_replicate] at hj
      split at hj
      · rename_i hlt
        cases hj
        exact ⟨none, 0, by rw [List.getElem?_replicate, if_pos hlt]; rfl, Ints.ofNil w⟩
      · cases hj)
    simpa using this⟩
/-- '[][][]int{..}', its tables being items. -/
theorem St.litMs (h : St w0 w B l) {ks : List Nat} {ms : List (List (List Int))} {vs : List Value} (hm : MatsAt l ks ms vs) (T : TypeId) :
    St w0 (w.alloc (.cells vs.toArray T)) (B + 1) (.mats B vs ms :: l) := by
  obtain ⟨h1, h2⟩ := hm.spec h.all
  refine (h.bump _).add _ ⟨h1, by simp [h.size], fun j v hj => ?_⟩
  obtain ⟨p, c, h3, h4⟩ := h2 j v hj
  refine ⟨p, c, ?_, h3, h4.below ((Below.refl _ w).alloc (Nat.le_refl _) _) (Nat.le_refl _)⟩
  have hn := World.alloc_heap_new w (.cells vs.toArray T)
  rw [← h.size]
  simp only [World.cell?]
  rw [hn]
  simp [h3]
/-- What goes on: the items, in every world that keeps what lies. -/
theorem St.frame (h : St w0 w B l) : ∃ G : World → Prop, G w ∧ Hid (∀ a b, G a → Below a.heap.size a b → G b) ∧ Hid (∀ a, G a → St w0 a a.heap.size l) :=
  ⟨fun a => St w0 a a.heap.size l, ⟨rfl, h.bel, h.all⟩, fun a b ha hb => ha.step hb, fun a ha => ha⟩
end
end Go.Proofs.Ytiohehofnlmenaa

/- Contracts of the chores' functions at given lists, for examples; no condition but what each says. -/
namespace Go.Proofs.Ytiohehofnlmenaa
set_option linter.unusedVariables false
set_option linter.unusedSimpArgs false
open Go.ChangeShapes Go.WideShapes Go.ChangeAt Go.RowKit Go.Deep

theorem sameC_e {p q : Option Addr} {c d n m : Nat} {xs ys : List Int} {w : World} (e : xs = ys) (hx : Ints w p c xs) (hy : Ints w q d ys) (hn : xs.length = n := by rfl) (hm : ys.length = m := by rfl) :
    Calls Try.prog 16 #[.slice p n c, .slice q m d] w fun e w' => e = .returned (.bool true) ∧ ∃ n, w' = w.drewN n := by
  subst hn hm e; exact eqI_true hx hy
theorem pickC_e {p q : Option Addr} {c d n m : Nat} {v : List (List Int)} {ts a k : List Int} {e : Int} {w : World} (h1 : cpickL v ts = a) (h2 : cpickT v ts = k) (h3 : pickE v ts = e) (hx : Mat w p c v) (hy : Ints w q d ts) {na nk : Nat} (hna : a.length = na := by rfl) (hnk : k.length = nk := by rfl) (hv : v.length = n := by rfl) (ht : ts.length = m := by rfl) :
    Calls Try.prog 24 #[.agg #[.slice p n c], .slice q m d] w fun e' w' => ∃ pa ca pk ck, e' = .returned (.tuple #[.slice pa na ca, .slice pk nk ck, .int .i64 e]) ∧ Ints w' pa ca a ∧ Ints w' pk ck k ∧ Below w.heap.size w w' := by
  subst hv ht hna hnk h1 h2 h3
  refine (choresPick_any p q c d v ts w hx hy).mono ?_
  rintro e' w' ⟨pa, ca, pk, ck, he, h1, h2, h3⟩
  exact ⟨pa, ca, pk, ck, he, h1.ints, h2.ints, h3⟩
theorem enviesC_e {p q : Option Addr} {c d n m : Nat} {v : List (List Int)} {a : List Int} {k : Nat} {e : Int} {w : World} (h1 : (envG cP v a).length = k) (h3 : chkA v a = e) (hx : Mat w p c v) (hy : Ints w q d a) (hv : v.length = n := by rfl) (ht : a.length = m := by rfl) :
    Calls Try.prog 11 #[.agg #[.slice p n c], .slice q m d] w fun e' w' => ∃ pa ca, e' = .returned (.tuple #[.slice pa k ca, .int .i64 e]) ∧ Below w.heap.size w w' := by
  subst hv ht h1 h3
  refine (choresEnvies_any p c v q d a w hx hy).mono ?_
  rintro e' w' ⟨pa, ca, he, _, h3⟩
  exact ⟨pa, ca, he, h3⟩
theorem runC_e {p q : Option Addr} {c d n m : Nat} {v : List (List Int)} {o a : List Int} {k : Nat} {e : Int} {w : World} (h1 : runAC v o = a) (h2 : (runSC v o).length = k) (h3 : runE v o = e) (hx : Mat w p c v) (hy : Ints w q d o) {na : Nat} (hna : a.length = na := by rfl) (hv : v.length = n := by rfl) (ht : o.length = m := by rfl) :
    Calls Try.prog 26 #[.agg #[.slice p n c], .slice q m d] w fun e' w' => ∃ pa ca pk ck, e' = .returned (.tuple #[.slice pa na ca, .slice pk k ck, .int .i64 e]) ∧ Ints w' pa ca a ∧ Below w.heap.size w w' := by
  subst hv ht hna h1 h2 h3
  refine (choresRun_any p q c d v o w hx hy).mono ?_
  rintro e' w' ⟨pa, ca, pk, ck, Q, D, he, h1, h2, h3⟩
  rw [runA_C] at he h1
  rw [runS_C] at he
  exact ⟨pa, ca, pk, ck, he, h1.ints, h3⟩
theorem burdC_e {p q : Option Addr} {c d n m : Nat} {v : List (List Int)} {a xs : List Int} {e : Int} {w : World} (h1 : burdL v a = xs) (h3 : chkA v a = e) (hx : Mat w p c v) (hy : Ints w q d a) {k : Nat} (hk : xs.length = k := by rfl) (hv : v.length = n := by rfl) (ht : a.length = m := by rfl) :
    Calls Try.prog 13 #[.agg #[.slice p n c], .slice q m d] w fun e' w' => ∃ pa ca, e' = .returned (.tuple #[.slice pa k ca, .int .i64 e]) ∧ Ints w' pa ca xs ∧ Below w.heap.size w w' := by
  subst hv ht hk h1 h3
  refine (choresBurdened_any p c v q d a w hx hy).mono ?_
  rintro e' w' ⟨pa, ca, he, h1, h3⟩
  exact ⟨pa, ca, he, h1.ints, h3⟩
theorem circC_e {p q : Option Addr} {c d n m : Nat} {v : List (List Int)} {a xs : List Int} {e : Int} {w : World} (h1 : circC v a = xs) (h3 : chkA v a = e) (hx : Mat w p c v) (hy : Ints w q d a) {k : Nat} (hk : xs.length = k := by rfl) (hv : v.length = n := by rfl) (ht : a.length = m := by rfl) :
    Calls Try.prog 19 #[.agg #[.slice p n c], .slice q m d] w fun e' w' => ∃ pa ca, e' = .returned (.tuple #[.slice pa k ca, .int .i64 e]) ∧ Ints w' pa ca xs ∧ Below w.heap.size w w' := by
  subst hv ht hk h1 h3
  refine (choresCircle_any p c v q d a w hx hy).mono ?_
  rintro e' w' ⟨pa, ca, he, h1, h3⟩
  rw [circL_C] at he h1
  exact ⟨pa, ca, he, h1.ints, h3⟩
theorem oneC_e {p q : Option Addr} {c d n m : Nat} {v : List (List Int)} {a : List Int} {j : Nat} {ps : List (Nat × Nat)} {e : Int} {w : World} (h1 : (oneM v a).length = j) (h2 : oneN v a = ps) (h3 : chkA v a = e) (hx : Mat w p c v) (hy : Ints w q d a) {k : Nat} (hk : ps.length = k := by rfl) (hv : v.length = n := by rfl) (ht : a.length = m := by rfl) :
    Calls Try.prog 17 #[.agg #[.slice p n c], .slice q m d] w fun e' w' => ∃ pm cm pq cq, e' = .returned (.tuple #[.slice pm j cm, .slice pq k cq, .int .i64 e]) ∧ OwnP w' w.heap.size pq cq ps ∧ Below w.heap.size w w' := by
  subst hv ht hk h1 h2 h3
  refine (choresOne_any p c v q d a w hx hy).mono ?_
  rintro e' w' ⟨pm, cm, pq, cq, he, h1, h2, h3⟩
  exact ⟨pm, cm, pq, cq, he, h2, h3⟩

/-- The chapter's chores. -/
def GV24 : List (List Int) := [[5, 3, 1], [2, 2, 2]]
set_option maxHeartbeats 800000 in
theorem given24_any (w : World) : Calls Try.prog 35 #[] w fun e w' => ∃ p c, e = .returned (.agg #[.slice p 2 c]) ∧ Mat w' p c GV24 ∧ Below w.heap.size w w' := by
  go_enter Try.func35, Try.ntmps35
  have hS := (((((St.start w).bump (.cells #[.slice (some ⟨w.heap.size + 1 + 1 + 1, 0, none⟩) 2 2] 24)).lit [5, 3, 1] 3).lit [2, 2, 2] 3).litM (ks := [1, 0]) (.cons rfl (.cons rfl .nil)) 2)
  go_wp2
  exact bodyPost_ret (v := .agg #[.slice (some ⟨w.heap.size + 1 + 1 + 1, 0, none⟩) 2 2]) (by simp [results, Try.results35, go_sem]) rfl ⟨_, _, rfl, hS.matAt 0 rfl, hS.bel⟩
end Go.Proofs.Ytiohehofnlmenaa

/- The walk of alive (chores): the chapter's examples hold; no condition. -/
namespace Go.Proofs.Ytiohehofnlmenaa
set_option linter.unusedVariables false
set_option linter.unusedSimpArgs false
open Go.ChangeShapes Go.WideShapes Go.ChangeAt Go.RowKit Go.Deep

set_option maxHeartbeats 4000000 in
set_option maxRecDepth 100000 in
theorem alive24_any (w : World) : Calls Try.prog 29 #[] w fun e w' => e = .returned (.bool true) ∧ Below w.heap.size w w' := by
  go_enter Try.func29, Try.ntmps29
  have hS := St.start w
  go_wp2_with fail
  refine (given24_any _).mono ?_
  rintro e w1 ⟨p1, c1, rfl, hM, hb⟩
  replace hS := hS.step hb
  replace hS := hS.addM rfl hM
  clear hb hM
  replace hS := hS.lit [0, 1, 0] 3
  go_wp2_with fail
  refine (pickC_e (a := [1, 0, 0]) (k := [2, 0, 1]) (e := 0) (by decide +kernel) (by decide +kernel) (by decide +kernel) (hS.matAt 1 rfl) (hS.intsAt 0 rfl)).mono ?_
  rintro e w2 ⟨pa, ca, pk, ck, rfl, hA, hK, hb⟩
  replace hS := hS.step hb
  replace hS := hS.addI rfl hA
  replace hS := hS.addI rfl hK
  clear hb hA hK
  go_wp2_with fail
  refine (given24_any _).mono ?_
  rintro e w3 ⟨p2, c2, rfl, hM, hb⟩
  replace hS := hS.step hb
  replace hS := hS.addM rfl hM
  clear hb hM
  replace hS := hS.lit [1, 0, 0] 3
  go_wp2_with fail
  refine (enviesC_e (k := 0) (e := 0) (by decide +kernel) (by decide +kernel) (hS.matAt 1 rfl) (hS.intsAt 0 rfl)).mono ?_
  rintro e w4 ⟨pb, cb, rfl, hb⟩
  replace hS := hS.step hb
  clear hb 
  go_wp2_with fail
  refine (given24_any _).mono ?_
  rintro e w5 ⟨p3, c3, rfl, hM, hb⟩
  replace hS := hS.step hb
  replace hS := hS.addM rfl hM
  clear hb hM
  replace hS := hS.lit [0, 1, 2] 3
  go_wp2_with fail
  refine (runC_e (a := [0, 1, 1]) (k := (runSC GV24 [0, 1, 2]).length) (e := 0) (by decide +kernel) rfl (by decide +kernel) (hS.matAt 1 rfl) (hS.intsAt 0 rfl)).mono ?_
  rintro e w6 ⟨pr, cr, ps, cs, rfl, hA, hb⟩
  replace hS := hS.step hb
  replace hS := hS.addI rfl hA
  clear hb hA
  replace hS := hS.lit [1, 0, 0] 3
  go_wp2_with fail
  refine (sameC_e rfl (hS.intsAt 7 rfl) (hS.intsAt 0 rfl)).mono ?_
  rintro e w7 ⟨rfl, hw⟩
  replace hS := hS.drew hw
  clear hw 
  replace hS := hS.lit [2, 0, 1] 3
  go_wp2_with fail
  refine (sameC_e rfl (hS.intsAt 7 rfl) (hS.intsAt 0 rfl)).mono ?_
  rintro e w8 ⟨rfl, hw⟩
  replace hS := hS.drew hw
  clear hw 
  replace hS := hS.lit [0, 1, 1] 3
  go_wp2_with fail
  refine (sameC_e rfl (hS.intsAt 3 rfl) (hS.intsAt 0 rfl)).mono ?_
  rintro e w9 ⟨rfl, hw⟩
  replace hS := hS.drew hw
  clear hw 
  go_wp2_with fail
  go_ret
  exact ⟨rfl, hS.bel⟩
end Go.Proofs.Ytiohehofnlmenaa
