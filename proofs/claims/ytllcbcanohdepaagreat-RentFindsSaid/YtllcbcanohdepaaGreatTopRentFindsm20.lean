/- XInv's law with guards: an operation that is not wanted is passed over; no condition but that operations wait for earlier ones alone. -/
import Derived.Test.YtllcbcanohdepaaGreatTopRentFindsm11
import Derived.Test.YtllcbcanohdepaaGreatTopRentFindsm10
import Derived.Test.YtllcbcanohdepaaGreatTopRentFindsm13
/- XInv's law with guards: an operation that is not wanted is passed over; no condition but that operations wait for earlier ones alone. -/
namespace Go.Proofs.YtllcbcanohdepaaGreat
set_option linter.unusedVariables false
set_option linter.unusedSimpArgs false
open Go.ChangeShapes Go.WideShapes Go.ChangeAt Go.RowKit Go.Deep

def backG (ops : Array Oper) : Bool := (List.range ops.size).all fun i => match ops[i]? with
  | some o => (onL o).all (fun k => decide (k < i))
  | none => true
theorem want_yes {W : Bool} {A X : Prop} (h : W = true) (p : A) : (W = true → A) ∧ (W = false → X) := ⟨fun _ => p, fun h2 => absurd (h.symm.trans h2) (by decide)⟩
theorem want_no {W : Bool} {A X : Prop} (h : W = false) (p : X) : (W = true → A) ∧ (W = false → X) := ⟨fun h2 => absurd (h.symm.trans h2) (by decide), fun _ => p⟩
theorem wanted_of {ops : Array Oper} {tmps : Array Value} {o : Oper} {g slot : Nat} {b t : Bool} (hg : o.guard = some (g, b)) (hs : (ops[g]?).bind (·.dst) = some slot) (e : tmps[slot]?.getD undef = .bool t) : Region.wanted o (yielded ops tmps) = (t == b) := by
  have e2 : tmps[slot]? = some (.bool t) := by
    cases h : tmps[slot]? with
    | none => rw [h] at e; cases e
    | some x => rw [h] at e; exact congrArg some e
  simp only [Region.wanted, hg, yielded, hs, Option.bind_some, e2]
  cases t <;> cases b <;> rfl
section
variable {P : Program} {ops : Array Oper} {Q : Exit → Act → World → Prop}
theorem backG_spec (hb : backG ops = true) {i : Nat} {o : Oper} (h : ops[i]? = some o) : ∀ e ∈ o.after, Region.binds .any e = true → e.on < i := by
  have hlt : i < ops.size := (Array.getElem?_eq_some_iff.1 h).1
  have := List.all_eq_true.1 hb i (List.mem_range.2 hlt)
  simp only [h] at this
  intro e he hbi
  have h2 := List.all_eq_true.1 this e.on (List.mem_map.2 ⟨e, List.mem_filter.2 ⟨by simpa using he, hbi⟩, rfl⟩)
  simpa using h2
theorem all_listedG (hb : backG ops = true) {listed : Array Bool} (hs : listed.size = ops.size) (hr : Region.ready .any ops listed = []) : ∀ k, k < ops.size → listed.getD k false = true := by
  intro k
  induction k using Nat.strongRecOn with
  | _ k ih =>
    intro hk
    cases hl : listed.getD k false with
    | true => rfl
    | false =>
      have hm : k ∈ Region.ready .any ops listed := by
        rw [mem_ready]
        have hks : k < listed.size := by omega
        refine ⟨by simp [hks] at hl ⊢; exact hl, ops[k], by simp [hk], fun e he hbi => ?_⟩
        have := (backG_spec hb (i := k) (o := ops[k]) (by simp [hk])) e he hbi
        exact ih e.on this (by omega)
      rw [hr] at hm; cases hm
theorem wpAny_invG (hb : backG ops = true) (hn : ((slotL 0 ops.toList).map (·.2)).Nodup) (a : Act) (J : (Nat → Value) → (Nat → Prop) → World → Prop)
    (hstep : ∀ us D w i o A, A = actL ops a us → ops[i]? = some o → J us D w → ¬ D i → (∀ k ∈ onL o, D k) → ∀ K : Act → World → Prop, (∀ v w', J (upd us i v) (fun k => k = i ∨ D k) w' → K (A.put o.dst v) w') → (Region.wanted o (yielded ops A.tmps) = true → o.wp P A w K Q) ∧ (Region.wanted o (yielded ops A.tmps) = false → K (A.put o.dst undef) w))
    (hend : ∀ us D w, J us D w → (∀ k, k < ops.size → D k) → Q .normal (actL ops a us) w) :
    ∀ (fuel : Nat) (listed : Array Bool) (us : Nat → Value) (w : World), listed.size = ops.size → listed.toList.count false ≤ fuel → J us (fun k => listed.getD k false = true) w → wpAny P .any ops Q fuel listed (actL ops a us) w := by
  have hput : ∀ us i o v, ops[i]? = some o → (actL ops a us).put o.dst v = actL ops a (upd us i v) := fun us i o v h => by
    have hl : ops.toList[i]? = some o := by simpa using h
    cases hd : o.dst with
    | none =>
      have hoff : putL (slotL 0 ops.toList) a.tmps (upd us i v) = putL (slotL 0 ops.toList) a.tmps us := putL_off _ _ _ _ _ fun d hm => by
        obtain ⟨_, o', h1, h2⟩ := slotL_idx _ _ _ _ hm
        rw [Nat.sub_zero, hl] at h1
        cases h1
        rw [hd] at h2; cases h2
      simp only [Act.put, actL, hoff]
    | some d =>
      have hm := slotL_mem ops.toList 0 i o d hl hd
      rw [Nat.zero_add] at hm
      have := putL_put _ a.tmps us i d v (slotL_nodup _ _) hn hm
      simp only [Act.put, actL, this]
  intro fuel
  induction fuel with
  | zero =>
    intro listed us w hs hc hJ
    have hall : ∀ k, k < ops.size → listed.getD k false = true := fun k hk => by
      cases hl : listed.getD k false with
      | true => rfl
      | false =>
        have hks : k < listed.size := by omega
        have h1 : listed[k] = false := by simpa [hks] using hl
        have := List.count_pos_iff.2 (show false ∈ listed.toList by rw [← h1]; simp)
        omega
    refine ⟨?_, hend us _ w hJ hall⟩
    rw [List.eq_nil_iff_forall_not_mem]
    intro k hk
    obtain ⟨h1, o, h2, _⟩ := mem_ready.1 hk
    have hlt : k < ops.size := (Array.getElem?_eq_some_iff.1 h2).1
    have h3 := hall k hlt
    have hks : k < listed.size := by omega
    simp [hks] at h1 h3
    rw [h1] at h3; cases h3
  | succ fuel ih =>
    intro listed us w hs hc hJ
    refine ⟨fun hr => hend us _ w hJ (all_listedG hb hs hr), fun i hi => ?_⟩
    obtain ⟨h1, o, h2, h3⟩ := mem_ready.1 hi
    have hlt : i < ops.size := (Array.getElem?_eq_some_iff.1 h2).1
    have his : i < listed.size := by omega
    have h1' : listed[i] = false := by simpa [his] using h1
    have hon : ∀ k ∈ onL o, listed.getD k false = true := fun k hk => by
      obtain ⟨e, he, rfl⟩ := List.mem_map.1 hk
      obtain ⟨he1, he2⟩ := List.mem_filter.1 he
      exact h3 e (by simpa using he1) he2
    unfold wpOp
    simp only [h2]
    have hst := hstep us _ w i o _ rfl h2 hJ (by simp [his, h1']) hon (wpAny P .any ops Q fuel (listed.setIfInBounds i true)) fun v w' hJ' => ?_
    · cases hw : Region.wanted o (yielded ops (actL ops a us).tmps) with
      | true => rw [if_pos rfl]; exact .inl (hst.1 hw)
      | false => rw [if_neg (by decide)]; exact hst.2 hw
    rw [hput us i o v h2]
    refine ih _ _ _ (by simp [hs]) ?_ ?_
    · rw [Array.toList_setIfInBounds, List.count_set (by simpa using his)]
      have := List.count_pos_iff.2 (show false ∈ listed.toList by rw [← h1']; simp)
      rw [if_pos (by simp [h1']), if_neg (by simp)]
      omega
    · have e : (fun k => (listed.setIfInBounds i true).getD k false = true) = fun k => k = i ∨ listed.getD k false = true := funext fun k => propext (by
        by_cases hk : k = i
        · subst hk; simp [his]
        · simp [Array.getD_eq_getD_getElem?, Array.getElem?_setIfInBounds_ne (Ne.symm hk), hk])
      rw [e]; exact hJ'
/-- A region that draws its order, under an invariant. -/
theorem wp_region_invG {id : Nat} (hm : P.follows .mixedOrders = true) (hb : backG ops = true) (hn : ((slotL 0 ops.toList).map (·.2)).Nodup) (a : Act) (w : World) (J : (Nat → Value) → (Nat → Prop) → World → Prop)
    (h0 : ∀ us, J us (fun _ => False) w.drew)
    (hstep : ∀ us D w i o A, A = actL ops a us → ops[i]? = some o → J us D w → ¬ D i → (∀ k ∈ onL o, D k) → ∀ K : Act → World → Prop, (∀ v w', J (upd us i v) (fun k => k = i ∨ D k) w' → K (A.put o.dst v) w') → (Region.wanted o (yielded ops A.tmps) = true → o.wp P A w K Q) ∧ (Region.wanted o (yielded ops A.tmps) = false → K (A.put o.dst undef) w))
    (hend : ∀ us D w, J us D w → (∀ k, k < ops.size → D k) → Q .normal (actL ops a us) w) : (Code.region id ops true).wp P Q a w := by
  refine wp_region_any hm ?_
  obtain ⟨us, hus⟩ : ∃ us : Nat → Value, ∀ i d, (i, d) ∈ slotL 0 ops.toList → ∀ h : d < a.tmps.size, us i = a.tmps[d] := by
    refine ⟨fun i => match ops[i]? with | some o => (match o.dst with | some d => a.tmps.getD d undef | none => undef) | none => undef, fun i d hm h => ?_⟩
    obtain ⟨_, o, h1, h2⟩ := slotL_idx _ _ _ _ hm
    rw [Nat.sub_zero] at h1
    have h1' : ops[i]? = some o := by simpa using h1
    simp [h1', h2, h]
  have ea : actL ops a us = a := by unfold actL; rw [putL_self _ _ _ hus]
  rw [← ea]
  refine wpAny_invG hb hn a J hstep hend _ _ us _ (by simp) (by simp) ?_
  have e : (fun k => (Array.replicate ops.size false).getD k false = true) = fun _ => False := funext fun k => propext (by
    simp [Array.getD_eq_getD_getElem?, Array.getElem?_replicate]; split <;> rfl)
  rw [e]; exact h0 us
end
end Go.Proofs.YtllcbcanohdepaaGreat

/- The invariant of a region that reckons two numbers of two words by calls and puts each into a block of its own; no condition. -/
namespace Go.Proofs.YtllcbcanohdepaaGreat
set_option linter.unusedVariables false
set_option linter.unusedSimpArgs false
open Go.ChangeShapes Go.WideShapes Go.ChangeAt Go.RowKit Go.Deep

def BlockJ (B : World) (W : World) (u : Value) (done : Prop) (x : Int) : Prop := ∃ (g : Nat) (z : Int), u = .pointer (some ⟨g, 0, none⟩) ∧ B.heap.size ≤ g ∧ g < W.heap.size ∧ Two W g (.int .u64 0) (.int .u64 z) ∧ (done → z = x)
theorem BlockJ.below {B W W' : World} {u : Value} {d : Prop} {x : Int} (h : BlockJ B W u d x) (hb : Below W.heap.size W W') : BlockJ B W' u d x := by
  obtain ⟨g, z, h1, h2, h3, h4, h5⟩ := h
  exact ⟨g, z, h1, h2, Nat.lt_of_lt_of_le h3 hb.size, h4.below hb h3, h5⟩
/-- The operations below n are values or calls; n and n + 1 are the blocks, n + 2 and n + 3 the stores. -/
structure PairJ (B : World) (n : Nat) (val : Nat → Value) (x y : Int) (us : Nat → Value) (D : Nat → Prop) (W : World) : Prop where
  val : ∀ k, k < n → D k → us k = val k
  bel : Below B.heap.size B W
  a1 : D n → BlockJ B W (us n) (D (n + 2)) x
  a2 : D (n + 1) → BlockJ B W (us (n + 1)) (D (n + 3)) y
  ne : D n → D (n + 1) → us n ≠ us (n + 1)
  d1 : D (n + 2) → D n
  d2 : D (n + 3) → D (n + 1)
theorem PairJ.start {B : World} {n : Nat} {val : Nat → Value} {x y : Int} (us : Nat → Value) : PairJ B n val x y us (fun _ => False) B.drew :=
  ⟨fun k _ h => h.elim, below_drewN _ _ 1, fun h => h.elim, fun h => h.elim, fun h => h.elim, fun h => h, fun h => h⟩
section
variable {B : World} {n : Nat} {val : Nat → Value} {x y : Int} {us : Nat → Value} {D : Nat → Prop} {W W' : World}
theorem or_ne {i k : Nat} {D : Nat → Prop} (h : k = i ∨ D k) (hne : k ≠ i) : D k := h.resolve_left hne
theorem PairJ.pure (h : PairJ B n val x y us D W) {i : Nat} (hi : i < n) (hb : Below W.heap.size W W') : PairJ B n val x y (upd us i (val i)) (fun k => k = i ∨ D k) W' := by
  have hn : ∀ {k}, n ≤ k → k ≠ i := fun h => by omega
  refine ⟨fun k hk hd => ?_, h.bel.trans (hb.mono h.bel.size), fun hd => ?_, fun hd => ?_, fun hd hd2 => ?_, fun hd => .inr (h.d1 (or_ne hd (hn (by omega)))), fun hd => .inr (h.d2 (or_ne hd (hn (by omega))))⟩
  · by_cases e : k = i
    · subst e; rw [upd_same]
    · rw [upd_ne e]; exact h.val k hk (or_ne hd e)
  · rw [upd_ne (hn (Nat.le_refl n))]
    obtain ⟨g, z, h1, h2, h3, h4, h5⟩ := (h.a1 (or_ne hd (hn (Nat.le_refl n)))).below hb
    exact ⟨g, z, h1, h2, h3, h4, fun hd => h5 (or_ne hd (hn (by omega)))⟩
  · rw [upd_ne (hn (Nat.le_succ n))]
    obtain ⟨g, z, h1, h2, h3, h4, h5⟩ := (h.a2 (or_ne hd (hn (Nat.le_succ n)))).below hb
    exact ⟨g, z, h1, h2, h3, h4, fun hd => h5 (or_ne hd (hn (by omega)))⟩
  · rw [upd_ne (hn (Nat.le_refl n)), upd_ne (hn (Nat.le_succ n))]
    exact h.ne (or_ne hd (hn (Nat.le_refl n))) (or_ne hd2 (hn (Nat.le_succ n)))
theorem ptr_inj {g g' : Nat} (h : Value.pointer (some ⟨g, 0, none⟩) = .pointer (some ⟨g', 0, none⟩)) : g = g' := by simpa using h
theorem PairJ.alloc1 (h : PairJ B n val x y us D W) (hD : ¬ D n) (T : TypeId) : PairJ B n val x y (upd us n (.pointer (some ⟨W.heap.size, 0, none⟩))) (fun k => k = n ∨ D k) (W.alloc (.cells #[.int .u64 0, .int .u64 0] T)) := by
  have hb : Below W.heap.size W (W.alloc (.cells #[.int .u64 0, .int .u64 0] T)) := (Below.refl _ _).alloc (Nat.le_refl _) _
  refine ⟨fun k hk hd => ?_, h.bel.trans (hb.mono h.bel.size), fun hd => ?_, fun hd => ?_, fun hd hd2 => ?_, fun hd => .inl rfl, fun hd => .inr (h.d2 (or_ne hd (by omega)))⟩
  · rw [upd_ne (by omega)]; exact h.val k hk (or_ne hd (by omega))
  · rw [upd_same]
    exact ⟨_, 0, rfl, h.bel.size, by simp, Two.new rfl rfl, fun hd => (hD (h.d1 (or_ne hd (by omega)))).elim⟩
  · rw [upd_ne (by omega)]
    obtain ⟨g, z, h1, h2, h3, h4, h5⟩ := (h.a2 (or_ne hd (by omega))).below hb
    exact ⟨g, z, h1, h2, h3, h4, fun hd => h5 (or_ne hd (by omega))⟩
  · rw [upd_same, upd_ne (by omega)]
    obtain ⟨g, z, h1, h2, h3, h4, h5⟩ := h.a2 (or_ne hd2 (by omega))
    rw [h1]
    intro e
    have := ptr_inj e
    omega
theorem PairJ.alloc2 (h : PairJ B n val x y us D W) (hD : ¬ D (n + 1)) (T : TypeId) : PairJ B n val x y (upd us (n + 1) (.pointer (some ⟨W.heap.size, 0, none⟩))) (fun k => k = n + 1 ∨ D k) (W.alloc (.cells #[.int .u64 0, .int .u64 0] T)) := by
  have hb : Below W.heap.size W (W.alloc (.cells #[.int .u64 0, .int .u64 0] T)) := (Below.refl _ _).alloc (Nat.le_refl _) _
  refine ⟨fun k hk hd => ?_, h.bel.trans (hb.mono h.bel.size), fun hd => ?_, fun hd => ?_, fun hd hd2 => ?_, fun hd => .inr (h.d1 (or_ne hd (by omega))), fun hd => .inl rfl⟩
  · rw [upd_ne (by omega)]; exact h.val k hk (or_ne hd (by omega))
  · rw [upd_ne (by omega)]
    obtain ⟨g, z, h1, h2, h3, h4, h5⟩ := (h.a1 (or_ne hd (by omega))).below hb
    exact ⟨g, z, h1, h2, h3, h4, fun hd => h5 (or_ne hd (by omega))⟩
  · rw [upd_same]
    exact ⟨_, 0, rfl, h.bel.size, by simp, Two.new rfl rfl, fun hd => (hD (h.d2 (or_ne hd (by omega)))).elim⟩
  · rw [upd_same, upd_ne (by omega)]
    obtain ⟨g, z, h1, h2, h3, h4, h5⟩ := h.a1 (or_ne hd (by omega))
    rw [h1]
    intro e
    have := ptr_inj e
    omega
theorem PairJ.store1 (h : PairJ B n val x y us D W) (hD : D n) {g : Nat} (hg : us n = .pointer (some ⟨g, 0, none⟩)) (u : Value) : PairJ B n val x y (upd us (n + 2) u) (fun k => k = n + 2 ∨ D k) ((W.setCell ⟨g, 0, none⟩ (.int .u64 0)).setCell ⟨g, 1, none⟩ (.int .u64 x)) := by
  obtain ⟨g', z, h1, h2, h3, h4, h5⟩ := h.a1 hD
  rw [hg] at h1
  obtain rfl := ptr_inj h1
  refine ⟨fun k hk hd => ?_, (h.bel.setCell (p := ⟨g, 0, none⟩) h2 _).setCell (p := ⟨g, 1, none⟩) h2 _, fun hd => ?_, fun hd => ?_, fun hd hd2 => ?_, fun hd => .inr hD, fun hd => .inr (h.d2 (or_ne hd (by omega)))⟩
  · rw [upd_ne (by omega)]; exact h.val k hk (or_ne hd (by omega))
  · rw [upd_ne (by omega)]
    exact ⟨g, x, hg, h2, by simpa [World.setCell] using h3, h4.put, fun _ => rfl⟩
  · rw [upd_ne (by omega)]
    have hne := h.ne hD (or_ne hd (by omega))
    obtain ⟨g', z', k1, k2, k3, k4, k5⟩ := h.a2 (or_ne hd (by omega))
    have hgg : g ≠ g' := fun e => hne (by rw [hg, k1, e])
    exact ⟨g', z', k1, k2, by simpa [World.setCell] using k3, (k4.far hgg).far hgg, fun hd => k5 (or_ne hd (by omega))⟩
  · rw [upd_ne (by omega), upd_ne (by omega)]
    exact h.ne hD (or_ne hd2 (by omega))
theorem PairJ.store2 (h : PairJ B n val x y us D W) (hD : D (n + 1)) {g : Nat} (hg : us (n + 1) = .pointer (some ⟨g, 0, none⟩)) (u : Value) : PairJ B n val x y (upd us (n + 3) u) (fun k => k = n + 3 ∨ D k) ((W.setCell ⟨g, 0, none⟩ (.int .u64 0)).setCell ⟨g, 1, none⟩ (.int .u64 y)) := by
  obtain ⟨g', z, h1, h2, h3, h4, h5⟩ := h.a2 hD
  rw [hg] at h1
  obtain rfl := ptr_inj h1
  refine ⟨fun k hk hd => ?_, (h.bel.setCell (p := ⟨g, 0, none⟩) h2 _).setCell (p := ⟨g, 1, none⟩) h2 _, fun hd => ?_, fun hd => ?_, fun hd hd2 => ?_, fun hd => .inr (h.d1 (or_ne hd (by omega))), fun hd => .inr hD⟩
  · rw [upd_ne (by omega)]; exact h.val k hk (or_ne hd (by omega))
  · rw [upd_ne (by omega)]
    have hne := h.ne (or_ne hd (by omega)) hD
    obtain ⟨g', z', k1, k2, k3, k4, k5⟩ := h.a1 (or_ne hd (by omega))
    have hgg : g ≠ g' := fun e => hne (by rw [hg, k1, e])
    exact ⟨g', z', k1, k2, by simpa [World.setCell] using k3, (k4.far hgg).far hgg, fun hd => k5 (or_ne hd (by omega))⟩
  · rw [upd_ne (by omega)]
    exact ⟨g, y, hg, h2, by simpa [World.setCell] using h3, h4.put, fun _ => rfl⟩
  · rw [upd_ne (by omega), upd_ne (by omega)]
    exact h.ne (or_ne hd (by omega)) hD
end
end Go.Proofs.YtllcbcanohdepaaGreat

/- The invariant of a region that reckons pairs by calls and puts each into a block of its own; no condition. -/
namespace Go.Proofs.YtllcbcanohdepaaGreat
set_option linter.unusedVariables false
set_option linter.unusedSimpArgs false
open Go.ChangeShapes Go.WideShapes Go.ChangeAt Go.RowKit Go.Deep

/-- The numbers of the operations that make blocks, and of those that store into them, are apart. -/
def apartB (L : List (Nat × Nat)) : Bool := L.all fun t => L.all fun s => decide (t.1 ≠ s.2) && (t == s || (decide (t.1 ≠ s.1) && decide (t.2 ≠ s.2)))
theorem apart1 {L : List (Nat × Nat)} (h : apartB L = true) {t s : Nat × Nat} (ht : t ∈ L) (hs : s ∈ L) : t.1 ≠ s.2 ∧ (t = s ∨ t.1 ≠ s.1 ∧ t.2 ≠ s.2) := by
  have h2 := List.all_eq_true.1 (List.all_eq_true.1 h t ht) s hs
  simp only [Bool.and_eq_true, decide_eq_true_eq, Bool.or_eq_true, beq_iff_eq] at h2
  exact h2
structure ManyJ (B : World) (L : List (Nat × Nat)) (val X Y : Nat → Value) (us : Nat → Value) (D : Nat → Prop) (W : World) : Prop where
  val : ∀ k, (∀ t ∈ L, k ≠ t.1 ∧ k ≠ t.2) → D k → us k = val k
  bel : Below B.heap.size B W
  blk : ∀ t ∈ L, D t.1 → ∃ (g : Nat) (x y : Value), us t.1 = .pointer (some ⟨g, 0, none⟩) ∧ B.heap.size ≤ g ∧ g < W.heap.size ∧ Two W g x y ∧ (D t.2 → x = X t.1 ∧ y = Y t.1)
  ne : ∀ t ∈ L, ∀ s ∈ L, t ≠ s → D t.1 → D s.1 → us t.1 ≠ us s.1
  o : ∀ t ∈ L, D t.2 → D t.1
section
variable {B : World} {L : List (Nat × Nat)} {val X Y : Nat → Value} {us : Nat → Value} {D : Nat → Prop} {W W' : World}
theorem ManyJ.start (us : Nat → Value) : ManyJ B L val X Y us (fun _ => False) B.drew :=
  ⟨fun k _ h => h.elim, below_drewN _ _ 1, fun _ _ h => h.elim, fun _ _ _ _ _ h => h.elim, fun _ _ h => h⟩
theorem ManyJ.pure (h : ManyJ B L val X Y us D W) {i : Nat} (h1 : ∀ t ∈ L, i ≠ t.1 ∧ i ≠ t.2) (hb : Below W.heap.size W W') : ManyJ B L val X Y (upd us i (val i)) (fun k => k = i ∨ D k) W' := by
  refine ⟨fun k k1 hd => ?_, h.bel.trans (hb.mono h.bel.size), fun t ht hd => ?_, fun t ht s hs hne hd hd2 => ?_, fun t ht hd => .inr (h.o t ht (or_ne hd (Ne.symm (h1 t ht).2)))⟩
  · by_cases e : k = i
    · subst e; rw [upd_same]
    · rw [upd_ne e]; exact h.val k k1 (or_ne hd e)
  · rw [upd_ne (Ne.symm (h1 t ht).1)]
    obtain ⟨g, x, y, q1, q2, q3, q4, q5⟩ := h.blk t ht (or_ne hd (Ne.symm (h1 t ht).1))
    exact ⟨g, x, y, q1, q2, Nat.lt_of_lt_of_le q3 hb.size, q4.below hb q3, fun hd => q5 (or_ne hd (Ne.symm (h1 t ht).2))⟩
  · rw [upd_ne (Ne.symm (h1 t ht).1), upd_ne (Ne.symm (h1 s hs).1)]
    exact h.ne t ht s hs hne (or_ne hd (Ne.symm (h1 t ht).1)) (or_ne hd2 (Ne.symm (h1 s hs).1))
theorem ManyJ.alloc (h : ManyJ B L val X Y us D W) (hL : apartB L = true) {ai si : Nat} (ht0 : (ai, si) ∈ L) (hD : ¬ D ai) (x y : Value) (T : TypeId) : ManyJ B L val X Y (upd us ai (.pointer (some ⟨W.heap.size, 0, none⟩))) (fun k => k = ai ∨ D k) (W.alloc (.cells #[x, y] T)) := by
  have hb : Below W.heap.size W (W.alloc (.cells #[x, y] T)) := (Below.refl _ _).alloc (Nat.le_refl _) _
  have hsec : ∀ t ∈ L, t.2 ≠ ai := fun t ht e => (apart1 hL ht0 ht).1 e.symm
  have hfst : ∀ t ∈ L, t ≠ (ai, si) → t.1 ≠ ai := fun t ht hne => ((apart1 hL ht ht0).2.resolve_left hne).1
  refine ⟨fun k k1 hd => ?_, h.bel.trans (hb.mono h.bel.size), fun t ht hd => ?_, fun t ht s hs hne hd hd2 => ?_, fun t ht hd => .inr (h.o t ht (or_ne hd (hsec t ht)))⟩
  · have := (k1 _ ht0).1
    rw [upd_ne this]; exact h.val k k1 (or_ne hd this)
  · by_cases e : t = (ai, si)
    · subst e
      rw [upd_same]
      exact ⟨_, x, y, rfl, h.bel.size, by simp, Two.new rfl rfl, fun hd => (hD (h.o _ ht (or_ne hd (hsec _ ht)))).elim⟩
    · rw [upd_ne (hfst t ht e)]
      obtain ⟨g, x', y', q1, q2, q3, q4, q5⟩ := h.blk t ht (or_ne hd (hfst t ht e))
      exact ⟨g, x', y', q1, q2, Nat.lt_of_lt_of_le q3 hb.size, q4.below hb q3, fun hd => q5 (or_ne hd (hsec t ht))⟩
  · by_cases e : t = (ai, si)
    · subst e
      have hs1 := hfst s hs (Ne.symm hne)
      rw [upd_same, upd_ne hs1]
      obtain ⟨g, x', y', q1, q2, q3, q4, q5⟩ := h.blk s hs (or_ne hd2 hs1)
      rw [q1]
      intro e; have := ptr_inj e; omega
    · rw [upd_ne (hfst t ht e)]
      by_cases e2 : s = (ai, si)
      · subst e2
        rw [upd_same]
        obtain ⟨g, x', y', q1, q2, q3, q4, q5⟩ := h.blk t ht (or_ne hd (hfst t ht e))
        rw [q1]
        intro e; have := ptr_inj e; omega
      · rw [upd_ne (hfst s hs e2)]
        exact h.ne t ht s hs hne (or_ne hd (hfst t ht e)) (or_ne hd2 (hfst s hs e2))
theorem ManyJ.store (h : ManyJ B L val X Y us D W) (hL : apartB L = true) {ai si : Nat} (ht0 : (ai, si) ∈ L) (hD : D ai) {g : Nat} (hg : us ai = .pointer (some ⟨g, 0, none⟩)) (u : Value) : ManyJ B L val X Y (upd us si u) (fun k => k = si ∨ D k) ((W.setCell ⟨g, 0, none⟩ (X ai)).setCell ⟨g, 1, none⟩ (Y ai)) := by
  obtain ⟨g', x, y, h1, h2, h3, h4, h5⟩ := h.blk _ ht0 hD
  simp only at h1
  rw [hg] at h1
  obtain rfl := ptr_inj h1
  have hfst : ∀ t ∈ L, t.1 ≠ si := fun t ht => (apart1 hL ht ht0).1
  have hsec : ∀ t ∈ L, t ≠ (ai, si) → t.2 ≠ si := fun t ht hne => ((apart1 hL ht ht0).2.resolve_left hne).2
  refine ⟨fun k k1 hd => ?_, (h.bel.setCell (p := ⟨g, 0, none⟩) h2 _).setCell (p := ⟨g, 1, none⟩) h2 _, fun t ht hd => ?_, fun t ht s hs hne hd hd2 => ?_, fun t ht hd => ?_⟩
  · have := (k1 _ ht0).2
    rw [upd_ne this]; exact h.val k k1 (or_ne hd this)
  · rw [upd_ne (hfst t ht)]
    by_cases e : t = (ai, si)
    · subst e
      exact ⟨g, X ai, Y ai, hg, h2, by simpa [World.setCell] using h3, h4.put, fun _ => ⟨rfl, rfl⟩⟩
    · have hd1 := or_ne hd (hfst t ht)
      have hne := h.ne _ ht0 t ht (Ne.symm e) hD hd1
      obtain ⟨g', x', y', q1, q2, q3, q4, q5⟩ := h.blk t ht hd1
      have hgg : g ≠ g' := fun e => hne (by simp only; rw [hg, q1, e])
      exact ⟨g', x', y', q1, q2, by simpa [World.setCell] using q3, (q4.far hgg).far hgg, fun hd => q5 (or_ne hd (hsec t ht e))⟩
  · rw [upd_ne (hfst t ht), upd_ne (hfst s hs)]
    exact h.ne t ht s hs hne (or_ne hd (hfst t ht)) (or_ne hd2 (hfst s hs))
  · by_cases e : t = (ai, si)
    · subst e; exact .inr hD
    · exact .inr (h.o t ht (or_ne hd (hsec t ht e)))
/-- What stands in the blocks when all is done. -/
theorem ManyJ.get (h : ManyJ B L val X Y us D W) {ai si : Nat} (ht : (ai, si) ∈ L) (h1 : D ai) (h2 : D si) : ∃ g : Nat, us ai = .pointer (some ⟨g, 0, none⟩) ∧ B.heap.size ≤ g ∧ g < W.heap.size ∧ Two W g (X ai) (Y ai) := by
  obtain ⟨g, x, y, q1, q2, q3, q4, q5⟩ := h.blk _ ht h1
  obtain ⟨rfl, rfl⟩ := q5 h2
  exact ⟨g, q1, q2, q3, q4⟩
end
end Go.Proofs.YtllcbcanohdepaaGreat
