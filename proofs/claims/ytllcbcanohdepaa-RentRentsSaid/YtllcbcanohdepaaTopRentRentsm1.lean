/- XInv's law with guards: an operation that is not wanted is passed over; no condition but that operations wait for earlier ones alone. -/
import Derived.Test.YtllcbcanohdepaaTopRentNamesm10
namespace Go.Proofs.Ytllcbcanohdepaa
set_option linter.unusedVariables false
set_option linter.unusedSimpArgs false
open Go.ChangeShapes Go.WideShapes Go.ChangeAt Go.RowKit Go.Deep

def backG (ops : Array Oper) : Bool := (List.range ops.size).all fun i => match ops[i]? with
  | some o => (onL o).all (fun k => decide (k < i))
  | none => true
theorem want_yes {W : Bool} {A X : Prop} (h : W = true) (p : A) : (W = true → A) ∧ (W = false → X) := ⟨fun _ => p, fun h2 => absurd (h.symm.trans h2) (by decide)⟩
theorem want_no {W : Bool} {A X : Prop} (h : W = false) (p : X) : (W = true → A) ∧ (W = false → X) := ⟨fun h2 => absurd (h.symm.trans h2) (by decide), fun _ => p⟩
theorem wanted_of {ops : Array Oper} {tmps : Array Value} {o : Oper} {g slot : Nat} {b t : Bool} (hg : o.guard = some (g, b)) (hs : (ops[g]?).bind (·.dst) = some slot) (e : tmps[slot]?.getD undef = .bool t) : Region.wanted o (yielded ops tmps) = (t == b) := by
  have e2 : tmps[slot]? = some (.bool t) := by
    cases h : tmps[slot]? with
    | none => rw [h] at e; cases e
    | some x => rw [h] at e; exact congrArg some e
  simp only [Region.wanted, hg, yielded, hs, Option.bind_some, e2]
  cases t <;> cases b <;> rfl
section
variable {P : Program} {ops : Array Oper} {Q : Exit → Act → World → Prop}
theorem backG_spec (hb : backG ops = true) {i : Nat} {o : Oper} (h : ops[i]? = some o) : ∀ e ∈ o.after, Region.binds .any e = true → e.on < i := by
  have hlt : i < ops.size := (Array.getElem?_eq_some_iff.1 h).1
  have := List.all_eq_true.1 hb i (List.mem_range.2 hlt)
  simp only [h] at this
  intro e he hbi
  have h2 := List.all_eq_true.1 this e.on (List.mem_map.2 ⟨e, List.mem_filter.2 ⟨by simpa using he, hbi⟩, rfl⟩)
  simpa using h2
theorem all_listedG (hb : backG ops = true) {listed : Array Bool} (hs : listed.size = ops.size) (hr : Region.ready .any ops listed = []) : ∀ k, k < ops.size → listed.getD k false = true := by
  intro k
  induction k using Nat.strongRecOn with
  | _ k ih =>
    intro hk
    cases hl : listed.getD k false with
    | true => rfl
    | false =>
      have hm : k ∈ Region.ready .any ops listed := by
        rw [mem_ready]
        have hks : k < listed.size := by omega
        refine ⟨by simp [hks] at hl ⊢; exact hl, ops[k], by simp [hk], fun e he hbi => ?_⟩
        have := (backG_spec hb (i := k) (o := ops[k]) (by simp [hk])) e he hbi
        exact ih e.on this (by omega)
      rw [hr] at hm; cases hm
theorem wpAny_invG (hb : backG ops = true) (hn : ((slotL 0 ops.toList).map (·.2)).Nodup) (a : Act) (J : (Nat → Value) → (Nat → Prop) → World → Prop)
    (hstep : ∀ us D w i o A, A = actL ops a us → ops[i]? = some o → J us D w → ¬ D i → (∀ k ∈ onL o, D k) → ∀ K : Act → World → Prop, (∀ v w', J (upd us i v) (fun k => k = i ∨ D k) w' → K (A.put o.dst v) w') → (Region.wanted o (yielded ops A.tmps) = true → o.wp P A w K Q) ∧ (Region.wanted o (yielded ops A.tmps) = false → K (A.put o.dst undef) w))
    (hend : ∀ us D w, J us D w → (∀ k, k < ops.size → D k) → Q .normal (actL ops a us) w) :
    ∀ (fuel : Nat) (listed : Array Bool) (us : Nat → Value) (w : World), listed.size = ops.size → listed.toList.count false ≤ fuel → J us (fun k => listed.getD k false = true) w → wpAny P .any ops Q fuel listed (actL ops a us) w := by
  have hput : ∀ us i o v, ops[i]? = some o → (actL ops a us).put o.dst v = actL ops a (upd us i v) := fun us i o v h => by
    have hl : ops.toList[i]? = some o := by simpa using h
    cases hd : o.dst with
    | none =>
      have hoff : putL (slotL 0 ops.toList) a.tmps (upd us i v) = putL (slotL 0 ops.toList) a.tmps us := putL_off _ _ _ _ _ fun d hm => by
        obtain ⟨_, o', h1, h2⟩ := slotL_idx _ _ _ _ hm
        rw [Nat.sub_zero, hl] at h1
        cases h1
        rw [hd] at h2; cases h2
      simp only [Act.put, actL, hoff]
    | some d =>
      have hm := slotL_mem ops.toList 0 i o d hl hd
      rw [Nat.zero_add] at hm
      have := putL_put _ a.tmps us i d v (slotL_nodup _ _) hn hm
      simp only [Act.put, actL, this]
  intro fuel
  induction fuel with
  | zero =>
    intro listed us w hs hc hJ
    have hall : ∀ k, k < ops.size → listed.getD k false = true := fun k hk => by
      cases hl : listed.getD k false with
      | true => rfl
      | false =>
        have hks : k < listed.size := by omega
        have h1 : listed[k] = false := by simpa [hks] using hl
        have := List.count_pos_iff.2 (show false ∈ listed.toList by rw [← h1]; simp)
        omega
    refine ⟨?_, hend us _ w hJ hall⟩
    rw [List.eq_nil_iff_forall_not_mem]
    intro k hk
    obtain ⟨h1, o, h2, _⟩ := mem_ready.1 hk
    have hlt : k < ops.size := (Array.getElem?_eq_some_iff.1 h2).1
    have h3 := hall k hlt
    have hks : k < listed.size := by omega
    simp [hks] at h1 h3
    rw [h1] at h3; cases h3
  | succ fuel ih =>
    intro listed us w hs hc hJ
    refine ⟨fun hr => hend us _ w hJ (all_listedG hb hs hr), fun i hi => ?_⟩
    obtain ⟨h1, o, h2, h3⟩ := mem_ready.1 hi
    have hlt : i < ops.size := (Array.getElem?_eq_some_iff.1 h2).1
    have his : i < listed.size := by omega
    have h1' : listed[i] = false := by simpa [his] using h1
    have hon : ∀ k ∈ onL o, listed.getD k false = true := fun k hk => by
      obtain ⟨e, he, rfl⟩ := List.mem_map.1 hk
      obtain ⟨he1, he2⟩ := List.mem_filter.1 he
      exact h3 e (by simpa using he1) he2
    unfold wpOp
    simp only [h2]
    have hst := hstep us _ w i o _ rfl h2 hJ (by simp [his, h1']) hon (wpAny P .any ops Q fuel (listed.setIfInBounds i true)) fun v w' hJ' => ?_
    · cases hw : Region.wanted o (yielded ops (actL ops a us).tmps) with
      | true => rw [if_pos rfl]; exact .inl (hst.1 hw)
      | false => rw [if_neg (by decide)]; exact hst.2 hw
    rw [hput us i o v h2]
    refine ih _ _ _ (by simp [hs]) ?_ ?_
    · rw [Array.toList_setIfInBounds, List.count_set (by simpa using his)]
      have := List.count_pos_iff.2 (show false ∈ listed.toList by rw [← h1']; simp)
      rw [if_pos (by simp [h1']), if_neg (by simp)]
      omega
    · have e : (fun k => (listed.setIfInBounds i true).getD k false = true) = fun k => k = i ∨ listed.getD k false = true := funext fun k => propext (by
        by_cases hk : k = i
        · subst hk; simp [his]
        · simp [Array.getD_eq_getD_getElem?, Array.getElem?_setIfInBounds_ne (Ne.symm hk), hk])
      rw [e]; exact hJ'
/-- A region that draws its order, under an invariant. -/
theorem wp_region_invG {id : Nat} (hm : P.follows .mixedOrders = true) (hb : backG ops = true) (hn : ((slotL 0 ops.toList).map (·.2)).Nodup) (a : Act) (w : World) (J : (Nat → Value) → (Nat → Prop) → World → Prop)
    (h0 : ∀ us, J us (fun _ => False) w.drew)
    (hstep : ∀ us D w i o A, A = actL ops a us → ops[i]? = some o → J us D w → ¬ D i → (∀ k ∈ onL o, D k) → ∀ K : Act → World → Prop, (∀ v w', J (upd us i v) (fun k => k = i ∨ D k) w' → K (A.put o.dst v) w') → (Region.wanted o (yielded ops A.tmps) = true → o.wp P A w K Q) ∧ (Region.wanted o (yielded ops A.tmps) = false → K (A.put o.dst undef) w))
    (hend : ∀ us D w, J us D w → (∀ k, k < ops.size → D k) → Q .normal (actL ops a us) w) : (Code.region id ops true).wp P Q a w := by
  refine wp_region_any hm ?_
  obtain ⟨us, hus⟩ : ∃ us : Nat → Value, ∀ i d, (i, d) ∈ slotL 0 ops.toList → ∀ h : d < a.tmps.size, us i = a.tmps[d] := by
    refine ⟨fun i => match ops[i]? with | some o => (match o.dst with | some d => a.tmps.getD d undef | none => undef) | none => undef, fun i d hm h => ?_⟩
    obtain ⟨_, o, h1, h2⟩ := slotL_idx _ _ _ _ hm
    rw [Nat.sub_zero] at h1
    have h1' : ops[i]? = some o := by simpa using h1
    simp [h1', h2, h]
  have ea : actL ops a us = a := by unfold actL; rw [putL_self _ _ _ hus]
  rw [← ea]
  refine wpAny_invG hb hn a J hstep hend _ _ us _ (by simp) (by simp) ?_
  have e : (fun k => (Array.replicate ops.size false).getD k false = true) = fun _ => False := funext fun k => propext (by
    simp [Array.getD_eq_getD_getElem?, Array.getElem?_replicate]; split <;> rfl)
  rw [e]; exact h0 us
end
end Go.Proofs.Ytllcbcanohdepaa
