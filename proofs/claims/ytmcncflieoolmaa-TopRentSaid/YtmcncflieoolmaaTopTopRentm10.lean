/- A region that draws its order and has no guards, walked operation by operation under one invariant, whatever order is drawn; no condition but that operations wait for earlier ones alone. -/
import Derived.Test.YtmcncflieoolmaaTopTopRentm1
import Derived.Orders
import Derived.WalkKit
import Derived.Test.YtmcncflieoolmaaTopTopRentm8
import Derived.Deep.AppendLies
/- A region that draws its order and has no guards, walked operation by operation under one invariant, whatever order is drawn; no condition but that operations wait for earlier ones alone. -/
namespace Go.Proofs.Ytmcncflieoolmaa
set_option linter.unusedVariables false
set_option linter.unusedSimpArgs false
open Go.ChangeShapes Go.WideShapes Go.ChangeAt Go.RowKit Go.Deep

def upd (us : Nat → Value) (i : Nat) (v : Value) : Nat → Value := fun k => if k = i then v else us k
/-- What an operation waits for. -/
def onL (o : Oper) : List Nat := (o.after.toList.filter fun e => Region.binds .any e).map (·.on)
def backB (ops : Array Oper) : Bool := (List.range ops.size).all fun i => match ops[i]? with
  | some o => o.guard.isNone && (onL o).all (fun k => decide (k < i))
  | none => true
/-- The operations' numbers and the slots that they fill. -/
def slotL : Nat → List Oper → List (Nat × Nat)
  | _, [] => []
  | i, o :: l => match o.dst with
    | some d => (i, d) :: slotL (i + 1) l
    | none => slotL (i + 1) l
def putL : List (Nat × Nat) → Array Value → (Nat → Value) → Array Value
  | [], t, _ => t
  | (i, d) :: l, t, us => (putL l t us).setIfInBounds d (us i)
theorem upd_same (us : Nat → Value) (i : Nat) (v : Value) : upd us i v i = v := by simp [upd]
theorem upd_ne {us : Nat → Value} {i k : Nat} {v : Value} (h : k ≠ i) : upd us i v k = us k := by simp [upd, h]
theorem putL_off : ∀ (l : List (Nat × Nat)) (t : Array Value) (us : Nat → Value) (i : Nat) (v : Value), (∀ d, (i, d) ∉ l) → putL l t (upd us i v) = putL l t us
  | [], _, _, _, _, _ => rfl
  | (j, d) :: l, t, us, i, v, h => by
    have hj : j ≠ i := fun e => h d (by simp [e])
    rw [putL, putL, upd_ne hj, putL_off l t us i v fun d' hd => h d' (List.mem_cons_of_mem _ hd)]
theorem putL_put : ∀ (l : List (Nat × Nat)) (t : Array Value) (us : Nat → Value) (i d : Nat) (v : Value), (l.map (·.1)).Nodup → (l.map (·.2)).Nodup → (i, d) ∈ l → (putL l t us).setIfInBounds d v = putL l t (upd us i v)
  | [], _, _, _, _, _, _, _, h => by cases h
  | (j, e) :: l, t, us, i, d, v, h1, h2, h => by
    rw [List.map_cons, List.nodup_cons] at h1 h2
    rcases List.mem_cons.1 h with e1 | h3
    · cases e1
      rw [putL, putL, upd_same, Array.setIfInBounds_setIfInBounds, putL_off l t us j v fun d' hd => h1.1 (List.mem_map.2 ⟨_, hd, rfl⟩)]
    · have hji : j ≠ i := fun e1 => h1.1 (e1 ▸ List.mem_map.2 ⟨_, h3, rfl⟩)
      have hde : e ≠ d := fun e1 => h2.1 (e1 ▸ List.mem_map.2 ⟨_, h3, rfl⟩)
      rw [putL, putL, upd_ne hji, Array.setIfInBounds_comm _ _ hde, putL_put l t us i d v h1.2 h2.2 h3]
theorem putL_self : ∀ (l : List (Nat × Nat)) (t : Array Value) (us : Nat → Value), (∀ i d, (i, d) ∈ l → ∀ h : d < t.size, us i = t[d]) → putL l t us = t
  | [], _, _, _ => rfl
  | (j, e) :: l, t, us, h => by
    rw [putL, putL_self l t us fun i d hd => h i d (List.mem_cons_of_mem _ hd)]
    apply Array.ext
    · simp
    · intro k h1 h2
      rw [Array.getElem_setIfInBounds h2]
      split
      · rename_i he; subst he; exact h j e (by simp) h2
      · rfl
theorem slotL_mem : ∀ (l : List Oper) (b i : Nat) (o : Oper) (d : Nat), l[i]? = some o → o.dst = some d → (b + i, d) ∈ slotL b l
  | [], _, _, _, _, h, _ => by simp at h
  | x :: l, b, 0, o, d, h, hd => by
    simp at h; subst h
    simp [slotL, hd]
  | x :: l, b, i + 1, o, d, h, hd => by
    have := slotL_mem l (b + 1) i o d (by simpa using h) hd
    rw [show b + (i + 1) = b + 1 + i by omega]
    unfold slotL
    split
    · exact List.mem_cons_of_mem _ this
    · exact this
theorem slotL_idx : ∀ (l : List Oper) (b i d : Nat), (i, d) ∈ slotL b l → b ≤ i ∧ ∃ o, l[i - b]? = some o ∧ o.dst = some d
  | [], _, _, _, h => by cases h
  | x :: l, b, i, d, h => by
    unfold slotL at h
    split at h
    · rename_i d' hd
      rcases List.mem_cons.1 h with e | h
      · cases e; exact ⟨Nat.le_refl _, x, by simp, hd⟩
      · obtain ⟨h1, o, h2, h3⟩ := slotL_idx l (b + 1) i d h
        exact ⟨by omega, o, by rw [show i - b = (i - (b + 1)) + 1 by omega]; simpa using h2, h3⟩
    · obtain ⟨h1, o, h2, h3⟩ := slotL_idx l (b + 1) i d h
      exact ⟨by omega, o, by rw [show i - b = (i - (b + 1)) + 1 by omega]; simpa using h2, h3⟩
theorem slotL_nodup : ∀ (l : List Oper) (b : Nat), ((slotL b l).map (·.1)).Nodup
  | [], _ => List.nodup_nil
  | x :: l, b => by
    unfold slotL
    split
    · rename_i d hd
      rw [List.map_cons, List.nodup_cons]
      refine ⟨fun h => ?_, slotL_nodup l (b + 1)⟩
      obtain ⟨⟨i, d'⟩, h1, h2⟩ := List.mem_map.1 h
      have := (slotL_idx l (b + 1) i d' h1).1
      simp only at h2
      omega
    · exact slotL_nodup l (b + 1)
/-- The frame, with the values us in the slots that the operations fill. -/
def actL (ops : Array Oper) (a : Act) (us : Nat → Value) : Act := { a with tmps := putL (slotL 0 ops.toList) a.tmps us }

section
variable {P : Program} {ops : Array Oper} {Q : Exit → Act → World → Prop}
theorem back_spec (hb : backB ops = true) {i : Nat} {o : Oper} (h : ops[i]? = some o) : o.guard = none ∧ ∀ e ∈ o.after, Region.binds .any e = true → e.on < i := by
  have hlt : i < ops.size := (Array.getElem?_eq_some_iff.1 h).1
  have := List.all_eq_true.1 hb i (List.mem_range.2 hlt)
  simp only [h, Bool.and_eq_true, Option.isNone_iff_eq_none] at this
  refine ⟨this.1, fun e he hbi => ?_⟩
  have h2 := List.all_eq_true.1 this.2 e.on (List.mem_map.2 ⟨e, List.mem_filter.2 ⟨by simpa using he, hbi⟩, rfl⟩)
  simpa using h2
theorem all_listed (hb : backB ops = true) {listed : Array Bool} (hs : listed.size = ops.size) (hr : Region.ready .any ops listed = []) : ∀ k, k < ops.size → listed.getD k false = true := by
  intro k
  induction k using Nat.strongRecOn with
  | _ k ih =>
    intro hk
    cases hl : listed.getD k false with
    | true => rfl
    | false =>
      have hm : k ∈ Region.ready .any ops listed := by
        rw [mem_ready]
        have hks : k < listed.size := by omega
        refine ⟨by simp [hks] at hl ⊢; exact hl, ops[k], by simp [hk], fun e he hbi => ?_⟩
        have := (back_spec hb (i := k) (o := ops[k]) (by simp [hk])).2 e he hbi
        exact ih e.on this (by omega)
      rw [hr] at hm; cases hm
theorem wanted_none {o : Oper} {y : Nat → Option Bool} (h : o.guard = none) : Region.wanted o y = true := by simp [Region.wanted, h]
theorem wpAny_inv (hb : backB ops = true) (hn : ((slotL 0 ops.toList).map (·.2)).Nodup) (a : Act) (J : (Nat → Value) → (Nat → Prop) → World → Prop)
    (hstep : ∀ us D w i o A, A = actL ops a us → ops[i]? = some o → J us D w → ¬ D i → (∀ k ∈ onL o, D k) → ∀ K : Act → World → Prop, (∀ v w', J (upd us i v) (fun k => k = i ∨ D k) w' → K (A.put o.dst v) w') → o.wp P A w K Q)
    (hend : ∀ us D w, J us D w → (∀ k, k < ops.size → D k) → Q .normal (actL ops a us) w) :
    ∀ (fuel : Nat) (listed : Array Bool) (us : Nat → Value) (w : World), listed.size = ops.size → listed.toList.count false ≤ fuel → J us (fun k => listed.getD k false = true) w → wpAny P .any ops Q fuel listed (actL ops a us) w := by
  have hput : ∀ us i o v, ops[i]? = some o → (actL ops a us).put o.dst v = actL ops a (upd us i v) := fun us i o v h => by
    have hl : ops.toList[i]? = some o := by simpa using h
    cases hd : o.dst with
    | none =>
      have hoff : putL (slotL 0 ops.toList) a.tmps (upd us i v) = putL (slotL 0 ops.toList) a.tmps us := putL_off _ _ _ _ _ fun d hm => by
        obtain ⟨_, o', h1, h2⟩ := slotL_idx _ _ _ _ hm
        rw [Nat.sub_zero, hl] at h1
        cases h1
        rw [hd] at h2; cases h2
      simp only [Act.put, actL, hoff]
    | some d =>
      have hm := slotL_mem ops.toList 0 i o d hl hd
      rw [Nat.zero_add] at hm
      have := putL_put _ a.tmps us i d v (slotL_nodup _ _) hn hm
      simp only [Act.put, actL, this]
  intro fuel
  induction fuel with
  | zero =>
    intro listed us w hs hc hJ
    have hall : ∀ k, k < ops.size → listed.getD k false = true := fun k hk => by
      cases hl : listed.getD k false with
      | true => rfl
      | false =>
        have hks : k < listed.size := by omega
        have h1 : listed[k] = false := by simpa [hks] using hl
        have := List.count_pos_iff.2 (show false ∈ listed.toList by rw [← h1]; simp)
        omega
    refine ⟨?_, hend us _ w hJ hall⟩
    rw [List.eq_nil_iff_forall_not_mem]
    intro k hk
    obtain ⟨h1, o, h2, _⟩ := mem_ready.1 hk
    have hlt : k < ops.size := (Array.getElem?_eq_some_iff.1 h2).1
    have h3 := hall k hlt
    have hks : k < listed.size := by omega
    simp [hks] at h1 h3
    rw [h1] at h3; cases h3
  | succ fuel ih =>
    intro listed us w hs hc hJ
    refine ⟨fun hr => hend us _ w hJ (all_listed hb hs hr), fun i hi => ?_⟩
    obtain ⟨h1, o, h2, h3⟩ := mem_ready.1 hi
    have hlt : i < ops.size := (Array.getElem?_eq_some_iff.1 h2).1
    have his : i < listed.size := by omega
    have h1' : listed[i] = false := by simpa [his] using h1
    have hon : ∀ k ∈ onL o, listed.getD k false = true := fun k hk => by
      obtain ⟨e, he, rfl⟩ := List.mem_map.1 hk
      obtain ⟨he1, he2⟩ := List.mem_filter.1 he
      exact h3 e (by simpa using he1) he2
    unfold wpOp
    simp only [h2, wanted_none (back_spec hb h2).1, if_true]
    refine .inl (hstep us _ w i o _ rfl h2 hJ (by simp [his, h1']) hon _ fun v w' hJ' => ?_)
    rw [hput us i o v h2]
    refine ih _ _ _ (by simp [hs]) ?_ ?_
    · rw [Array.toList_setIfInBounds, List.count_set (by simpa using his)]
      have := List.count_pos_iff.2 (show false ∈ listed.toList by rw [← h1']; simp)
      rw [if_pos (by simp [h1']), if_neg (by simp)]
      omega
    · have e : (fun k => (listed.setIfInBounds i true).getD k false = true) = fun k => k = i ∨ listed.getD k false = true := funext fun k => propext (by
        by_cases hk : k = i
        · subst hk; simp [his]
        · simp [Array.getD_eq_getD_getElem?, Array.getElem?_setIfInBounds_ne (Ne.symm hk), hk])
      rw [e]; exact hJ'
/-- A region that draws its order, under an invariant. -/
theorem wp_region_inv {id : Nat} (hm : P.follows .mixedOrders = true) (hb : backB ops = true) (hn : ((slotL 0 ops.toList).map (·.2)).Nodup) (a : Act) (w : World) (J : (Nat → Value) → (Nat → Prop) → World → Prop)
    (h0 : ∀ us, J us (fun _ => False) w.drew)
    (hstep : ∀ us D w i o A, A = actL ops a us → ops[i]? = some o → J us D w → ¬ D i → (∀ k ∈ onL o, D k) → ∀ K : Act → World → Prop, (∀ v w', J (upd us i v) (fun k => k = i ∨ D k) w' → K (A.put o.dst v) w') → o.wp P A w K Q)
    (hend : ∀ us D w, J us D w → (∀ k, k < ops.size → D k) → Q .normal (actL ops a us) w) : (Code.region id ops true).wp P Q a w := by
  refine wp_region_any hm ?_
  obtain ⟨us, hus⟩ : ∃ us : Nat → Value, ∀ i d, (i, d) ∈ slotL 0 ops.toList → ∀ h : d < a.tmps.size, us i = a.tmps[d] := by
    refine ⟨fun i => match ops[i]? with | some o => (match o.dst with | some d => a.tmps.getD d undef | none => undef) | none => undef, fun i d hm h => ?_⟩
    obtain ⟨_, o, h1, h2⟩ := slotL_idx _ _ _ _ hm
    rw [Nat.sub_zero] at h1
    have h1' : ops[i]? = some o := by simpa using h1
    simp [h1', h2, h]
  have ea : actL ops a us = a := by unfold actL; rw [putL_self _ _ _ hus]
  rw [← ea]
  refine wpAny_inv hb hn a J hstep hend _ _ us _ (by simp) (by simp) ?_
  have e : (fun k => (Array.replicate ops.size false).getD k false = true) = fun _ => False := funext fun k => propext (by
    simp [Array.getD_eq_getD_getElem?, Array.getElem?_replicate]; split <;> rfl)
  rw [e]; exact h0 us
end
section
variable {P : Program} {Q : Exit → Act → World → Prop} {K : Act → World → Prop} {o : Oper} {a : Act} {w w' : World}
theorem wp_val {v : Value} (h : (execOp a.eval o).run P w = .ok (.value v) w') (hk : K (a.put o.dst v) w') : o.wp P a w K Q := by
  unfold Oper.wp; rw [h]; exact hk
theorem wp_skip (h : (execOp a.eval o).run P w = .ok .skip w') (hk : K (a.put o.dst undef) w') : o.wp P a w K Q := by
  unfold Oper.wp; rw [h]; exact hk
theorem wp_enter {f : FuncId} {args : Array Value} (h : (execOp a.eval o).run P w = .ok (.enter f args) w') (hc : Calls P f args w' fun e w2 => ∃ u, e = .returned u ∧ K (a.put o.dst u) w2) : o.wp P a w K Q := by
  unfold Oper.wp; rw [h]
  refine Calls.mono hc fun e w2 ⟨u, he, hk⟩ => ?_
  subst he; exact hk
end
end Go.Proofs.Ytmcncflieoolmaa

/- The invariant of a region that appends one reckoned number to a row that a variable holds; no condition. -/
namespace Go.Proofs.Ytmcncflieoolmaa
set_option linter.unusedVariables false
set_option linter.unusedSimpArgs false
open Go.ChangeShapes Go.WideShapes Go.ChangeAt Go.RowKit Go.Deep

section
variable {P : Program} {Q : Exit → Act → World → Prop} {ops : Array Oper}
/-- As wp_region_inv; what the slots held before is known at the start. -/
theorem wp_region_inv2 {id : Nat} (hm : P.follows .mixedOrders = true) (hb : backB ops = true) (hn : ((slotL 0 ops.toList).map (·.2)).Nodup) (a : Act) (w : World) (J : (Nat → Value) → (Nat → Prop) → World → Prop)
    (h0 : ∀ us, (∀ i d, (i, d) ∈ slotL 0 ops.toList → d < a.tmps.size → us i = a.tmps[d]?.getD undef) → J us (fun _ => False) w.drew)
    (hstep : ∀ us D w i o A, A = actL ops a us → ops[i]? = some o → J us D w → ¬ D i → (∀ k ∈ onL o, D k) → ∀ K : Act → World → Prop, (∀ v w', J (upd us i v) (fun k => k = i ∨ D k) w' → K (A.put o.dst v) w') → o.wp P A w K Q)
    (hend : ∀ us D w, J us D w → (∀ k, k < ops.size → D k) → Q .normal (actL ops a us) w) : (Code.region id ops true).wp P Q a w := by
  refine wp_region_any hm ?_
  obtain ⟨us, hus⟩ : ∃ us : Nat → Value, ∀ i d, (i, d) ∈ slotL 0 ops.toList → ∀ h : d < a.tmps.size, us i = a.tmps[d] := by
    refine ⟨fun i => match ops[i]? with | some o => (match o.dst with | some d => a.tmps.getD d undef | none => undef) | none => undef, fun i d hm h => ?_⟩
    obtain ⟨_, o, h1, h2⟩ := slotL_idx _ _ _ _ hm
    rw [Nat.sub_zero] at h1
    have h1' : ops[i]? = some o := by simpa using h1
    simp [h1', h2, h]
  have ea : actL ops a us = a := by unfold actL; rw [putL_self _ _ _ hus]
  rw [← ea]
  refine wpAny_inv hb hn a J hstep hend _ _ us _ (by simp) (by simp) ?_
  have e : (fun k => (Array.replicate ops.size false).getD k false = true) = fun _ => False := funext fun k => propext (by
    simp [Array.getD_eq_getD_getElem?, Array.getElem?_replicate]; split <;> rfl)
  rw [e]; exact h0 us fun i d hm h => by rw [hus i d hm h]; simp [h]
end
theorem evalTmp (A : Act) (d : Nat) : A.eval (.tmp d) = A.tmps[d]?.getD undef := by simp [Act.eval]
theorem newsOne {W : World} {b : Nat} {X : Int} (h : W.cell? ⟨b, 0, none⟩ = some (.int .i64 X)) : ∀ j u, [Value.int .i64 X][j]? = some u → W.cell? ((⟨b, 0, none⟩ : Addr).add j) = some u := fun j u hu => by
  have hj : j = 0 := by
    have := (List.getElem?_eq_some_iff.1 hu).1
    simpa using this
  subst hj
  simp at hu; subst hu
  rw [add_plain]
  exact h
theorem orNe {D : Nat → Prop} {k i : Nat} (h : k = i ∨ D k) (e : k ≠ i) : D k := h.resolve_left e
/-- li loads the row, bi makes the row of the one number, ai appends, si lays it into the variable. -/
structure AppS (B : Nat) (wB w0 : World) (li bi ai si : Nat) (val : Nat → Value) (X : Int) (n : Nat) (F : World → Option Addr → Nat → Prop) (V0 : Value) (us : Nat → Value) (D : Nat → Prop) (W : World) : Prop where
  val : ∀ k, k ≠ bi → k ≠ ai → k ≠ si → D k → us k = val k
  bel : Below B wB W
  pre : ¬ D ai → Below w0.heap.size w0 W
  lit : D bi → ¬ D ai → ∃ b, us bi = .slice (some ⟨b, 0, none⟩) 1 1 ∧ W.cell? ⟨b, 0, none⟩ = some (.int .i64 X)
  mid : D ai → ∃ p cap, us ai = .slice p (n + 1) cap ∧ F W p cap ∧ (D si → us si = .slice p (n + 1) cap)
  o1 : D ai → D bi ∧ D li
  o2 : D si → D ai
  old : ¬ D si → us si = V0
section
variable {B : Nat} {wB w0 : World} {li bi ai si : Nat} {val : Nat → Value} {X : Int} {n : Nat} {F : World → Option Addr → Nat → Prop} {V0 : Value} {us : Nat → Value} {D : Nat → Prop} {W W' : World}
theorem AppS.start (us : Nat → Value) (hu : us si = V0) (h : Below B wB w0) : AppS B wB w0 li bi ai si val X n F V0 us (fun _ => False) w0.drew :=
  ⟨fun k _ _ _ h => h.elim, h.drew, fun _ => below_drewN _ _ 1, fun h => h.elim, fun h => h.elim, fun h => h.elim, fun h => h, fun _ => hu⟩
theorem AppS.pure (h : AppS B wB w0 li bi ai si val X n F V0 us D W) {i : Nat} (h1 : i ≠ bi) (h2 : i ≠ ai) (h3 : i ≠ si) : AppS B wB w0 li bi ai si val X n F V0 (upd us i (val i)) (fun k => k = i ∨ D k) W := by
  refine ⟨fun k k1 k2 k3 hd => ?_, h.bel, fun hd => h.pre fun hd2 => hd (.inr hd2), fun hd hd2 => ?_, fun hd => ?_, fun hd => ⟨.inr (h.o1 (orNe hd (Ne.symm h2))).1, .inr (h.o1 (orNe hd (Ne.symm h2))).2⟩, fun hd => .inr (h.o2 (orNe hd (Ne.symm h3))), fun hd => by rw [upd_ne (Ne.symm h3)]; exact h.old fun hd2 => hd (.inr hd2)⟩
  · by_cases e : k = i
    · subst e; rw [upd_same]
    · rw [upd_ne e]; exact h.val k k1 k2 k3 (orNe hd e)
  · rw [upd_ne (Ne.symm h1)]; exact h.lit (orNe hd (Ne.symm h1)) fun hd3 => hd2 (.inr hd3)
  · rw [upd_ne (Ne.symm h2), upd_ne (Ne.symm h3)]
    obtain ⟨p, cap, e1, e2, e3⟩ := h.mid (orNe hd (Ne.symm h2))
    exact ⟨p, cap, e1, e2, fun hs => e3 (orNe hs (Ne.symm h3))⟩
theorem AppS.build (h : AppS B wB w0 li bi ai si val X n F V0 us D W) (hn : ¬ D bi) (e1 : bi ≠ ai) (e2 : bi ≠ si) (hB : B ≤ W.heap.size) (T : TypeId) : AppS B wB w0 li bi ai si val X n F V0 (upd us bi (.slice (some ⟨W.heap.size, 0, none⟩) 1 1)) (fun k => k = bi ∨ D k) (W.alloc (.cells #[.int .i64 X] T)) := by
  have ha : ¬ D ai := fun hd => hn (h.o1 hd).1
  have hs : ¬ D si := fun hd => ha (h.o2 hd)
  refine ⟨fun k k1 k2 k3 hd => ?_, h.bel.alloc hB _, fun _ => (h.pre ha).alloc (h.pre ha).size _, fun _ _ => ⟨_, upd_same _ _ _, World.cell?_alloc_at _ _ _ _ rfl⟩, fun hd => (ha (orNe hd (Ne.symm e1))).elim, fun hd => (ha (orNe hd (Ne.symm e1))).elim, fun hd => (hs (orNe hd (Ne.symm e2))).elim, fun _ => by rw [upd_ne (Ne.symm e2)]; exact h.old hs⟩
  rw [upd_ne k1]; exact h.val k k1 k2 k3 (orNe hd k1)
theorem AppS.append (h : AppS B wB w0 li bi ai si val X n F V0 us D W) (hn : ¬ D ai) (hb : D bi) (hl : D li) (e1 : bi ≠ ai) (e2 : ai ≠ si) (hB : Below B wB W') {p : Option Addr} {cap : Nat} (hF : F W' p cap) : AppS B wB w0 li bi ai si val X n F V0 (upd us ai (.slice p (n + 1) cap)) (fun k => k = ai ∨ D k) W' := by
  have hs : ¬ D si := fun hd => hn (h.o2 hd)
  refine ⟨fun k k1 k2 k3 hd => ?_, hB, fun hd => (hd (.inl rfl)).elim, fun _ hd => (hd (.inl rfl)).elim, fun _ => ⟨p, cap, upd_same _ _ _, hF, fun hd => (hs (orNe hd (Ne.symm e2))).elim⟩, fun _ => ⟨.inr hb, .inr hl⟩, fun hd => (hs (orNe hd (Ne.symm e2))).elim, fun _ => by rw [upd_ne (Ne.symm e2)]; exact h.old hs⟩
  rw [upd_ne k2]; exact h.val k k1 k2 k3 (orNe hd k2)
theorem AppS.lay (h : AppS B wB w0 li bi ai si val X n F V0 us D W) (ha : D ai) (hn : ¬ D si) (e1 : bi ≠ si) (e2 : ai ≠ si) : AppS B wB w0 li bi ai si val X n F V0 (upd us si (us ai)) (fun k => k = si ∨ D k) W := by
  obtain ⟨p, cap, m1, m2, _⟩ := h.mid ha
  refine ⟨fun k k1 k2 k3 hd => ?_, h.bel, fun hd => (hd (.inr ha)).elim, fun _ hd => (hd (.inr ha)).elim, fun _ => ⟨p, cap, by rw [upd_ne e2]; exact m1, m2, fun _ => by rw [upd_same]; exact m1⟩, fun _ => ⟨.inr (h.o1 ha).1, .inr (h.o1 ha).2⟩, fun _ => .inr ha, fun hd => (hd (.inl rfl)).elim⟩
  rw [upd_ne k3]; exact h.val k k1 k2 k3 (orNe hd k3)
end
end Go.Proofs.Ytmcncflieoolmaa
