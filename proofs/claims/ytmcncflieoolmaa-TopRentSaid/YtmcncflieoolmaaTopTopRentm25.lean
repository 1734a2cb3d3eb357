/- A flat's leases held against the prices of its bids; plain, no program. -/
import Derived.Test.YtmcncflieoolmaaTopTopRentm19
import Derived.Test.YtmcncflieoolmaaTopTopRentm18
import Derived.Test.YtmcncflieoolmaaTopTopRentm12
import Derived.Test.YtmcncflieoolmaaTopTopRentm14
import Derived.Test.YtmcncflieoolmaaTopTopRentm10
import Derived.Test.YtmcncflieoolmaaTopTopRentm16
/- A flat's leases held against the prices of its bids; plain, no program. -/
namespace Go.Proofs.Ytmcncflieoolmaa
set_option linter.unusedVariables false
set_option linter.unusedSimpArgs false

theorem even_vld {v : List (List Int)} {r : Int} (hc : chkR v r = 0) : evenX v r = bestA v ∧ vldR v r (bestA v) (evenY v r) (evenZ v r) = 0 ∧ EF v (bestA v) (iget (evenY v r)) (evenZ v r) := by
  have h := evenOk hc
  have e1 : evenX v r = bestA v := by unfold evenX; rw [if_pos hc]
  have e2 : evenY v r = lowL v.length (rawP v r) := by unfold evenY; rw [if_pos hc]
  have e3 : evenZ v r = lowN v.length (rawP v r) := by unfold evenZ; rw [if_pos hc]
  rw [e2, e3]
  exact ⟨e1, vld_ok hc h.vld, h.ef⟩
/-- The bids, times a number. -/
def sclT (v : List (List Int)) (Z : Int) : List (List Int) := (List.range v.length).map fun j => (List.range v.length).map fun k => bid v j k * Z
theorem sclT_len (v : List (List Int)) (Z : Int) : (sclT v Z).length = v.length := by simp [sclT]
theorem sclT_row {v : List (List Int)} {Z : Int} {j : Nat} (hj : j < v.length) : rget (sclT v Z) j = (List.range v.length).map fun k => bid v j k * Z := by simp [sclT, rget, hj]
theorem sclT_row_len {v : List (List Int)} {Z : Int} {j : Nat} (hj : j < v.length) : (rget (sclT v Z) j).length = v.length := by rw [sclT_row hj]; simp
theorem sclT_get {v : List (List Int)} {Z : Int} {j k : Nat} (hj : j < v.length) (hk : k < v.length) : bid (sclT v Z) j k = bid v j k * Z := tab_bid (fun j k => bid v j k * Z) hj hk
theorem sclT_snoc {v : List (List Int)} {Z : Int} {j k : Nat} (hj : j < v.length) (hk : k < v.length) : (rget (sclT v Z) j).take (k + 1) = (rget (sclT v Z) j).take k ++ [bid v j k * Z] := by
  rw [List.take_succ_eq_append_getElem (by rw [sclT_row_len hj]; exact hk)]
  simp [sclT_row hj]
/-- The prices, lifted so that none is negative. -/
def liftL (Y : List Int) (n : Nat) : List Int := (List.range n).map fun j => iget Y j - lowTo Y n
theorem liftL_len (Y : List Int) (n : Nat) : (liftL Y n).length = n := by simp [liftL]
theorem liftL_get {Y : List Int} {n j : Nat} (hj : j < n) : iget (liftL Y n) j = iget Y j - lowTo Y n := by simp [liftL, iget, hj]
theorem liftL_snoc {Y : List Int} {n j : Nat} (hj : j < n) : (liftL Y n).take (j + 1) = (liftL Y n).take j ++ [iget Y j - lowTo Y n] := by
  rw [List.take_succ_eq_append_getElem (by rw [liftL_len]; exact hj)]
  simp [liftL]
theorem scl_worth {v : List (List Int)} {a : List Int} {Z : Int} (hA : IsA a v.length) : worthI (sclT v Z) a = Z * worthI v a := by
  unfold worthI
  rw [hA.1, ← sumTo_mul]
  exact sumTo_congr fun i hi => by rw [sclT_get hi (isA_lt hA i hi).2, Int.mul_comm]
/-- The best assignment of the flat is one of the best for the bids. -/
theorem scl_best {v : List (List Int)} {Z : Int} (h0 : 0 < v.length) (hZ : 1 ≤ Z) : worthI (sclT v Z) (bestA v) = worthI (sclT v Z) (bestA (sclT v Z)) := by
  have hb := bestA_best h0
  have h0' : 0 < (sclT v Z).length := by rw [sclT_len]; exact h0
  have hb' := bestA_best h0'
  have hA' : IsA (bestA (sclT v Z)) v.length := by have := hb'.1; rw [sclT_len] at this; exact this
  have h1 := hb'.max (by rw [sclT_len]; exact hb.1 : IsA (bestA v) (sclT v Z).length) h0'
  have h2 := hb.max hA' h0
  have h3 := Int.mul_le_mul_of_nonneg_left h2 (show 0 ≤ Z by omega)
  rw [scl_worth hA', scl_worth hb.1] at h1 ⊢
  omega
/-- The lifted prices prove it. -/
theorem scl_content {v : List (List Int)} {Y : List Int} {Z : Int} (h0 : 0 < v.length) (h : EF v (bestA v) (iget Y) Z) : ContentP (sclT v Z) (bestA v) (liftL Y v.length) := by
  have hb := bestA_best h0
  intro i hi j hj
  rw [sclT_len] at hi hj
  have hx := (isA_lt hb.1 i hi).2
  rw [sclT_get hi hj, sclT_get hi hx, liftL_get hj, liftL_get hx]
  have := h i hi j hj
  omega
end Go.Proofs.Ytmcncflieoolmaa

/- XInv's law with guards: an operation that is not wanted is passed over; no condition but that operations wait for earlier ones alone. -/
namespace Go.Proofs.Ytmcncflieoolmaa
set_option linter.unusedVariables false
set_option linter.unusedSimpArgs false
open Go.ChangeShapes Go.WideShapes Go.ChangeAt Go.RowKit Go.Deep

def backG (ops : Array Oper) : Bool := (List.range ops.size).all fun i => match ops[i]? with
  | some o => (onL o).all (fun k => decide (k < i))
  | none => true
theorem want_yes {W : Bool} {A X : Prop} (h : W = true) (p : A) : (W = true → A) ∧ (W = false → X) := ⟨fun _ => p, fun h2 => absurd (h.symm.trans h2) (by decide)⟩
theorem want_no {W : Bool} {A X : Prop} (h : W = false) (p : X) : (W = true → A) ∧ (W = false → X) := ⟨fun h2 => absurd (h.symm.trans h2) (by decide), fun _ => p⟩
theorem wanted_of {ops : Array Oper} {tmps : Array Value} {o : Oper} {g slot : Nat} {b t : Bool} (hg : o.guard = some (g, b)) (hs : (ops[g]?).bind (·.dst) = some slot) (e : tmps[slot]?.getD undef = .bool t) : Region.wanted o (yielded ops tmps) = (t == b) := by
  have e2 : tmps[slot]? = some (.bool t) := by
    cases h : tmps[slot]? with
    | none => rw [h] at e; cases e
    | some x => rw [h] at e; exact congrArg some e
  simp only [Region.wanted, hg, yielded, hs, Option.bind_some, e2]
  cases t <;> cases b <;> rfl
section
variable {P : Program} {ops : Array Oper} {Q : Exit → Act → World → Prop}
theorem backG_spec (hb : backG ops = true) {i : Nat} {o : Oper} (h : ops[i]? = some o) : ∀ e ∈ o.after, Region.binds .any e = true → e.on < i := by
  have hlt : i < ops.size := (Array.getElem?_eq_some_iff.1 h).1
  have := List.all_eq_true.1 hb i (List.mem_range.2 hlt)
  simp only [h] at this
  intro e he hbi
  have h2 := List.all_eq_true.1 this e.on (List.mem_map.2 ⟨e, List.mem_filter.2 ⟨by simpa using he, hbi⟩, rfl⟩)
  simpa using h2
theorem all_listedG (hb : backG ops = true) {listed : Array Bool} (hs : listed.size = ops.size) (hr : Region.ready .any ops listed = []) : ∀ k, k < ops.size → listed.getD k false = true := by
  intro k
  induction k using Nat.strongRecOn with
  | _ k ih =>
    intro hk
    cases hl : listed.getD k false with
    | true => rfl
    | false =>
      have hm : k ∈ Region.ready .any ops listed := by
        rw [mem_ready]
        have hks : k < listed.size := by omega
        refine ⟨by simp [hks] at hl ⊢; exact hl, ops[k], by simp [hk], fun e he hbi => ?_⟩
        have := (backG_spec hb (i := k) (o := ops[k]) (by simp [hk])) e he hbi
        exact ih e.on this (by omega)
      rw [hr] at hm; cases hm
theorem wpAny_invG (hb : backG ops = true) (hn : ((slotL 0 ops.toList).map (·.2)).Nodup) (a : Act) (J : (Nat → Value) → (Nat → Prop) → World → Prop)
    (hstep : ∀ us D w i o A, A = actL ops a us → ops[i]? = some o → J us D w → ¬ D i → (∀ k ∈ onL o, D k) → ∀ K : Act → World → Prop, (∀ v w', J (upd us i v) (fun k => k = i ∨ D k) w' → K (A.put o.dst v) w') → (Region.wanted o (yielded ops A.tmps) = true → o.wp P A w K Q) ∧ (Region.wanted o (yielded ops A.tmps) = false → K (A.put o.dst undef) w))
    (hend : ∀ us D w, J us D w → (∀ k, k < ops.size → D k) → Q .normal (actL ops a us) w) :
    ∀ (fuel : Nat) (listed : Array Bool) (us : Nat → Value) (w : World), listed.size = ops.size → listed.toList.count false ≤ fuel → J us (fun k => listed.getD k false = true) w → wpAny P .any ops Q fuel listed (actL ops a us) w := by
  have hput : ∀ us i o v, ops[i]? = some o → (actL ops a us).put o.dst v = actL ops a (upd us i v) := fun us i o v h => by
    have hl : ops.toList[i]? = some o := by simpa using h
    cases hd : o.dst with
    | none =>
      have hoff : putL (slotL 0 ops.toList) a.tmps (upd us i v) = putL (slotL 0 ops.toList) a.tmps us := putL_off _ _ _ _ _ fun d hm => by
        obtain ⟨_, o', h1, h2⟩ := slotL_idx _ _ _ _ hm
        rw [Nat.sub_zero, hl] at h1
        cases h1
        rw [hd] at h2; cases h2
      simp only [Act.put, actL, hoff]
    | some d =>
      have hm := slotL_mem ops.toList 0 i o d hl hd
      rw [Nat.zero_add] at hm
      have := putL_put _ a.tmps us i d v (slotL_nodup _ _) hn hm
      simp only [Act.put, actL, this]
  intro fuel
  induction fuel with
  | zero =>
    intro listed us w hs hc hJ
    have hall : ∀ k, k < ops.size → listed.getD k false = true := fun k hk => by
      cases hl : listed.getD k false with
      | true => rfl
      | false =>
        have hks : k < listed.size := by omega
        have h1 : listed[k] = false := by simpa [hks] using hl
        have := List.count_pos_iff.2 (show false ∈ listed.toList by rw [← h1]; simp)
        omega
    refine ⟨?_, hend us _ w hJ hall⟩
    rw [List.eq_nil_iff_forall_not_mem]
    intro k hk
    obtain ⟨h1, o, h2, _⟩ := mem_ready.1 hk
    have hlt : k < ops.size := (Array.getElem?_eq_some_iff.1 h2).1
    have h3 := hall k hlt
    have hks : k < listed.size := by omega
    simp [hks] at h1 h3
    rw [h1] at h3; cases h3
  | succ fuel ih =>
    intro listed us w hs hc hJ
    refine ⟨fun hr => hend us _ w hJ (all_listedG hb hs hr), fun i hi => ?_⟩
    obtain ⟨h1, o, h2, h3⟩ := mem_ready.1 hi
    have hlt : i < ops.size := (Array.getElem?_eq_some_iff.1 h2).1
    have his : i < listed.size := by omega
    have h1' : listed[i] = false := by simpa [his] using h1
    have hon : ∀ k ∈ onL o, listed.getD k false = true := fun k hk => by
      obtain ⟨e, he, rfl⟩ := List.mem_map.1 hk
      obtain ⟨he1, he2⟩ := List.mem_filter.1 he
      exact h3 e (by simpa using he1) he2
    unfold wpOp
    simp only [h2]
    have hst := hstep us _ w i o _ rfl h2 hJ (by simp [his, h1']) hon (wpAny P .any ops Q fuel (listed.setIfInBounds i true)) fun v w' hJ' => ?_
    · cases hw : Region.wanted o (yielded ops (actL ops a us).tmps) with
      | true => rw [if_pos rfl]; exact .inl (hst.1 hw)
      | false => rw [if_neg (by decide)]; exact hst.2 hw
    rw [hput us i o v h2]
    refine ih _ _ _ (by simp [hs]) ?_ ?_
    · rw [Array.toList_setIfInBounds, List.count_set (by simpa using his)]
      have := List.count_pos_iff.2 (show false ∈ listed.toList by rw [← h1']; simp)
      rw [if_pos (by simp [h1']), if_neg (by simp)]
      omega
    · have e : (fun k => (listed.setIfInBounds i true).getD k false = true) = fun k => k = i ∨ listed.getD k false = true := funext fun k => propext (by
        by_cases hk : k = i
        · subst hk; simp [his]
        · simp [Array.getD_eq_getD_getElem?, Array.getElem?_setIfInBounds_ne (Ne.symm hk), hk])
      rw [e]; exact hJ'
/-- A region that draws its order, under an invariant. -/
theorem wp_region_invG {id : Nat} (hm : P.follows .mixedOrders = true) (hb : backG ops = true) (hn : ((slotL 0 ops.toList).map (·.2)).Nodup) (a : Act) (w : World) (J : (Nat → Value) → (Nat → Prop) → World → Prop)
    (h0 : ∀ us, J us (fun _ => False) w.drew)
    (hstep : ∀ us D w i o A, A = actL ops a us → ops[i]? = some o → J us D w → ¬ D i → (∀ k ∈ onL o, D k) → ∀ K : Act → World → Prop, (∀ v w', J (upd us i v) (fun k => k = i ∨ D k) w' → K (A.put o.dst v) w') → (Region.wanted o (yielded ops A.tmps) = true → o.wp P A w K Q) ∧ (Region.wanted o (yielded ops A.tmps) = false → K (A.put o.dst undef) w))
    (hend : ∀ us D w, J us D w → (∀ k, k < ops.size → D k) → Q .normal (actL ops a us) w) : (Code.region id ops true).wp P Q a w := by
  refine wp_region_any hm ?_
  obtain ⟨us, hus⟩ : ∃ us : Nat → Value, ∀ i d, (i, d) ∈ slotL 0 ops.toList → ∀ h : d < a.tmps.size, us i = a.tmps[d] := by
    refine ⟨fun i => match ops[i]? with | some o => (match o.dst with | some d => a.tmps.getD d undef | none => undef) | none => undef, fun i d hm h => ?_⟩
    obtain ⟨_, o, h1, h2⟩ := slotL_idx _ _ _ _ hm
    rw [Nat.sub_zero] at h1
    have h1' : ops[i]? = some o := by simpa using h1
    simp [h1', h2, h]
  have ea : actL ops a us = a := by unfold actL; rw [putL_self _ _ _ hus]
  rw [← ea]
  refine wpAny_invG hb hn a J hstep hend _ _ us _ (by simp) (by simp) ?_
  have e : (fun k => (Array.replicate ops.size false).getD k false = true) = fun _ => False := funext fun k => propext (by
    simp [Array.getD_eq_getD_getElem?, Array.getElem?_replicate]; split <;> rfl)
  rw [e]; exact h0 us
end
end Go.Proofs.Ytmcncflieoolmaa

/- The walks of Proves (the program's and the reference's); no condition but the list's size. -/
namespace Go.Proofs.Ytmcncflieoolmaa
set_option linter.unusedSimpArgs false
open Go.ChangeShapes Go.WideShapes Go.ChangeAt Go.RowKit Go.Deep
set_option linter.unusedVariables false

def oddPrice (x : Int) : Bool := decide (x < 0 ∨ 10000000 < x)
theorem enter_oddPrice (args : Array Value) (W : World) : (callFunc 49 args).run Try.prog W = .ok (.enter 49 args) W := by kernel_rfl
set_option maxHeartbeats 400000 in
theorem oddPrice_any (x : Int) (w : World) (hx : in64 x) : Calls Try.prog 49 #[.int .i64 x] w fun e w' => e = .returned (.bool (oddPrice x)) ∧ w' = w := by
  obtain ⟨h1, h2⟩ := hx
  by_cases hlow : x < 0
  · have hd : decide (x < 0) = true := by simpa using hlow
    go_enter Try.func49, Try.ntmps49
    go_wp2_with fail
    go_ret
    exact ⟨ret_bool (by simp [oddPrice, hlow]), rfl⟩
  · have hd : decide (x < 0) = false := by simpa using hlow
    go_enter Try.func49, Try.ntmps49
    go_wp2_with fail
    go_ret
    exact ⟨ret_bool (by unfold oddPrice; rw [Bool.eq_iff_iff, decide_eq_true_iff, decide_eq_true_iff]; omega), rfl⟩
theorem oddPrice_none {xs : List Int} {n : Nat} (hn : xs.length = n) (h : anyB oddPrice xs = false) : PricedP xs n := by
  refine ⟨hn, fun j hj => ?_⟩
  unfold anyB at h
  rw [List.any_eq_false] at h
  have := h _ (iget_mem hj)
  simp [oddPrice] at this
  omega
theorem oddPrice_some {xs : List Int} {n : Nat} (h : anyB oddPrice xs = true) : ¬ PricedP xs n := by
  unfold anyB at h
  obtain ⟨x, hx, hp⟩ := List.any_eq_true.1 h
  intro hP
  obtain ⟨j, hj, rfl⟩ := List.getElem_of_mem hx
  have := hP.2 j hj
  rw [iget_of hj] at this
  simp [oddPrice] at hp
  omega

/-- What Proves answers. -/
def prvB (v : List (List Int)) (a p : List Int) : Bool := decide (Bids v ∧ IsA a v.length ∧ PricedP p v.length ∧ ContentP v a p)
def prvE (v : List (List Int)) (a p : List Int) : Int := if Bids v then (if IsA a v.length ∧ PricedP p v.length then 0 else 8) else chkI v
theorem prvB_bad {v : List (List Int)} {a p : List Int} (hv : ¬ Bids v) : prvB v a p = false ∧ prvE v a p = chkI v := ⟨by unfold prvB; rw [decide_eq_false_iff_not]; exact fun h => hv h.1, by unfold prvE; rw [if_neg hv]⟩
theorem prvB_off {v : List (List Int)} {a p : List Int} (hv : Bids v) (h : ¬ (IsA a v.length ∧ PricedP p v.length)) : prvB v a p = false ∧ prvE v a p = 8 :=
  ⟨by unfold prvB; rw [decide_eq_false_iff_not]; exact fun hh => h ⟨hh.2.1, hh.2.2.1⟩, by unfold prvE; rw [if_pos hv, if_neg h]⟩
theorem prvB_on {v : List (List Int)} {a p : List Int} (hv : Bids v) (h : IsA a v.length ∧ PricedP p v.length) : prvB v a p = contentB v a p ∧ prvE v a p = 0 :=
  ⟨by unfold prvB contentB; exact dec_congr ⟨fun hh => hh.2.2.2, fun hh => ⟨hv, h.1, h.2, hh⟩⟩, by unfold prvE; rw [if_pos hv, if_pos h]⟩
theorem contentB_true {v : List (List Int)} {a p : List Int} (h : ContentP v a p) : contentB v a p = true := by simp [contentB, h]
theorem fits2_of {v : List (List Int)} {a p : List Int} (hv : Bids v) (hA : IsA a v.length) (hP : PricedP p v.length) : Fits2 v a p :=
  ⟨fun i hi => (hv.2.2 i hi).1, hA.1, hP.1, fun i hi => isA_lt hA i hi, fun i hi j hj => (hv.2.2 i hi).2 j hj, fun j hj => hP.2 j (by rw [hP.1]; exact hj)⟩

set_option maxHeartbeats 4000000 in
theorem proves_on (p q r : Option Addr) (c d f : Nat) (v : List (List Int)) (a pr : List Int) (w : World) (hx : Mat w p c v) (hy : Ints w q d a) (hz : Ints w r f pr) (hl : a.length ≤ 1000000) (hv : Bids v) (hA : IsA a v.length) (hpl : pr.length = v.length) (hany : anyB oddPrice pr = false) :
    Calls Try.prog 31 #[.slice p v.length c, .slice q a.length d, .slice r pr.length f] w fun e w' => e = .returned (.tuple #[.bool (prvB v a pr), .int .i64 (prvE v a pr)]) ∧ Below w.heap.size w w' := by
  have hl1 := hx.length_le
  have hl2 := hz.length_le
  have hc := chkI_bids hv
  have hcz : (chkI v != 0) = false := by rw [hc]; rfl
  clear hc
  have hab : isAB a v.length = true := isAB_true hA
  have hne : ((pr.length : Int) != v.length) = false := by simp [hpl]
  have hP := oddPrice_none hpl hany
  obtain ⟨E1, E2⟩ := prvB_on hv ⟨hA, hP⟩
  have H1 := Lib.hid E1
  have H2 := Lib.hid E2
  have H3 := Lib.hid hany
  have HF := Lib.hid (fits2_of hv hA hP)
  have Hal := Lib.hid hA.1
  have Hpl := Lib.hid hpl
  clear E1 E2 hA hany hP hpl
  go_enter Try.func31, Try.ntmps31
  go_wp2_with fail
  refine (check_any p c v w hx).mono ?_
  rintro e w' ⟨rfl, rfl⟩
  go_wp2_with fail
  refine (assignment_any q d a v.length w' hl1 hy hl).mono ?_
  rintro e w1 ⟨rfl, hb⟩
  rw [hab]
  go_wp2_with fail
  refine (containsFunc_any _ oddPrice enter_oddPrice oddPrice_any r f pr w1 (hz.below hb (Nat.le_refl _))).mono ?_
  rintro e w2 ⟨rfl, rfl⟩
  rw [H3.out]
  have hx := hx.below hb (Nat.le_refl _)
  have hy := hy.below hb (Nat.le_refl _)
  have hz := hz.below hb (Nat.le_refl _)
  go_wp2_with fail
  go_loopw [37] (fun i wr => ∃ k : Nat, k ≤ a.length ∧ i = .int .i64 k ∧ Hid (∀ i, i < k → ∀ j, j < v.length → bid v i j - iget pr j ≤ bid v i (itm a i) - iget pr (itm a i)) ∧ ∃ n, wr = w2.drewN n) (fun i _ => a.length - (intOf i).toNat)
  case atStart => exact ⟨0, by omega, rfl, fun j hj => by omega, drew_refl w2⟩
  case round =>
    obtain ⟨k, hk, rfl, ht, hw⟩ := hrel
    by_cases hlt : k < a.length
    · have hk1 : (k : Int) < a.length := by omega
      have hltv : k < v.length := by have := Hal.out; omega
      have hy := hy.drew hw
      obtain ⟨bq, oq, rfl, _, hcq⟩ := hy.get hlt
      obtain ⟨i1, i2⟩ := HF.out.item k hltv
      obtain ⟨x, hxx⟩ : ∃ x : Nat, iget a k = (x : Int) := ⟨(iget a k).toNat, by omega⟩
      have hit : itm a k = x := by simp [itm, hxx]
      rw [hxx] at hcq
      rw [hit] at i2
      have Hit := Lib.hid hit
      have Hw := Lib.hid hw
      clear hw hxx hit i1
      go_wp2_with fail
      go_loopw [44] (fun i wr => ∃ j : Nat, j ≤ pr.length ∧ i = .int .i64 j ∧ Hid (∀ i, i < j → bid v k i - iget pr i ≤ bid v k (itm a k) - iget pr (itm a k)) ∧ ∃ n, wr = w2.drewN n) (fun i _ => pr.length - (intOf i).toNat)
      case atStart => exact ⟨0, by omega, rfl, fun j hj => by omega, Hw.out⟩
      case round =>
        obtain ⟨j, hj, rfl, htj, hw⟩ := hrel
        have hx := hx.drew hw
        have hz := hz.drew hw
        have Hw := Lib.hid hw
        clear hw
        by_cases hlt2 : j < pr.length
        · have hk2 : (j : Int) < pr.length := by omega
          have hj2 : j < v.length := by have := Hpl.out; omega
          have e3 := HF.out.rows k hltv
          obtain ⟨b2, o2, rfl, _, q1, d1, hc2, hi⟩ := hx.get hltv
          obtain ⟨b3, o3, rfl, _, hc3⟩ := hz.get (j := j) (by omega)
          have hc4 := hz.at (j := x) (by have := Hpl.out; omega)
          obtain ⟨b5, o5, rfl, _, hc5⟩ := hi.get (j := j) (by omega)
          have hc6 := hi.at (j := x) (by omega)
          have Hg1 : Hid (iget (rget v k) j = bid v k j) := rfl
          have Hg2 : Hid (iget (rget v k) x = bid v k x) := rfl
          have r1 := HF.out.val k hltv j hj2
          have r2 := HF.out.val k hltv x i2
          have r3 := HF.out.price j hj2
          have r4 := HF.out.price x i2
          rw [Hg1.out] at hc5
          rw [Hg2.out] at hc6
          have hk3 : (x : Int) < (rget v k).length := by omega
          have hk4 : (x : Int) < pr.length := by have := Hpl.out; omega
          have hk7 : (j : Int) < (rget v k).length := by omega
          have hk8 : (k : Int) < v.length := by omega
          clear e3 Hg1 Hg2
          generalize e1 : bid v k j = y1 at *
          generalize e2 : bid v k x = y2 at *
          generalize e3 : iget pr j = y3 at *
          generalize e4 : iget pr x = y4 at *
          have E1 := Lib.hid e1
          have E2 := Lib.hid e2
          have E3 := Lib.hid e3
          have E4 := Lib.hid e4
          clear e1 e2 e3 e4
          go_wp2_with fail
          go_quiet (fail)
          go_wp2
          · have hgt : y2 - y4 < y1 - y3 := by assumption
            go_ret2
            rw [H1.out, H2.out, contentB_false (fun hP => by
              have := hP k hltv j hj2
              rw [Hit.out, E1.out, E2.out, E3.out, E4.out] at this
              omega)]
            exact ⟨rfl, hb.drewP (drew_drewN _ Hw.out)⟩
          · have hgt : y1 - y3 ≤ y2 - y4 := by assumption
            go_roundw
            case rel => exact ⟨j + 1, by omega, by go_num, snoc_all' htj.out (by rw [Hit.out, E1.out, E2.out, E3.out, E4.out]; exact hgt), drew_drewN _ Hw.out⟩
            case measure => simp [intOf]; omega
        · have hk2 : ¬ (j : Int) < pr.length := by omega
          go_wp2_with fail
          go_roundw
          case rel => exact ⟨k + 1, by omega, by go_num, snoc_all' ht.out (fun i hi => htj.out i (by have := Hpl.out; omega)), Hw.out⟩
          case measure => simp [intOf]; omega
    · have hk1 : ¬ (k : Int) < a.length := by omega
      go_wp2_with fail
      go_ret2
      rw [H1.out, H2.out, contentB_true (fun i hi => ht.out i (by have := Hal.out; omega))]
      exact ⟨rfl, hb.drewP hw⟩

set_option maxHeartbeats 1600000 in
theorem proves_any (p q r : Option Addr) (c d f : Nat) (v : List (List Int)) (a pr : List Int) (w : World) (hx : Mat w p c v) (hy : Ints w q d a) (hz : Ints w r f pr) (hl : a.length ≤ 1000000) :
    Calls Try.prog 31 #[.slice p v.length c, .slice q a.length d, .slice r pr.length f] w fun e w' => e = .returned (.tuple #[.bool (prvB v a pr), .int .i64 (prvE v a pr)]) ∧ Below w.heap.size w w' := by
  have hl1 := hx.length_le
  have hl2 := hz.length_le
  have hcf := enter_oddPrice
  by_cases hv : Bids v
  · have hc := chkI_bids hv
    have hcz : (chkI v != 0) = false := by rw [hc]; rfl
    clear hc
    by_cases hA : IsA a v.length
    · have hab : isAB a v.length = true := isAB_true hA
      by_cases hpl : pr.length = v.length
      · have hne : ((pr.length : Int) != v.length) = false := by simp [hpl]
        cases hany : anyB oddPrice pr with
        | true =>
          obtain ⟨E1, E2⟩ := prvB_off hv (fun h => oddPrice_some hany h.2 : ¬ (IsA a v.length ∧ PricedP pr v.length))
          have H1 := Lib.hid E1
          have H2 := Lib.hid E2
          have H3 := Lib.hid hany
          have H4 := Lib.hid hpl
          clear E1 E2 hA hany hpl
          go_enter Try.func31, Try.ntmps31
          go_wp2_with fail
          refine (check_any p c v w hx).mono ?_
          rintro e w' ⟨rfl, rfl⟩
          go_wp2_with fail
          refine (assignment_any q d a v.length w' hl1 hy hl).mono ?_
          rintro e w1 ⟨rfl, hb⟩
          rw [hab]
          go_wp2_with fail
          refine (containsFunc_any _ oddPrice hcf oddPrice_any r f pr w1 (hz.below hb (Nat.le_refl _))).mono ?_
          rintro e w2 ⟨rfl, rfl⟩
          rw [H3.out]
          go_wp2_with fail
          go_ret2
          rw [H1.out, H2.out]
          exact ⟨rfl, hb⟩
        | false => exact proves_on p q r c d f v a pr w hx hy hz hl hv hA hpl hany
      · have hne : ((pr.length : Int) != v.length) = true := by rw [bne_iff_ne]; omega
        obtain ⟨E1, E2⟩ := prvB_off hv (fun h => hpl h.2.1 : ¬ (IsA a v.length ∧ PricedP pr v.length))
        have H1 := Lib.hid E1
        have H2 := Lib.hid E2
        have H4 := Lib.hid hpl
        clear E1 E2 hA hpl
        go_enter Try.func31, Try.ntmps31
        go_wp2_with fail
        refine (check_any p c v w hx).mono ?_
        rintro e w' ⟨rfl, rfl⟩
        go_wp2_with fail
        refine (assignment_any q d a v.length w' hl1 hy hl).mono ?_
        rintro e w1 ⟨rfl, hb⟩
        rw [hab]
        go_wp2_with fail
        go_ret2
        rw [H1.out, H2.out]
        exact ⟨rfl, hb⟩
    · have hab : isAB a v.length = false := isAB_false hA
      obtain ⟨E1, E2⟩ := prvB_off hv (fun h => hA h.1 : ¬ (IsA a v.length ∧ PricedP pr v.length))
      have H1 := Lib.hid E1
      have H2 := Lib.hid E2
      clear E1 E2 hA
      go_enter Try.func31, Try.ntmps31
      go_wp2_with fail
      refine (check_any p c v w hx).mono ?_
      rintro e w' ⟨rfl, rfl⟩
      go_wp2_with fail
      refine (assignment_any q d a v.length w' hl1 hy hl).mono ?_
      rintro e w1 ⟨rfl, hb⟩
      rw [hab]
      go_wp2_with fail
      go_ret2
      rw [H1.out, H2.out]
      exact ⟨rfl, hb⟩
  · have hcz : (chkI v != 0) = true := by rw [bne_iff_ne]; exact fun h => hv (chkI_zero.1 h)
    obtain ⟨E1, E2⟩ := prvB_bad (a := a) (p := pr) hv
    have H1 := Lib.hid E1
    have H2 := Lib.hid E2
    clear E1 E2
    go_enter Try.func31, Try.ntmps31
    go_wp2_with fail
    refine (check_any p c v w hx).mono ?_
    rintro e w' ⟨rfl, rfl⟩
    go_wp2_with fail
    go_ret2
    rw [H1.out, H2.out]
    exact ⟨rfl, Below.refl _ _⟩

end Go.Proofs.Ytmcncflieoolmaa
