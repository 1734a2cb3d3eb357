/- The walk of the reference's Lowest: prices without what they have in common; a positive denominator, small numbers. -/
import Derived.Test.YtmcncflieoolmaaTopTopRentm9
import Derived.Test.YtmcncflieoolmaaTopTopRentm11
import Derived.Test.YtmcncflieoolmaaTopTopRentm2
import Derived.Test.YtmcncflieoolmaaTopTopRentm5
import Derived.Outline
/- The walk of the reference's Lowest: prices without what they have in common; a positive denominator, small numbers. -/
namespace Go.Proofs.Ytmcncflieoolmaa
set_option linter.unusedVariables false
set_option linter.unusedSimpArgs false
open Go.ChangeShapes Go.WideShapes Go.ChangeAt Go.RowKit Go.Deep

theorem take_snocI {l : List Int} {k : Nat} (h : k < l.length) : l.take (k + 1) = l.take k ++ [iget l k] := by rw [List.take_succ_eq_append_getElem h, iget_of h]
theorem comm_gcd_eq {n d : Nat} {l : List Int} (hn : 0 < n) (h : Comm n l d) (hd : gcdL n l ≤ d) : d = gcdL n l := Nat.le_antisymm (comm_le hn h) hd
theorem comm_snoc {n d k : Nat} {l : List Int} (h : k < l.length) : Comm n (l.take (k + 1)) d ↔ Comm n (l.take k) d ∧ d ∣ (iget l k).natAbs := by
  rw [take_snocI h]
  unfold Comm
  constructor
  · rintro ⟨h1, h2⟩
    exact ⟨⟨h1, fun x hx => h2 x (List.mem_append_left _ hx)⟩, h2 _ (by simp)⟩
  · rintro ⟨⟨h1, h2⟩, h3⟩
    refine ⟨h1, fun x hx => ?_⟩
    rcases List.mem_append.1 hx with hx | hx
    · exact h2 x hx
    · simp at hx; subst hx; exact h3
instance (n : Nat) (l : List Int) (d : Nat) : Decidable (Comm n l d) := by unfold Comm; infer_instance
def commB (n : Nat) (l : List Int) (d : Nat) : Bool := decide (Comm n l d)
theorem comm_start (n d : Nat) (l : List Int) : ((n : Int) % (d : Int) == 0) = commB n (l.take 0) d := by
  unfold commB
  rw [Bool.eq_iff_iff, beq_iff_eq, decide_eq_true_iff, List.take_zero]
  unfold Comm
  constructor
  · intro h
    exact ⟨Nat.dvd_of_mod_eq_zero (by omega), fun x hx => by cases hx⟩
  · rintro ⟨h, _⟩
    have := Nat.mod_eq_zero_of_dvd h
    omega
theorem comm_next {n d k : Nat} {l : List Int} (h : k < l.length) (ht : commB n (l.take k) d = true) : ((iget l k).tmod d == 0) = commB n (l.take (k + 1)) d := by
  unfold commB at *
  rw [Bool.eq_iff_iff, beq_iff_eq, decide_eq_true_iff, comm_snoc h, tmod_zero]
  exact ⟨fun h => ⟨by simpa using ht, h⟩, fun h => h.2⟩
theorem tdiv_bound {x : Int} {d : Nat} {M : Int} (hM : 0 ≤ M) (h1 : -M ≤ x) (h2 : x ≤ M) : -M ≤ x.tdiv d ∧ x.tdiv d ≤ M := by
  have h := Int.natAbs_tdiv_le_natAbs x d
  omega

end Go.Proofs.Ytmcncflieoolmaa

/- Searching a list or a table with a predicate: what slices.Index, Contains, IndexFunc, ContainsFunc hand back; no condition but what the predicate asks. -/
namespace Go.Proofs.Ytmcncflieoolmaa
set_option linter.unusedVariables false
set_option linter.unusedSimpArgs false
open Go.ChangeShapes Go.WideShapes Go.ChangeAt Go.RowKit Go.Deep

/-- The first number below n at which P holds, or -1; whether there is one. -/
def firstN (P : Nat → Bool) (n : Nat) : Int := match (List.range n).find? P with
  | some k => k
  | none => -1
def anyN (P : Nat → Bool) (n : Nat) : Bool := (List.range n).any P
theorem anyN_true {P : Nat → Bool} {n : Nat} : anyN P n = true ↔ ∃ j, j < n ∧ P j = true := by simp [anyN]
theorem anyN_false {P : Nat → Bool} {n : Nat} : anyN P n = false ↔ ∀ j, j < n → P j = false := by simp [anyN]
theorem firstN_none {P : Nat → Bool} {n : Nat} (hb : ∀ j, j < n → P j = false) : firstN P n = -1 := by
  have : (List.range n).find? P = none := by
    rw [List.find?_eq_none]; intro x hx; have := hb x (List.mem_range.1 hx); simp [this]
  unfold firstN; rw [this]
theorem firstN_of {P : Nat → Bool} {n k : Nat} (hk : k < n) (h : P k = true) (hb : ∀ j, j < k → P j = false) : firstN P n = k := by
  have : (List.range n).find? P = some k := by
    rw [List.find?_range_eq_some]
    exact ⟨h, by simpa using hk, fun j hj => by simp [hb j hj]⟩
  unfold firstN; rw [this]
theorem firstN_any (P : Nat → Bool) (n : Nat) : decide (0 ≤ firstN P n) = anyN P n := by
  cases h : anyN P n with
  | false => rw [firstN_none (anyN_false.1 h)]; rfl
  | true =>
    unfold firstN
    cases h2 : (List.range n).find? P with
    | none =>
      rw [List.find?_eq_none] at h2
      obtain ⟨j, hj, hp⟩ := anyN_true.1 h
      exact absurd hp (h2 j (List.mem_range.2 hj))
    | some k => simp
theorem firstN_lt {P : Nat → Bool} {n : Nat} (h : anyN P n = true) : ∃ k : Nat, firstN P n = k ∧ k < n ∧ P k = true ∧ ∀ j, j < k → P j = false := by
  cases h2 : (List.range n).find? P with
  | none =>
    rw [List.find?_eq_none] at h2
    obtain ⟨j, hj, hp⟩ := anyN_true.1 h
    exact absurd hp (h2 j (List.mem_range.2 hj))
  | some k =>
    refine ⟨k, by unfold firstN; rw [h2], ?_⟩
    rw [List.find?_range_eq_some] at h2
    exact ⟨by simpa using h2.2.1, h2.1, fun j hj => by simpa using h2.2.2 j hj⟩

/-- Where x is in xs. -/
def idxP (xs : List Int) (x : Int) (j : Nat) : Bool := decide (x = iget xs j)
def hasB (xs : List Int) (x : Int) : Bool := decide (x ∈ xs)
theorem any_idx (xs : List Int) (x : Int) : anyN (idxP xs x) xs.length = hasB xs x := by
  rw [Bool.eq_iff_iff, anyN_true]
  unfold hasB idxP
  simp only [decide_eq_true_iff]
  constructor
  · rintro ⟨j, hj, rfl⟩; exact iget_mem hj
  · intro h
    obtain ⟨j, hj, rfl⟩ := List.getElem_of_mem h
    exact ⟨j, hj, by rw [iget_of hj]⟩
set_option maxHeartbeats 800000 in
theorem sIndex_any (p : Option Addr) (c : Nat) (xs : List Int) (x : Int) (w : World) (hx : Ints w p c xs) :
    Calls Try.prog 56 #[.slice p xs.length c, .int .i64 x] w fun e w' => e = .returned (.int .i64 (firstN (idxP xs x) xs.length)) ∧ w' = w := by
  have hl1 := hx.length_le
  go_enter Try.func56, Try.ntmps56
  go_wp2_with fail
  go_loop [8] (fun t => ∃ k : Nat, k ≤ xs.length ∧ t = .int .i64 k ∧ Hid (∀ j, j < k → idxP xs x j = false)) (fun t => xs.length - (intOf t).toNat)
  case atStart => exact ⟨0, Nat.zero_le _, rfl, fun j hj => absurd hj (Nat.not_lt_zero j)⟩
  case round =>
    obtain ⟨k, hk, rfl, ht⟩ := hrel
    by_cases hlt : k < xs.length
    · obtain ⟨b, o, rfl, _, hc⟩ := hx.get hlt
      have hk1 : (k : Int) < xs.length := by omega
      by_cases he : x = iget xs k
      · have hb : (x == iget xs k) = true := by simpa using he
        have HP : Hid (idxP xs x k = true) := by unfold Hid idxP; simpa using he
        clear he
        go_wp2_with fail
        go_ret
        exact ⟨ret_int (firstN_of hlt HP.out ht.out).symm, rfl⟩
      · have hb : (x == iget xs k) = false := by simpa using he
        have HP : Hid (idxP xs x k = false) := by unfold Hid idxP; simpa using he
        clear he
        go_wp2_with fail
        go_round
        case rel => exact ⟨k + 1, by omega, by go_num, snoc_all' ht.out HP.out⟩
        case measure => simp [intOf]; omega
    · have hk1 : ¬ (k : Int) < xs.length := by omega
      go_wp2_with fail
      go_ret
      exact ⟨ret_int (firstN_none (fun j hj => ht.out j (by omega))).symm, rfl⟩

/-- A predicate that holds one variable of its own, at the numbers of a list: what it answers, whatever world of R it is asked in. -/
def Asks1 (K : Nat) (u : Value) (xs : List Int) (P : Nat → Bool) (R : World → Prop) : Prop :=
  ∀ j W, j < xs.length → R W → Calls Try.prog K #[.int .i64 (iget xs j), u] W fun e w' => e = .returned (.bool (P j)) ∧ R w'
set_option maxHeartbeats 800000 in
theorem indexFunc1_any (K : Nat) (u : Value) (P : Nat → Bool) (R : World → Prop) (hcf : ∀ args W, (callFunc K args).run Try.prog W = .ok (.enter K args) W) (p : Option Addr) (c : Nat) (xs : List Int) (w : World) (hR : R w) (hI : Hid (∀ W, R W → Ints W p c xs)) (hf : Asks1 K u xs P R) :
    Calls Try.prog 59 #[.slice p xs.length c, .func (.func K) #[] #[u]] w fun e w' => e = .returned (.int .i64 (firstN P xs.length)) ∧ R w' := by
  have hl1 := (hI.out _ hR).length_le
  have Hf := Lib.hid hf
  clear hf
  go_enter Try.func59, Try.ntmps59
  go_wp2_with fail
  go_loopw [8] (fun t wr => ∃ k : Nat, k ≤ xs.length ∧ t = .int .i64 k ∧ Hid (∀ j, j < k → P j = false) ∧ R wr) (fun t _ => xs.length - (intOf t).toNat)
  case atStart => exact ⟨0, Nat.zero_le _, rfl, (fun j hj => absurd hj (Nat.not_lt_zero j)), hR⟩
  case round =>
    obtain ⟨k, hk, rfl, ht, hRr⟩ := hrel
    have hx := hI.out _ hRr
    by_cases hlt : k < xs.length
    · obtain ⟨b, o, rfl, _, hc⟩ := hx.get hlt
      have hk1 : (k : Int) < xs.length := by omega
      go_wp2_with fail
      refine (Hf.out k _ hlt hRr).mono ?_
      rintro e w' ⟨rfl, hR'⟩
      cases hP : P k with
      | true =>
        have HP := Lib.hid hP
        clear hP
        go_wp2_with fail
        go_ret
        exact ⟨ret_int (firstN_of hlt HP.out ht.out).symm, hR'⟩
      | false =>
        have HP := Lib.hid hP
        clear hP
        go_wp2_with fail
        go_roundw
        case rel => exact ⟨k + 1, by omega, by go_num, snoc_all' ht.out HP.out, hR'⟩
        case measure => simp [intOf]; omega
    · have hk1 : ¬ (k : Int) < xs.length := by omega
      go_wp2_with fail
      go_ret
      exact ⟨ret_int (firstN_none (fun j hj => ht.out j (by omega))).symm, hRr⟩
set_option maxHeartbeats 400000 in
theorem containsFunc1_any (K : Nat) (u : Value) (P : Nat → Bool) (R : World → Prop) (hcf : ∀ args W, (callFunc K args).run Try.prog W = .ok (.enter K args) W) (p : Option Addr) (c : Nat) (xs : List Int) (w : World) (hR : R w) (hI : Hid (∀ W, R W → Ints W p c xs)) (hf : Asks1 K u xs P R) :
    Calls Try.prog 42 #[.slice p xs.length c, .func (.func K) #[] #[u]] w fun e w' => e = .returned (.bool (anyN P xs.length)) ∧ R w' := by
  have HA := Lib.hid (firstN_any P xs.length)
  have Hf := Lib.hid hf
  clear hf
  go_enter Try.func42, Try.ntmps42
  go_wp2_with fail
  refine (indexFunc1_any K u P R hcf p c xs w hR hI Hf.out).mono ?_
  rintro e w' ⟨rfl, hR'⟩
  go_wp2_with fail
  go_ret
  exact ⟨ret_bool HA.out, hR'⟩

end Go.Proofs.Ytmcncflieoolmaa

/- Leases out of gains: what rent.lease reckons; plain, no program. -/
namespace Go.Proofs.Ytmcncflieoolmaa
set_option linter.unusedVariables false
set_option linter.unusedSimpArgs false

/-- What an agent pays for its room, before all is shifted. -/
def gvI (v : List (List Int)) (a g : List Int) (i : Nat) : Int := bid v i (itm a i) - iget g i
def rstI (v : List (List Int)) (r : Int) (a g : List Int) (k : Nat) : Int := -r + sumTo (gvI v a g) k
/-- What an agent pays, times the number of agents. -/
def prI (v : List (List Int)) (r : Int) (a g : List Int) (i : Nat) : Int := v.length * gvI v a g i - rstI v r a g v.length
noncomputable def leaseL (v : List (List Int)) (r : Int) (a g : List Int) : List Int := (List.range v.length).map fun j => prI v r a g (inv v.length (itm a) j)
theorem leaseL_len (v : List (List Int)) (r : Int) (a g : List Int) : (leaseL v r a g).length = v.length := by simp [leaseL]
theorem leaseL_at {v : List (List Int)} {r : Int} {a g : List Int} {j : Nat} (hj : j < v.length) : iget (leaseL v r a g) j = prI v r a g (inv v.length (itm a) j) := by simp [leaseL, iget, hj]
theorem inv_itm {a : List Int} {n : Nat} (h : IsA a n) {i : Nat} (hi : i < n) : inv n (itm a) (itm a i) = i := by
  have hp := isA_per h
  have := hp.inv_spec (hp.lt i hi)
  exact hp.inj _ _ this.1 hi this.2
theorem leaseL_get {v : List (List Int)} {r : Int} {a g : List Int} (h : IsA a v.length) {i : Nat} (hi : i < v.length) : iget (leaseL v r a g) (itm a i) = prI v r a g i := by
  rw [leaseL_at ((isA_per h).lt i hi), inv_itm h hi]
theorem leaseL_of {v : List (List Int)} {r : Int} {a g P : List Int} (h : IsA a v.length) (hl : P.length = v.length) (hp : ∀ i, i < v.length → iget P (itm a i) = prI v r a g i) : P = leaseL v r a g :=
  ints_ext' (fun j hj => by
    rw [hl] at hj
    obtain ⟨h1, h2⟩ := (isA_per h).inv_spec hj
    have := hp _ h1
    rw [h2] at this
    rw [this, leaseL_at hj]) (by rw [hl, leaseL_len])
/-- Small gains. -/
def SmallG (g : List Int) (n : Nat) : Prop := g.length = n ∧ ∀ i, i < n → -10000000 ≤ iget g i ∧ iget g i ≤ 10000000
theorem gvI_bd {v : List (List Int)} {a g : List Int} (hv : Bids v) (ha : IsA a v.length) (hg : SmallG g v.length) {i : Nat} (hi : i < v.length) : -10000000 ≤ gvI v a g i ∧ gvI v a g i ≤ 11000000 := by
  have h1 := (hv.2.2 i hi).2 (itm a i) ((isA_per ha).lt i hi)
  have h2 := hg.2 i hi
  unfold gvI bid
  omega
theorem sum_bdG {f : Nat → Int} {n : Nat} (hn : n ≤ 6) (h : ∀ i, i < n → -10000000 ≤ f i ∧ f i ≤ 11000000) : ∀ k, k ≤ n → -66000000 ≤ sumTo f k ∧ sumTo f k ≤ 66000000 := by
  have : ∀ k, k ≤ n → -(11000000 * (k : Int)) ≤ sumTo f k ∧ sumTo f k ≤ 11000000 * k := by
    intro k
    induction k with
    | zero => intro _; simp [sumTo]
    | succ k ih =>
      intro hk
      have h1 := ih (by omega)
      have h2 := h k (by omega)
      simp only [sumTo]
      omega
  intro k hk
  have := this k hk
  omega
theorem rstI_bd {v : List (List Int)} {r : Int} {a g : List Int} (hv : Bids v) (ha : IsA a v.length) (hg : SmallG g v.length) (hr1 : 0 ≤ r) (hr2 : r ≤ 10000000) {k : Nat} (hk : k ≤ v.length) : -80000000 ≤ rstI v r a g k ∧ rstI v r a g k ≤ 80000000 := by
  have := sum_bdG (f := gvI v a g) hv.2.1 (fun i hi => gvI_bd hv ha hg hi) k hk
  unfold rstI; omega
theorem rstI_succ (v : List (List Int)) (r : Int) (a g : List Int) (k : Nat) : rstI v r a g (k + 1) = rstI v r a g k + gvI v a g k := by simp only [rstI, sumTo]; omega
theorem ngv_bd {v : List (List Int)} {a g : List Int} (hv : Bids v) (ha : IsA a v.length) (hg : SmallG g v.length) {i : Nat} (hi : i < v.length) : -66000000 ≤ (v.length : Int) * gvI v a g i ∧ (v.length : Int) * gvI v a g i ≤ 66000000 := by
  have h1 := gvI_bd hv ha hg hi
  have h6 := hv.2.1
  have h0 := hv.1
  rcases (show v.length = 1 ∨ v.length = 2 ∨ v.length = 3 ∨ v.length = 4 ∨ v.length = 5 ∨ v.length = 6 by omega) with h | h | h | h | h | h <;> rw [h] <;> omega
theorem prI_bd {v : List (List Int)} {r : Int} {a g : List Int} (hv : Bids v) (ha : IsA a v.length) (hg : SmallG g v.length) (hr1 : 0 ≤ r) (hr2 : r ≤ 10000000) {i : Nat} (hi : i < v.length) : -150000000 ≤ prI v r a g i ∧ prI v r a g i ≤ 150000000 := by
  have h1 := ngv_bd hv ha hg hi
  have h2 := rstI_bd hv ha hg hr1 hr2 (Nat.le_refl _)
  unfold prI; omega
theorem leaseL_bd {v : List (List Int)} {r : Int} {a g : List Int} (hv : Bids v) (ha : IsA a v.length) (hg : SmallG g v.length) (hr1 : 0 ≤ r) (hr2 : r ≤ 10000000) {j : Nat} (hj : j < v.length) : -150000000 ≤ iget (leaseL v r a g) j ∧ iget (leaseL v r a g) j ≤ 150000000 := by
  rw [leaseL_at hj]
  exact prI_bd hv ha hg hr1 hr2 ((isA_per ha).inv_spec hj).1
/-- Whether d divides all. -/
def oddB (l : List Int) (d : Nat) (j : Nat) : Bool := (iget l j).tmod d != 0
theorem odd_any {l : List Int} {n d : Nat} (hd : d ∣ n) : anyN (oddB l d) l.length = !decide (Comm n l d) := by
  rw [Bool.eq_iff_iff, anyN_true]
  simp only [Bool.not_eq_true', decide_eq_false_iff_not]
  unfold oddB Comm
  constructor
  · rintro ⟨j, hj, h⟩ ⟨_, h2⟩
    have := h2 _ (iget_mem hj)
    rw [← tmod_zero] at this
    simp [this] at h
  · intro h
    apply Classical.byContradiction
    intro h2
    refine h ⟨hd, fun x hx => ?_⟩
    obtain ⟨j, hj, rfl⟩ := List.getElem_of_mem hx
    rw [← tmod_zero]
    apply Classical.byContradiction
    intro h3
    exact h2 ⟨j, hj, by rw [iget_of hj]; simpa using h3⟩
end Go.Proofs.Ytmcncflieoolmaa

/- What Even hands back; the walk of the reference's Even, for every flat. -/
namespace Go.Proofs.Ytmcncflieoolmaa
set_option linter.unusedVariables false
set_option linter.unusedSimpArgs false
open Go.ChangeShapes Go.WideShapes Go.ChangeAt Go.RowKit Go.Deep

/-- The prices of the even lease, times the number of rooms. -/
noncomputable def restI (v : List (List Int)) (r : Int) (k : Nat) : Int := r - sumTo (iget (leastL v (bestA v))) k
noncomputable def rawP (v : List (List Int)) (r : Int) : List Int := (List.range v.length).map fun j => iget (leastL v (bestA v)) j * v.length + restI v r v.length
theorem rawP_len (v : List (List Int)) (r : Int) : (rawP v r).length = v.length := by simp [rawP]
theorem rawP_get {v : List (List Int)} {r : Int} {j : Nat} (hj : j < v.length) : iget (rawP v r) j = iget (leastL v (bestA v)) j * v.length + restI v r v.length := by simp [rawP, iget, hj]
noncomputable def evenX (v : List (List Int)) (r : Int) : List Int := if chkR v r = 0 then bestA v else []
noncomputable def evenY (v : List (List Int)) (r : Int) : List Int := if chkR v r = 0 then lowL v.length (rawP v r) else []
noncomputable def evenZ (v : List (List Int)) (r : Int) : Int := if chkR v r = 0 then lowN v.length (rawP v r) else 0
/-- The call hands back a lease and a number that is an error. -/
def GivesLease (w : World) (xs ys : List Int) (z k : Int) (e : Ending) (w' : World) : Prop :=
  ∃ p c q d, e = .returned (.tuple #[.agg #[.slice p xs.length c, .slice q ys.length d, .int .i64 z], .int .i64 k]) ∧ Ints w' p c xs ∧ Ints w' q d ys ∧ Below w.heap.size w w'

theorem least_get {v : List (List Int)} (hv : Bids v) {j : Nat} (hj : j < v.length) : 0 ≤ iget (leastL v (bestA v)) j ∧ iget (leastL v (bestA v)) j ≤ 6000000 := by
  have hb := bestA_best hv.1
  have e : iget (leastL v (bestA v)) j = leastP (wl v (bestA v)) v.length j := by simp [leastL, iget, hj]
  rw [e]
  exact ⟨leastP_nonneg _ _ j, leastP_bound hv hb.1 j⟩
theorem least_len (v : List (List Int)) : (leastL v (bestA v)).length = v.length := by simp [leastL]
theorem sum_bound {v : List (List Int)} (hv : Bids v) {k : Nat} (hk : k ≤ v.length) : 0 ≤ sumTo (iget (leastL v (bestA v))) k ∧ sumTo (iget (leastL v (bestA v))) k ≤ 36000000 := by
  have := sumTo_bound (f := iget (leastL v (bestA v))) (m := 6000000) (n := v.length) (fun i hi => least_get hv hi) k hk
  have := hv.2.1
  omega
theorem prod_bound {v : List (List Int)} (hv : Bids v) {j : Nat} (hj : j < v.length) : 0 ≤ iget (leastL v (bestA v)) j * v.length ∧ iget (leastL v (bestA v)) j * v.length ≤ 36000000 := by
  have h1 := least_get hv hj
  have h6 := hv.2.1
  refine ⟨Int.mul_nonneg h1.1 (by omega), ?_⟩
  have : iget (leastL v (bestA v)) j * v.length ≤ 6000000 * 6 := Int.mul_le_mul h1.2 (by omega) (by omega) (by omega)
  omega
theorem raw_bound {v : List (List Int)} (hv : Bids v) {r : Int} (hr1 : 0 ≤ r) (hr2 : r ≤ 10000000) : ∀ j, j < (rawP v r).length → -1000000000 ≤ iget (rawP v r) j ∧ iget (rawP v r) j ≤ 1000000000 := fun j hj => by
  rw [rawP_len] at hj
  rw [rawP_get hj]
  have h1 := prod_bound hv hj
  have h2 := sum_bound hv (Nat.le_refl v.length)
  unfold restI
  omega

/-- A block of three cells, as a result's struct lies. -/
structure Three (w : World) (S : Nat) : Prop where
  c0 : ∃ v, w.cell? ⟨S, 0, none⟩ = some v
  c1 : ∃ v, w.cell? ⟨S, 1, none⟩ = some v
  c2 : ∃ v, w.cell? ⟨S, 2, none⟩ = some v
  f0 : w.frozen? ⟨S, 0, none⟩ = false
  f1 : w.frozen? ⟨S, 1, none⟩ = false
  f2 : w.frozen? ⟨S, 2, none⟩ = false
theorem Three.new {w w' : World} {S : Nat} {x y z : Value} {t : TypeId} (hS : w.heap.size = S) (hw : w' = w.alloc (.cells #[x, y, z] t)) : Three w' S := by
  subst hS hw
  have h : ∀ k, (w.alloc (.cells #[x, y, z] t)).cell? ⟨w.heap.size, k, none⟩ = #[x, y, z][k]? := fun k => World.cell?_alloc_at _ _ _ _ rfl
  exact ⟨⟨_, h 0⟩, ⟨_, h 1⟩, ⟨_, h 2⟩, World.frozen?_alloc_at _ _ _ _ rfl, World.frozen?_alloc_at _ _ _ _ rfl, World.frozen?_alloc_at _ _ _ _ rfl⟩
theorem Three.below {w w' : World} {S B : Nat} (h : Three w S) (hb : Below B w w') (hS : S < B) : Three w' S := by
  have hc : ∀ k, w'.cell? ⟨S, k, none⟩ = w.cell? ⟨S, k, none⟩ := fun k => hb.cell (p := ⟨S, k, none⟩) hS
  have hf : ∀ k, w'.frozen? ⟨S, k, none⟩ = w.frozen? ⟨S, k, none⟩ := fun k => hb.frozen (p := ⟨S, k, none⟩) hS
  obtain ⟨v0, h0⟩ := h.c0
  obtain ⟨v1, h1⟩ := h.c1
  obtain ⟨v2, h2⟩ := h.c2
  exact ⟨⟨v0, (hc 0).trans h0⟩, ⟨v1, (hc 1).trans h1⟩, ⟨v2, (hc 2).trans h2⟩, (hf 0).trans h.f0, (hf 1).trans h.f1, (hf 2).trans h.f2⟩

theorem Three.set {w : World} {S : Nat} (h : Three w S) (x y z : Value) :
    (((w.setCell ⟨S, 0, none⟩ x).setCell ⟨S, 1, none⟩ y).setCell ⟨S, 2, none⟩ z).cell? ⟨S, 0, none⟩ = some x ∧ (((w.setCell ⟨S, 0, none⟩ x).setCell ⟨S, 1, none⟩ y).setCell ⟨S, 2, none⟩ z).cell? ⟨S, 1, none⟩ = some y ∧
    (((w.setCell ⟨S, 0, none⟩ x).setCell ⟨S, 1, none⟩ y).setCell ⟨S, 2, none⟩ z).cell? ⟨S, 2, none⟩ = some z := by
  obtain ⟨v0, h0⟩ := h.c0
  obtain ⟨v1, h1⟩ := h.c1
  obtain ⟨v2, h2⟩ := h.c2
  exact ⟨cell_other (cell_other (World.cell?_setCell_same _ _ _ h0) (by omega)) (by omega), cell_other (World.cell?_setCell_same _ _ _ (cell_other h1 (by omega))) (by omega), World.cell?_setCell_same _ _ _ (cell_other (cell_other h2 (by omega)) (by omega))⟩

end Go.Proofs.Ytmcncflieoolmaa
