/- Searching a list or a table with a predicate: what slices.Index, Contains, IndexFunc, ContainsFunc hand back; no condition but what the predicate asks. -/
import Derived.Test.YtknincjfcicjfaaOwn
import Derived.Test.YtknincjfcicjfaaFuncs
namespace Go.Proofs.Ytknincjfcicjfaa
set_option linter.unusedVariables false
set_option linter.unusedSimpArgs false
open Go.ChangeShapes Go.WideShapes Go.ChangeAt Go.RowKit Go.Deep

/-- The first number below n at which P holds, or -1; whether there is one. -/
def firstN (P : Nat → Bool) (n : Nat) : Int := match (List.range n).find? P with
  | some k => k
  | none => -1
def anyN (P : Nat → Bool) (n : Nat) : Bool := (List.range n).any P
theorem anyN_true {P : Nat → Bool} {n : Nat} : anyN P n = true ↔ ∃ j, j < n ∧ P j = true := by simp [anyN]
theorem anyN_false {P : Nat → Bool} {n : Nat} : anyN P n = false ↔ ∀ j, j < n → P j = false := by simp [anyN]
theorem firstN_none {P : Nat → Bool} {n : Nat} (hb : ∀ j, j < n → P j = false) : firstN P n = -1 := by
  have : (List.range n).find? P = none := by
    rw [List.find?_eq_none]; intro x hx; have := hb x (List.mem_range.1 hx); simp [this]
  unfold firstN; rw [this]
theorem firstN_of {P : Nat → Bool} {n k : Nat} (hk : k < n) (h : P k = true) (hb : ∀ j, j < k → P j = false) : firstN P n = k := by
  have : (List.range n).find? P = some k := by
    rw [List.find?_range_eq_some]
    exact ⟨h, by simpa using hk, fun j hj => by simp [hb j hj]⟩
  unfold firstN; rw [this]
theorem firstN_any (P : Nat → Bool) (n : Nat) : decide (0 ≤ firstN P n) = anyN P n := by
  cases h : anyN P n with
  | false => rw [firstN_none (anyN_false.1 h)]; rfl
  | true =>
    unfold firstN
    cases h2 : (List.range n).find? P with
    | none =>
      rw [List.find?_eq_none] at h2
      obtain ⟨j, hj, hp⟩ := anyN_true.1 h
      exact absurd hp (h2 j (List.mem_range.2 hj))
    | some k => simp
theorem firstN_lt {P : Nat → Bool} {n : Nat} (h : anyN P n = true) : ∃ k : Nat, firstN P n = k ∧ k < n ∧ P k = true ∧ ∀ j, j < k → P j = false := by
  cases h2 : (List.range n).find? P with
  | none =>
    rw [List.find?_eq_none] at h2
    obtain ⟨j, hj, hp⟩ := anyN_true.1 h
    exact absurd hp (h2 j (List.mem_range.2 hj))
  | some k =>
    refine ⟨k, by unfold firstN; rw [h2], ?_⟩
    rw [List.find?_range_eq_some] at h2
    exact ⟨by simpa using h2.2.1, h2.1, fun j hj => by simpa using h2.2.2 j hj⟩

/-- Where x is in xs. -/
def idxP (xs : List Int) (x : Int) (j : Nat) : Bool := decide (x = iget xs j)
def hasB (xs : List Int) (x : Int) : Bool := decide (x ∈ xs)
theorem any_idx (xs : List Int) (x : Int) : anyN (idxP xs x) xs.length = hasB xs x := by
  rw [Bool.eq_iff_iff, anyN_true]
  unfold hasB idxP
  simp only [decide_eq_true_iff]
  constructor
  · rintro ⟨j, hj, rfl⟩; exact iget_mem hj
  · intro h
    obtain ⟨j, hj, rfl⟩ := List.getElem_of_mem h
    exact ⟨j, hj, by rw [iget_of hj]⟩
set_option maxHeartbeats 800000 in
theorem sIndex_any (p : Option Addr) (c : Nat) (xs : List Int) (x : Int) (w : World) (hx : Ints w p c xs) :
    Calls Try.prog 55 #[.slice p xs.length c, .int .i64 x] w fun e w' => e = .returned (.int .i64 (firstN (idxP xs x) xs.length)) ∧ w' = w := by
  have hl1 := hx.length_le
  go_enter Try.func55, Try.ntmps55
  go_wp2_with fail
  go_loop [8] (fun t => ∃ k : Nat, k ≤ xs.length ∧ t = .int .i64 k ∧ Hid (∀ j, j < k → idxP xs x j = false)) (fun t => xs.length - (intOf t).toNat)
  case atStart => exact ⟨0, Nat.zero_le _, rfl, fun j hj => absurd hj (Nat.not_lt_zero j)⟩
  case round =>
    obtain ⟨k, hk, rfl, ht⟩ := hrel
    by_cases hlt : k < xs.length
    · obtain ⟨b, o, rfl, _, hc⟩ := hx.get hlt
      have hk1 : (k : Int) < xs.length := by omega
      by_cases he : x = iget xs k
      · have hb : (x == iget xs k) = true := by simpa using he
        have HP : Hid (idxP xs x k = true) := by unfold Hid idxP; simpa using he
        clear he
        go_wp2_with fail
        go_ret
        exact ⟨ret_int (firstN_of hlt HP.out ht.out).symm, rfl⟩
      · have hb : (x == iget xs k) = false := by simpa using he
        have HP : Hid (idxP xs x k = false) := by unfold Hid idxP; simpa using he
        clear he
        go_wp2_with fail
        go_round
        case rel => exact ⟨k + 1, by omega, by go_num, snoc_all' ht.out HP.out⟩
        case measure => simp [intOf]; omega
    · have hk1 : ¬ (k : Int) < xs.length := by omega
      go_wp2_with fail
      go_ret
      exact ⟨ret_int (firstN_none (fun j hj => ht.out j (by omega))).symm, rfl⟩
set_option maxHeartbeats 400000 in
theorem contains_any (p : Option Addr) (c : Nat) (xs : List Int) (x : Int) (w : World) (hx : Ints w p c xs) :
    Calls Try.prog 36 #[.slice p xs.length c, .int .i64 x] w fun e w' => e = .returned (.bool (hasB xs x)) ∧ w' = w := by
  have HA := Lib.hid ((firstN_any (idxP xs x) xs.length).trans (any_idx xs x))
  go_enter Try.func36, Try.ntmps36
  go_wp2_with fail
  refine (sIndex_any p c xs x w hx).mono ?_
  rintro e w' ⟨rfl, rfl⟩
  go_wp2_with fail
  go_ret
  exact ⟨ret_bool HA.out, rfl⟩

/-- A predicate that holds one variable of its own, at the numbers of a list: what it answers, whatever world of R it is asked in. -/
def Asks1 (K : Nat) (u : Value) (xs : List Int) (P : Nat → Bool) (R : World → Prop) : Prop :=
  ∀ j W, j < xs.length → R W → Calls Try.prog K #[.int .i64 (iget xs j), u] W fun e w' => e = .returned (.bool (P j)) ∧ R w'
set_option maxHeartbeats 800000 in
theorem indexFunc1_any (K : Nat) (u : Value) (P : Nat → Bool) (R : World → Prop) (hcf : ∀ args W, (callFunc K args).run Try.prog W = .ok (.enter K args) W) (p : Option Addr) (c : Nat) (xs : List Int) (w : World) (hR : R w) (hI : Hid (∀ W, R W → Ints W p c xs)) (hf : Asks1 K u xs P R) :
    Calls Try.prog 37 #[.slice p xs.length c, .func (.func K) #[] #[u]] w fun e w' => e = .returned (.int .i64 (firstN P xs.length)) ∧ R w' := by
  have hl1 := (hI.out _ hR).length_le
  have Hf := Lib.hid hf
  clear hf
  go_enter Try.func37, Try.ntmps37
  go_wp2_with fail
  go_loopw [8] (fun t wr => ∃ k : Nat, k ≤ xs.length ∧ t = .int .i64 k ∧ Hid (∀ j, j < k → P j = false) ∧ R wr) (fun t _ => xs.length - (intOf t).toNat)
  case atStart => exact ⟨0, Nat.zero_le _, rfl, (fun j hj => absurd hj (Nat.not_lt_zero j)), hR⟩
  case round =>
    obtain ⟨k, hk, rfl, ht, hRr⟩ := hrel
    have hx := hI.out _ hRr
    by_cases hlt : k < xs.length
    · obtain ⟨b, o, rfl, _, hc⟩ := hx.get hlt
      have hk1 : (k : Int) < xs.length := by omega
      go_wp2_with fail
      refine (Hf.out k _ hlt hRr).mono ?_
      rintro e w' ⟨rfl, hR'⟩
      cases hP : P k with
      | true =>
        have HP := Lib.hid hP
        clear hP
        go_wp2_with fail
        go_ret
        exact ⟨ret_int (firstN_of hlt HP.out ht.out).symm, hR'⟩
      | false =>
        have HP := Lib.hid hP
        clear hP
        go_wp2_with fail
        go_roundw
        case rel => exact ⟨k + 1, by omega, by go_num, snoc_all' ht.out HP.out, hR'⟩
        case measure => simp [intOf]; omega
    · have hk1 : ¬ (k : Int) < xs.length := by omega
      go_wp2_with fail
      go_ret
      exact ⟨ret_int (firstN_none (fun j hj => ht.out j (by omega))).symm, hRr⟩
set_option maxHeartbeats 400000 in
theorem containsFunc1_any (K : Nat) (u : Value) (P : Nat → Bool) (R : World → Prop) (hcf : ∀ args W, (callFunc K args).run Try.prog W = .ok (.enter K args) W) (p : Option Addr) (c : Nat) (xs : List Int) (w : World) (hR : R w) (hI : Hid (∀ W, R W → Ints W p c xs)) (hf : Asks1 K u xs P R) :
    Calls Try.prog 51 #[.slice p xs.length c, .func (.func K) #[] #[u]] w fun e w' => e = .returned (.bool (anyN P xs.length)) ∧ R w' := by
  have HA := Lib.hid (firstN_any P xs.length)
  have Hf := Lib.hid hf
  clear hf
  go_enter Try.func51, Try.ntmps51
  go_wp2_with fail
  refine (indexFunc1_any K u P R hcf p c xs w hR hI Hf.out).mono ?_
  rintro e w' ⟨rfl, hR'⟩
  go_wp2_with fail
  go_ret
  exact ⟨ret_bool HA.out, hR'⟩

/-- A predicate at the rows of a table. -/
def AsksR (K : Nat) (v : List (List Int)) (P : Nat → Bool) (R : World → Prop) : Prop :=
  ∀ j q d W, j < v.length → R W → Ints W q d (rget v j) → Calls Try.prog K #[.slice q (rget v j).length d] W fun e w' => e = .returned (.bool (P j)) ∧ R w'
set_option maxHeartbeats 800000 in
theorem indexFuncR_any (K : Nat) (P : Nat → Bool) (R : World → Prop) (hcf : ∀ args W, (callFunc K args).run Try.prog W = .ok (.enter K args) W) (p : Option Addr) (c : Nat) (v : List (List Int)) (w : World) (hR : R w) (hI : Hid (∀ W, R W → Mat W p c v)) (hf : AsksR K v P R) :
    Calls Try.prog 59 #[.slice p v.length c, .func (.func K) #[] #[]] w fun e w' => e = .returned (.int .i64 (firstN P v.length)) ∧ R w' := by
  have hl1 := (hI.out _ hR).length_le
  have Hf := Lib.hid hf
  clear hf
  go_enter Try.func59, Try.ntmps59
  go_wp2_with fail
  go_loopw [8] (fun t wr => ∃ k : Nat, k ≤ v.length ∧ t = .int .i64 k ∧ Hid (∀ j, j < k → P j = false) ∧ R wr) (fun t _ => v.length - (intOf t).toNat)
  case atStart => exact ⟨0, Nat.zero_le _, rfl, (fun j hj => absurd hj (Nat.not_lt_zero j)), hR⟩
  case round =>
    obtain ⟨k, hk, rfl, ht, hRr⟩ := hrel
    have hx := hI.out _ hRr
    by_cases hlt : k < v.length
    · obtain ⟨b, o, rfl, _, q, d, hc, hi⟩ := hx.get hlt
      have hk1 : (k : Int) < v.length := by omega
      go_wp2_with fail
      refine (Hf.out k q d _ hlt hRr hi).mono ?_
      rintro e w' ⟨rfl, hR'⟩
      cases hP : P k with
      | true =>
        have HP := Lib.hid hP
        clear hP
        go_wp2_with fail
        go_ret
        exact ⟨ret_int (firstN_of hlt HP.out ht.out).symm, hR'⟩
      | false =>
        have HP := Lib.hid hP
        clear hP
        go_wp2_with fail
        go_roundw
        case rel => exact ⟨k + 1, by omega, by go_num, snoc_all' ht.out HP.out, hR'⟩
        case measure => simp [intOf]; omega
    · have hk1 : ¬ (k : Int) < v.length := by omega
      go_wp2_with fail
      go_ret
      exact ⟨ret_int (firstN_none (fun j hj => ht.out j (by omega))).symm, hRr⟩
set_option maxHeartbeats 400000 in
theorem containsFuncR_any (K : Nat) (P : Nat → Bool) (R : World → Prop) (hcf : ∀ args W, (callFunc K args).run Try.prog W = .ok (.enter K args) W) (p : Option Addr) (c : Nat) (v : List (List Int)) (w : World) (hR : R w) (hI : Hid (∀ W, R W → Mat W p c v)) (hf : AsksR K v P R) :
    Calls Try.prog 49 #[.slice p v.length c, .func (.func K) #[] #[]] w fun e w' => e = .returned (.bool (anyN P v.length)) ∧ R w' := by
  have HA := Lib.hid (firstN_any P v.length)
  have Hf := Lib.hid hf
  clear hf
  go_enter Try.func49, Try.ntmps49
  go_wp2_with fail
  refine (indexFuncR_any K P R hcf p c v w hR hI Hf.out).mono ?_
  rintro e w' ⟨rfl, hR'⟩
  go_wp2_with fail
  go_ret
  exact ⟨ret_bool HA.out, hR'⟩
end Go.Proofs.Ytknincjfcicjfaa
