/- The walk of chores.least: the first least number of those that count.  (Printed by wip/genleast.py.) -/
import Derived.Test.YtiohehofnlmenaaTopChoresRunsm1
import Derived.Test.YtiohehofnlmenaaTopChoresRunsm2
/- The walk of chores.least: the first least number of those that count.  (Printed by wip/genleast.py.) -/
namespace Go.Proofs.Ytiohehofnlmenaa
set_option linter.unusedVariables false
set_option linter.unusedSimpArgs false
open Go.ChangeShapes Go.WideShapes Go.ChangeAt Go.RowKit Go.Deep

/-- Of the first k, the first least one of those that count, or -1. -/
def leastTo (xs : List Int) (P : Nat → Bool) : Nat → Int
  | 0 => -1
  | k + 1 => if P k = true ∧ (leastTo xs P k < 0 ∨ iget xs k < iget xs (leastTo xs P k).toNat) then (k : Int) else leastTo xs P k
theorem leastTo_range (xs : List Int) (P : Nat → Bool) : ∀ k, -1 ≤ leastTo xs P k ∧ leastTo xs P k < k
  | 0 => by simp [leastTo]
  | k + 1 => by
    have := leastTo_range xs P k
    rw [leastTo]; split <;> omega
set_option maxHeartbeats 1600000 in
theorem least0_any (K : Nat) (P : Nat → Bool) (R : World → Prop) (hcf : ∀ args W, (callFunc K args).run Try.prog W = .ok (.enter K args) W) (p : Option Addr) (c : Nat) (xs : List Int) (w : World) (hR : R w) (hI : Hid (∀ W, R W → Ints W p c xs))
    (hf : ∀ j W, j < xs.length → R W → Calls Try.prog K #[.int .i64 (j : Nat)] W fun e w' => e = .returned (.bool (P j)) ∧ R w') :
    Calls Try.prog 48 #[.slice p xs.length c, .func (.func K) #[] #[]] w fun e w' => e = .returned (.int .i64 (leastTo xs P xs.length)) ∧ R w' := by
  have hl1 := (hI.out _ hR).length_le
  have Hf := Lib.hid hf
  clear hf
  go_enter Try.func48, Try.ntmps48
  go_wp2_with fail
  go_loopw [5, 10] (fun s t wr => ∃ k : Nat, k ≤ xs.length ∧ t = .int .i64 k ∧ s = .int .i64 (leastTo xs P k) ∧ R wr) (fun _ t _ => xs.length - (intOf t).toNat)
  case atStart => exact ⟨0, Nat.zero_le _, rfl, rfl, hR⟩
  case round =>
    obtain ⟨k, hk, rfl, rfl, hRr⟩ := hrel
    by_cases hlt : k < xs.length
    · obtain ⟨b, o, rfl, _, hc⟩ := (hI.out _ hRr).get hlt
      have hk1 : (k : Int) < xs.length := by omega
      have Hst : Hid (leastTo xs P (k + 1) = if P k = true ∧ (leastTo xs P k < 0 ∨ iget xs k < iget xs (leastTo xs P k).toNat) then (k : Int) else leastTo xs P k) := rfl
      have hrg := leastTo_range xs P k
      obtain ⟨B, eB⟩ : ∃ B, leastTo xs P k = B := ⟨_, rfl⟩
      rw [eB] at Hst hrg ⊢
      clear eB
      go_wp2_with fail
      refine (Hf.out k _ hlt hRr).mono ?_
      rintro e w' ⟨rfl, hR'⟩
      have hx' := hI.out _ hR'
      cases hP : P k with
      | false =>
        have HS : Hid (leastTo xs P (k + 1) = B) := by unfold Hid; rw [Hst.out, if_neg (by simp [hP])]
        clear hP
        go_wp2_with fail
        go_roundw
        case rel => exact ⟨k + 1, by omega, by go_num, by rw [HS.out], hR'⟩
        case measure => (simp [intOf] <;> omega)
      | true =>
        by_cases hneg : B < 0
        · have hd : decide (B < 0) = true := by simpa using hneg
          have HS : Hid (leastTo xs P (k + 1) = k) := by unfold Hid; rw [Hst.out, if_pos ⟨hP, .inl hneg⟩]
          clear hP hneg
          go_wp2_with fail
          go_roundw
          case rel => exact ⟨k + 1, by omega, by go_num, by rw [HS.out], hR'⟩
          case measure => (simp [intOf] <;> omega)
        · have hd : decide (B < 0) = false := by simpa using hneg
          obtain ⟨m, rfl⟩ : ∃ m : Nat, B = m := ⟨B.toNat, by omega⟩
          have hm : m < xs.length := by omega
          have hm1 : (m : Int) < xs.length := by omega
          have hcm := hx'.at hm
          rw [Int.toNat_natCast] at Hst
          cases hlt2 : decide (iget xs k < iget xs m) with
          | true =>
            have HS : Hid (leastTo xs P (k + 1) = k) := by unfold Hid; rw [Hst.out, if_pos ⟨hP, .inr (of_decide_eq_true hlt2)⟩]
            clear hP hneg
            go_wp2_with fail
            go_roundw
            case rel => exact ⟨k + 1, by omega, by go_num, by rw [HS.out], hR'⟩
            case measure => (simp [intOf] <;> omega)
          | false =>
            have HS : Hid (leastTo xs P (k + 1) = m) := by unfold Hid; rw [Hst.out, if_neg (by rintro ⟨_, h | h⟩; exact hneg h; simp at hlt2; omega)]
            clear hP hneg
            go_wp2_with fail
            go_roundw
            case rel => exact ⟨k + 1, by omega, by go_num, by rw [HS.out], hR'⟩
            case measure => (simp [intOf] <;> omega)
    · have hk1 : ¬ (k : Int) < xs.length := by omega
      obtain rfl : k = xs.length := by omega
      go_wp2_with fail
      go_ret
      exact ⟨rfl, hRr⟩

set_option maxHeartbeats 1600000 in
theorem least1_any (K : Nat) (u : Value) (P : Nat → Bool) (R : World → Prop) (hcf : ∀ args W, (callFunc K args).run Try.prog W = .ok (.enter K args) W) (p : Option Addr) (c : Nat) (xs : List Int) (w : World) (hR : R w) (hI : Hid (∀ W, R W → Ints W p c xs))
    (hf : ∀ j W, j < xs.length → R W → Calls Try.prog K #[.int .i64 (j : Nat), u] W fun e w' => e = .returned (.bool (P j)) ∧ R w') :
    Calls Try.prog 48 #[.slice p xs.length c, .func (.func K) #[] #[u]] w fun e w' => e = .returned (.int .i64 (leastTo xs P xs.length)) ∧ R w' := by
  have hl1 := (hI.out _ hR).length_le
  have Hf := Lib.hid hf
  clear hf
  go_enter Try.func48, Try.ntmps48
  go_wp2_with fail
  go_loopw [5, 10] (fun s t wr => ∃ k : Nat, k ≤ xs.length ∧ t = .int .i64 k ∧ s = .int .i64 (leastTo xs P k) ∧ R wr) (fun _ t _ => xs.length - (intOf t).toNat)
  case atStart => exact ⟨0, Nat.zero_le _, rfl, rfl, hR⟩
  case round =>
    obtain ⟨k, hk, rfl, rfl, hRr⟩ := hrel
    by_cases hlt : k < xs.length
    · obtain ⟨b, o, rfl, _, hc⟩ := (hI.out _ hRr).get hlt
      have hk1 : (k : Int) < xs.length := by omega
      have Hst : Hid (leastTo xs P (k + 1) = if P k = true ∧ (leastTo xs P k < 0 ∨ iget xs k < iget xs (leastTo xs P k).toNat) then (k : Int) else leastTo xs P k) := rfl
      have hrg := leastTo_range xs P k
      obtain ⟨B, eB⟩ : ∃ B, leastTo xs P k = B := ⟨_, rfl⟩
      rw [eB] at Hst hrg ⊢
      clear eB
      go_wp2_with fail
      refine (Hf.out k _ hlt hRr).mono ?_
      rintro e w' ⟨rfl, hR'⟩
      have hx' := hI.out _ hR'
      cases hP : P k with
      | false =>
        have HS : Hid (leastTo xs P (k + 1) = B) := by unfold Hid; rw [Hst.out, if_neg (by simp [hP])]
        clear hP
        go_wp2_with fail
        go_roundw
        case rel => exact ⟨k + 1, by omega, by go_num, by rw [HS.out], hR'⟩
        case measure => (simp [intOf] <;> omega)
      | true =>
        by_cases hneg : B < 0
        · have hd : decide (B < 0) = true := by simpa using hneg
          have HS : Hid (leastTo xs P (k + 1) = k) := by unfold Hid; rw [Hst.out, if_pos ⟨hP, .inl hneg⟩]
          clear hP hneg
          go_wp2_with fail
          go_roundw
          case rel => exact ⟨k + 1, by omega, by go_num, by rw [HS.out], hR'⟩
          case measure => (simp [intOf] <;> omega)
        · have hd : decide (B < 0) = false := by simpa using hneg
          obtain ⟨m, rfl⟩ : ∃ m : Nat, B = m := ⟨B.toNat, by omega⟩
          have hm : m < xs.length := by omega
          have hm1 : (m : Int) < xs.length := by omega
          have hcm := hx'.at hm
          rw [Int.toNat_natCast] at Hst
          cases hlt2 : decide (iget xs k < iget xs m) with
          | true =>
            have HS : Hid (leastTo xs P (k + 1) = k) := by unfold Hid; rw [Hst.out, if_pos ⟨hP, .inr (of_decide_eq_true hlt2)⟩]
            clear hP hneg
            go_wp2_with fail
            go_roundw
            case rel => exact ⟨k + 1, by omega, by go_num, by rw [HS.out], hR'⟩
            case measure => (simp [intOf] <;> omega)
          | false =>
            have HS : Hid (leastTo xs P (k + 1) = m) := by unfold Hid; rw [Hst.out, if_neg (by rintro ⟨_, h | h⟩; exact hneg h; simp at hlt2; omega)]
            clear hP hneg
            go_wp2_with fail
            go_roundw
            case rel => exact ⟨k + 1, by omega, by go_num, by rw [HS.out], hR'⟩
            case measure => (simp [intOf] <;> omega)
    · have hk1 : ¬ (k : Int) < xs.length := by omega
      obtain rfl : k = xs.length := by omega
      go_wp2_with fail
      go_ret
      exact ⟨rfl, hRr⟩
end Go.Proofs.Ytiohehofnlmenaa

/- Searching a list or a table with a predicate: what slices.Index, Contains, IndexFunc, ContainsFunc hand back; no condition but what the predicate asks. -/
namespace Go.Proofs.Ytiohehofnlmenaa
set_option linter.unusedVariables false
set_option linter.unusedSimpArgs false
open Go.ChangeShapes Go.WideShapes Go.ChangeAt Go.RowKit Go.Deep

/-- The first number below n at which P holds, or -1; whether there is one. -/
def firstN (P : Nat → Bool) (n : Nat) : Int := match (List.range n).find? P with
  | some k => k
  | none => -1
def anyN (P : Nat → Bool) (n : Nat) : Bool := (List.range n).any P
theorem anyN_true {P : Nat → Bool} {n : Nat} : anyN P n = true ↔ ∃ j, j < n ∧ P j = true := by simp [anyN]
theorem anyN_false {P : Nat → Bool} {n : Nat} : anyN P n = false ↔ ∀ j, j < n → P j = false := by simp [anyN]
theorem firstN_none {P : Nat → Bool} {n : Nat} (hb : ∀ j, j < n → P j = false) : firstN P n = -1 := by
  have : (List.range n).find? P = none := by
    rw [List.find?_eq_none]; intro x hx; have := hb x (List.mem_range.1 hx); simp [this]
  unfold firstN; rw [this]
theorem firstN_of {P : Nat → Bool} {n k : Nat} (hk : k < n) (h : P k = true) (hb : ∀ j, j < k → P j = false) : firstN P n = k := by
  have : (List.range n).find? P = some k := by
    rw [List.find?_range_eq_some]
    exact ⟨h, by simpa using hk, fun j hj => by simp [hb j hj]⟩
  unfold firstN; rw [this]
theorem firstN_any (P : Nat → Bool) (n : Nat) : decide (0 ≤ firstN P n) = anyN P n := by
  cases h : anyN P n with
  | false => rw [firstN_none (anyN_false.1 h)]; rfl
  | true =>
    unfold firstN
    cases h2 : (List.range n).find? P with
    | none =>
      rw [List.find?_eq_none] at h2
      obtain ⟨j, hj, hp⟩ := anyN_true.1 h
      exact absurd hp (h2 j (List.mem_range.2 hj))
    | some k => simp
theorem firstN_lt {P : Nat → Bool} {n : Nat} (h : anyN P n = true) : ∃ k : Nat, firstN P n = k ∧ k < n ∧ P k = true ∧ ∀ j, j < k → P j = false := by
  cases h2 : (List.range n).find? P with
  | none =>
    rw [List.find?_eq_none] at h2
    obtain ⟨j, hj, hp⟩ := anyN_true.1 h
    exact absurd hp (h2 j (List.mem_range.2 hj))
  | some k =>
    refine ⟨k, by unfold firstN; rw [h2], ?_⟩
    rw [List.find?_range_eq_some] at h2
    exact ⟨by simpa using h2.2.1, h2.1, fun j hj => by simpa using h2.2.2 j hj⟩

/-- Where x is in xs. -/
def idxP (xs : List Int) (x : Int) (j : Nat) : Bool := decide (x = iget xs j)
def hasB (xs : List Int) (x : Int) : Bool := decide (x ∈ xs)
theorem any_idx (xs : List Int) (x : Int) : anyN (idxP xs x) xs.length = hasB xs x := by
  rw [Bool.eq_iff_iff, anyN_true]
  unfold hasB idxP
  simp only [decide_eq_true_iff]
  constructor
  · rintro ⟨j, hj, rfl⟩; exact iget_mem hj
  · intro h
    obtain ⟨j, hj, rfl⟩ := List.getElem_of_mem h
    exact ⟨j, hj, by rw [iget_of hj]⟩
set_option maxHeartbeats 800000 in
theorem sIndex_any (p : Option Addr) (c : Nat) (xs : List Int) (x : Int) (w : World) (hx : Ints w p c xs) :
    Calls Try.prog 62 #[.slice p xs.length c, .int .i64 x] w fun e w' => e = .returned (.int .i64 (firstN (idxP xs x) xs.length)) ∧ w' = w := by
  have hl1 := hx.length_le
  go_enter Try.func62, Try.ntmps62
  go_wp2_with fail
  go_loop [8] (fun t => ∃ k : Nat, k ≤ xs.length ∧ t = .int .i64 k ∧ Hid (∀ j, j < k → idxP xs x j = false)) (fun t => xs.length - (intOf t).toNat)
  case atStart => exact ⟨0, Nat.zero_le _, rfl, fun j hj => absurd hj (Nat.not_lt_zero j)⟩
  case round =>
    obtain ⟨k, hk, rfl, ht⟩ := hrel
    by_cases hlt : k < xs.length
    · obtain ⟨b, o, rfl, _, hc⟩ := hx.get hlt
      have hk1 : (k : Int) < xs.length := by omega
      by_cases he : x = iget xs k
      · have hb : (x == iget xs k) = true := by simpa using he
        have HP : Hid (idxP xs x k = true) := by unfold Hid idxP; simpa using he
        clear he
        go_wp2_with fail
        go_ret
        exact ⟨ret_int (firstN_of hlt HP.out ht.out).symm, rfl⟩
      · have hb : (x == iget xs k) = false := by simpa using he
        have HP : Hid (idxP xs x k = false) := by unfold Hid idxP; simpa using he
        clear he
        go_wp2_with fail
        go_round
        case rel => exact ⟨k + 1, by omega, by go_num, snoc_all' ht.out HP.out⟩
        case measure => simp [intOf]; omega
    · have hk1 : ¬ (k : Int) < xs.length := by omega
      go_wp2_with fail
      go_ret
      exact ⟨ret_int (firstN_none (fun j hj => ht.out j (by omega))).symm, rfl⟩
set_option maxHeartbeats 400000 in
theorem contains_any (p : Option Addr) (c : Nat) (xs : List Int) (x : Int) (w : World) (hx : Ints w p c xs) :
    Calls Try.prog 53 #[.slice p xs.length c, .int .i64 x] w fun e w' => e = .returned (.bool (hasB xs x)) ∧ w' = w := by
  have HA := Lib.hid ((firstN_any (idxP xs x) xs.length).trans (any_idx xs x))
  go_enter Try.func53, Try.ntmps53
  go_wp2_with fail
  refine (sIndex_any p c xs x w hx).mono ?_
  rintro e w' ⟨rfl, rfl⟩
  go_wp2_with fail
  go_ret
  exact ⟨ret_bool HA.out, rfl⟩

/-- A predicate that holds one variable of its own, at the numbers of a list: what it answers, whatever world of R it is asked in. -/
def Asks1 (K : Nat) (u : Value) (xs : List Int) (P : Nat → Bool) (R : World → Prop) : Prop :=
  ∀ j W, j < xs.length → R W → Calls Try.prog K #[.int .i64 (iget xs j), u] W fun e w' => e = .returned (.bool (P j)) ∧ R w'
set_option maxHeartbeats 800000 in
theorem indexFunc1_any (K : Nat) (u : Value) (P : Nat → Bool) (R : World → Prop) (hcf : ∀ args W, (callFunc K args).run Try.prog W = .ok (.enter K args) W) (p : Option Addr) (c : Nat) (xs : List Int) (w : World) (hR : R w) (hI : Hid (∀ W, R W → Ints W p c xs)) (hf : Asks1 K u xs P R) :
    Calls Try.prog 78 #[.slice p xs.length c, .func (.func K) #[] #[u]] w fun e w' => e = .returned (.int .i64 (firstN P xs.length)) ∧ R w' := by
  have hl1 := (hI.out _ hR).length_le
  have Hf := Lib.hid hf
  clear hf
  go_enter Try.func78, Try.ntmps78
  go_wp2_with fail
  go_loopw [8] (fun t wr => ∃ k : Nat, k ≤ xs.length ∧ t = .int .i64 k ∧ Hid (∀ j, j < k → P j = false) ∧ R wr) (fun t _ => xs.length - (intOf t).toNat)
  case atStart => exact ⟨0, Nat.zero_le _, rfl, (fun j hj => absurd hj (Nat.not_lt_zero j)), hR⟩
  case round =>
    obtain ⟨k, hk, rfl, ht, hRr⟩ := hrel
    have hx := hI.out _ hRr
    by_cases hlt : k < xs.length
    · obtain ⟨b, o, rfl, _, hc⟩ := hx.get hlt
      have hk1 : (k : Int) < xs.length := by omega
      go_wp2_with fail
      refine (Hf.out k _ hlt hRr).mono ?_
      rintro e w' ⟨rfl, hR'⟩
      cases hP : P k with
      | true =>
        have HP := Lib.hid hP
        clear hP
        go_wp2_with fail
        go_ret
        exact ⟨ret_int (firstN_of hlt HP.out ht.out).symm, hR'⟩
      | false =>
        have HP := Lib.hid hP
        clear hP
        go_wp2_with fail
        go_roundw
        case rel => exact ⟨k + 1, by omega, by go_num, snoc_all' ht.out HP.out, hR'⟩
        case measure => simp [intOf]; omega
    · have hk1 : ¬ (k : Int) < xs.length := by omega
      go_wp2_with fail
      go_ret
      exact ⟨ret_int (firstN_none (fun j hj => ht.out j (by omega))).symm, hRr⟩
set_option maxHeartbeats 400000 in
theorem containsFunc1_any (K : Nat) (u : Value) (P : Nat → Bool) (R : World → Prop) (hcf : ∀ args W, (callFunc K args).run Try.prog W = .ok (.enter K args) W) (p : Option Addr) (c : Nat) (xs : List Int) (w : World) (hR : R w) (hI : Hid (∀ W, R W → Ints W p c xs)) (hf : Asks1 K u xs P R) :
    Calls Try.prog 69 #[.slice p xs.length c, .func (.func K) #[] #[u]] w fun e w' => e = .returned (.bool (anyN P xs.length)) ∧ R w' := by
  have HA := Lib.hid (firstN_any P xs.length)
  have Hf := Lib.hid hf
  clear hf
  go_enter Try.func69, Try.ntmps69
  go_wp2_with fail
  refine (indexFunc1_any K u P R hcf p c xs w hR hI Hf.out).mono ?_
  rintro e w' ⟨rfl, hR'⟩
  go_wp2_with fail
  go_ret
  exact ⟨ret_bool HA.out, hR'⟩

/-- A predicate at the rows of a table. -/
def AsksR (K : Nat) (v : List (List Int)) (P : Nat → Bool) (R : World → Prop) : Prop :=
  ∀ j q d W, j < v.length → R W → Ints W q d (rget v j) → Calls Try.prog K #[.slice q (rget v j).length d] W fun e w' => e = .returned (.bool (P j)) ∧ R w'
set_option maxHeartbeats 800000 in
theorem indexFuncR_any (K : Nat) (P : Nat → Bool) (R : World → Prop) (hcf : ∀ args W, (callFunc K args).run Try.prog W = .ok (.enter K args) W) (p : Option Addr) (c : Nat) (v : List (List Int)) (w : World) (hR : R w) (hI : Hid (∀ W, R W → Mat W p c v)) (hf : AsksR K v P R) :
    Calls Try.prog 77 #[.slice p v.length c, .func (.func K) #[] #[]] w fun e w' => e = .returned (.int .i64 (firstN P v.length)) ∧ R w' := by
  have hl1 := (hI.out _ hR).length_le
  have Hf := Lib.hid hf
  clear hf
  go_enter Try.func77, Try.ntmps77
  go_wp2_with fail
  go_loopw [8] (fun t wr => ∃ k : Nat, k ≤ v.length ∧ t = .int .i64 k ∧ Hid (∀ j, j < k → P j = false) ∧ R wr) (fun t _ => v.length - (intOf t).toNat)
  case atStart => exact ⟨0, Nat.zero_le _, rfl, (fun j hj => absurd hj (Nat.not_lt_zero j)), hR⟩
  case round =>
    obtain ⟨k, hk, rfl, ht, hRr⟩ := hrel
    have hx := hI.out _ hRr
    by_cases hlt : k < v.length
    · obtain ⟨b, o, rfl, _, q, d, hc, hi⟩ := hx.get hlt
      have hk1 : (k : Int) < v.length := by omega
      go_wp2_with fail
      refine (Hf.out k q d _ hlt hRr hi).mono ?_
      rintro e w' ⟨rfl, hR'⟩
      cases hP : P k with
      | true =>
        have HP := Lib.hid hP
        clear hP
        go_wp2_with fail
        go_ret
        exact ⟨ret_int (firstN_of hlt HP.out ht.out).symm, hR'⟩
      | false =>
        have HP := Lib.hid hP
        clear hP
        go_wp2_with fail
        go_roundw
        case rel => exact ⟨k + 1, by omega, by go_num, snoc_all' ht.out HP.out, hR'⟩
        case measure => simp [intOf]; omega
    · have hk1 : ¬ (k : Int) < v.length := by omega
      go_wp2_with fail
      go_ret
      exact ⟨ret_int (firstN_none (fun j hj => ht.out j (by omega))).symm, hRr⟩
set_option maxHeartbeats 400000 in
theorem containsFuncR_any (K : Nat) (P : Nat → Bool) (R : World → Prop) (hcf : ∀ args W, (callFunc K args).run Try.prog W = .ok (.enter K args) W) (p : Option Addr) (c : Nat) (v : List (List Int)) (w : World) (hR : R w) (hI : Hid (∀ W, R W → Mat W p c v)) (hf : AsksR K v P R) :
    Calls Try.prog 66 #[.slice p v.length c, .func (.func K) #[] #[]] w fun e w' => e = .returned (.bool (anyN P v.length)) ∧ R w' := by
  have HA := Lib.hid (firstN_any P v.length)
  have Hf := Lib.hid hf
  clear hf
  go_enter Try.func66, Try.ntmps66
  go_wp2_with fail
  refine (indexFuncR_any K P R hcf p c v w hR hI Hf.out).mono ?_
  rintro e w' ⟨rfl, hR'⟩
  go_wp2_with fail
  go_ret
  exact ⟨ret_bool HA.out, hR'⟩
end Go.Proofs.Ytiohehofnlmenaa

/- Boxes: blocks whose first cells are known, below what comes later; no condition. -/
namespace Go.Proofs.Ytiohehofnlmenaa
set_option linter.unusedVariables false
set_option linter.unusedSimpArgs false
open Go.ChangeShapes Go.WideShapes Go.ChangeAt Go.RowKit Go.Deep

/-- A block whose first cells are known. -/
structure BoxV (w : World) (S : Nat) (vs : List Value) : Prop where
  lt : S < w.heap.size
  cell : ∀ (k : Nat) (v : Value), vs[k]? = some v → w.cell? ⟨S, k, none⟩ = some v
theorem BoxV.below {w w' : World} {S : Nat} {vs : List Value} (h : BoxV w S vs) (hb : Below w.heap.size w w') : BoxV w' S vs :=
  ⟨Nat.lt_of_lt_of_le h.lt hb.size, fun k v hk => (hb.cell (p := ⟨S, k, none⟩) h.lt).trans (h.cell k v hk)⟩
theorem BoxV.new {w w' : World} {S : Nat} {vs : List Value} {t : TypeId} (hS : w.heap.size = S) (hw : w.alloc (.cells vs.toArray t) = w') : BoxV w' S vs := by
  subst hS hw
  exact ⟨by simp, fun k v hk => (World.cell?_alloc_at _ _ _ _ rfl).trans (by simpa using hk)⟩
theorem below_alloc {w w' : World} {o : Obj} (hw : w.alloc o = w') : Below w.heap.size w w' := by subst hw; exact (Below.refl _ _).alloc (Nat.le_refl _) _
end Go.Proofs.Ytiohehofnlmenaa

/- The walks of goods.Check and of the reference's Check and Great, for every goods; no condition. -/
namespace Go.Proofs.Ytiohehofnlmenaa
set_option linter.unusedVariables false
set_option linter.unusedSimpArgs false
open Go.ChangeShapes Go.WideShapes Go.ChangeAt Go.RowKit Go.Deep

def longRow (v : List (List Int)) (j : Nat) : Bool := decide (10 < (rget v j).length)
theorem enter_goodsCheck1 (args : Array Value) (W : World) : (callFunc 67 args).run Try.prog W = .ok (.enter 67 args) W := by kernel_rfl
theorem enter_goodsCheck2 (args : Array Value) (W : World) : (callFunc 68 args).run Try.prog W = .ok (.enter 68 args) W := by kernel_rfl
set_option maxHeartbeats 400000 in
theorem goodsCheck1_any (q : Option Addr) (n d : Nat) (w : World) : Calls Try.prog 67 #[.slice q n d] w fun e w' => e = .returned (.bool (decide (10 < n))) ∧ w' = w := by
  go_enter Try.func67, Try.ntmps67
  go_wp2
  go_ret
  exact ⟨ret_bool (by rw [Bool.eq_iff_iff, decide_eq_true_iff, decide_eq_true_iff]; omega), rfl⟩
def oddVal (x : Int) : Bool := decide (x < 0 ∨ 1000 < x)
set_option maxHeartbeats 400000 in
theorem oddVal_any (x : Int) (w : World) (hx : in64 x) : Calls Try.prog 68 #[.int .i64 x] w fun e w' => e = .returned (.bool (oddVal x)) ∧ w' = w := by
  obtain ⟨h1, h2⟩ := hx
  by_cases hlow : x < 0
  · have hd : decide (x < 0) = true := by simpa using hlow
    go_enter Try.func68, Try.ntmps68
    go_wp2_with fail
    go_ret
    exact ⟨ret_bool (by simp [oddVal, hlow]), rfl⟩
  · have hd : decide (x < 0) = false := by simpa using hlow
    go_enter Try.func68, Try.ntmps68
    go_wp2_with fail
    go_ret
    exact ⟨ret_bool (by unfold oddVal; rw [Bool.eq_iff_iff, decide_eq_true_iff, decide_eq_true_iff]; omega), rfl⟩
theorem oddVal_none {xs : List Int} (h : anyB oddVal xs = false) : ∀ j, j < xs.length → 0 ≤ iget xs j ∧ iget xs j ≤ 1000 := fun j hj => by
  unfold anyB at h
  rw [List.any_eq_false] at h
  have := h _ (iget_mem hj)
  simp [oddVal] at this
  omega
theorem oddVal_some {xs : List Int} (h : anyB oddVal xs = true) : ∃ j, j < xs.length ∧ ¬ (0 ≤ iget xs j ∧ iget xs j ≤ 1000) := by
  unfold anyB at h
  rw [List.any_eq_true] at h
  obtain ⟨x, hx, hp⟩ := h
  obtain ⟨j, hj, rfl⟩ := List.getElem_of_mem hx
  refine ⟨j, hj, ?_⟩
  rw [iget_of hj]
  simp [oddVal] at hp
  omega

set_option maxHeartbeats 2000000 in
theorem goodsCheck_any (p : Option Addr) (c : Nat) (v : List (List Int)) (w : World) (hx : Mat w p c v) :
    Calls Try.prog 45 #[.agg #[.slice p v.length c]] w fun e w' => e = .returned (.int .i64 (chkG v)) ∧ Below w.heap.size w w' := by
  obtain ⟨W0, hW0⟩ : ∃ W0, w.alloc (.cells #[.slice p v.length c] 24) = W0 := ⟨_, rfl⟩
  have hB : Below w.heap.size w W0 := below_alloc hW0
  have bX : BoxV W0 w.heap.size [.slice p v.length c] := BoxV.new rfl hW0
  have hx := hx.below hB (Nat.le_refl _)
  have x0 := bX.cell 0 _ rfl
  have HW0 := Lib.hid hW0
  clear hW0
  have hl1 := hx.length_le
  by_cases h6 : 6 < v.length
  · have hd : decide (6 < (v.length : Int)) = true := by simp; omega
    have H := Lib.hid (chkG_many (v := v) (.inl h6))
    go_enter Try.func45, Try.ntmps45
    go_wp2_with fail
    go_ret
    rw [HW0.out]
    exact ⟨ret_int H.out.symm, hB⟩
  · have hd : decide (6 < (v.length : Int)) = false := by simp; omega
    go_enter Try.func45, Try.ntmps45
    go_wp2_with fail
    rw [HW0.out]
    refine (containsFuncR_any 67 (longRow v) (fun W => W = W0) enter_goodsCheck1 p c v W0 rfl (fun W hW => by rw [hW]; exact hx) (fun j q d W hj hW hi => goodsCheck1_any _ _ _ _ |>.mono fun e w' h => ⟨h.1, h.2.trans hW⟩)).mono ?_
    rintro e w' ⟨rfl, rfl⟩
    cases hany : anyN (longRow v) v.length with
    | true =>
      have H := Lib.hid (chkG_many (v := v) (.inr fun h => by
        obtain ⟨j, hj, hp⟩ := anyN_true.1 hany
        have := h j hj
        simp [longRow] at hp; omega))
      clear hany
      go_wp2_with fail
      go_ret
      exact ⟨ret_int H.out.symm, hB⟩
    | false =>
      have hshort : Hid (∀ i, i < v.length → (rget v i).length ≤ 10) := fun i hi => by
        have := anyN_false.1 hany i hi
        simp [longRow] at this; exact this
      have hfew : Hid (¬ ManyG v) := fun h => by
        rcases h with h | h
        · exact h6 h
        · exact h hshort.out
      clear hany
      by_cases h0 : v.length = 0
      · have hb0 : ((v.length : Int) == 0) = true := by rw [beq_iff_eq]; omega
        have H := Lib.hid (chkG_bad (v := v) hfew.out (fun h => by have := h.1; omega))
        clear h0
        go_wp2_with fail
        go_ret
        exact ⟨ret_int H.out.symm, hB⟩
      · have hb0 : ((v.length : Int) == 0) = false := by rw [beq_eq_false_iff_ne]; omega
        obtain ⟨b, o, rfl, _, q0, d0, hc0, hi0⟩ := hx.get (j := 0) (by omega)
        rw [Nat.add_zero] at hc0
        go_wp2_with fail
        go_loop [22] (fun t => ∃ k : Nat, k ≤ v.length ∧ t = .int .i64 k ∧ Hid (∀ i, i < k → (rget v i).length = wid v ∧ ∀ j, j < (rget v i).length → 0 ≤ iget (rget v i) j ∧ iget (rget v i) j ≤ 1000)) (fun t => v.length - (intOf t).toNat)
        case atStart => exact ⟨0, Nat.zero_le _, rfl, fun j hj => absurd hj (Nat.not_lt_zero j)⟩
        case round =>
          obtain ⟨k, hk, rfl, ht⟩ := hrel
          by_cases hlt : k < v.length
          · obtain ⟨q, d, hc, hi⟩ := hx.at hlt
            have hk1 : (k : Int) < v.length := by omega
            by_cases hrl : (rget v k).length = (rget v 0).length
            · have hrb : (((rget v k).length : Int) != (rget v 0).length) = false := by simp [hrl]
              have Hrl : Hid ((rget v k).length = wid v) := hrl
              clear hrl
              go_wp2_with fail
              refine (containsFunc_any 68 oddVal enter_goodsCheck2 (fun x W => oddVal_any x W) _ _ _ _ hi).mono ?_
              rintro e w' ⟨rfl, rfl⟩
              cases hany : anyB oddVal (rget v k) with
              | true =>
                have Hany := Lib.hid hany
                clear hany
                go_wp2_with fail
                go_ret
                refine ⟨ret_int (chkG_bad (v := v) hfew.out fun hB => ?_).symm, hB⟩
                obtain ⟨j, hj, hn⟩ := oddVal_some Hany.out
                exact hn ((hB.2.2.2 k hlt).2 j hj)
              | false =>
                have Hany := Lib.hid hany
                clear hany
                go_wp2_with fail
                go_round
                case rel => exact ⟨k + 1, by omega, by go_num, snoc_all' ht.out ⟨Hrl.out, fun j hj => oddVal_none Hany.out j hj⟩⟩
                case measure => simp [intOf]; omega
            · have hrb : (((rget v k).length : Int) != (rget v 0).length) = true := by rw [bne_iff_ne]; omega
              have Hrl : Hid (¬ (rget v k).length = wid v) := hrl
              clear hrl
              go_wp2_with fail
              go_ret
              exact ⟨ret_int (chkG_bad (v := v) hfew.out fun hB => Hrl.out (hB.2.2.2 k hlt).1).symm, hB⟩
          · have hk1 : ¬ (k : Int) < v.length := by omega
            go_wp2_with fail
            go_ret
            exact ⟨ret_int (chkG_ok (v := v) ⟨by omega, by omega, hshort.out 0 (by omega), fun i hi => ht.out i (by omega)⟩).symm, hB⟩

set_option maxHeartbeats 4000000 in
set_option maxRecDepth 100000 in
theorem ref16Check_any (p : Option Addr) (c : Nat) (v : List (List Int)) (w : World) (hx : Mat w p c v) :
    Calls Try.prog 50 #[.agg #[.slice p v.length c]] w fun e w' => e = .returned (.int .i64 (chkG v)) ∧ Below w.heap.size w w' := by
  obtain ⟨W0, hW0⟩ : ∃ W0, w.alloc (.cells #[.slice p v.length c] 24) = W0 := ⟨_, rfl⟩
  have hB : Below w.heap.size w W0 := below_alloc hW0
  have bX : BoxV W0 w.heap.size [.slice p v.length c] := BoxV.new rfl hW0
  have hx := hx.below hB (Nat.le_refl _)
  have x0 := bX.cell 0 _ rfl
  have HW0 := Lib.hid hW0
  clear hW0
  have hl1 := hx.length_le
  by_cases h6 : 6 < v.length
  · have hd : decide (6 < (v.length : Int)) = true := by simp; omega
    have H := Lib.hid (chkG_many (v := v) (.inl h6))
    go_enter Try.func50, Try.ntmps50
    go_wp2_with fail
    go_ret
    rw [HW0.out]
    exact ⟨ret_int H.out.symm, hB⟩
  · have hd : decide (6 < (v.length : Int)) = false := by simp; omega
    go_enter Try.func50, Try.ntmps50
    go_wp2_with fail
    rw [HW0.out]
    go_loop [4] (fun t => ∃ k : Nat, k ≤ v.length ∧ t = .int .i64 k ∧ Hid (∀ i, i < k → (rget v i).length ≤ 10)) (fun t => v.length - (intOf t).toNat)
    case atStart => exact ⟨0, Nat.zero_le _, rfl, fun j hj => absurd hj (Nat.not_lt_zero j)⟩
    case round =>
      obtain ⟨k, hk, rfl, ht⟩ := hrel
      by_cases hlt : k < v.length
      · obtain ⟨b, o, rfl, _, q, d, hc, hi⟩ := hx.get hlt
        have hk1 : (k : Int) < v.length := by omega
        by_cases hlong : 10 < (rget v k).length
        · have hd1 : decide (10 < ((rget v k).length : Int)) = true := by simp; omega
          have H := Lib.hid (chkG_many (v := v) (.inr fun h => by have := h k hlt; omega))
          clear hlong
          go_wp2_with fail
          go_ret
          exact ⟨ret_int H.out.symm, hB⟩
        · have hd1 : decide (10 < ((rget v k).length : Int)) = false := by simp; omega
          have HL : Hid ((rget v k).length ≤ 10) := show _ ≤ _ by omega
          clear hlong
          go_wp2_with fail
          go_round
          case rel => exact ⟨k + 1, by omega, by go_num, snoc_all' ht.out HL.out⟩
          case measure => simp [intOf]; omega
      · have hk1 : ¬ (k : Int) < v.length := by omega
        have hshort : Hid (∀ i, i < v.length → (rget v i).length ≤ 10) := fun i hi => ht.out i (by omega)
        have hfew : Hid (¬ ManyG v) := fun h => by
          rcases h with h | h
          · exact h6 h
          · exact h hshort.out
        clear ht hk
        go_wp2_with fail
        go_loopw [5] (fun t wr => ∃ k : Nat, k ≤ v.length ∧ t = .int .i64 k ∧ Hid (∀ i, i < k → (rget v i).length = wid v ∧ ∀ j, j < (rget v i).length → 0 ≤ iget (rget v i) j ∧ iget (rget v i) j ≤ 1000) ∧ ∃ n, wr = W0.drewN n) (fun t _ => v.length - (intOf t).toNat)
        case atStart => exact ⟨0, Nat.zero_le _, rfl, (fun j hj => absurd hj (Nat.not_lt_zero j)), drew_refl _⟩
        case round =>
          obtain ⟨k, hk, rfl, ht, hw⟩ := hrel
          have hx := hx.drew hw
          have x0 : wr.cell? ⟨w.heap.size, 0, none⟩ = some (.slice p v.length c) := by obtain ⟨n, rfl⟩ := hw; exact x0
          have Hw := Lib.hid hw
          clear hw
          by_cases hlt : k < v.length
          · obtain ⟨b, o, rfl, _, q0, d0, hc0, hi0⟩ := hx.get (j := 0) (by omega)
            rw [Nat.add_zero] at hc0
            obtain ⟨q, d, hc, hi⟩ := hx.at hlt
            have hk1 : (k : Int) < v.length := by omega
            have hk2 : (0 : Int) < v.length := by omega
            by_cases hrl : (rget v k).length = (rget v 0).length
            · have hrb : (((rget v k).length : Int) != (rget v 0).length) = false := by simp [hrl]
              have Hrl : Hid ((rget v k).length = wid v) := hrl
              clear hrl
              go_wp2_with fail
              go_quiet (fail)
              go_wp2_with fail
              obtain ⟨wo, hwo⟩ : ∃ wo : World, wr.drewN nq = wo := ⟨_, rfl⟩
              have hx := hx.drew (w' := wo) ⟨nq, hwo.symm⟩
              have x0 : wo.cell? ⟨w.heap.size, 0, none⟩ = some (.slice (some ⟨b, o, none⟩) v.length c) := by rw [← hwo]; exact x0
              have hi := hi.drew (w' := wo) ⟨nq, hwo.symm⟩
              have hc : wo.cell? ⟨b, o + k, none⟩ = some (.slice q (rget v k).length d) := by rw [← hwo]; exact hc
              have Hwo : Hid (∃ n, wo = W0.drewN n) := by obtain ⟨m, hm⟩ := Hw.out; exact ⟨m + nq, by rw [← hwo, hm, World.drewN_drewN]⟩
              rw [hwo]
              clear hwo hc0 hi0
              have hl2 := hi.length_le
              go_loop [6] (fun t => ∃ m : Nat, m ≤ (rget v k).length ∧ t = .int .i64 m ∧ Hid (∀ j, j < m → 0 ≤ iget (rget v k) j ∧ iget (rget v k) j ≤ 1000)) (fun t => (rget v k).length - (intOf t).toNat)
              case atStart => exact ⟨0, Nat.zero_le _, rfl, fun j hj => absurd hj (Nat.not_lt_zero j)⟩
              case round =>
                obtain ⟨m, hm, rfl, hs⟩ := hrel
                by_cases hml : m < (rget v k).length
                · obtain ⟨b2, o2, rfl, _, hc2⟩ := hi.get hml
                  have hm1 : (m : Int) < (rget v k).length := by omega
                  by_cases hlow : iget (rget v k) m < 0
                  · have hdl : decide (iget (rget v k) m < 0) = true := by simpa using hlow
                    have H := Lib.hid (chkG_bad (v := v) hfew.out fun hG => by have := ((hG.2.2.2 k hlt).2 m hml).1; omega)
                    clear hlow
                    go_wp2_with fail
                    go_ret
                    exact ⟨ret_int H.out.symm, hB.drewP Hwo.out⟩
                  · have hdl : decide (iget (rget v k) m < 0) = false := by simpa using hlow
                    by_cases hhi : 1000 < iget (rget v k) m
                    · have hdh : decide (1000 < iget (rget v k) m) = true := by simpa using hhi
                      have H := Lib.hid (chkG_bad (v := v) hfew.out fun hG => by have := ((hG.2.2.2 k hlt).2 m hml).2; omega)
                      clear hlow hhi
                      go_wp2_with fail
                      go_ret
                      exact ⟨ret_int H.out.symm, hB.drewP Hwo.out⟩
                    · have hdh : decide (1000 < iget (rget v k) m) = false := by simpa using hhi
                      have HP : Hid (0 ≤ iget (rget v k) m ∧ iget (rget v k) m ≤ 1000) := show _ ∧ _ by omega
                      clear hlow hhi
                      go_wp2_with fail
                      go_round
                      case rel => exact ⟨m + 1, by omega, by go_num, snoc_all' hs.out HP.out⟩
                      case measure => simp [intOf]; omega
                · have hm1 : ¬ (m : Int) < (rget v k).length := by omega
                  have HS : Hid (∀ j, j < (rget v k).length → 0 ≤ iget (rget v k) j ∧ iget (rget v k) j ≤ 1000) := fun j hj => hs.out j (by omega)
                  clear hs hm
                  go_wp2_with fail
                  go_roundw
                  case rel => exact ⟨k + 1, by omega, by go_num, snoc_all' ht.out ⟨Hrl.out, HS.out⟩, Hwo.out⟩
                  case measure => simp [intOf]; omega
            · have hrb : (((rget v k).length : Int) != (rget v 0).length) = true := by rw [bne_iff_ne]; omega
              have Hrl : Hid (¬ (rget v k).length = wid v) := hrl
              clear hrl
              go_wp2_with fail
              go_quiet (fail)
              go_wp2_with fail
              go_ret
              exact ⟨ret_int (chkG_bad (v := v) hfew.out fun hB => Hrl.out (hB.2.2.2 k hlt).1).symm, (hB.drewP Hw.out).drewN' _⟩
          · have hk1 : ¬ (k : Int) < v.length := by omega
            by_cases h0 : v.length < 1
            · have hb0 : decide ((v.length : Int) < 1) = true := by simp; omega
              have H := Lib.hid (chkG_bad (v := v) hfew.out (fun h => by have := h.1; omega))
              go_wp2_with fail
              go_ret
              exact ⟨ret_int H.out.symm, hB.drewP Hw.out⟩
            · have hb0 : decide ((v.length : Int) < 1) = false := by simp; omega
              have H := Lib.hid (chkG_ok (v := v) ⟨by omega, by omega, hshort.out 0 (by omega), fun i hi => ht.out i (by omega)⟩)
              go_wp2_with fail
              go_ret
              exact ⟨ret_int H.out.symm, hB.drewP Hw.out⟩
end Go.Proofs.Ytiohehofnlmenaa
