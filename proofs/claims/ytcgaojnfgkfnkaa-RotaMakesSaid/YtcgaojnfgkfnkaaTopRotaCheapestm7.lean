/- The walks of the closures of rota.next: whether a count is sharp; giving a shift on. -/
import Derived.Test.YtcgaojnfgkfnkaaTopRotaCheapestm6
import Derived.WalkMore
import Derived.Deep.DeepCutAuto
import Derived.Test.YtcgaojnfgkfnkaaTopRotaCheapestm1
import Derived.Test.YtcgaojnfgkfnkaaTopRotaCheapestm2
import Derived.Maps.RangeWalk
import Derived.RangeFuncOwn
/- The walks of the closures of rota.next: whether a count is sharp; giving a shift on. -/
namespace Go.Proofs.Ytcgaojnfgkfnkaa
set_option linter.unusedVariables false
set_option linter.unusedSimpArgs false
open Go.ChangeShapes Go.WideShapes Go.ChangeAt Go.RowKit Go.Deep

structure CountsP (v : List (List Int)) : Prop where
  len : v.length ≤ 100
  row : ∀ i, i < v.length → (rget v i).length = v.length
  cb : ∀ i k, i < v.length → k < v.length → 0 ≤ bid v i k ∧ bid v i k ≤ 1000
/-- Bounds of moderate size. -/
def ModP (n : Nat) (U V : Nat → Int) : Prop := (∀ i, i < n → 0 ≤ U (i + 1) ∧ U (i + 1) ≤ 1000) ∧ ∀ k, k < n → -1000 ≤ V (k + 1) ∧ V (k + 1) ≤ 0
set_option maxHeartbeats 4000000 in
set_option maxRecDepth 100000 in
theorem sharp_any (bC bB gu gv : Nat) (p : Option Addr) (c : Nat) (v : List (List Int)) (U V : Nat → Int) (i k : Nat) (w : World) (c0 : w.cell? ⟨bC, 0, none⟩ = some (.slice p v.length c)) (c1 : w.cell? ⟨bB, 0, none⟩ = some (.slice (some ⟨gu, 0, none⟩) (v.length + 1) (v.length + 1))) (c2 : w.cell? ⟨bB, 1, none⟩ = some (.slice (some ⟨gv, 0, none⟩) (v.length + 1) (v.length + 1)))
    (hu : RowF w gu (v.length + 1) (iF U)) (hv2 : RowF w gv (v.length + 1) (iF V)) (mX : Mat w p c v) (hv : CountsP v) (hm : ModP v.length U V) (hi : i < v.length) (hk : k < v.length) :
    Calls Try.prog 46 #[.int .i64 i, .int .i64 k, .pointer (some ⟨bC, 0, none⟩), .pointer (some ⟨bB, 0, none⟩)] w fun e w' => e = .returned (.bool (decide (Sharp (bid v) U V i k))) ∧ ∃ n, w' = w.drewN n := by
  have hr := hv.row i hi
  have hb := hv.cb i k hi hk
  have hU := hm.1 i hi
  have hV := hm.2 k hk
  have hn := hv.len
  obtain ⟨b2, o2, rfl, _, qr, dr, hc2, hI⟩ := mX.get hi
  obtain ⟨b3, o3, rfl, _, hc3⟩ := hI.get (show k < (rget v i).length by rw [hr]; exact hk)
  rw [hr] at hc2
  have cu : w.cell? ⟨gu, i + 1, none⟩ = some (.int .i64 (U (i + 1))) := hu.cell (i + 1) (by omega)
  have cv : w.cell? ⟨gv, k + 1, none⟩ = some (.int .i64 (V (k + 1))) := hv2.cell (k + 1) (by omega)
  have HS : Hid (decide (Sharp (bid v) U V i k) = (iget (rget v i) k == U (i + 1) + V (k + 1))) := by
    unfold Hid
    rw [Bool.eq_iff_iff, decide_eq_true_iff, beq_iff_eq]
    exact Iff.rfl
  have hb : 0 ≤ iget (rget v i) k ∧ iget (rget v i) k ≤ 1000 := hb
  obtain ⟨x, hx⟩ : ∃ x, iget (rget v i) k = x := ⟨_, rfl⟩
  obtain ⟨a, ha⟩ : ∃ x, U (i + 1) = x := ⟨_, rfl⟩
  obtain ⟨b, hb2⟩ : ∃ x, V (k + 1) = x := ⟨_, rfl⟩
  rw [hx] at hc3 HS hb
  rw [ha] at cu HS hU
  rw [hb2] at cv HS hV
  have hw1 : IntKind.i64.wrap ((i : Int) + 1) = (i : Int) + 1 := IntWalk.i64_in _ (by omega)
  have hw2 : IntKind.i64.wrap ((k : Int) + 1) = (k : Int) + 1 := IntWalk.i64_in _ (by omega)
  have hw3 : IntKind.i64.wrap (a + b) = a + b := IntWalk.i64_in _ (by omega)
  have h1 : (i : Int) < v.length := by omega
  have h2 : (k : Int) < v.length := by omega
  have h3 : (i : Int) + 1 < (v.length : Int) + 1 := by omega
  have h4 : (k : Int) + 1 < (v.length : Int) + 1 := by omega
  clear hx ha hb2 hu hv2 mX hv hm hr hI hb hU hV
  go_enter Try.func46, Try.ntmps46
  go_wp2_with fail
  go_quiet (fail)
  go_wp2_with fail
  go_ret
  exact ⟨ret_bool HS.out.symm, nq, rfl⟩
end Go.Proofs.Ytcgaojnfgkfnkaa

/- The walk of slices.Min at a list that is not empty. -/
namespace Go.Proofs.Ytcgaojnfgkfnkaa
set_option linter.unusedVariables false
set_option linter.unusedSimpArgs false
open Go.ChangeShapes Go.WideShapes Go.ChangeAt Go.RowKit Go.Deep

def lowTo (xs : List Int) : Nat → Int
  | 0 => iget xs 0
  | k + 1 => min (lowTo xs k) (iget xs k)
theorem lowTo_one (xs : List Int) : lowTo xs 1 = iget xs 0 := by simp [lowTo]
theorem lowTo_le (xs : List Int) : ∀ k j, j < k → lowTo xs k ≤ iget xs j
  | k + 1, j, h => by
    rw [lowTo]
    by_cases e : j = k
    · subst e; omega
    · have := lowTo_le xs k j (by omega); omega
theorem lowTo_mem (xs : List Int) : ∀ k, 1 ≤ k → ∃ j, j < k ∧ lowTo xs k = iget xs j
  | k + 1, _ => by
    by_cases h0 : k = 0
    · subst h0; exact ⟨0, by omega, lowTo_one xs⟩
    · obtain ⟨j, hj, he⟩ := lowTo_mem xs k (by omega)
      rw [lowTo]
      by_cases h : lowTo xs k ≤ iget xs k
      · exact ⟨j, by omega, by omega⟩
      · exact ⟨k, by omega, by omega⟩
set_option maxHeartbeats 800000 in
theorem sMin_any (p : Option Addr) (c : Nat) (xs : List Int) (w : World) (hx : Ints w p c xs) (h0 : 0 < xs.length) :
    Calls Try.prog 33 #[.slice p xs.length c] w fun e w' => e = .returned (.int .i64 (lowTo xs xs.length)) ∧ w' = w := by
  have hl1 := hx.length_le
  obtain ⟨b, o, rfl, _, hc0⟩ := hx.get h0
  rw [Nat.add_zero] at hc0
  have hd : decide ((xs.length : Int) < 1) = false := by rw [decide_eq_false_iff_not]; omega
  have h01 : (0 : Int) < xs.length := by omega
  have H1 := Lib.hid (lowTo_one xs)
  go_enter Try.func33, Try.ntmps33
  go_wp2_with fail
  go_loop [3, 4] (fun s t => ∃ k : Nat, 1 ≤ k ∧ k ≤ xs.length ∧ t = .int .i64 k ∧ s = .int .i64 (lowTo xs k)) (fun _ t => xs.length - (intOf t).toNat)
  case atStart => exact ⟨1, Nat.le_refl _, h0, rfl, by rw [H1.out]⟩
  case round =>
    obtain ⟨k, hk0, hk, rfl, rfl⟩ := hrel
    by_cases hlt : k < xs.length
    · have hk1 : (k : Int) < xs.length := by omega
      have hc := hx.at hlt
      have HS : Hid (lowTo xs (k + 1) = min (lowTo xs k) (iget xs k)) := rfl
      generalize lowTo xs k = y at *
      generalize iget xs k = z at *
      by_cases hyz : y ≤ z
      · have hm : min y z = y := by omega
        rw [hm] at HS
        go_wp2_with fail
        go_round
        case rel => exact ⟨k + 1, by omega, by omega, by go_num, by rw [HS.out] <;> first | rfl | (congr 1; omega)⟩
        case measure => (simp [intOf] <;> omega)
      · have hm : min y z = z := by omega
        rw [hm] at HS
        go_wp2_with fail
        go_round
        case rel => exact ⟨k + 1, by omega, by omega, by go_num, by rw [HS.out] <;> first | rfl | (congr 1; omega)⟩
        case measure => (simp [intOf] <;> omega)
    · have hk1 : ¬ (k : Int) < xs.length := by omega
      obtain rfl : k = xs.length := by omega
      go_wp2_with fail
      go_ret
      exact ⟨rfl, rfl⟩
end Go.Proofs.Ytcgaojnfgkfnkaa

/- The walk of slices.Max at a list that is not empty. -/
namespace Go.Proofs.Ytcgaojnfgkfnkaa
set_option linter.unusedVariables false
set_option linter.unusedSimpArgs false
open Go.ChangeShapes Go.WideShapes Go.ChangeAt Go.RowKit Go.Deep

def highTo (xs : List Int) : Nat → Int
  | 0 => iget xs 0
  | k + 1 => max (highTo xs k) (iget xs k)
theorem highTo_one (xs : List Int) : highTo xs 1 = iget xs 0 := by simp [highTo]
theorem highTo_ge (xs : List Int) : ∀ k j, j < k → iget xs j ≤ highTo xs k
  | k + 1, j, h => by
    rw [highTo]
    by_cases e : j = k
    · subst e; omega
    · have := highTo_ge xs k j (by omega); omega
theorem highTo_mem (xs : List Int) : ∀ k, 1 ≤ k → ∃ j, j < k ∧ highTo xs k = iget xs j
  | k + 1, _ => by
    by_cases h0 : k = 0
    · subst h0; exact ⟨0, by omega, highTo_one xs⟩
    · obtain ⟨j, hj, he⟩ := highTo_mem xs k (by omega)
      rw [highTo]
      by_cases h : iget xs k ≤ highTo xs k
      · exact ⟨j, by omega, by omega⟩
      · exact ⟨k, by omega, by omega⟩
set_option maxHeartbeats 800000 in
theorem sMax_any (p : Option Addr) (c : Nat) (xs : List Int) (w : World) (hx : Ints w p c xs) (h0 : 0 < xs.length) :
    Calls Try.prog 34 #[.slice p xs.length c] w fun e w' => e = .returned (.int .i64 (highTo xs xs.length)) ∧ w' = w := by
  have hl1 := hx.length_le
  obtain ⟨b, o, rfl, _, hc0⟩ := hx.get h0
  rw [Nat.add_zero] at hc0
  have hd : decide ((xs.length : Int) < 1) = false := by rw [decide_eq_false_iff_not]; omega
  have h01 : (0 : Int) < xs.length := by omega
  have H1 := Lib.hid (highTo_one xs)
  go_enter Try.func34, Try.ntmps34
  go_wp2_with fail
  go_loop [3, 4] (fun s t => ∃ k : Nat, 1 ≤ k ∧ k ≤ xs.length ∧ t = .int .i64 k ∧ s = .int .i64 (highTo xs k)) (fun _ t => xs.length - (intOf t).toNat)
  case atStart => exact ⟨1, Nat.le_refl _, h0, rfl, by rw [H1.out]⟩
  case round =>
    obtain ⟨k, hk0, hk, rfl, rfl⟩ := hrel
    by_cases hlt : k < xs.length
    · have hk1 : (k : Int) < xs.length := by omega
      have hc := hx.at hlt
      have HS : Hid (highTo xs (k + 1) = max (highTo xs k) (iget xs k)) := rfl
      generalize highTo xs k = y at *
      generalize iget xs k = z at *
      by_cases hyz : y ≤ z
      · have hm : max y z = z := by omega
        rw [hm] at HS
        go_wp2_with fail
        go_round
        case rel => exact ⟨k + 1, by omega, by omega, by go_num, by rw [HS.out] <;> first | rfl | (congr 1; omega)⟩
        case measure => (simp [intOf] <;> omega)
      · have hm : max y z = y := by omega
        rw [hm] at HS
        go_wp2_with fail
        go_round
        case rel => exact ⟨k + 1, by omega, by omega, by go_num, by rw [HS.out] <;> first | rfl | (congr 1; omega)⟩
        case measure => (simp [intOf] <;> omega)
    · have hk1 : ¬ (k : Int) < xs.length := by omega
      obtain rfl : k = xs.length := by omega
      go_wp2_with fail
      go_ret
      exact ⟨rfl, rfl⟩
end Go.Proofs.Ytcgaojnfgkfnkaa

/- Searching a table with a predicate that holds one variable of its own; no condition but what the predicate asks. -/
namespace Go.Proofs.Ytcgaojnfgkfnkaa
set_option linter.unusedVariables false
set_option linter.unusedSimpArgs false
open Go.ChangeShapes Go.WideShapes Go.ChangeAt Go.RowKit Go.Deep

/-- A predicate with a variable of its own at the rows of a table. -/
def AsksU (K : Nat) (u : Value) (v : List (List Int)) (P : Nat → Bool) (R : World → Prop) : Prop :=
  ∀ j q d W, j < v.length → R W → Ints W q d (rget v j) → Calls Try.prog K #[.slice q (rget v j).length d, u] W fun e w' => e = .returned (.bool (P j)) ∧ R w'
set_option maxHeartbeats 800000 in
theorem indexFuncU_any (K : Nat) (u : Value) (P : Nat → Bool) (R : World → Prop) (hcf : ∀ args W, (callFunc K args).run Try.prog W = .ok (.enter K args) W) (p : Option Addr) (c : Nat) (v : List (List Int)) (w : World) (hR : R w) (hI : Hid (∀ W, R W → Mat W p c v)) (hf : AsksU K u v P R) :
    Calls Try.prog 51 #[.slice p v.length c, .func (.func K) #[] #[u]] w fun e w' => e = .returned (.int .i64 (firstN P v.length)) ∧ R w' := by
  have hl1 := (hI.out _ hR).length_le
  have Hf := Lib.hid hf
  clear hf
  go_enter Try.func51, Try.ntmps51
  go_wp2_with fail
  go_loopw [8] (fun t wr => ∃ k : Nat, k ≤ v.length ∧ t = .int .i64 k ∧ Hid (∀ j, j < k → P j = false) ∧ R wr) (fun t _ => v.length - (intOf t).toNat)
  case atStart => exact ⟨0, Nat.zero_le _, rfl, (fun j hj => absurd hj (Nat.not_lt_zero j)), hR⟩
  case round =>
    obtain ⟨k, hk, rfl, ht, hRr⟩ := hrel
    have hx := hI.out _ hRr
    by_cases hlt : k < v.length
    · obtain ⟨b, o, rfl, _, q, d, hc, hi⟩ := hx.get hlt
      have hk1 : (k : Int) < v.length := by omega
      go_wp2_with fail
      refine (Hf.out k q d _ hlt hRr hi).mono ?_
      rintro e w' ⟨rfl, hR'⟩
      cases hP : P k with
      | true =>
        have HP := Lib.hid hP
        clear hP
        go_wp2_with fail
        go_ret
        exact ⟨ret_int (firstN_of hlt HP.out ht.out).symm, hR'⟩
      | false =>
        have HP := Lib.hid hP
        clear hP
        go_wp2_with fail
        go_roundw
        case rel => exact ⟨k + 1, by omega, by go_num, snoc_all' ht.out HP.out, hR'⟩
        case measure => simp [intOf]; omega
    · have hk1 : ¬ (k : Int) < v.length := by omega
      go_wp2_with fail
      go_ret
      exact ⟨ret_int (firstN_none (fun j hj => ht.out j (by omega))).symm, hRr⟩
set_option maxHeartbeats 400000 in
theorem containsFuncU_any (K : Nat) (u : Value) (P : Nat → Bool) (R : World → Prop) (hcf : ∀ args W, (callFunc K args).run Try.prog W = .ok (.enter K args) W) (p : Option Addr) (c : Nat) (v : List (List Int)) (w : World) (hR : R w) (hI : Hid (∀ W, R W → Mat W p c v)) (hf : AsksU K u v P R) :
    Calls Try.prog 38 #[.slice p v.length c, .func (.func K) #[] #[u]] w fun e w' => e = .returned (.bool (anyN P v.length)) ∧ R w' := by
  have HA := Lib.hid (firstN_any P v.length)
  have Hf := Lib.hid hf
  clear hf
  go_enter Try.func38, Try.ntmps38
  go_wp2_with fail
  refine (indexFuncU_any K u P R hcf p c v w hR hI Hf.out).mono ?_
  rintro e w' ⟨rfl, hR'⟩
  go_wp2_with fail
  go_ret
  exact ⟨ret_bool HA.out, hR'⟩
end Go.Proofs.Ytcgaojnfgkfnkaa

/- Boxes: blocks whose first cells are known, below what comes later; no condition. -/
namespace Go.Proofs.Ytcgaojnfgkfnkaa
set_option linter.unusedVariables false
set_option linter.unusedSimpArgs false
open Go.ChangeShapes Go.WideShapes Go.ChangeAt Go.RowKit Go.Deep

/-- A block whose first cells are known. -/
structure BoxV (w : World) (S : Nat) (vs : List Value) : Prop where
  lt : S < w.heap.size
  cell : ∀ (k : Nat) (v : Value), vs[k]? = some v → w.cell? ⟨S, k, none⟩ = some v
theorem BoxV.below {w w' : World} {S : Nat} {vs : List Value} (h : BoxV w S vs) (hb : Below w.heap.size w w') : BoxV w' S vs :=
  ⟨Nat.lt_of_lt_of_le h.lt hb.size, fun k v hk => (hb.cell (p := ⟨S, k, none⟩) h.lt).trans (h.cell k v hk)⟩
theorem BoxV.new {w w' : World} {S : Nat} {vs : List Value} {t : TypeId} (hS : w.heap.size = S) (hw : w.alloc (.cells vs.toArray t) = w') : BoxV w' S vs := by
  subst hS hw
  exact ⟨by simp, fun k v hk => (World.cell?_alloc_at _ _ _ _ rfl).trans (by simpa using hk)⟩
theorem below_alloc {w w' : World} {o : Obj} (hw : w.alloc o = w') : Below w.heap.size w w' := by subst hw; exact (Below.refl _ _).alloc (Nat.le_refl _) _
end Go.Proofs.Ytcgaojnfgkfnkaa

/- The walks of rota.Check and of the reference's Check; no condition. -/
namespace Go.Proofs.Ytcgaojnfgkfnkaa
set_option linter.unusedVariables false
set_option linter.unusedSimpArgs false
open Go.ChangeShapes Go.WideShapes Go.ChangeAt Go.RowKit Go.Deep

/-- Too many; counts; what Check says. -/
def Many32 (v : List (List Int)) : Prop := 12 < v.length ∨ ∃ i, i < v.length ∧ 12 < (rget v i).length
def Good32 (v : List (List Int)) : Prop := 1 ≤ v.length ∧ ∀ i, i < v.length → (rget v i).length = v.length ∧ ∀ k, k < v.length → 0 ≤ iget (rget v i) k ∧ iget (rget v i) k ≤ 400
open Classical in
noncomputable def chk32 (v : List (List Int)) : Int := if Many32 v then 4 else if Good32 v then 0 else 8
theorem chk32_many {v : List (List Int)} (h : Many32 v) : chk32 v = 4 := if_pos h
theorem chk32_bad {v : List (List Int)} (h : ¬ Many32 v) (k : ¬ Good32 v) : chk32 v = 8 := by unfold chk32; rw [if_neg h, if_neg k]
theorem chk32_good {v : List (List Int)} (h : ¬ Many32 v) (k : Good32 v) : chk32 v = 0 := by unfold chk32; rw [if_neg h, if_pos k]
theorem chk32_zero {v : List (List Int)} (h : chk32 v = 0) : ¬ Many32 v ∧ Good32 v := by
  by_cases h1 : Many32 v
  · rw [chk32_many h1] at h; cases h
  · by_cases h2 : Good32 v
    · exact ⟨h1, h2⟩
    · rw [chk32_bad h1 h2] at h; cases h
theorem chk32_pos {v : List (List Int)} : chk32 v = 0 ∨ chk32 v = 4 ∨ chk32 v = 8 := by
  by_cases h1 : Many32 v
  · exact .inr (.inl (chk32_many h1))
  · by_cases h2 : Good32 v
    · exact .inl (chk32_good h1 h2)
    · exact .inr (.inr (chk32_bad h1 h2))
theorem Good32.counts {v : List (List Int)} (h : Good32 v) (h12 : ¬ Many32 v) : CountsP v := by
  have : ¬ 12 < v.length := fun h => h12 (.inl h)
  exact ⟨by omega, fun i hi => (h.2 i hi).1, fun i k hi hk => by have := (h.2 i hi).2 k hk; unfold bid; omega⟩

set_option maxHeartbeats 1600000 in
theorem refChk_any (p : Option Addr) (c : Nat) (v : List (List Int)) (w : World) (hx : Mat w p c v) :
    Calls Try.prog 12 #[.slice p v.length c] w fun e w' => e = .returned (.int .i64 (chk32 v)) ∧ w' = w := by
  have hl1 := hx.length_le
  by_cases h12 : 12 < v.length
  · have H := Lib.hid (chk32_many (v := v) (.inl h12))
    go_enter Try.func12, Try.ntmps12
    go_wp2
    go_ret
    exact ⟨ret_int H.out.symm, rfl⟩
  · go_enter Try.func12, Try.ntmps12
    go_wp2
    go_loop [3] (fun i => ∃ k : Nat, k ≤ v.length ∧ i = .int .i64 k ∧ Hid (∀ j, j < k → (rget v j).length ≤ 12)) (fun i => v.length - (intOf i).toNat)
    case atStart => exact ⟨0, by omega, rfl, fun j hj => by omega⟩
    case round =>
      obtain ⟨k, hk, rfl, ht⟩ := hrel
      by_cases hlt : k < v.length
      · obtain ⟨b, o, rfl, _, q, d, hc, hi⟩ := hx.get hlt
        have hk1 : (k : Int) < v.length := by omega
        by_cases hr : 12 < (rget v k).length
        · have hr1 : 12 < ((rget v k).length : Int) := by omega
          have H := Lib.hid (chk32_many (v := v) (.inr ⟨k, hlt, hr⟩))
          clear hr
          go_wp2
          go_ret
          exact ⟨ret_int H.out.symm, rfl⟩
        · have hr1 : ¬ 12 < ((rget v k).length : Int) := by omega
          go_wp2
          go_round
          case rel => exact ⟨k + 1, by omega, by go_num, snoc_all' ht.out (by omega)⟩
          case measure => simp [intOf]; omega
      · have hk1 : ¬ (k : Int) < v.length := by omega
        have hM : Hid (¬ Many32 v) := fun h => by
          rcases h with h | ⟨i, h1, h2⟩
          · exact h12 h
          · have := ht.out i (by omega); omega
        clear ht
        by_cases h0 : v.length = 0
        · have hb0 : ((v.length : Int) == 0) = true := by rw [beq_iff_eq]; omega
          have H := Lib.hid (chk32_bad (v := v) hM.out (fun h => by have := h.1; omega))
          clear h0
          go_wp2
          go_ret
          exact ⟨ret_int H.out.symm, rfl⟩
        · have hb0 : ((v.length : Int) == 0) = false := by rw [beq_eq_false_iff_ne]; omega
          go_wp2
          go_loop [4] (fun i => ∃ k : Nat, k ≤ v.length ∧ i = .int .i64 k ∧ Hid (∀ i, i < k → (rget v i).length = v.length ∧ ∀ j, j < v.length → 0 ≤ iget (rget v i) j ∧ iget (rget v i) j ≤ 400)) (fun i => v.length - (intOf i).toNat)
          case atStart => exact ⟨0, by omega, rfl, fun j hj => by omega⟩
          case round =>
            obtain ⟨k, hk, rfl, ht⟩ := hrel
            by_cases hlt : k < v.length
            · obtain ⟨b, o, rfl, _, q, d, hc, hi⟩ := hx.get hlt
              have hk1 : (k : Int) < v.length := by omega
              by_cases hrl : (rget v k).length = v.length
              · have hrb : (((rget v k).length : Int) != v.length) = false := by simp [hrl]
                have Hrl := Lib.hid hrl
                clear hrl
                go_wp2
                go_loop [5] (fun i => ∃ j : Nat, j ≤ v.length ∧ i = .int .i64 j ∧ Hid (∀ i, i < j → 0 ≤ iget (rget v k) i ∧ iget (rget v k) i ≤ 400)) (fun i => v.length - (intOf i).toNat)
                case atStart => exact ⟨0, by omega, rfl, fun j hj => by omega⟩
                case round =>
                  obtain ⟨j, hj, rfl, htj⟩ := hrel
                  by_cases hlt2 : j < v.length
                  · have hlt3 : j < (rget v k).length := by rw [Hrl.out]; exact hlt2
                    obtain ⟨b', o', rfl, _, hc'⟩ := hi.get hlt3
                    have hk2 : (j : Int) < v.length := by omega
                    have hk3 : (j : Int) < (rget v k).length := by omega
                    by_cases hlow : iget (rget v k) j < 0
                    · have hdl : decide (iget (rget v k) j < 0) = true := by simpa using hlow
                      have H := Lib.hid (chk32_bad (v := v) hM.out fun hB => by
                        have := ((hB.2 k hlt).2 j hlt2).1
                        omega)
                      go_wp2
                      go_ret
                      exact ⟨ret_int H.out.symm, rfl⟩
                    · have hdl : decide (iget (rget v k) j < 0) = false := by simpa using hlow
                      by_cases hgt : 400 < iget (rget v k) j
                      · have H := Lib.hid (chk32_bad (v := v) hM.out fun hB => by
                          have := ((hB.2 k hlt).2 j hlt2).2
                          omega)
                        go_wp2
                        go_ret
                        exact ⟨ret_int H.out.symm, rfl⟩
                      · go_wp2
                        go_round
                        case rel => exact ⟨j + 1, by omega, by go_num, snoc_all' htj.out ⟨by omega, by omega⟩⟩
                        case measure => simp [intOf]; omega
                  · have hk2 : ¬ (j : Int) < v.length := by omega
                    go_wp2
                    go_round
                    case rel => exact ⟨k + 1, by omega, by go_num, snoc_all' ht.out ⟨Hrl.out, fun i hi => htj.out i (by omega)⟩⟩
                    case measure => simp [intOf]; omega
              · have hrb : (((rget v k).length : Int) != v.length) = true := by simp; omega
                have H := Lib.hid (chk32_bad (v := v) hM.out fun hB => hrl (hB.2 k hlt).1)
                clear hrl
                go_wp2
                go_ret
                exact ⟨ret_int H.out.symm, rfl⟩
            · have hk1 : ¬ (k : Int) < v.length := by omega
              have H := Lib.hid (chk32_good (v := v) hM.out ⟨by omega, fun i hi => ht.out i (by omega)⟩)
              go_wp2
              go_ret
              exact ⟨ret_int H.out.symm, rfl⟩

theorem enter_chk1 (args : Array Value) (W : World) : (callFunc 39 args).run Try.prog W = .ok (.enter 39 args) W := rfl
theorem enter_chk2 (args : Array Value) (W : World) : (callFunc 40 args).run Try.prog W = .ok (.enter 40 args) W := rfl
set_option maxHeartbeats 400000 in
theorem chk1_any (r : List Int) (q : Option Addr) (d : Nat) (W : World) :
    Calls Try.prog 39 #[.slice q r.length d] W fun e w' => e = .returned (.bool (decide ((12 : Int) < (r.length : Int)))) ∧ w' = W := by
  go_enter Try.func39, Try.ntmps39
  go_wp2_with fail
  go_ret
  exact ⟨rfl, rfl⟩
open Classical in
/-- A row that is none. -/
noncomputable def wrongB (n : Nat) (r : List Int) : Bool := decide (¬ (r.length = n ∧ ∀ k, k < n → 0 ≤ iget r k ∧ iget r k ≤ 400))
theorem wrongB_true {n : Nat} {r : List Int} (h : ¬ (r.length = n ∧ ∀ k, k < n → 0 ≤ iget r k ∧ iget r k ≤ 400)) : wrongB n r = true := by unfold wrongB; exact decide_eq_true h
theorem wrongB_false {n : Nat} {r : List Int} : wrongB n r = false ↔ (r.length = n ∧ ∀ k, k < n → 0 ≤ iget r k ∧ iget r k ≤ 400) := by
  unfold wrongB; rw [decide_eq_false_iff_not, Classical.not_not]
set_option maxHeartbeats 1600000 in
theorem chk2_any (B : Nat) (p : Option Addr) (c n : Nat) (r : List Int) (q : Option Addr) (d : Nat) (W : World) (hc : W.cell? ⟨B, 0, none⟩ = some (.slice p n c)) (hr : Ints W q d r) (h0 : 0 < n) (hn : n ≤ 1000) :
    Calls Try.prog 40 #[.slice q r.length d, .pointer (some ⟨B, 0, none⟩)] W fun e w' => e = .returned (.bool (wrongB n r)) ∧ w' = W := by
  have hl1 := hr.length_le
  by_cases hl : r.length = n
  · have hb : ((r.length : Int) != n) = false := by simp [hl]
    have Hl := Lib.hid hl
    have h0r : 0 < r.length := by omega
    have CMin := Lib.hid (sMin_any q d r W hr h0r)
    have CMax := Lib.hid (sMax_any q d r W hr h0r)
    have hlo := lowTo_le r r.length
    obtain ⟨j1, hj1, ej1⟩ := lowTo_mem r r.length h0r
    have hhi := highTo_ge r r.length
    obtain ⟨j2, hj2, ej2⟩ := highTo_mem r r.length h0r
    obtain ⟨x, ex⟩ : ∃ x, lowTo r r.length = x := ⟨_, rfl⟩
    obtain ⟨y, ey⟩ : ∃ y, highTo r r.length = y := ⟨_, rfl⟩
    rw [ex] at CMin hlo ej1
    rw [ey] at CMax hhi ej2
    by_cases hx : x < 0
    · have hd : decide (x < 0) = true := by simpa using hx
      have HW : Hid (wrongB n r = true) := wrongB_true fun h => by have := (h.2 j1 (by omega)).1; omega
      clear hl hlo ej1 hhi ej2 ex ey hx
      go_enter Try.func40, Try.ntmps40
      go_wp2_with fail
      refine CMin.out.mono ?_
      rintro e w' ⟨rfl, rfl⟩
      go_wp2_with fail
      go_ret
      exact ⟨ret_bool HW.out.symm, rfl⟩
    · have hd : decide (x < 0) = false := by simpa using hx
      have HW : Hid (wrongB n r = decide (400 < y)) := by
        unfold Hid
        by_cases hy : 400 < y
        · rw [wrongB_true fun h => by have := (h.2 j2 (by omega)).2; omega, decide_eq_true hy]
        · rw [decide_eq_false hy, wrongB_false]
          exact ⟨hl, fun k hk => ⟨by have := hlo k (by omega); omega, by have := hhi k (by omega); omega⟩⟩
      clear hl hlo ej1 hhi ej2 ex ey hx
      go_enter Try.func40, Try.ntmps40
      go_wp2_with fail
      refine CMin.out.mono ?_
      rintro e w' ⟨rfl, rfl⟩
      go_wp2_with fail
      refine CMax.out.mono ?_
      rintro e w' ⟨rfl, rfl⟩
      go_wp2_with fail
      go_ret
      exact ⟨ret_bool HW.out.symm, rfl⟩
  · have hb : ((r.length : Int) != n) = true := by simp; omega
    have HW : Hid (wrongB n r = true) := wrongB_true fun h => hl h.1
    clear hl
    go_enter Try.func40, Try.ntmps40
    go_wp2_with fail
    go_ret
    exact ⟨ret_bool HW.out.symm, rfl⟩
set_option maxHeartbeats 1600000 in
theorem check_any (p : Option Addr) (c : Nat) (v : List (List Int)) (w : World) (hx : Mat w p c v) :
    Calls Try.prog 22 #[.slice p v.length c] w fun e w' => e = .returned (.int .i64 (chk32 v)) ∧ Below w.heap.size w w' := by
  obtain ⟨W0, hW0⟩ : ∃ W0, w.alloc (.cells #[.slice p v.length c] 22) = W0 := ⟨_, rfl⟩
  have hB : Below w.heap.size w W0 := below_alloc hW0
  have x0 : W0.cell? ⟨w.heap.size, 0, none⟩ = some (.slice p v.length c) := by rw [← hW0, World.cell?_alloc_at _ _ _ _ rfl]; rfl
  have hx := hx.below hB (Nat.le_refl _)
  have hl1 := hx.length_le
  have hmf : ∀ (fn : Fn) (first cap : Array Value) (w : World), (Instr.makeFunc fn first cap).run Try.prog w = .ok (.func fn first cap) w := fun _ _ _ _ => rfl
  by_cases h12 : 12 < v.length
  · have hd : decide (12 < (v.length : Int)) = true := by simp; omega
    have H := Lib.hid (chk32_many (v := v) (.inl h12))
    go_enter Try.func22, Try.ntmps22
    go_wp2_with fail
    go_ret
    exact ⟨ret_int H.out.symm, hB⟩
  · have hd : decide (12 < (v.length : Int)) = false := by simp; omega
    have C1 := Lib.hid (containsFuncR_any 39 (fun j => decide ((12 : Int) < ((rget v j).length : Int))) (fun W => W = W0) enter_chk1 p c v W0 rfl (fun W hW => by rw [hW]; exact hx) (fun j q d W hj hW hi => (chk1_any _ _ _ _).mono fun e w' h => ⟨h.1, h.2.trans hW⟩))
    go_enter Try.func22, Try.ntmps22
    go_wp2_with fail
    refine C1.out.mono ?_
    rintro e w' ⟨rfl, rfl⟩
    cases hany : anyN (fun j => decide ((12 : Int) < ((rget v j).length : Int))) v.length with
    | true =>
      have H := Lib.hid (chk32_many (v := v) (.inr (by
        obtain ⟨j, hj, hp⟩ := anyN_true.1 hany
        simp at hp
        exact ⟨j, hj, by omega⟩)))
      clear hany
      go_wp2_with fail
      go_ret
      exact ⟨ret_int H.out.symm, hB⟩
    | false =>
      have hM : Hid (¬ Many32 v) := fun h => by
        rcases h with h | ⟨i, h1, h2⟩
        · exact h12 h
        · have := anyN_false.1 hany i h1
          simp at this; omega
      clear hany
      by_cases h0 : v.length = 0
      · have hb0 : ((v.length : Int) == 0) = true := by rw [beq_iff_eq]; omega
        have H := Lib.hid (chk32_bad (v := v) hM.out (fun h => by have := h.1; omega))
        clear h0
        go_wp2_with fail
        go_ret
        exact ⟨ret_int H.out.symm, hB⟩
      · have hb0 : ((v.length : Int) == 0) = false := by rw [beq_eq_false_iff_ne]; omega
        have C2 := Lib.hid (containsFuncU_any 40 (.pointer (some ⟨w.heap.size, 0, none⟩)) (fun j => wrongB v.length (rget v j)) (fun W => W = w') enter_chk2 p c v w' rfl (fun W hW => by rw [hW]; exact hx) (fun j q d W hj hW hi => (chk2_any w.heap.size p c v.length _ _ _ _ (by rw [hW]; exact x0) hi (by omega) (by omega)).mono fun e w' h => ⟨h.1, h.2.trans hW⟩))
        go_wp2_with fail
        refine C2.out.mono ?_
        rintro e w2 ⟨rfl, rfl⟩
        cases hany : anyN (fun j => wrongB v.length (rget v j)) v.length with
        | true =>
          have H := Lib.hid (chk32_bad (v := v) hM.out (fun h => by
            obtain ⟨j, hj, hp⟩ := anyN_true.1 hany
            have h2 := wrongB_false.2 (h.2 j hj)
            rw [h2] at hp; cases hp))
          clear hany
          go_wp2_with fail
          go_ret
          exact ⟨ret_int H.out.symm, hB⟩
        | false =>
          have H := Lib.hid (chk32_good (v := v) hM.out ⟨by omega, fun i hi => wrongB_false.1 (anyN_false.1 hany i hi)⟩)
          clear hany
          go_wp2_with fail
          go_ret
          exact ⟨ret_int H.out.symm, hB⟩
end Go.Proofs.Ytcgaojnfgkfnkaa

/- Matrices of the call's own, beside others: what stays, and a store into one number; no condition. -/
namespace Go.Proofs.Ytcgaojnfgkfnkaa
open Go.ChangeShapes Go.WideShapes Go.ChangeAt Go.RowKit Go.Deep
set_option linter.unusedVariables false
set_option linter.unusedSimpArgs false

theorem ownsRow_move {w w' : World} {base e n : Nat} {v : Value} {xs : List Value} (h : w.ownsRow base e 1 v n xs) (hk : ∀ k, v.ownBlock = some k → w'.heap[k]? = w.heap[k]?) : w'.ownsRow base e 1 v n xs := by
  refine ⟨h.1, ?_⟩
  rcases h.2 with h1 | ⟨g, cap, cur, rfl, h3, h5, r⟩
  · exact .inl h1
  · exact .inr ⟨g, cap, cur, rfl, h3, (hk g rfl).trans h5, r⟩
theorem Own.move {w w' : World} {base : Nat} {p : Option Addr} {c : Nat} {xs : List Int} (h : Own w base p c xs) (hk : ∀ k, blk p = some k → w'.heap[k]? = w.heap[k]?) : Own w' base p c xs :=
  ⟨ownsRow_move h.row (by rw [ownBlock_slice]; exact hk), h.rng⟩
/-- All its blocks lie below B. -/
def Within (B : Nat) (p : Option Addr) (n : Nat) (Q : Nat → Option Addr) : Prop := (∀ k, blk p = some k → k < B) ∧ ∀ j, j < n → ∀ k, blk (Q j) = some k → k < B
theorem DMat.within {w : World} {base : Nat} {p : Option Addr} {c : Nat} {v : List (List Int)} {Q : Nat → Option Addr} {D : Nat → Nat} (h : DMat w base p c v Q D) : Within w.heap.size p v.length Q :=
  ⟨fun k hk => (h.tmat.lt k hk).2, fun j hj k hk => ((h.rows j hj).lt k hk).2⟩
theorem DMat.move {w w' : World} {base : Nat} {p : Option Addr} {c : Nat} {v : List (List Int)} {Q : Nat → Option Addr} {D : Nat → Nat} (h : DMat w base p c v Q D)
    (h1 : ∀ k, blk p = some k → w'.heap[k]? = w.heap[k]?) (h2 : ∀ j, j < v.length → ∀ k, blk (Q j) = some k → w'.heap[k]? = w.heap[k]?) : DMat w' base p c v Q D :=
  ⟨ownsRow_move h.top (by rw [ownBlock_slice]; exact h1), fun j hj => (h.rows j hj).move (h2 j hj), h.apart⟩
theorem DMat.belowW {w w' : World} {base B : Nat} {p : Option Addr} {c : Nat} {v : List (List Int)} {Q : Nat → Option Addr} {D : Nat → Nat} (h : DMat w base p c v Q D) (hw : Within B p v.length Q) (hb : Below B w w') : DMat w' base p c v Q D :=
  h.move (fun k hk => hb.block k (hw.1 k hk)) (fun j hj k hk => hb.block k (hw.2 j hj k hk))
/-- All its blocks lie from base on: what turns only blocks below base leaves it. -/
theorem DMat.above {w w' : World} {base : Nat} {p : Option Addr} {c : Nat} {v : List (List Int)} {Q : Nat → Option Addr} {D : Nat → Nat} (h : DMat w base p c v Q D) (hk : ∀ k, base ≤ k → w'.heap[k]? = w.heap[k]?) : DMat w' base p c v Q D :=
  h.move (fun k e => hk k (h.tmat.lt k e).1) (fun j hj k e => hk k ((h.rows j hj).lt k e).1)
theorem DMat.setElem {w : World} {base g gt ct : Nat} {v : List (List Int)} {Q : Nat → Option Addr} {D : Nat → Nat} (h : DMat w base (some ⟨gt, 0, none⟩) ct v Q D) {i t : Nat} (hi : i < v.length) (hQ : Q i = some ⟨g, 0, none⟩) {x : Int} (hx : in64 x) :
    DMat (w.setCell ⟨g, t, none⟩ (.int .i64 x)) base (some ⟨gt, 0, none⟩) ct (v.set i ((rget v i).set t x)) Q D := by
  have hr := h.rows i hi
  rw [hQ] at hr
  obtain ⟨h1, h2⟩ := hr.set t hx
  have hgt : gt ≠ g := fun e => by
    have := top_not_row h.top (h.rows i hi)
    rw [hQ] at this
    exact this (by simp [blk, e])
  refine ⟨?_, fun j hj => ?_, fun a b ha hb hne k hk => h.apart a b (by simpa using ha) (by simpa using hb) hne k hk⟩
  · have he : rowsV Q D (v.set i ((rget v i).set t x)) = rowsV Q D v := by
      unfold rowsV
      rw [List.length_set]
      refine List.map_congr_left fun j hj => ?_
      rw [rget_set hi]
      by_cases e : i = j
      · subst e; simp
      · rw [if_neg e]
    rw [he, List.length_set]
    refine ownsRow_move h.top fun k hk => ?_
    rw [ownBlock_slice] at hk
    simp [blk] at hk
    subst hk
    exact Below.heap_setCell w ⟨g, t, none⟩ _ gt (fun e => hgt e)
  · rw [List.length_set] at hj
    rw [rget_set hi]
    by_cases e : i = j
    · subst e
      rw [if_pos rfl, hQ]; exact h1
    · rw [if_neg e]
      refine (h.rows j hj).move fun k hk => ?_
      refine Below.heap_setCell w ⟨g, t, none⟩ _ k (fun ek => ?_)
      simp only at ek
      subst ek
      exact h.apart j i hj hi (fun e2 => e e2.symm) k hk (by rw [hQ]; rfl)
end Go.Proofs.Ytcgaojnfgkfnkaa

/- 'make([][]int, n)', and a row laid into it; no condition but sizes. -/
namespace Go.Proofs.Ytcgaojnfgkfnkaa
open Go.ChangeShapes Go.WideShapes Go.ChangeAt Go.RowKit Go.Deep
set_option linter.unusedVariables false
set_option linter.unusedSimpArgs false
def nilRows (n : Nat) : Array Value := (List.replicate n (Value.slice none 0 0)).toArray
theorem run_mkMk (n : Nat) (hn : n ≤ 100000) (W : World) : (Instr.makeSlice 22 (.int .i64 (n : Int)) (.int .i64 (n : Int))).run Try.prog W = .ok (.slice (some ⟨W.heap.size, 0, none⟩) n n) (W.alloc (.cells (nilRows n) 23)) := by
  obtain ⟨i, hi, hz0, hz1, hz2⟩ := info_parts infoRow
  have hrun := run_make (P := Try.prog) W 22 23 i (.slice none 0 0) Try.underlying22 hi hz0 .i64 .i64 (n : Int) (n : Int) (by omega) (by omega) (by rw [hz2]; omega) (by omega)
  rw [hz1] at hrun
  simp only [Int.toNat_natCast] at hrun
  have hcs : madeCells (Value.slice none 0 0).cells (n * 1) = nilRows n := by
    unfold nilRows
    apply Array.toList_inj.1
    rw [Nat.mul_one]
    exact (toList_madeCells_one _ _).trans (by simp)
  rw [hcs] at hrun
  exact hrun
theorem dmat_made (w : World) (n base : Nat) (hb : base ≤ w.heap.size) (hn : n ≤ 100000) : DMat (w.alloc (.cells (nilRows n) 23)) base (some ⟨w.heap.size, 0, none⟩) n (List.replicate n []) (fun _ => none) (fun _ => 0) := by
  have hr : ∀ j, j < n → rget (List.replicate n []) j = [] := fun j hj => by simp [rget, hj]
  refine ⟨?_, fun j hj => ?_, fun i j _ _ _ k hk => by simp [blk] at hk⟩
  · have := World.ownsRow_lit (e := 23) (size := 1) (base := base) w (nilRows n) n hb (by simp [maxLen]; omega) (by simp [nilRows])
    have e : rowsV (fun _ => none) (fun _ => 0) (List.replicate n []) = (nilRows n).toList := by
      unfold rowsV nilRows
      apply List.ext_getElem
      · simp
      · intro i h1 h2
        simp at h1
        simp [hr i h1]
    rw [e]
    simpa using this
  · simp at hj
    rw [hr j hj]
    exact Own.ofNil _ _
theorem DMat.setRow {w : World} {base g c : Nat} {v : List (List Int)} {Q : Nat → Option Addr} {D : Nat → Nat} (h : DMat w base (some ⟨g, 0, none⟩) c v Q D) {i : Nat} (hi : i < v.length) {q : Option Addr} {d : Nat} {r : List Int} (hr : Own w base q d r)
    (hnew : ∀ j, j < v.length → ∀ k, blk (Q j) = some k → blk q ≠ some k) :
    DMat (w.setCell ⟨g, i, none⟩ (.slice q r.length d)) base (some ⟨g, 0, none⟩) c (v.set i r) (fun j => if j = i then q else Q j) (fun j => if j = i then d else D j) := by
  obtain ⟨h1, h2⟩ := h.top.stored i (.slice q r.length d)
  refine ⟨by rw [List.length_set, rowsV_set hi]; exact h1, fun j hj => ?_, fun a b ha hb hne k hk => ?_⟩
  · rw [List.length_set] at hj
    rw [rget_set hi]
    by_cases e : j = i
    · subst e; simp only [if_true]
      exact hr.keptBy h2 (fun k hk e => top_not_row h.top hr (by rw [hk]; exact e.symm))
    · simp only [if_neg e, if_neg (fun h : i = j => e h.symm)]
      exact (h.rows j hj).keptBy h2 (fun k hk e => top_not_row h.top (h.rows j hj) (by rw [hk]; exact e.symm))
  · rw [List.length_set] at ha hb
    by_cases ea : a = i
    · by_cases eb : b = i
      · exact absurd (ea.trans eb.symm) hne
      · simp only [ea, eb, if_true, if_false] at hk ⊢
        exact fun e => hnew b hb k e hk
    · by_cases eb : b = i
      · simp only [ea, eb, if_true, if_false] at hk ⊢
        exact hnew a ha k hk
      · simp only [ea, eb, if_false] at hk ⊢
        exact h.apart a b ha hb hne k hk
end Go.Proofs.Ytcgaojnfgkfnkaa
