/- The walks of the reference's functions Assigned, Worth, Priced, Content; Worth and Content where every index is in range. -/
import Derived.Test.YtiohehofnlmenaaRefA
namespace Go.Proofs.Ytiohehofnlmenaa
set_option linter.unusedVariables false
set_option linter.unusedSimpArgs false
open Go.ChangeShapes Go.WideShapes Go.ChangeAt Go.RowKit Go.Deep

theorem isAB_false {a : List Int} {n : Nat} (h : ¬ IsA a n) : isAB a n = false := by simp [isAB, h]
theorem isAB_true {a : List Int} {n : Nat} (h : IsA a n) : isAB a n = true := by simp [isAB, h]

set_option maxHeartbeats 400000 in
theorem assigned_any (p : Option Addr) (c : Nat) (a : List Int) (n : Nat) (w : World) (hn : n ≤ 9223372036854775807) (hx : Ints w p c a) :
    Calls Try.prog 37 #[.slice p a.length c, .int .i64 n] w fun e w' => e = .returned (.bool (isAB a n)) ∧ w' = w := by
  have hl1 := hx.length_le
  by_cases hl : a.length = n
  · have hb : ((a.length : Int) != n) = false := by simp [hl]
    have hle : n ≤ a.length := by omega
    have Hl := Lib.hid hl
    clear hl
    go_enter Try.func37, Try.ntmps37
    go_wp2
    go_loop [5] (fun i => ∃ k : Nat, k ≤ n ∧ i = .int .i64 k ∧ Hid (∀ j, j < k → a.count (j : Int) = 1)) (fun i => n - (intOf i).toNat)
    case atStart => exact ⟨0, by omega, rfl, fun j hj => by omega⟩
    case round =>
      obtain ⟨k, hk, rfl, ht⟩ := hrel
      by_cases hlt : k < n
      · have hk1 : (k : Int) < n := by omega
        go_wp2
        go_loop [6, 7] (fun t i => ∃ m : Nat, m ≤ n ∧ i = .int .i64 m ∧ t = .int .i64 ((a.take m).count (k : Int) : Nat)) (fun _ i => n - (intOf i).toNat)
        case atStart => exact ⟨0, by omega, rfl, rfl⟩
        case round =>
          obtain ⟨m, hm, rfl, rfl⟩ := hrel
          have hcb : (a.take m).count (k : Int) ≤ m := Nat.le_trans List.count_le_length (by rw [List.length_take]; omega)
          by_cases hlt2 : m < n
          · have hlt3 : m < a.length := by omega
            obtain ⟨b, o, rfl, _, hc⟩ := hx.get hlt3
            have hk2 : (m : Int) < n := by omega
            have hk3 : (m : Int) < a.length := by omega
            have Hs := Lib.hid (count_take_succ a m (k : Int) hlt3)
            generalize (a.take m).count (k : Int) = cm at *
            go_wp2
            · have he : (iget a m == (k : Int)) = true := by assumption
              go_round
              case rel => exact ⟨m + 1, by omega, by go_num, by rw [Hs.out, if_pos (by simpa using he)]; go_num⟩
              case measure => simp [intOf]; omega
            · have he : (iget a m == (k : Int)) = false := by assumption
              go_round
              case rel => exact ⟨m + 1, by omega, by go_num, by rw [Hs.out, if_neg (by simpa using he)]; go_num⟩
              case measure => simp [intOf]; omega
          · have hk2 : ¬ (m : Int) < n := by omega
            have Hc : Hid ((a.take m).count (k : Int) = a.count (k : Int)) := by
              have : a.take m = a := List.take_of_length_le (by have := Hl.out; omega)
              rw [this]; rfl
            generalize (a.take m).count (k : Int) = cm at *
            go_wp2
            · have he : ((cm : Int) != 1) = true := by assumption
              go_ret
              refine ⟨ret_bool (isAB_false fun hA => ?_).symm, rfl⟩
              have := hA.2 k hlt
              rw [Hc.out] at he
              simp [this] at he
            · have he : ((cm : Int) != 1) = false := by assumption
              go_round
              case rel => exact ⟨k + 1, by omega, by go_num, snoc_all ht.out (by rw [← Hc.out]; simp at he; omega)⟩
              case measure => simp [intOf]; omega
      · have hk1 : ¬ (k : Int) < n := by omega
        go_wp2
        go_ret
        exact ⟨ret_bool (isAB_true ⟨Hl.out, fun j hj => ht.out j (by omega)⟩).symm, rfl⟩
  · have hb : ((a.length : Int) != n) = true := by rw [bne_iff_ne]; omega
    have Hl := Lib.hid hl
    clear hl
    go_enter Try.func37, Try.ntmps37
    go_wp2
    go_ret
    exact ⟨ret_bool (isAB_false fun hA => Hl.out hA.1).symm, rfl⟩

/-- Each agent's item is one of the row's, and bids are small: what the walks of Worth ask. -/
structure Fits (v : List (List Int)) (a : List Int) : Prop where
  len : a.length ≤ 6
  rows : a.length ≤ v.length
  item : ∀ i, i < a.length → 0 ≤ iget a i ∧ itm a i < (rget v i).length
  val : ∀ i, i < a.length → 0 ≤ bid v i (itm a i) ∧ bid v i (itm a i) ≤ 1000000

theorem pricedB_false {a : List Int} {n : Nat} (h : ¬ PricedP a n) : pricedB a n = false := by simp [pricedB, h]

/-- What the walks of Content ask: all indices in range, small numbers. -/
structure Fits2 (v : List (List Int)) (a p : List Int) : Prop where
  rows : ∀ i, i < v.length → (rget v i).length = v.length
  alen : a.length = v.length
  plen : p.length = v.length
  item : ∀ i, i < v.length → 0 ≤ iget a i ∧ itm a i < v.length
  val : ∀ i, i < v.length → ∀ j, j < v.length → 0 ≤ bid v i j ∧ bid v i j ≤ 1000000
  price : ∀ j, j < v.length → 0 ≤ iget p j ∧ iget p j ≤ 10000000

theorem contentB_false {v : List (List Int)} {a p : List Int} (h : ¬ ContentP v a p) : contentB v a p = false := by simp [contentB, h]

end Go.Proofs.Ytiohehofnlmenaa
