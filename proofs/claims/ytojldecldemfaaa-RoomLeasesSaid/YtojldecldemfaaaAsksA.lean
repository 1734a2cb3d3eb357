/- The walks of assignment, value, Value (the program's and the reference's); no condition but the list's size. -/
import Derived.Test.YtojldecldemfaaaSortP
import Derived.Test.YtojldecldemfaaaAssignA
import Derived.Test.YtojldecldemfaaaRefC
namespace Go.Proofs.Ytojldecldemfaaa
set_option linter.unusedSimpArgs false
open Go.ChangeShapes Go.WideShapes Go.ChangeAt Go.RowKit Go.Deep
set_option linter.unusedVariables false

theorem isAB_asg_true {a : List Int} {n : Nat} (h : ∀ j, j < (srt a).length → iget (srt a) j = j) (hn : (srt a).length = n) : isAB a n = true := isAB_true ((asgP_iff a n).1 ⟨h, hn⟩)
theorem isAB_asg_false {a : List Int} {n : Nat} (h : ¬ AsgP a n) : isAB a n = false := isAB_false fun hA => h ((asgP_iff a n).2 hA)

theorem cell_new_one (w : World) (v : Value) (t : TypeId) : (w.alloc (.cells #[v] t)).cell? ⟨w.heap.size, 0, none⟩ = some v := by
  have h := World.alloc_heap_new w (.cells #[v] t (0, 0))
  simp only [World.cell?]
  rw [h]
  rfl

set_option maxHeartbeats 800000 in
theorem assignment_any (p : Option Addr) (c : Nat) (a : List Int) (n : Nat) (w : World) (hn : n ≤ 9223372036854775807) (hx : Ints w p c a) (hl : a.length ≤ 1000000) :
    Calls Try.prog 71 #[.slice p a.length c, .int .i64 n] w fun e w' => e = .returned (.bool (isAB a n)) ∧ Below w.heap.size w w' := by
  go_enter Try.func71, Try.ntmps71
  go_wp2_with fail
  refine (values_any p a.length c w).mono ?_
  rintro e w1 ⟨rfl, hw1⟩
  have hB1 : Below w.heap.size w w1 := by rw [hw1]; exact (Below.refl _ w).alloc (Nat.le_refl _) _
  have hs1 : w1.heap.size = w.heap.size + 1 := by rw [hw1]; simp
  have hc1 : w1.cell? ⟨w.heap.size, 0, none⟩ = some (.slice p a.length c) := by rw [hw1]; exact cell_new_one w _ _
  have hx1 := hx.below hB1 (Nat.le_refl _)
  clear hw1
  go_wp2_with fail
  refine (sorted_any w.heap.size p c a hl w1 (by omega) hc1 hx1).mono ?_
  rintro e w2 ⟨q, d, rfl, ho, hb⟩
  have hb2 := hB1.trans (hb.mono (by omega))
  have hI := ho.ints
  have hll := hI.length_le
  clear ho hb hx1 hc1 hs1 hB1
  go_wp2_with fail
  go_loop [13] (fun i => ∃ k : Nat, k ≤ (srt a).length ∧ i = .int .i64 k ∧ Hid (∀ j, j < k → iget (srt a) j = j)) (fun i => (srt a).length - (intOf i).toNat)
  case atStart => exact ⟨0, by omega, rfl, fun j hj => by omega⟩
  case round =>
    obtain ⟨k, hk, rfl, ht⟩ := hrel
    by_cases hlt : k < (srt a).length
    · have hk1 : (k : Int) < (srt a).length := by omega
      obtain ⟨b, o, rfl, _, hc⟩ := hI.get hlt
      by_cases he : iget (srt a) k = k
      · have hb : (iget (srt a) k != (k : Int)) = false := by simp [he]
        have He := Lib.hid he
        clear he
        go_wp2_with fail
        go_round
        case rel => exact ⟨k + 1, by omega, by go_num, snoc_all' ht.out He.out⟩
        case measure => simp [intOf]; omega
      · have hb : (iget (srt a) k != (k : Int)) = true := by rw [bne_iff_ne]; exact he
        have He := Lib.hid he
        clear he
        go_wp2_with fail
        go_ret
        exact ⟨ret_bool (isAB_asg_false fun hA => He.out (hA.1 k hlt)).symm, hb2⟩
    · have hk1 : ¬ (k : Int) < (srt a).length := by omega
      go_wp2_with fail
      go_ret
      refine ⟨ret_bool ?_, hb2⟩
      by_cases hn2 : (srt a).length = n
      · rw [isAB_asg_true (fun j hj => ht.out j (by omega)) hn2, hn2]; simp
      · rw [isAB_asg_false (fun hA => hn2 hA.2), beq_eq_false_iff_ne]; omega

set_option maxHeartbeats 400000 in
theorem value_any (p q : Option Addr) (c d : Nat) (v : List (List Int)) (a : List Int) (w : World) (hx : Mat w p c v) (hy : Ints w q d a) (hf : Fits v a) :
    Calls Try.prog 72 #[.slice p v.length c, .slice q a.length d] w fun e w' => e = .returned (.int .i64 (worthI v a)) ∧ w' = w := by
  have hl1 := hx.length_le
  have hl6 := hf.len
  go_enter Try.func72, Try.ntmps72
  go_wp2_with fail
  go_loop [5, 10] (fun s i => ∃ k : Nat, k ≤ a.length ∧ i = .int .i64 k ∧ s = .int .i64 (sumTo (fun i => bid v i (itm a i)) k)) (fun _ i => a.length - (intOf i).toNat)
  case atStart => exact ⟨0, by omega, rfl, rfl⟩
  case round =>
    obtain ⟨k, hk, rfl, rfl⟩ := hrel
    have hs := sumTo_bound hf.val k hk
    by_cases hlt : k < a.length
    · obtain ⟨b, o, rfl, _, hc⟩ := hy.get hlt
      have hr := hf.rows
      have hlt2 : k < v.length := by omega
      obtain ⟨b2, o2, rfl, _, q1, d1, hc2, hi⟩ := hx.get hlt2
      obtain ⟨i1, i2⟩ := hf.item k hlt
      obtain ⟨v1, v2⟩ := hf.val k hlt
      obtain ⟨b3, o3, rfl, _, hc3⟩ := hi.get i2
      have hk1 : (k : Int) < a.length := by omega
      have hk2 : (k : Int) < v.length := by omega
      obtain ⟨x, hxx⟩ : ∃ x : Nat, iget a k = (x : Int) := ⟨(iget a k).toNat, by omega⟩
      have hit : itm a k = x := by simp [itm, hxx]
      rw [hit] at hc3 i2 v1 v2
      rw [hxx] at hc
      have hk3 : (x : Int) < (rget v k).length := by omega
      have Hs : Hid (sumTo (fun i => bid v i (itm a i)) (k + 1) = sumTo (fun i => bid v i (itm a i)) k + iget (rget v k) x) := by simp only [sumTo, hit]; rfl
      generalize sumTo (fun i => bid v i (itm a i)) k = s at *
      clear hxx hit i1
      have v1' : 0 ≤ iget (rget v k) x := v1
      have v2' : iget (rget v k) x ≤ 1000000 := v2
      have hs2 : s ≤ 6000000 := by omega
      have hs1 := hs.1
      clear hs
      go_wp2_with fail
      go_round
      case rel => exact ⟨k + 1, by omega, by go_num, by rw [Hs.out]⟩
      case measure => simp [intOf]; omega
    · have hk1 : ¬ (k : Int) < a.length := by omega
      obtain rfl : k = a.length := by omega
      go_wp2_with fail
      go_ret
      exact ⟨rfl, rfl⟩

/-- What Value answers. -/
def valN (v : List (List Int)) (a : List Int) : Int := if Bids v ∧ IsA a v.length then worthI v a else 0
def valE (v : List (List Int)) (a : List Int) : Int := if Bids v then (if IsA a v.length then 0 else 8) else chkI v

set_option maxHeartbeats 800000 in
theorem valueTop_any (p q : Option Addr) (c d : Nat) (v : List (List Int)) (a : List Int) (w : World) (hx : Mat w p c v) (hy : Ints w q d a) (hl : a.length ≤ 1000000) :
    Calls Try.prog 53 #[.slice p v.length c, .slice q a.length d] w fun e w' => e = .returned (.tuple #[.int .i64 (valN v a), .int .i64 (valE v a)]) ∧ Below w.heap.size w w' := by
  have hl1 := hx.length_le
  by_cases hv : Bids v
  · have hc := chkI_bids hv
    have hcz : (chkI v != 0) = false := by rw [hc]; rfl
    clear hc
    by_cases hA : IsA a v.length
    · have hN : Hid (valN v a = worthI v a) := by unfold Hid valN; rw [if_pos ⟨hv, hA⟩]
      have hE : Hid (valE v a = 0) := by unfold Hid valE; rw [if_pos hv, if_pos hA]
      have hab : isAB a v.length = true := isAB_true hA
      have HF := Lib.hid (fits_of hv hA)
      clear hA
      go_enter Try.func53, Try.ntmps53
      go_wp2_with fail
      refine (check_any p c v w hx).mono ?_
      rintro e w' ⟨rfl, rfl⟩
      go_wp2_with fail
      refine (assignment_any q d a v.length w' hl1 hy hl).mono ?_
      rintro e w1 ⟨rfl, hb⟩
      go_wp2_with fail
      refine (value_any _ _ _ _ _ _ _ (hx.below hb (Nat.le_refl _)) (hy.below hb (Nat.le_refl _)) HF.out).mono ?_
      rintro e w2 ⟨rfl, rfl⟩
      go_wp2_with fail
      go_ret2
      rw [hN.out, hE.out]
      exact ⟨rfl, hb⟩
    · have hN : Hid (valN v a = 0) := by unfold Hid valN; rw [if_neg (fun h => hA h.2)]
      have hE : Hid (valE v a = 8) := by unfold Hid valE; rw [if_pos hv, if_neg hA]
      have hab : isAB a v.length = false := isAB_false hA
      clear hA
      go_enter Try.func53, Try.ntmps53
      go_wp2_with fail
      refine (check_any p c v w hx).mono ?_
      rintro e w' ⟨rfl, rfl⟩
      go_wp2_with fail
      refine (assignment_any q d a v.length w' hl1 hy hl).mono ?_
      rintro e w1 ⟨rfl, hb⟩
      go_wp2_with fail
      go_ret2
      rw [hN.out, hE.out]
      exact ⟨rfl, hb⟩
  · have hcz : (chkI v != 0) = true := by rw [bne_iff_ne]; exact fun h => hv (chkI_zero.1 h)
    have hN : Hid (valN v a = 0) := by unfold Hid valN; rw [if_neg (fun h => hv h.1)]
    have hE : Hid (valE v a = chkI v) := by unfold Hid valE; rw [if_neg hv]
    go_enter Try.func53, Try.ntmps53
    go_wp2_with fail
    refine (check_any p c v w hx).mono ?_
    rintro e w' ⟨rfl, rfl⟩
    go_wp2_with fail
    go_ret2
    rw [hN.out, hE.out]
    exact ⟨rfl, Below.refl _ _⟩

end Go.Proofs.Ytojldecldemfaaa
