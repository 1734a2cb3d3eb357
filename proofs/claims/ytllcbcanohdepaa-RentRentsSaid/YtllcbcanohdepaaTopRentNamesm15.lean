/- A list whose sorted form is 0, 1, .. n-1 is a list that has each number below n once; no program in sight. -/
import Derived.Test.YtllcbcanohdepaaTopRentNamesm14
import Derived.Test.YtllcbcanohdepaaTopRentNamesm2
import Derived.Test.YtllcbcanohdepaaTopRentNamesm6
import Derived.Test.YtllcbcanohdepaaTopRentNamesm12
import Derived.Test.YtllcbcanohdepaaTopRentNamesm8
/- A list whose sorted form is 0, 1, .. n-1 is a list that has each number below n once; no program in sight. -/
namespace Go.Proofs.Ytllcbcanohdepaa
set_option linter.unusedVariables false
set_option linter.unusedSimpArgs false

/-- What assign.assignment answers. -/
def AsgP (a : List Int) (n : Nat) : Prop := (∀ j, j < (srt a).length → iget (srt a) j = j) ∧ (srt a).length = n

/-- 0, 1, .. n-1. -/
def upto (n : Nat) : List Int := (List.range n).map fun (k : Nat) => (k : Int)
theorem count_upto (n : Nat) : ∀ j : Nat, (upto n).count (j : Int) = if j < n then 1 else 0 := by
  induction n with
  | zero => intro j; simp [upto]
  | succ n ih =>
    intro j
    unfold upto at *
    rw [List.range_succ, List.map_append, List.count_append, ih j]
    simp only [List.map_cons, List.map_nil, List.count_cons, List.count_nil]
    by_cases h : j = n
    · subst h; simp
    · have : ((n : Int) == (j : Int)) = false := by rw [beq_eq_false_iff_ne]; omega
      rw [this]
      by_cases h2 : j < n
      · rw [if_pos h2, if_pos (show j < n + 1 by omega)]; simp
      · rw [if_neg h2, if_neg (show ¬ j < n + 1 by omega)]; simp

theorem sorted_upto : ∀ (n : Nat) , (upto n).Pairwise (· ≤ ·) := by
  intro n
  unfold upto
  rw [List.pairwise_map]
  exact List.pairwise_lt_range.imp (fun h => by omega)

theorem asgP_iff (a : List Int) (n : Nat) : AsgP a n ↔ IsA a n := by
  constructor
  · rintro ⟨h1, h2⟩
    rw [srt_length] at h2
    refine ⟨h2, fun j hj => ?_⟩
    have he : srt a = upto n := by
      apply List.ext_getElem
      · rw [srt_length, h2]; simp [upto]
      · intro i h3 h4
        rw [← iget_of h3, h1 i h3]; simp [upto]
    rw [← (srt_perm a).count_eq, he, count_upto, if_pos hj]
  · intro h
    have hp : (upto n).Perm a := by
      rw [List.perm_iff_count]
      intro x
      by_cases hx : 0 ≤ x ∧ x < n
      · obtain ⟨k, rfl⟩ : ∃ k : Nat, x = k := ⟨x.toNat, by omega⟩
        have hk : k < n := by omega
        rw [count_upto, if_pos hk, h.2 k hk]
      · rw [List.count_eq_zero.2 (fun hm => ?_), List.count_eq_zero.2 (fun hm => ?_)]
        · obtain ⟨i, hi, rfl⟩ := List.getElem_of_mem hm
          have := isA_lt h i (by rw [← h.1]; exact hi)
          unfold itm at this
          rw [iget_of hi] at this
          omega
        · unfold upto at hm
          obtain ⟨k, hk, rfl⟩ := List.mem_map.1 hm
          rw [List.mem_range] at hk
          omega
    have he : srt a = upto n :=
      List.Perm.eq_of_pairwise (le := (· ≤ ·)) (fun x y _ _ h1 h2 => Int.le_antisymm h1 h2) (srt_sorted a) (sorted_upto n) ((srt_perm a).trans hp.symm)
    refine ⟨fun j hj => ?_, by rw [srt_length, h.1]⟩
    rw [iget_of hj]
    simp [he, upto]

end Go.Proofs.Ytllcbcanohdepaa

/- The walks of assignment, value, Value (the program's and the reference's); no condition but the list's size. -/
namespace Go.Proofs.Ytllcbcanohdepaa
set_option linter.unusedSimpArgs false
open Go.ChangeShapes Go.WideShapes Go.ChangeAt Go.RowKit Go.Deep
set_option linter.unusedVariables false

theorem isAB_asg_true {a : List Int} {n : Nat} (h : ∀ j, j < (srt a).length → iget (srt a) j = j) (hn : (srt a).length = n) : isAB a n = true := isAB_true ((asgP_iff a n).1 ⟨h, hn⟩)
theorem isAB_asg_false {a : List Int} {n : Nat} (h : ¬ AsgP a n) : isAB a n = false := isAB_false fun hA => h ((asgP_iff a n).2 hA)

theorem cell_new_one (w : World) (v : Value) (t : TypeId) : (w.alloc (.cells #[v] t)).cell? ⟨w.heap.size, 0, none⟩ = some v := by
  have h := World.alloc_heap_new w (.cells #[v] t (0, 0))
  simp only [World.cell?]
  rw [h]
  rfl

set_option maxHeartbeats 800000 in
theorem assignment_any (p : Option Addr) (c : Nat) (a : List Int) (n : Nat) (w : World) (hn : n ≤ 9223372036854775807) (hx : Ints w p c a) (hl : a.length ≤ 1000000) :
    Calls Try.prog 66 #[.slice p a.length c, .int .i64 n] w fun e w' => e = .returned (.bool (isAB a n)) ∧ Below w.heap.size w w' := by
  go_enter Try.func66, Try.ntmps66
  go_wp2_with fail
  refine (values_any p a.length c w).mono ?_
  rintro e w1 ⟨rfl, hw1⟩
  have hB1 : Below w.heap.size w w1 := by rw [hw1]; exact (Below.refl _ w).alloc (Nat.le_refl _) _
  have hs1 : w1.heap.size = w.heap.size + 1 := by rw [hw1]; simp
  have hc1 : w1.cell? ⟨w.heap.size, 0, none⟩ = some (.slice p a.length c) := by rw [hw1]; exact cell_new_one w _ _
  have hx1 := hx.below hB1 (Nat.le_refl _)
  clear hw1
  go_wp2_with fail
  refine (sorted_any w.heap.size p c a hl w1 (by omega) hc1 hx1).mono ?_
  rintro e w2 ⟨q, d, rfl, ho, hb⟩
  have hb2 := hB1.trans (hb.mono (by omega))
  have hI := ho.ints
  have hll := hI.length_le
  clear ho hb hx1 hc1 hs1 hB1
  go_wp2_with fail
  go_loop [13] (fun i => ∃ k : Nat, k ≤ (srt a).length ∧ i = .int .i64 k ∧ Hid (∀ j, j < k → iget (srt a) j = j)) (fun i => (srt a).length - (intOf i).toNat)
  case atStart => exact ⟨0, by omega, rfl, fun j hj => by omega⟩
  case round =>
    obtain ⟨k, hk, rfl, ht⟩ := hrel
    by_cases hlt : k < (srt a).length
    · have hk1 : (k : Int) < (srt a).length := by omega
      obtain ⟨b, o, rfl, _, hc⟩ := hI.get hlt
      by_cases he : iget (srt a) k = k
      · have hb : (iget (srt a) k != (k : Int)) = false := by simp [he]
        have He := Lib.hid he
        clear he
        go_wp2_with fail
        go_round
        case rel => exact ⟨k + 1, by omega, by go_num, snoc_all' ht.out He.out⟩
        case measure => simp [intOf]; omega
      · have hb : (iget (srt a) k != (k : Int)) = true := by rw [bne_iff_ne]; exact he
        have He := Lib.hid he
        clear he
        go_wp2_with fail
        go_ret
        exact ⟨ret_bool (isAB_asg_false fun hA => He.out (hA.1 k hlt)).symm, hb2⟩
    · have hk1 : ¬ (k : Int) < (srt a).length := by omega
      go_wp2_with fail
      go_ret
      refine ⟨ret_bool ?_, hb2⟩
      by_cases hn2 : (srt a).length = n
      · rw [isAB_asg_true (fun j hj => ht.out j (by omega)) hn2, hn2]; simp
      · rw [isAB_asg_false (fun hA => hn2 hA.2), beq_eq_false_iff_ne]; omega

set_option maxHeartbeats 400000 in
theorem value_any (p q : Option Addr) (c d : Nat) (v : List (List Int)) (a : List Int) (w : World) (hx : Mat w p c v) (hy : Ints w q d a) (hf : Fits v a) :
    Calls Try.prog 67 #[.slice p v.length c, .slice q a.length d] w fun e w' => e = .returned (.int .i64 (worthI v a)) ∧ w' = w := by
  have hl1 := hx.length_le
  have hl6 := hf.len
  go_enter Try.func67, Try.ntmps67
  go_wp2_with fail
  go_loop [5, 10] (fun s i => ∃ k : Nat, k ≤ a.length ∧ i = .int .i64 k ∧ s = .int .i64 (sumTo (fun i => bid v i (itm a i)) k)) (fun _ i => a.length - (intOf i).toNat)
  case atStart => exact ⟨0, by omega, rfl, rfl⟩
  case round =>
    obtain ⟨k, hk, rfl, rfl⟩ := hrel
    have hs := sumTo_bound hf.val k hk
    by_cases hlt : k < a.length
    · obtain ⟨b, o, rfl, _, hc⟩ := hy.get hlt
      have hr := hf.rows
      have hlt2 : k < v.length := by omega
      obtain ⟨b2, o2, rfl, _, q1, d1, hc2, hi⟩ := hx.get hlt2
      obtain ⟨i1, i2⟩ := hf.item k hlt
      obtain ⟨v1, v2⟩ := hf.val k hlt
      obtain ⟨b3, o3, rfl, _, hc3⟩ := hi.get i2
      have hk1 : (k : Int) < a.length := by omega
      have hk2 : (k : Int) < v.length := by omega
      obtain ⟨x, hxx⟩ : ∃ x : Nat, iget a k = (x : Int) := ⟨(iget a k).toNat, by omega⟩
      have hit : itm a k = x := by simp [itm, hxx]
      rw [hit] at hc3 i2 v1 v2
      rw [hxx] at hc
      have hk3 : (x : Int) < (rget v k).length := by omega
      have Hs : Hid (sumTo (fun i => bid v i (itm a i)) (k + 1) = sumTo (fun i => bid v i (itm a i)) k + iget (rget v k) x) := by simp only [sumTo, hit]; rfl
      generalize sumTo (fun i => bid v i (itm a i)) k = s at *
      clear hxx hit i1
      have v1' : 0 ≤ iget (rget v k) x := v1
      have v2' : iget (rget v k) x ≤ 1000000 := v2
      have hs2 : s ≤ 6000000 := by omega
      have hs1 := hs.1
      clear hs
      go_wp2_with fail
      go_round
      case rel => exact ⟨k + 1, by omega, by go_num, by rw [Hs.out]⟩
      case measure => simp [intOf]; omega
    · have hk1 : ¬ (k : Int) < a.length := by omega
      obtain rfl : k = a.length := by omega
      go_wp2_with fail
      go_ret
      exact ⟨rfl, rfl⟩

/-- What Value answers. -/
def valN (v : List (List Int)) (a : List Int) : Int := if Bids v ∧ IsA a v.length then worthI v a else 0
def valE (v : List (List Int)) (a : List Int) : Int := if Bids v then (if IsA a v.length then 0 else 8) else chkI v

set_option maxHeartbeats 800000 in
theorem valueTop_any (p q : Option Addr) (c d : Nat) (v : List (List Int)) (a : List Int) (w : World) (hx : Mat w p c v) (hy : Ints w q d a) (hl : a.length ≤ 1000000) :
    Calls Try.prog 56 #[.slice p v.length c, .slice q a.length d] w fun e w' => e = .returned (.tuple #[.int .i64 (valN v a), .int .i64 (valE v a)]) ∧ Below w.heap.size w w' := by
  have hl1 := hx.length_le
  by_cases hv : Bids v
  · have hc := chkI_bids hv
    have hcz : (chkI v != 0) = false := by rw [hc]; rfl
    clear hc
    by_cases hA : IsA a v.length
    · have hN : Hid (valN v a = worthI v a) := by unfold Hid valN; rw [if_pos ⟨hv, hA⟩]
      have hE : Hid (valE v a = 0) := by unfold Hid valE; rw [if_pos hv, if_pos hA]
      have hab : isAB a v.length = true := isAB_true hA
      have HF := Lib.hid (fits_of hv hA)
      clear hA
      go_enter Try.func56, Try.ntmps56
      go_wp2_with fail
      refine (check_any p c v w hx).mono ?_
      rintro e w' ⟨rfl, rfl⟩
      go_wp2_with fail
      refine (assignment_any q d a v.length w' hl1 hy hl).mono ?_
      rintro e w1 ⟨rfl, hb⟩
      go_wp2_with fail
      refine (value_any _ _ _ _ _ _ _ (hx.below hb (Nat.le_refl _)) (hy.below hb (Nat.le_refl _)) HF.out).mono ?_
      rintro e w2 ⟨rfl, rfl⟩
      go_wp2_with fail
      go_ret2
      rw [hN.out, hE.out]
      exact ⟨rfl, hb⟩
    · have hN : Hid (valN v a = 0) := by unfold Hid valN; rw [if_neg (fun h => hA h.2)]
      have hE : Hid (valE v a = 8) := by unfold Hid valE; rw [if_pos hv, if_neg hA]
      have hab : isAB a v.length = false := isAB_false hA
      clear hA
      go_enter Try.func56, Try.ntmps56
      go_wp2_with fail
      refine (check_any p c v w hx).mono ?_
      rintro e w' ⟨rfl, rfl⟩
      go_wp2_with fail
      refine (assignment_any q d a v.length w' hl1 hy hl).mono ?_
      rintro e w1 ⟨rfl, hb⟩
      go_wp2_with fail
      go_ret2
      rw [hN.out, hE.out]
      exact ⟨rfl, hb⟩
  · have hcz : (chkI v != 0) = true := by rw [bne_iff_ne]; exact fun h => hv (chkI_zero.1 h)
    have hN : Hid (valN v a = 0) := by unfold Hid valN; rw [if_neg (fun h => hv h.1)]
    have hE : Hid (valE v a = chkI v) := by unfold Hid valE; rw [if_neg hv]
    go_enter Try.func56, Try.ntmps56
    go_wp2_with fail
    refine (check_any p c v w hx).mono ?_
    rintro e w' ⟨rfl, rfl⟩
    go_wp2_with fail
    go_ret2
    rw [hN.out, hE.out]
    exact ⟨rfl, Below.refl _ _⟩

end Go.Proofs.Ytllcbcanohdepaa

/- The walk of room.Valid, for every flat and lease; no condition but the lists' sizes. -/
namespace Go.Proofs.Ytllcbcanohdepaa
set_option linter.unusedVariables false
set_option linter.unusedSimpArgs false
open Go.ChangeShapes Go.WideShapes Go.ChangeAt Go.RowKit Go.Deep

/-- The first k prices are small. -/
def PriceOk (z : Int) (ps : List Int) (k : Nat) : Prop := ∀ i, i < k → -10000000 * z ≤ iget ps i ∧ iget ps i ≤ 10000000 * z
instance (z : Int) (ps : List Int) (k : Nat) : Decidable (PriceOk z ps k) := by unfold PriceOk; infer_instance
/-- The lease is valid, in a valid flat. -/
def VldP (v : List (List Int)) (r : Int) (al ps : List Int) (z : Int) : Prop := IsA al v.length ∧ 1 ≤ z ∧ z ≤ 60 ∧ ps.length = v.length ∧ PriceOk z ps ps.length ∧ sumTo (iget ps) ps.length = r * z
instance (v : List (List Int)) (r : Int) (al ps : List Int) (z : Int) : Decidable (VldP v r al ps z) := by unfold VldP; infer_instance
def vldR (v : List (List Int)) (r : Int) (al ps : List Int) (z : Int) : Int := if chkR v r = 0 then (if VldP v r al ps z then 0 else 8) else chkR v r
theorem vld_bad {v : List (List Int)} {r : Int} {al ps : List Int} {z : Int} (h : ¬ chkR v r = 0) : vldR v r al ps z = chkR v r := if_neg h
theorem vld_off {v : List (List Int)} {r : Int} {al ps : List Int} {z : Int} (h : chkR v r = 0) (h2 : ¬ VldP v r al ps z) : vldR v r al ps z = 8 := by unfold vldR; rw [if_pos h, if_neg h2]
theorem vld_ok {v : List (List Int)} {r : Int} {al ps : List Int} {z : Int} (h : chkR v r = 0) (h2 : VldP v r al ps z) : vldR v r al ps z = 0 := by unfold vldR; rw [if_pos h, if_pos h2]
theorem vld_zero {v : List (List Int)} {r : Int} {al ps : List Int} {z : Int} : vldR v r al ps z = 0 ↔ chkR v r = 0 ∧ VldP v r al ps z := by
  constructor
  · intro h
    by_cases hc : chkR v r = 0
    · by_cases hv : VldP v r al ps z
      · exact ⟨hc, hv⟩
      · rw [vld_off hc hv] at h; cases h
    · rw [vld_bad hc] at h; exact absurd h hc
  · rintro ⟨h1, h2⟩; exact vld_ok h1 h2
theorem price_sum {z : Int} {ps : List Int} {n : Nat} (hz : z ≤ 60) (hn : n ≤ 6) (h : PriceOk z ps n) : -3600000000 ≤ sumTo (iget ps) n ∧ sumTo (iget ps) n ≤ 3600000000 := by
  have : -(600000000 * (n : Int)) ≤ sumTo (iget ps) n ∧ sumTo (iget ps) n ≤ 600000000 * n := by
    clear hn
    induction n with
    | zero => simp [sumTo]
    | succ k ih =>
      have h1 := ih (fun i hi => h i (by omega))
      have h2 := h k (by omega)
      simp only [sumTo]
      omega
  omega
theorem rz_bd {r z : Int} (hr1 : 0 ≤ r) (hr2 : r ≤ 10000000) (hz1 : 1 ≤ z) (hz2 : z ≤ 60) : 0 ≤ r * z ∧ r * z ≤ 600000000 := by
  have h1 : r * z ≤ 10000000 * z := Int.mul_le_mul_of_nonneg_right hr2 (by omega)
  exact ⟨Int.mul_nonneg hr1 (by omega), by omega⟩

set_option maxHeartbeats 8000000 in
set_option maxRecDepth 100000 in
theorem roomValid_any (p q s : Option Addr) (c d f : Nat) (v : List (List Int)) (r : Int) (al ps : List Int) (z : Int) (w : World) (hx : Mat w p c v) (hy : Ints w q d al) (hz : Ints w s f ps) (hl : al.length ≤ 1000000) :
    Calls Try.prog 44 #[.agg #[.slice p v.length c, .int .i64 r], .agg #[.slice q al.length d, .slice s ps.length f, .int .i64 z]] w fun e w' => e = .returned (.int .i64 (vldR v r al ps z)) ∧ Below w.heap.size w w' := by
  obtain ⟨Wx, hWx⟩ : ∃ W, w.alloc (.cells #[.slice p v.length c, .int .i64 r] 24) = W := ⟨_, rfl⟩
  obtain ⟨W0, hW0⟩ : ∃ W, Wx.alloc (.cells #[.slice q al.length d, .slice s ps.length f, .int .i64 z] 27) = W := ⟨_, rfl⟩
  have hB1 := below_alloc hWx
  have hB2 := below_alloc hW0
  have bX : BoxV W0 w.heap.size [.slice p v.length c, .int .i64 r] := (BoxV.new rfl hWx).below hB2
  have hs : Wx.heap.size = w.heap.size + 1 := by rw [← hWx]; simp
  have bL : BoxV W0 (w.heap.size + 1) [.slice q al.length d, .slice s ps.length f, .int .i64 z] := BoxV.new hs hW0
  have hB : Below w.heap.size w W0 := hB1.trans (hB2.mono hB1.size)
  have mX := hx.below hB (Nat.le_refl _)
  have mA := hy.below hB (Nat.le_refl _)
  have mP := hz.below hB (Nat.le_refl _)
  have HWx := Lib.hid hWx
  have HW0 := Lib.hid hW0
  clear hWx hW0 hB1 hB2 hs hx hy hz
  have hvl := mX.length_le
  have hpl := mP.length_le
  go_enter Try.func44, Try.ntmps44
  go_wp2_with fail
  rw [HWx.out, HW0.out]
  refine (roomCheck_any p c v r _ mX).mono ?_
  rintro e w1 ⟨rfl, hb⟩
  replace mX := mX.below hb (Nat.le_refl _)
  replace mA := mA.below hb (Nat.le_refl _)
  replace mP := mP.below hb (Nat.le_refl _)
  replace bX := bX.below hb
  replace bL := bL.below hb
  replace hB := hB.trans (hb.mono hB.size)
  clear hb
  by_cases hC : chkR v r = 0
  · have hcz : (chkR v r != 0) = false := by rw [hC]; rfl
    have HC := Lib.hid hC
    clear hC
    have x0 := bX.cell 0 _ rfl
    have x1 := bX.cell 1 _ rfl
    have l0 := bL.cell 0 _ rfl
    have l1 := bL.cell 1 _ rfl
    have l2 := bL.cell 2 _ rfl
    go_wp2_with fail
    refine (valueTop_any p q c d v al _ mX mA hl).mono ?_
    rintro e w2 ⟨rfl, hb⟩
    clear x0 x1 l0 l1 l2
    replace mX := mX.below hb (Nat.le_refl _)
    replace mA := mA.below hb (Nat.le_refl _)
    replace mP := mP.below hb (Nat.le_refl _)
    replace bX := bX.below hb
    replace bL := bL.below hb
    replace hB := hB.trans (hb.mono hB.size)
    clear hb
    obtain ⟨hv, hr1, hr2⟩ := chkR_zero.1 HC.out
    have hv6 := hv.2.1
    by_cases hA : IsA al v.length
    · have hE : (valE v al != 0) = false := by unfold valE; rw [if_pos hv, if_pos hA]; rfl
      have HA := Lib.hid hA
      clear hA hv
      have x0 := bX.cell 0 _ rfl
      have x1 := bX.cell 1 _ rfl
      have l0 := bL.cell 0 _ rfl
      have l1 := bL.cell 1 _ rfl
      have l2 := bL.cell 2 _ rfl
      by_cases hz1 : z < 1
      · have g1 : decide (z < 1) = true := by simpa using hz1
        go_wp2_with fail
        go_ret
        exact ⟨ret_int (vld_off HC.out fun h => by have := h.2.1; omega).symm, hB⟩
      have g1 : decide (z < 1) = false := by simpa using hz1
      by_cases hz2 : 60 < z
      · have g2 : decide (60 < z) = true := by simpa using hz2
        go_wp2_with fail
        go_ret
        exact ⟨ret_int (vld_off HC.out fun h => by have := h.2.2.1; omega).symm, hB⟩
      have g2 : decide (60 < z) = false := by simpa using hz2
      by_cases hp : ps.length = v.length
      · have g3 : ((ps.length : Int) != (v.length : Int)) = false := by rw [hp]; simp
        have Hp := Lib.hid hp
        have hz3 : 1 ≤ z := by omega
        have hz4 : z ≤ 60 := by omega
        have hp6 : ps.length ≤ 6 := by omega
        clear hz1 hz2 hp
        go_wp2_with fail
        go_loop [8, 47] (fun s i => ∃ k : Nat, k ≤ ps.length ∧ i = .int .i64 k ∧ s = .int .i64 (sumTo (iget ps) k) ∧ Hid (PriceOk z ps k)) (fun _ i => ps.length - (intOf i).toNat)
        case atStart => exact ⟨0, by omega, rfl, rfl, fun j hj => by omega⟩
        case round =>
          obtain ⟨k, hk, rfl, rfl, ht⟩ := hrel
          have hS := price_sum hz4 (by omega) ht.out
          by_cases hlt : k < ps.length
          · obtain ⟨b, o, rfl, _, hc⟩ := mP.get hlt
            have hk1 : (k : Int) < ps.length := by omega
            by_cases hlow : iget ps k < -10000000 * z
            · have hdl : decide (iget ps k < -10000000 * z) = true := by simpa using hlow
              have hn := Lib.hid (show ¬ VldP v r al ps z from fun h => by have := (h.2.2.2.2.1 k hlt).1; omega)
              clear hS hlow
              go_wp2_with fail
              go_ret
              exact ⟨ret_int (vld_off HC.out hn.out).symm, hB⟩
            · have hdl : decide (iget ps k < -10000000 * z) = false := by simpa using hlow
              by_cases hhi : 10000000 * z < iget ps k
              · have hdh : decide (10000000 * z < iget ps k) = true := by simpa using hhi
                have hn := Lib.hid (show ¬ VldP v r al ps z from fun h => by have := (h.2.2.2.2.1 k hlt).2; omega)
                clear hS hlow hhi
                go_wp2_with fail
                go_ret
                exact ⟨ret_int (vld_off HC.out hn.out).symm, hB⟩
              · have hdh : decide (10000000 * z < iget ps k) = false := by simpa using hhi
                have Hn := Lib.hid (show PriceOk z ps (k + 1) from snoc_all ht.out ⟨by omega, by omega⟩)
                have Hs : Hid (sumTo (iget ps) (k + 1) = sumTo (iget ps) k + iget ps k) := rfl
                generalize sumTo (iget ps) k = s0 at *
                obtain ⟨hS1, hS2⟩ := hS
                have e1 : -600000000 ≤ iget ps k := by omega
                have e2 : iget ps k ≤ 600000000 := by omega
                clear hlow hhi
                go_wp2_with fail
                go_round
                case rel => exact ⟨k + 1, by omega, by go_num, by rw [Hs.out], Hn⟩
                case measure => simp [intOf]; omega
          · have hk1 : ¬ (k : Int) < ps.length := by omega
            obtain rfl : k = ps.length := by omega
            obtain ⟨m1, m2⟩ := rz_bd hr1 hr2 hz3 hz4
            have hw : IntKind.i64.wrap (r * z) = r * z := IntWalk.i64_in _ (by omega)
            by_cases hq : sumTo (iget ps) ps.length = r * z
            · have g4 : (sumTo (iget ps) ps.length != r * z) = false := by rw [hq]; simp
              have Hq := Lib.hid hq
              clear hq
              go_wp2_with fail
              go_ret
              exact ⟨ret_int (vld_ok HC.out ⟨HA.out, hz3, hz4, Hp.out, ht.out, Hq.out⟩).symm, hB⟩
            · have g4 : (sumTo (iget ps) ps.length != r * z) = true := by rw [bne_iff_ne]; exact hq
              have Hq := Lib.hid hq
              clear hq
              go_wp2_with fail
              go_ret
              exact ⟨ret_int (vld_off HC.out fun h => Hq.out h.2.2.2.2.2).symm, hB⟩
      · have g3 : ((ps.length : Int) != (v.length : Int)) = true := by rw [bne_iff_ne]; omega
        have Hp := Lib.hid hp
        clear hp
        go_wp2_with fail
        go_ret
        exact ⟨ret_int (vld_off HC.out fun h => Hp.out h.2.2.2.1).symm, hB⟩
    · have hE : (valE v al != 0) = true := by unfold valE; rw [if_pos hv, if_neg hA]; rfl
      have hE8 : Hid (valE v al = 8) := by unfold Hid valE; rw [if_pos hv, if_neg hA]
      have HA := Lib.hid hA
      clear hA hv
      go_wp2_with fail
      go_ret
      rw [hE8.out]
      exact ⟨ret_int (vld_off HC.out fun h => HA.out h.1).symm, hB⟩
  · have hcz : (chkR v r != 0) = true := by rw [bne_iff_ne]; exact hC
    have HC := Lib.hid hC
    clear hC
    go_wp2_with fail
    go_ret
    exact ⟨ret_int (vld_bad HC.out).symm, hB⟩
end Go.Proofs.Ytllcbcanohdepaa

/- The walk of room.Gains, for every flat and lease; no condition but the lists' sizes. -/
namespace Go.Proofs.Ytllcbcanohdepaa
set_option linter.unusedVariables false
set_option linter.unusedSimpArgs false
open Go.ChangeShapes Go.WideShapes Go.ChangeAt Go.RowKit Go.Deep

/-- What an agent gains with a room, times the denominator; what all gain. -/
def gainI (v : List (List Int)) (ps : List Int) (z : Int) (i j : Nat) : Int := bid v i j * z - iget ps j
def gainL (v : List (List Int)) (al ps : List Int) (z : Int) : List Int := (List.range al.length).map fun i => gainI v ps z i (itm al i)
theorem gainL_len (v : List (List Int)) (al ps : List Int) (z : Int) : (gainL v al ps z).length = al.length := by simp [gainL]
theorem gainL_get {v : List (List Int)} {al ps : List Int} {z : Int} {i : Nat} (h : i < al.length) : iget (gainL v al ps z) i = gainI v ps z i (itm al i) := by
  simp [gainL, iget, h]
def gnsL (v : List (List Int)) (r : Int) (al ps : List Int) (z : Int) : List Int := if vldR v r al ps z = 0 then gainL v al ps z else []
theorem bz_bd {b z : Int} (h1 : 0 ≤ b) (h2 : b ≤ 1000000) (hz1 : 1 ≤ z) (hz2 : z ≤ 60) : 0 ≤ b * z ∧ b * z ≤ 60000000 := by
  have h3 : b * z ≤ 1000000 * z := Int.mul_le_mul_of_nonneg_right h2 (by omega)
  exact ⟨Int.mul_nonneg h1 (by omega), by omega⟩
/-- What a valid lease in a valid flat brings with it. -/
structure Good (v : List (List Int)) (al ps : List Int) (z : Int) : Prop where
  bids : Bids v
  isA : IsA al v.length
  alen : al.length = v.length
  plen : ps.length = v.length
  z1 : 1 ≤ z
  z2 : z ≤ 60
  six : v.length ≤ 6
  row : ∀ i, i < v.length → (rget v i).length = v.length
  itm : ∀ i, i < v.length → 0 ≤ iget al i ∧ itm al i < v.length
  bid : ∀ i, i < v.length → ∀ j, j < v.length → 0 ≤ iget (rget v i) j ∧ iget (rget v i) j ≤ 1000000
  price : ∀ j, j < v.length → -600000000 ≤ iget ps j ∧ iget ps j ≤ 600000000
theorem good_of {v : List (List Int)} {r : Int} {al ps : List Int} {z : Int} (h : vldR v r al ps z = 0) : Good v al ps z := by
  obtain ⟨hk, hA, hz1, hz2, hpl, hP, _⟩ := vld_zero.1 h
  obtain ⟨hv, _, _⟩ := chkR_zero.1 hk
  have hf := fits_of hv hA
  refine ⟨hv, hA, hA.1, hpl, hz1, hz2, hv.2.1, fun i hi => (hv.2.2 i hi).1, fun i hi => ?_, fun i hi j hj => (hv.2.2 i hi).2 j hj, fun j hj => ?_⟩
  · have h1 := hf.item i (by rw [hA.1]; exact hi)
    rw [(hv.2.2 i hi).1] at h1
    exact h1
  · have := hP j (by rw [hpl]; exact hj)
    omega

set_option maxHeartbeats 8000000 in
set_option maxRecDepth 100000 in
theorem roomGains_any (p q s : Option Addr) (c d f : Nat) (v : List (List Int)) (r : Int) (al ps : List Int) (z : Int) (w : World) (hx : Mat w p c v) (hy : Ints w q d al) (hz : Ints w s f ps) (hl : al.length ≤ 1000000) :
    Calls Try.prog 25 #[.agg #[.slice p v.length c, .int .i64 r], .agg #[.slice q al.length d, .slice s ps.length f, .int .i64 z]] w (Gives2 w (gnsL v r al ps z) (vldR v r al ps z)) := by
  obtain ⟨i0, hi0, hz0, hz1, hz2⟩ := info_parts infoInt
  obtain ⟨Wx, hWx⟩ : ∃ W, w.alloc (.cells #[.slice p v.length c, .int .i64 r] 24) = W := ⟨_, rfl⟩
  obtain ⟨W0, hW0⟩ : ∃ W, Wx.alloc (.cells #[.slice q al.length d, .slice s ps.length f, .int .i64 z] 27) = W := ⟨_, rfl⟩
  have hB1 := below_alloc hWx
  have hB2 := below_alloc hW0
  have bX : BoxV W0 w.heap.size [.slice p v.length c, .int .i64 r] := (BoxV.new rfl hWx).below hB2
  have hs : Wx.heap.size = w.heap.size + 1 := by rw [← hWx]; simp
  have bL : BoxV W0 (w.heap.size + 1) [.slice q al.length d, .slice s ps.length f, .int .i64 z] := BoxV.new hs hW0
  have hB : Below w.heap.size w W0 := hB1.trans (hB2.mono hB1.size)
  have mX := hx.below hB (Nat.le_refl _)
  have mA := hy.below hB (Nat.le_refl _)
  have mP := hz.below hB (Nat.le_refl _)
  have HWx := Lib.hid hWx
  have HW0 := Lib.hid hW0
  clear hWx hW0 hB1 hB2 hs hx hy hz
  have hvl := mX.length_le
  have hpl := mP.length_le
  go_enter Try.func25, Try.ntmps25
  go_wp2_with fail
  rw [HWx.out, HW0.out]
  refine (roomValid_any p q s c d f v r al ps z _ mX mA mP hl).mono ?_
  rintro e w1 ⟨rfl, hb⟩
  replace mX := mX.below hb (Nat.le_refl _)
  replace mA := mA.below hb (Nat.le_refl _)
  replace mP := mP.below hb (Nat.le_refl _)
  replace bX := bX.below hb
  replace bL := bL.below hb
  replace hB := hB.trans (hb.mono hB.size)
  clear hb
  have hle := hB.size
  by_cases hC : vldR v r al ps z = 0
  · have hcz : (vldR v r al ps z != 0) = false := by rw [hC]; rfl
    have HL : Hid (gnsL v r al ps z = gainL v al ps z) := by unfold Hid gnsL; rw [if_pos hC]
    have HG := Lib.hid (good_of hC)
    have Hlen := Lib.hid (gainL_len v al ps z)
    have HC := Lib.hid hC
    clear hC
    have l0 := bL.cell 0 _ rfl
    obtain ⟨B, hBB⟩ : ∃ B, w1.heap.size = B := ⟨_, rfl⟩
    have hwB : w.heap.size ≤ B := by omega
    have hlB : w.heap.size + 1 < B := by have := bL.lt; omega
    have HBB := Lib.hid hBB
    clear hBB
    go_wp2_with fail
    go_loopw [7, 19] (fun s i wr => ∃ m : Nat, m ≤ al.length ∧ i = .int .i64 m ∧ (∃ zs q d, Hid (zs = (gainL v al ps z).take m) ∧ s = .slice q (zs : List Int).length d ∧ Own wr B q d zs) ∧ Below B w1 wr) (fun _ i _ => al.length - (intOf i).toNat)
    case atStart => exact ⟨0, by omega, rfl, ⟨[], none, 0, rfl, rfl, Own.ofNil _ _⟩, Below.refl _ _⟩
    case round =>
      obtain ⟨m, hm, rfl, ⟨zs, qz, dz, hzz, rfl, hO⟩, hBm⟩ := hrel
      have hsz := hBm.size
      rw [HBB.out] at hsz
      have hBm' : Below w1.heap.size w1 wr := by rw [HBB.out]; exact hBm
      by_cases hml : m < al.length
      · have hg := HG.out
        have hmv : m < v.length := by rw [← hg.alen]; exact hml
        obtain ⟨i1, i2⟩ := hg.itm m hmv
        obtain ⟨j0, hj0⟩ : ∃ j0 : Nat, iget al m = (j0 : Int) := ⟨(iget al m).toNat, by omega⟩
        have hit : itm al m = j0 := by simp [itm, hj0]
        rw [hit] at i2
        have hrow := hg.row m hmv
        obtain ⟨v1, v2⟩ := hg.bid m hmv j0 i2
        obtain ⟨p1, p2⟩ := hg.price j0 i2
        have hpl2 := hg.plen
        have hz1' := hg.z1
        have hz2' := hg.z2
        have h6 := hg.six
        have Hsn : Hid ((gainL v al ps z).take (m + 1) = (gainL v al ps z).take m ++ [iget (rget v m) j0 * z - iget ps j0]) := by
          have h := take_snocI (l := gainL v al ps z) (k := m) (by rw [Hlen.out]; exact hml)
          rw [gainL_get hml, hit] at h
          exact h
        obtain ⟨b, o, rfl, hlA, hc⟩ := mA.get hml
        rw [hj0] at hc
        obtain ⟨b2, o2, rfl, hlV, qr, dr, hc2, hi⟩ := mX.get hmv
        obtain ⟨b3, o3, rfl, hlR, hc3⟩ := hi.get (show j0 < (rget v m).length by rw [hrow]; exact i2)
        obtain ⟨b4, o4, rfl, hlP, hc4⟩ := mP.get (show j0 < ps.length by rw [hpl2]; exact i2)
        have hcr := (hBm'.cell (p := ⟨b, o + m, none⟩) hlA).trans hc
        have hm1 : (m : Int) < al.length := by omega
        have hmv1 : (m : Int) < v.length := by omega
        have hj1 : (j0 : Int) < (rget v m).length := by omega
        have hj2 : (j0 : Int) < ps.length := by omega
        have hzl : zs.length ≤ 900000 := by rw [hzz.out, List.length_take]; omega
        clear hg hit i1 hj0 hpl2 hrow
        obtain ⟨x, hxx⟩ : ∃ x, iget (rget v m) j0 = x := ⟨_, rfl⟩
        obtain ⟨y, hyy⟩ : ∃ y, iget ps j0 = y := ⟨_, rfl⟩
        rw [hxx] at hc3 v1 v2 Hsn
        rw [hyy] at hc4 p1 p2 Hsn
        clear hxx hyy
        obtain ⟨m1, m2⟩ := bz_bd v1 v2 hz1' hz2'
        have hy64 : in64 (x * z - y) := ⟨by omega, by omega⟩
        have Hwr : Hid (IntKind.i64.wrap (IntKind.i64.wrap (x * z) - y) = x * z - y) := by
          unfold Hid
          rw [IntWalk.i64_in (x * z) (by omega), IntWalk.i64_in _ (by omega)]
        have k0 := bX.cell 0 _ rfl
        have k1 := bL.cell 1 _ rfl
        have k2 := bL.cell 2 _ rfl
        have hltX := bX.lt
        have hltL := bL.lt
        have hmk : ∀ W, Below B w1 W → (W.cell? ⟨w.heap.size, 0, none⟩ = some (.slice (some ⟨b2, o2, none⟩) v.length c) ∧ W.cell? ⟨w.heap.size + 1, 1, none⟩ = some (.slice (some ⟨b4, o4, none⟩) ps.length f) ∧ W.cell? ⟨w.heap.size + 1, 2, none⟩ = some (.int .i64 z) ∧ W.cell? ⟨b2, o2 + m, none⟩ = some (.slice (some ⟨b3, o3, none⟩) (rget v m).length dr) ∧ W.cell? ⟨b3, o3 + j0, none⟩ = some (.int .i64 x) ∧ W.cell? ⟨b4, o4 + j0, none⟩ = some (.int .i64 y)) := fun W hG =>
          ⟨(hG.cell (p := ⟨w.heap.size, 0, none⟩) (by simp only; omega)).trans k0, (hG.cell (p := ⟨w.heap.size + 1, 1, none⟩) hlB).trans k1, (hG.cell (p := ⟨w.heap.size + 1, 2, none⟩) hlB).trans k2, (hG.cell (p := ⟨b2, o2 + m, none⟩) (by rw [← HBB.out]; exact hlV)).trans hc2, (hG.cell (p := ⟨b3, o3 + j0, none⟩) (by rw [← HBB.out]; exact hlR)).trans hc3, (hG.cell (p := ⟨b4, o4 + j0, none⟩) (by rw [← HBB.out]; exact hlP)).trans hc4⟩
        have Hmk := Lib.hid hmk
        clear hmk k0 k1 k2 hc hc2 hc3 hc4 hltX hltL
        go_wp2_with fail
        go_region_held3 (fun W => W.cell? ⟨w.heap.size, 0, none⟩ = some (Value.slice (some ⟨b2, o2, none⟩) v.length c) ∧ W.cell? ⟨w.heap.size + 1, 1, none⟩ = some (Value.slice (some ⟨b4, o4, none⟩) ps.length f) ∧ W.cell? ⟨w.heap.size + 1, 2, none⟩ = some (Value.int .i64 z) ∧ W.cell? ⟨b2, o2 + m, none⟩ = some (Value.slice (some ⟨b3, o3, none⟩) (rget v m).length dr) ∧ W.cell? ⟨b3, o3 + j0, none⟩ = some (Value.int .i64 x) ∧ W.cell? ⟨b4, o4 + j0, none⟩ = some (Value.int .i64 y))
          (first | assumption | exact Hmk.out _ hb4 | exact Hmk.out _ (by repeat (first | exact hBm | apply Below.drewN' | apply Below.drew | refine Below.alloc ?_ (by first | omega | (simp; omega)) _)))
          (first
            | (refine step_append_lies _ rfl (.tmp 24) (.tmp 42) 25 rfl B 3 i0 (.int .i64 0) 1 8 Try.underlying25 hi0 hz0 hz1 hz2 rfl (by decide) (.slice qz zs.length dz) zs.length (zs.map (Value.int .i64)) (by simp [Act.eval, Act.put]) (show Own _ B _ _ zs from by repeat (first | exact hO | apply Own.drewN | apply Own.drew1 | apply Own.alloc)).row ⟨wr.heap.size, 0, none⟩ 1 1 [.int .i64 (IntKind.i64.wrap (IntKind.i64.wrap (x * z) - y))] (by simp [Act.eval, Act.put]) rfl (cell_one_new _ _ _) (by simp [Value.oneCell']) (by decide) (by simp [maxLen]; omega) (by omega) (by simp; omega) _ rfl ?_; intro g cap w4 hown3 hg3 hor3 hlt3; have hb4 : Below B w1 w4 := Below.grown (show Below B w1 _ from by repeat (first | exact hBm | apply Below.drewN' | apply Below.drew | refine Below.alloc ?_ (by first | omega | (simp; omega)) _)) hg3 (by simp; omega) (fun k' e => by rw [ownBlock_slice] at e; exact (hO.lt k' e).1)))
        all_goals
          rw [Hwr.out] at hown3
          go_wp2_with fail
          go_roundw
          case rel => exact ⟨m + 1, by omega, by go_num, ⟨zs ++ [x * z - y], _, cap, by unfold Hid; rw [Hsn.out, hzz.out], by simp, own_snocR hown3 hO.rng hy64⟩, hb4⟩
          case measure => simp [intOf]; omega
      · have hm1 : ¬ (m : Int) < al.length := by omega
        obtain rfl : m = al.length := by omega
        have hzr : zs = gainL v al ps z := by rw [hzz.out, List.take_of_length_le (by rw [Hlen.out]; exact Nat.le_refl _)]
        subst hzr
        go_wp2_with fail
        go_ret2
        rw [HC.out]
        unfold Gives2
        rw [HL.out]
        exact ⟨qz, dz, rfl, hO.lower hwB, hB.trans (hBm'.mono hle)⟩
  · have hcz : (vldR v r al ps z != 0) = true := by rw [bne_iff_ne]; exact hC
    have HL : Hid (gnsL v r al ps z = []) := by unfold Hid gnsL; rw [if_neg hC]
    clear hC
    go_wp2_with fail
    go_ret2
    unfold Gives2
    rw [HL.out]
    exact ⟨none, 0, rfl, Own.ofNil _ _, hB⟩
end Go.Proofs.Ytllcbcanohdepaa
