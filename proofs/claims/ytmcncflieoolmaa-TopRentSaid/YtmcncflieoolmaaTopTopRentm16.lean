/-
  DERIVED: THE SHELF's CONTRACTS AT THIS DUMP, IN PLAIN WORDS (tools/lay-plain.mjs out of 'TryShelf.lean', which tools/lay-shelf.mjs wrote): THE SAME DECLARATIONS UNDER THE SAME NAMES: 'import', 'namespace', 'open', 'def', 'theorem' AND NOTHING ELSE: no command of the shelf's: FOR A HAND-IN. Each laying: the table of numbers ('.._ren') and one theorem, a field a fact of the dump's own or the kernel's comparison; each contract: ONE APPLICATION.
-/
import Derived.Ground.SlgmProg
import Derived.Shelf.SortM.Plain
import Derived.Shelf.SortM.SortNone
import Derived.Test.YtmcncflieoolmaaProg
import Derived.Test.YtmcncflieoolmaaTopTopRentm15
import Derived.Sort.OwnSortedInts
import Derived.Test.YtmcncflieoolmaaTopTopRentm2
import Derived.Test.YtmcncflieoolmaaTopTopRentm6
import Derived.Test.YtmcncflieoolmaaTopTopRentm13
/-
  DERIVED: THE SHELF's CONTRACTS AT THIS DUMP, IN PLAIN WORDS (tools/lay-plain.mjs out of 'TryShelf.lean', which tools/lay-shelf.mjs wrote): THE SAME DECLARATIONS UNDER THE SAME NAMES: 'import', 'namespace', 'open', 'def', 'theorem' AND NOTHING ELSE: no command of the shelf's: FOR A HAND-IN. Each laying: the table of numbers ('.._ren') and one theorem, a field a fact of the dump's own or the kernel's comparison; each contract: ONE APPLICATION.
-/
namespace Go.Proofs
open Go.Shelf
def Try.laysSlM5_f73_ren : Go.Shelf.Ren := ⟨fun | 5 => 73 | 8 => 78 | 7 => 77 | 19 => 89 | 20 => 79 | 10 => 80 | 11 => 81 | 12 => 82 | 13 => 83 | 14 => 84 | 15 => 85 | 16 => 86 | 17 => 87 | 18 => 88 | 30 => 90 | 31 => 91 | 32 => 92 | 33 => 93 | 34 => 94 | 35 => 95 | 40 => 96 | n => n, fun | 23 => 27 | 25 => 3 | 3 => 3 | 32 => 91 | 22 => 27 | 0 => 0 | 44 => 129 | 46 => 71 | 4 => 4 | 36 => 121 | 35 => 120 | 41 => 126 | 5 => 5 | 9 => 9 | 53 => 130 | 57 => 134 | 63 => 136 | 64 => 137 | n => n, fun | n => n⟩
theorem Try.laysSlM5_f73 : Go.Proofs.SlLaysM.n5 Try.prog Try.laysSlM5_f73_ren := {
  mixed := by kernel_rfl
  f5 := ⟨Try.f73.name, by decide, Try.func73.trans (congrArg some (by kernel_rfl))⟩
  f7 := ⟨Try.f77.name, by decide, Try.func77.trans (congrArg some (by kernel_rfl))⟩
  f8 := Try.func78.trans (congrArg some (by kernel_rfl))
  f10 := ⟨Try.f80.name, by decide, Try.func80.trans (congrArg some (by kernel_rfl))⟩
  f11 := ⟨Try.f81.name, by decide, Try.func81.trans (congrArg some (by kernel_rfl))⟩
  f12 := ⟨Try.f82.name, by decide, Try.func82.trans (congrArg some (by kernel_rfl))⟩
  f13 := ⟨Try.f83.name, by decide, Try.func83.trans (congrArg some (by kernel_rfl))⟩
  f14 := ⟨Try.f84.name, by decide, Try.func84.trans (congrArg some (by kernel_rfl))⟩
  f15 := ⟨Try.f85.name, by decide, Try.func85.trans (congrArg some (by kernel_rfl))⟩
  f16 := ⟨Try.f86.name, by decide, Try.func86.trans (congrArg some (by kernel_rfl))⟩
  f17 := ⟨Try.f87.name, by decide, Try.func87.trans (congrArg some (by kernel_rfl))⟩
  f18 := ⟨Try.f88.name, by decide, Try.func88.trans (congrArg some (by kernel_rfl))⟩
  f19 := Try.func89.trans (congrArg some (by kernel_rfl))
  f20 := Try.func79.trans (congrArg some (by kernel_rfl))
  f30 := ⟨Try.f90.name, by decide, Try.func90.trans (congrArg some (by kernel_rfl))⟩
  f31 := Try.func91.trans (congrArg some (by kernel_rfl))
  f32 := Try.func92.trans (congrArg some (by kernel_rfl))
  f33 := ⟨Try.f93.name, by decide, Try.func93.trans (congrArg some (by kernel_rfl))⟩
  f34 := ⟨Try.f94.name, by decide, Try.func94.trans (congrArg some (by kernel_rfl))⟩
  f35 := ⟨Try.f95.name, by decide, Try.func95.trans (congrArg some (by kernel_rfl))⟩
  f40 := ⟨Try.f96.name, by decide, Try.func96.trans (congrArg some (by kernel_rfl))⟩
  t0 := Try.underlying0
  a0 := Try.isAgg0
  z0 := Try.sizeOf0
  v0 := Try.zeroValue0
  t3 := Try.underlying3
  a3 := Try.isAgg3
  z3 := Try.sizeOf3
  v3 := Try.zeroValue3
  t4 := Try.underlying4
  a4 := Try.isAgg4
  z4 := Try.sizeOf4
  v4 := Try.zeroValue4
  t5 := Try.underlying5
  a5 := Try.isAgg5
  z5 := Try.sizeOf5
  v5 := Try.zeroValue5
  t9 := Try.underlying9
  a9 := Try.isAgg9
  z9 := Try.sizeOf9
  v9 := Try.zeroValue9
  t22 := Try.underlying27
  a22 := Try.isAgg27
  z22 := Try.sizeOf27
  v22 := Try.zeroValue27
  t23 := Try.underlying27
  a23 := Try.isAgg27
  z23 := Try.sizeOf27
  v23 := Try.zeroValue27
  t25 := Try.underlying3
  a25 := Try.isAgg3
  z25 := Try.sizeOf3
  v25 := Try.zeroValue3
  t32 := Try.underlying91
  a32 := Try.isAgg91
  z32 := Try.sizeOf91
  v32 := Try.zeroValue91
  t35 := Try.underlying120
  a35 := Try.isAgg120
  z35 := Try.sizeOf120
  v35 := Try.zeroValue120
  t36 := Try.underlying121
  a36 := Try.isAgg121
  z36 := Try.sizeOf121
  v36 := Try.zeroValue121
  t41 := Try.underlying126
  a41 := Try.isAgg126
  z41 := Try.sizeOf126
  v41 := Try.zeroValue126
  t44 := Try.underlying129
  a44 := Try.isAgg129
  z44 := Try.sizeOf129
  v44 := Try.zeroValue129
  t46 := Try.underlying71
  a46 := Try.isAgg71
  z46 := Try.sizeOf71
  v46 := Try.zeroValue71
  t53 := Try.underlying130
  a53 := Try.isAgg130
  z53 := Try.sizeOf130
  v53 := Try.zeroValue130
  t57 := Try.underlying134
  a57 := Try.isAgg134
  z57 := Try.sizeOf134
  v57 := Try.zeroValue134
  t63 := Try.underlying136
  a63 := Try.isAgg136
  z63 := Try.sizeOf136
  v63 := Try.zeroValue136
  t64 := Try.underlying137
  a64 := Try.isAgg137
  z64 := Try.sizeOf137
  v64 := Try.zeroValue137 }
open Go.Sort Go.RowKit in
theorem Try.slices_Sort_int (blk off cap : Nat) (zs : List Int) (w : World) (hH : Holds (Value.int .i64) w blk off zs.toArray) (hblk : blk < w.heap.size) (hsz : zs.length < 4611686018427387904) :
    Calls Try.prog 73 #[.slice (some ⟨blk, off, none⟩) zs.length cap] w fun e w' =>
      e = .returned (.tuple #[]) ∧ ∃ n os, w' = grow (putRow (Value.int .i64) (Sort.ahead w n) blk off (zs.mergeSort fun x y => decide (x ≤ y)).toArray) os := AnyM.slices_Sort_int Try.laysSlM5_f73 blk off cap zs w hH hblk hsz
open Go.RowKit Go.Sort in
/-- .. and plain. (LAID AT THE INSTANCE 'slices.Sort[[]int,int]': no walk: one application.) -/
theorem Try.slices_Sort_int_none (p : Option Addr) (cap : Nat) (w : World) :
    Calls Try.prog 73 #[.slice p 0 cap] w fun e w' => e = .returned (.tuple #[]) ∧ w' = w := AnyM.slices_Sort_int_none Try.laysSlM5_f73 p cap w
end Go.Proofs

/- slices.Sorted(slices.Values(a)) at a list of ints: what it returns; no condition but the size. -/
namespace Go.Proofs.Ytmcncflieoolmaa
set_option linter.unusedSimpArgs false
open Go.ChangeShapes Go.WideShapes Go.ChangeAt Go.RowKit Go.Deep
set_option linter.unusedVariables false

/-- The list in order. -/
def srt (xs : List Int) : List Int := xs.mergeSort fun x y => decide (x ≤ y)
theorem srt_length (xs : List Int) : (srt xs).length = xs.length := List.length_mergeSort _
theorem srt_perm (xs : List Int) : (srt xs).Perm xs := List.mergeSort_perm _ _
theorem srt_sorted (xs : List Int) : (srt xs).Pairwise (· ≤ ·) := by
  have := List.pairwise_mergeSort (le := fun (x y : Int) => decide (x ≤ y)) (fun a b c h1 h2 => by simp at *; omega) (fun a b => by simp; omega) xs
  exact this.imp (fun h => by simpa using h)

theorem srt_own {W w' : World} {base g c : Nat} {zs : List Int} {n : Nat} {os : Array Obj} (ho : Own W base (some ⟨g, 0, none⟩) c zs) (hw' : w' = Go.Sort.grow (Go.Sort.putRow (Value.int .i64) (Go.Sort.ahead W n) g 0 (srt zs).toArray) os) :
    Own w' base (some ⟨g, 0, none⟩) c (srt zs) ∧ W.grownBy w' (some g) := by
  subst hw'
  rcases ho.row.2 with ⟨h1, _⟩ | ⟨g', cap, cur, h1, h2, h3, h4, h5, h6, h7⟩
  · simp at h1
  · simp only [Value.slice.injEq, Option.some.injEq, Addr.mk.injEq, and_true, true_and] at h1
    obtain ⟨rfl, rfl⟩ := h1
    refine ⟨⟨?_, fun j hj => ?_⟩, grownBy_sortedI _⟩
    · have := ownsRow_sortedI (n := n) (os := os) (srt_length zs) h2 h3 h4 h5 h6
      rw [srt_length]
      exact this
    · have hm : iget (srt zs) j ∈ zs := (srt_perm zs).mem_iff.1 (iget_mem hj)
      obtain ⟨k, hk, he⟩ := List.getElem_of_mem hm
      rw [← he, ← iget_of hk]
      exact ho.rng k hk

set_option maxHeartbeats 1000000 in
theorem collect_any (Bs : Nat) (p : Option Addr) (c : Nat) (zs : List Int) (hz : zs.length ≤ 1000000) (w : World)
    (hBs : Bs < w.heap.size) (hc : w.cell? ⟨Bs, 0, none⟩ = some (.slice p zs.length c)) (hI : Ints w p c zs) :
    Calls Try.prog 72 #[.func (.func 74) #[] #[.pointer (some ⟨Bs, 0, none⟩)]] w fun e w' => ∃ p' c', e = .returned (.slice p' zs.length c') ∧ Own w' w.heap.size p' c' zs ∧ Below w.heap.size w w' :=
  (callsIn_wide (n := 6)).1 (collect_in Fence.wide 6 trivial trivial trivial rfl (by omega) Bs p c zs hz w hBs hc hI)

theorem values_any (a : Option Addr) (len cap : Nat) (w : World) :
    Calls Try.prog 63 #[.slice a len cap] w fun e w' => e = .returned (.func (.func 74) #[] #[.pointer (some ⟨w.heap.size, 0, none⟩)]) ∧ w' = w.alloc (.cells #[.slice a len cap] 27) :=
  (callsIn_wide (n := 6)).1 (values_in Fence.wide 6 trivial rfl a len cap w)

theorem sorted_any (Bs : Nat) (p : Option Addr) (c : Nat) (zs : List Int) (hz : zs.length ≤ 1000000) (w : World)
    (hBs : Bs < w.heap.size) (hc : w.cell? ⟨Bs, 0, none⟩ = some (.slice p zs.length c)) (hI : Ints w p c zs) :
    Calls Try.prog 62 #[.func (.func 74) #[] #[.pointer (some ⟨Bs, 0, none⟩)]] w fun e w' => ∃ p' c', e = .returned (.slice p' (srt zs).length c') ∧ Own w' w.heap.size p' c' (srt zs) ∧ Below w.heap.size w w' := by
  go_enter Try.func62, Try.ntmps62
  go_wp2_with fail
  refine (collect_any Bs p c zs hz w hBs hc hI).mono ?_
  rintro e W ⟨p', c', rfl, ho, hb⟩
  rcases ho.shape with ⟨rfl, rfl, h0⟩ | ⟨g, rfl, h1, h2, h3, h4⟩
  · have hn : zs.length = 0 := by rw [h0]; rfl
    rw [hn]
    go_wp2_with fail
    refine (Try.slices_Sort_int_none none 0 W).mono ?_
    rintro e w' ⟨rfl, rfl⟩
    go_wp2_with fail
    go_ret
    refine ⟨none, 0, by rw [srt_length, hn]; rfl, ?_, hb⟩
    rw [h0, show srt [] = [] from by simp [srt]]; exact Own.ofNil _ _
  · go_wp2_with fail
    refine (Try.slices_Sort_int g 0 c' zs W ?_ h2 (by omega)).mono ?_
    · intro j hj
      have hj' : j < zs.length := by simpa using hj
      refine ⟨?_, ho.free _⟩
      rw [Nat.zero_add, ho.at hj', iget_of hj']; simp [hj']
    rintro e w' ⟨rfl, n, os, hw⟩
    obtain ⟨ho', hg⟩ := srt_own ho hw
    clear hw
    go_wp2_with fail
    go_ret
    exact ⟨_, c', by rw [srt_length]; rfl, ho', hb.grown hg hb.size (fun k e => by cases e; exact h1)⟩

end Go.Proofs.Ytmcncflieoolmaa

/- A list whose sorted form is 0, 1, .. n-1 is a list that has each number below n once; no program in sight. -/
namespace Go.Proofs.Ytmcncflieoolmaa
set_option linter.unusedVariables false
set_option linter.unusedSimpArgs false

/-- What assign.assignment answers. -/
def AsgP (a : List Int) (n : Nat) : Prop := (∀ j, j < (srt a).length → iget (srt a) j = j) ∧ (srt a).length = n

/-- 0, 1, .. n-1. -/
def upto (n : Nat) : List Int := (List.range n).map fun (k : Nat) => (k : Int)
theorem count_upto (n : Nat) : ∀ j : Nat, (upto n).count (j : Int) = if j < n then 1 else 0 := by
  induction n with
  | zero => intro j; simp [upto]
  | succ n ih =>
    intro j
    unfold upto at *
    rw [List.range_succ, List.map_append, List.count_append, ih j]
    simp only [List.map_cons, List.map_nil, List.count_cons, List.count_nil]
    by_cases h : j = n
    · subst h; simp
    · have : ((n : Int) == (j : Int)) = false := by rw [beq_eq_false_iff_ne]; omega
      rw [this]
      by_cases h2 : j < n
      · rw [if_pos h2, if_pos (show j < n + 1 by omega)]; simp
      · rw [if_neg h2, if_neg (show ¬ j < n + 1 by omega)]; simp

theorem sorted_upto : ∀ (n : Nat) , (upto n).Pairwise (· ≤ ·) := by
  intro n
  unfold upto
  rw [List.pairwise_map]
  exact List.pairwise_lt_range.imp (fun h => by omega)

theorem asgP_iff (a : List Int) (n : Nat) : AsgP a n ↔ IsA a n := by
  constructor
  · rintro ⟨h1, h2⟩
    rw [srt_length] at h2
    refine ⟨h2, fun j hj => ?_⟩
    have he : srt a = upto n := by
      apply List.ext_getElem
      · rw [srt_length, h2]; simp [upto]
      · intro i h3 h4
        rw [← iget_of h3, h1 i h3]; simp [upto]
    rw [← (srt_perm a).count_eq, he, count_upto, if_pos hj]
  · intro h
    have hp : (upto n).Perm a := by
      rw [List.perm_iff_count]
      intro x
      by_cases hx : 0 ≤ x ∧ x < n
      · obtain ⟨k, rfl⟩ : ∃ k : Nat, x = k := ⟨x.toNat, by omega⟩
        have hk : k < n := by omega
        rw [count_upto, if_pos hk, h.2 k hk]
      · rw [List.count_eq_zero.2 (fun hm => ?_), List.count_eq_zero.2 (fun hm => ?_)]
        · obtain ⟨i, hi, rfl⟩ := List.getElem_of_mem hm
          have := isA_lt h i (by rw [← h.1]; exact hi)
          unfold itm at this
          rw [iget_of hi] at this
          omega
        · unfold upto at hm
          obtain ⟨k, hk, rfl⟩ := List.mem_map.1 hm
          rw [List.mem_range] at hk
          omega
    have he : srt a = upto n :=
      List.Perm.eq_of_pairwise (le := (· ≤ ·)) (fun x y _ _ h1 h2 => Int.le_antisymm h1 h2) (srt_sorted a) (sorted_upto n) ((srt_perm a).trans hp.symm)
    refine ⟨fun j hj => ?_, by rw [srt_length, h.1]⟩
    rw [iget_of hj]
    simp [he, upto]

end Go.Proofs.Ytmcncflieoolmaa

/- The walks of assignment, value, Value (the program's and the reference's); no condition but the list's size. -/
namespace Go.Proofs.Ytmcncflieoolmaa
set_option linter.unusedSimpArgs false
open Go.ChangeShapes Go.WideShapes Go.ChangeAt Go.RowKit Go.Deep
set_option linter.unusedVariables false

theorem isAB_asg_true {a : List Int} {n : Nat} (h : ∀ j, j < (srt a).length → iget (srt a) j = j) (hn : (srt a).length = n) : isAB a n = true := isAB_true ((asgP_iff a n).1 ⟨h, hn⟩)
theorem isAB_asg_false {a : List Int} {n : Nat} (h : ¬ AsgP a n) : isAB a n = false := isAB_false fun hA => h ((asgP_iff a n).2 hA)

theorem cell_new_one (w : World) (v : Value) (t : TypeId) : (w.alloc (.cells #[v] t)).cell? ⟨w.heap.size, 0, none⟩ = some v := by
  have h := World.alloc_heap_new w (.cells #[v] t (0, 0))
  simp only [World.cell?]
  rw [h]
  rfl

set_option maxHeartbeats 800000 in
theorem assignment_any (p : Option Addr) (c : Nat) (a : List Int) (n : Nat) (w : World) (hn : n ≤ 9223372036854775807) (hx : Ints w p c a) (hl : a.length ≤ 1000000) :
    Calls Try.prog 50 #[.slice p a.length c, .int .i64 n] w fun e w' => e = .returned (.bool (isAB a n)) ∧ Below w.heap.size w w' := by
  go_enter Try.func50, Try.ntmps50
  go_wp2_with fail
  refine (values_any p a.length c w).mono ?_
  rintro e w1 ⟨rfl, hw1⟩
  have hB1 : Below w.heap.size w w1 := by rw [hw1]; exact (Below.refl _ w).alloc (Nat.le_refl _) _
  have hs1 : w1.heap.size = w.heap.size + 1 := by rw [hw1]; simp
  have hc1 : w1.cell? ⟨w.heap.size, 0, none⟩ = some (.slice p a.length c) := by rw [hw1]; exact cell_new_one w _ _
  have hx1 := hx.below hB1 (Nat.le_refl _)
  clear hw1
  go_wp2_with fail
  refine (sorted_any w.heap.size p c a hl w1 (by omega) hc1 hx1).mono ?_
  rintro e w2 ⟨q, d, rfl, ho, hb⟩
  have hb2 := hB1.trans (hb.mono (by omega))
  have hI := ho.ints
  have hll := hI.length_le
  clear ho hb hx1 hc1 hs1 hB1
  go_wp2_with fail
  go_loop [13] (fun i => ∃ k : Nat, k ≤ (srt a).length ∧ i = .int .i64 k ∧ Hid (∀ j, j < k → iget (srt a) j = j)) (fun i => (srt a).length - (intOf i).toNat)
  case atStart => exact ⟨0, by omega, rfl, fun j hj => by omega⟩
  case round =>
    obtain ⟨k, hk, rfl, ht⟩ := hrel
    by_cases hlt : k < (srt a).length
    · have hk1 : (k : Int) < (srt a).length := by omega
      obtain ⟨b, o, rfl, _, hc⟩ := hI.get hlt
      by_cases he : iget (srt a) k = k
      · have hb : (iget (srt a) k != (k : Int)) = false := by simp [he]
        have He := Lib.hid he
        clear he
        go_wp2_with fail
        go_round
        case rel => exact ⟨k + 1, by omega, by go_num, snoc_all' ht.out He.out⟩
        case measure => simp [intOf]; omega
      · have hb : (iget (srt a) k != (k : Int)) = true := by rw [bne_iff_ne]; exact he
        have He := Lib.hid he
        clear he
        go_wp2_with fail
        go_ret
        exact ⟨ret_bool (isAB_asg_false fun hA => He.out (hA.1 k hlt)).symm, hb2⟩
    · have hk1 : ¬ (k : Int) < (srt a).length := by omega
      go_wp2_with fail
      go_ret
      refine ⟨ret_bool ?_, hb2⟩
      by_cases hn2 : (srt a).length = n
      · rw [isAB_asg_true (fun j hj => ht.out j (by omega)) hn2, hn2]; simp
      · rw [isAB_asg_false (fun hA => hn2 hA.2), beq_eq_false_iff_ne]; omega

set_option maxHeartbeats 400000 in
theorem value_any (p q : Option Addr) (c d : Nat) (v : List (List Int)) (a : List Int) (w : World) (hx : Mat w p c v) (hy : Ints w q d a) (hf : Fits v a) :
    Calls Try.prog 51 #[.slice p v.length c, .slice q a.length d] w fun e w' => e = .returned (.int .i64 (worthI v a)) ∧ w' = w := by
  have hl1 := hx.length_le
  have hl6 := hf.len
  go_enter Try.func51, Try.ntmps51
  go_wp2_with fail
  go_loop [5, 10] (fun s i => ∃ k : Nat, k ≤ a.length ∧ i = .int .i64 k ∧ s = .int .i64 (sumTo (fun i => bid v i (itm a i)) k)) (fun _ i => a.length - (intOf i).toNat)
  case atStart => exact ⟨0, by omega, rfl, rfl⟩
  case round =>
    obtain ⟨k, hk, rfl, rfl⟩ := hrel
    have hs := sumTo_bound hf.val k hk
    by_cases hlt : k < a.length
    · obtain ⟨b, o, rfl, _, hc⟩ := hy.get hlt
      have hr := hf.rows
      have hlt2 : k < v.length := by omega
      obtain ⟨b2, o2, rfl, _, q1, d1, hc2, hi⟩ := hx.get hlt2
      obtain ⟨i1, i2⟩ := hf.item k hlt
      obtain ⟨v1, v2⟩ := hf.val k hlt
      obtain ⟨b3, o3, rfl, _, hc3⟩ := hi.get i2
      have hk1 : (k : Int) < a.length := by omega
      have hk2 : (k : Int) < v.length := by omega
      obtain ⟨x, hxx⟩ : ∃ x : Nat, iget a k = (x : Int) := ⟨(iget a k).toNat, by omega⟩
      have hit : itm a k = x := by simp [itm, hxx]
      rw [hit] at hc3 i2 v1 v2
      rw [hxx] at hc
      have hk3 : (x : Int) < (rget v k).length := by omega
      have Hs : Hid (sumTo (fun i => bid v i (itm a i)) (k + 1) = sumTo (fun i => bid v i (itm a i)) k + iget (rget v k) x) := by simp only [sumTo, hit]; rfl
      generalize sumTo (fun i => bid v i (itm a i)) k = s at *
      clear hxx hit i1
      have v1' : 0 ≤ iget (rget v k) x := v1
      have v2' : iget (rget v k) x ≤ 1000000 := v2
      have hs2 : s ≤ 6000000 := by omega
      have hs1 := hs.1
      clear hs
      go_wp2_with fail
      go_round
      case rel => exact ⟨k + 1, by omega, by go_num, by rw [Hs.out]⟩
      case measure => simp [intOf]; omega
    · have hk1 : ¬ (k : Int) < a.length := by omega
      obtain rfl : k = a.length := by omega
      go_wp2_with fail
      go_ret
      exact ⟨rfl, rfl⟩

/-- What Value answers. -/
def valN (v : List (List Int)) (a : List Int) : Int := if Bids v ∧ IsA a v.length then worthI v a else 0
def valE (v : List (List Int)) (a : List Int) : Int := if Bids v then (if IsA a v.length then 0 else 8) else chkI v

set_option maxHeartbeats 800000 in
theorem valueTop_any (p q : Option Addr) (c d : Nat) (v : List (List Int)) (a : List Int) (w : World) (hx : Mat w p c v) (hy : Ints w q d a) (hl : a.length ≤ 1000000) :
    Calls Try.prog 32 #[.slice p v.length c, .slice q a.length d] w fun e w' => e = .returned (.tuple #[.int .i64 (valN v a), .int .i64 (valE v a)]) ∧ Below w.heap.size w w' := by
  have hl1 := hx.length_le
  by_cases hv : Bids v
  · have hc := chkI_bids hv
    have hcz : (chkI v != 0) = false := by rw [hc]; rfl
    clear hc
    by_cases hA : IsA a v.length
    · have hN : Hid (valN v a = worthI v a) := by unfold Hid valN; rw [if_pos ⟨hv, hA⟩]
      have hE : Hid (valE v a = 0) := by unfold Hid valE; rw [if_pos hv, if_pos hA]
      have hab : isAB a v.length = true := isAB_true hA
      have HF := Lib.hid (fits_of hv hA)
      clear hA
      go_enter Try.func32, Try.ntmps32
      go_wp2_with fail
      refine (check_any p c v w hx).mono ?_
      rintro e w' ⟨rfl, rfl⟩
      go_wp2_with fail
      refine (assignment_any q d a v.length w' hl1 hy hl).mono ?_
      rintro e w1 ⟨rfl, hb⟩
      go_wp2_with fail
      refine (value_any _ _ _ _ _ _ _ (hx.below hb (Nat.le_refl _)) (hy.below hb (Nat.le_refl _)) HF.out).mono ?_
      rintro e w2 ⟨rfl, rfl⟩
      go_wp2_with fail
      go_ret2
      rw [hN.out, hE.out]
      exact ⟨rfl, hb⟩
    · have hN : Hid (valN v a = 0) := by unfold Hid valN; rw [if_neg (fun h => hA h.2)]
      have hE : Hid (valE v a = 8) := by unfold Hid valE; rw [if_pos hv, if_neg hA]
      have hab : isAB a v.length = false := isAB_false hA
      clear hA
      go_enter Try.func32, Try.ntmps32
      go_wp2_with fail
      refine (check_any p c v w hx).mono ?_
      rintro e w' ⟨rfl, rfl⟩
      go_wp2_with fail
      refine (assignment_any q d a v.length w' hl1 hy hl).mono ?_
      rintro e w1 ⟨rfl, hb⟩
      go_wp2_with fail
      go_ret2
      rw [hN.out, hE.out]
      exact ⟨rfl, hb⟩
  · have hcz : (chkI v != 0) = true := by rw [bne_iff_ne]; exact fun h => hv (chkI_zero.1 h)
    have hN : Hid (valN v a = 0) := by unfold Hid valN; rw [if_neg (fun h => hv h.1)]
    have hE : Hid (valE v a = chkI v) := by unfold Hid valE; rw [if_neg hv]
    go_enter Try.func32, Try.ntmps32
    go_wp2_with fail
    refine (check_any p c v w hx).mono ?_
    rintro e w' ⟨rfl, rfl⟩
    go_wp2_with fail
    go_ret2
    rw [hN.out, hE.out]
    exact ⟨rfl, Below.refl _ _⟩

end Go.Proofs.Ytmcncflieoolmaa

/- The walk of room.Valid, for every flat and lease; no condition but the lists' sizes. -/
namespace Go.Proofs.Ytmcncflieoolmaa
set_option linter.unusedVariables false
set_option linter.unusedSimpArgs false
open Go.ChangeShapes Go.WideShapes Go.ChangeAt Go.RowKit Go.Deep

/-- The first k prices are small. -/
def PriceOk (z : Int) (ps : List Int) (k : Nat) : Prop := ∀ i, i < k → -10000000 * z ≤ iget ps i ∧ iget ps i ≤ 10000000 * z
instance (z : Int) (ps : List Int) (k : Nat) : Decidable (PriceOk z ps k) := by unfold PriceOk; infer_instance
/-- The lease is valid, in a valid flat. -/
def VldP (v : List (List Int)) (r : Int) (al ps : List Int) (z : Int) : Prop := IsA al v.length ∧ 1 ≤ z ∧ z ≤ 60 ∧ ps.length = v.length ∧ PriceOk z ps ps.length ∧ sumTo (iget ps) ps.length = r * z
instance (v : List (List Int)) (r : Int) (al ps : List Int) (z : Int) : Decidable (VldP v r al ps z) := by unfold VldP; infer_instance
def vldR (v : List (List Int)) (r : Int) (al ps : List Int) (z : Int) : Int := if chkR v r = 0 then (if VldP v r al ps z then 0 else 8) else chkR v r
theorem vld_bad {v : List (List Int)} {r : Int} {al ps : List Int} {z : Int} (h : ¬ chkR v r = 0) : vldR v r al ps z = chkR v r := if_neg h
theorem vld_off {v : List (List Int)} {r : Int} {al ps : List Int} {z : Int} (h : chkR v r = 0) (h2 : ¬ VldP v r al ps z) : vldR v r al ps z = 8 := by unfold vldR; rw [if_pos h, if_neg h2]
theorem vld_ok {v : List (List Int)} {r : Int} {al ps : List Int} {z : Int} (h : chkR v r = 0) (h2 : VldP v r al ps z) : vldR v r al ps z = 0 := by unfold vldR; rw [if_pos h, if_pos h2]
theorem vld_zero {v : List (List Int)} {r : Int} {al ps : List Int} {z : Int} : vldR v r al ps z = 0 ↔ chkR v r = 0 ∧ VldP v r al ps z := by
  constructor
  · intro h
    by_cases hc : chkR v r = 0
    · by_cases hv : VldP v r al ps z
      · exact ⟨hc, hv⟩
      · rw [vld_off hc hv] at h; cases h
    · rw [vld_bad hc] at h; exact absurd h hc
  · rintro ⟨h1, h2⟩; exact vld_ok h1 h2
theorem price_sum {z : Int} {ps : List Int} {n : Nat} (hz : z ≤ 60) (hn : n ≤ 6) (h : PriceOk z ps n) : -3600000000 ≤ sumTo (iget ps) n ∧ sumTo (iget ps) n ≤ 3600000000 := by
  have : -(600000000 * (n : Int)) ≤ sumTo (iget ps) n ∧ sumTo (iget ps) n ≤ 600000000 * n := by
    clear hn
    induction n with
    | zero => simp [sumTo]
    | succ k ih =>
      have h1 := ih (fun i hi => h i (by omega))
      have h2 := h k (by omega)
      simp only [sumTo]
      omega
  omega
theorem rz_bd {r z : Int} (hr1 : 0 ≤ r) (hr2 : r ≤ 10000000) (hz1 : 1 ≤ z) (hz2 : z ≤ 60) : 0 ≤ r * z ∧ r * z ≤ 600000000 := by
  have h1 : r * z ≤ 10000000 * z := Int.mul_le_mul_of_nonneg_right hr2 (by omega)
  exact ⟨Int.mul_nonneg hr1 (by omega), by omega⟩

set_option maxHeartbeats 8000000 in
set_option maxRecDepth 100000 in
theorem roomValid_any (p q s : Option Addr) (c d f : Nat) (v : List (List Int)) (r : Int) (al ps : List Int) (z : Int) (w : World) (hx : Mat w p c v) (hy : Ints w q d al) (hz : Ints w s f ps) (hl : al.length ≤ 1000000) :
    Calls Try.prog 52 #[.agg #[.slice p v.length c, .int .i64 r], .agg #[.slice q al.length d, .slice s ps.length f, .int .i64 z]] w fun e w' => e = .returned (.int .i64 (vldR v r al ps z)) ∧ Below w.heap.size w w' := by
  obtain ⟨Wx, hWx⟩ : ∃ W, w.alloc (.cells #[.slice p v.length c, .int .i64 r] 24) = W := ⟨_, rfl⟩
  obtain ⟨W0, hW0⟩ : ∃ W, Wx.alloc (.cells #[.slice q al.length d, .slice s ps.length f, .int .i64 z] 29) = W := ⟨_, rfl⟩
  have hB1 := below_alloc hWx
  have hB2 := below_alloc hW0
  have bX : BoxV W0 w.heap.size [.slice p v.length c, .int .i64 r] := (BoxV.new rfl hWx).below hB2
  have hs : Wx.heap.size = w.heap.size + 1 := by rw [← hWx]; simp
  have bL : BoxV W0 (w.heap.size + 1) [.slice q al.length d, .slice s ps.length f, .int .i64 z] := BoxV.new hs hW0
  have hB : Below w.heap.size w W0 := hB1.trans (hB2.mono hB1.size)
  have mX := hx.below hB (Nat.le_refl _)
  have mA := hy.below hB (Nat.le_refl _)
  have mP := hz.below hB (Nat.le_refl _)
  have HWx := Lib.hid hWx
  have HW0 := Lib.hid hW0
  clear hWx hW0 hB1 hB2 hs hx hy hz
  have hvl := mX.length_le
  have hpl := mP.length_le
  go_enter Try.func52, Try.ntmps52
  go_wp2_with fail
  rw [HWx.out, HW0.out]
  refine (roomCheck_any p c v r _ mX).mono ?_
  rintro e w1 ⟨rfl, hb⟩
  replace mX := mX.below hb (Nat.le_refl _)
  replace mA := mA.below hb (Nat.le_refl _)
  replace mP := mP.below hb (Nat.le_refl _)
  replace bX := bX.below hb
  replace bL := bL.below hb
  replace hB := hB.trans (hb.mono hB.size)
  clear hb
  by_cases hC : chkR v r = 0
  · have hcz : (chkR v r != 0) = false := by rw [hC]; rfl
    have HC := Lib.hid hC
    clear hC
    have x0 := bX.cell 0 _ rfl
    have x1 := bX.cell 1 _ rfl
    have l0 := bL.cell 0 _ rfl
    have l1 := bL.cell 1 _ rfl
    have l2 := bL.cell 2 _ rfl
    go_wp2_with fail
    refine (valueTop_any p q c d v al _ mX mA hl).mono ?_
    rintro e w2 ⟨rfl, hb⟩
    clear x0 x1 l0 l1 l2
    replace mX := mX.below hb (Nat.le_refl _)
    replace mA := mA.below hb (Nat.le_refl _)
    replace mP := mP.below hb (Nat.le_refl _)
    replace bX := bX.below hb
    replace bL := bL.below hb
    replace hB := hB.trans (hb.mono hB.size)
    clear hb
    obtain ⟨hv, hr1, hr2⟩ := chkR_zero.1 HC.out
    have hv6 := hv.2.1
    by_cases hA : IsA al v.length
    · have hE : (valE v al != 0) = false := by unfold valE; rw [if_pos hv, if_pos hA]; rfl
      have HA := Lib.hid hA
      clear hA hv
      have x0 := bX.cell 0 _ rfl
      have x1 := bX.cell 1 _ rfl
      have l0 := bL.cell 0 _ rfl
      have l1 := bL.cell 1 _ rfl
      have l2 := bL.cell 2 _ rfl
      by_cases hz1 : z < 1
      · have g1 : decide (z < 1) = true := by simpa using hz1
        go_wp2_with fail
        go_ret
        exact ⟨ret_int (vld_off HC.out fun h => by have := h.2.1; omega).symm, hB⟩
      have g1 : decide (z < 1) = false := by simpa using hz1
      by_cases hz2 : 60 < z
      · have g2 : decide (60 < z) = true := by simpa using hz2
        go_wp2_with fail
        go_ret
        exact ⟨ret_int (vld_off HC.out fun h => by have := h.2.2.1; omega).symm, hB⟩
      have g2 : decide (60 < z) = false := by simpa using hz2
      by_cases hp : ps.length = v.length
      · have g3 : ((ps.length : Int) != (v.length : Int)) = false := by rw [hp]; simp
        have Hp := Lib.hid hp
        have hz3 : 1 ≤ z := by omega
        have hz4 : z ≤ 60 := by omega
        have hp6 : ps.length ≤ 6 := by omega
        clear hz1 hz2 hp
        go_wp2_with fail
        go_loop [8, 47] (fun s i => ∃ k : Nat, k ≤ ps.length ∧ i = .int .i64 k ∧ s = .int .i64 (sumTo (iget ps) k) ∧ Hid (PriceOk z ps k)) (fun _ i => ps.length - (intOf i).toNat)
        case atStart => exact ⟨0, by omega, rfl, rfl, fun j hj => by omega⟩
        case round =>
          obtain ⟨k, hk, rfl, rfl, ht⟩ := hrel
          have hS := price_sum hz4 (by omega) ht.out
          by_cases hlt : k < ps.length
          · obtain ⟨b, o, rfl, _, hc⟩ := mP.get hlt
            have hk1 : (k : Int) < ps.length := by omega
            by_cases hlow : iget ps k < -10000000 * z
            · have hdl : decide (iget ps k < -10000000 * z) = true := by simpa using hlow
              have hn := Lib.hid (show ¬ VldP v r al ps z from fun h => by have := (h.2.2.2.2.1 k hlt).1; omega)
              clear hS hlow
              go_wp2_with fail
              go_ret
              exact ⟨ret_int (vld_off HC.out hn.out).symm, hB⟩
            · have hdl : decide (iget ps k < -10000000 * z) = false := by simpa using hlow
              by_cases hhi : 10000000 * z < iget ps k
              · have hdh : decide (10000000 * z < iget ps k) = true := by simpa using hhi
                have hn := Lib.hid (show ¬ VldP v r al ps z from fun h => by have := (h.2.2.2.2.1 k hlt).2; omega)
                clear hS hlow hhi
                go_wp2_with fail
                go_ret
                exact ⟨ret_int (vld_off HC.out hn.out).symm, hB⟩
              · have hdh : decide (10000000 * z < iget ps k) = false := by simpa using hhi
                have Hn := Lib.hid (show PriceOk z ps (k + 1) from snoc_all ht.out ⟨by omega, by omega⟩)
                have Hs : Hid (sumTo (iget ps) (k + 1) = sumTo (iget ps) k + iget ps k) := rfl
                generalize sumTo (iget ps) k = s0 at *
                obtain ⟨hS1, hS2⟩ := hS
                have e1 : -600000000 ≤ iget ps k := by omega
                have e2 : iget ps k ≤ 600000000 := by omega
                clear hlow hhi
                go_wp2_with fail
                go_round
                case rel => exact ⟨k + 1, by omega, by go_num, by rw [Hs.out], Hn⟩
                case measure => simp [intOf]; omega
          · have hk1 : ¬ (k : Int) < ps.length := by omega
            obtain rfl : k = ps.length := by omega
            obtain ⟨m1, m2⟩ := rz_bd hr1 hr2 hz3 hz4
            have hw : IntKind.i64.wrap (r * z) = r * z := IntWalk.i64_in _ (by omega)
            by_cases hq : sumTo (iget ps) ps.length = r * z
            · have g4 : (sumTo (iget ps) ps.length != r * z) = false := by rw [hq]; simp
              have Hq := Lib.hid hq
              clear hq
              go_wp2_with fail
              go_ret
              exact ⟨ret_int (vld_ok HC.out ⟨HA.out, hz3, hz4, Hp.out, ht.out, Hq.out⟩).symm, hB⟩
            · have g4 : (sumTo (iget ps) ps.length != r * z) = true := by rw [bne_iff_ne]; exact hq
              have Hq := Lib.hid hq
              clear hq
              go_wp2_with fail
              go_ret
              exact ⟨ret_int (vld_off HC.out fun h => Hq.out h.2.2.2.2.2).symm, hB⟩
      · have g3 : ((ps.length : Int) != (v.length : Int)) = true := by rw [bne_iff_ne]; omega
        have Hp := Lib.hid hp
        clear hp
        go_wp2_with fail
        go_ret
        exact ⟨ret_int (vld_off HC.out fun h => Hp.out h.2.2.2.1).symm, hB⟩
    · have hE : (valE v al != 0) = true := by unfold valE; rw [if_pos hv, if_neg hA]; rfl
      have hE8 : Hid (valE v al = 8) := by unfold Hid valE; rw [if_pos hv, if_neg hA]
      have HA := Lib.hid hA
      clear hA hv
      go_wp2_with fail
      go_ret
      rw [hE8.out]
      exact ⟨ret_int (vld_off HC.out fun h => HA.out h.1).symm, hB⟩
  · have hcz : (chkR v r != 0) = true := by rw [bne_iff_ne]; exact hC
    have HC := Lib.hid hC
    clear hC
    go_wp2_with fail
    go_ret
    exact ⟨ret_int (vld_bad HC.out).symm, hB⟩
end Go.Proofs.Ytmcncflieoolmaa
