/- slices.Sorted(slices.Values(a)) at a list of ints: what it returns; no condition but the size. -/
import Derived.Test.YtknincjfcicjfaaIter
import Derived.Test.YtknincjfcicjfaaSort
import Derived.Sort.OwnSortedInts
namespace Go.Proofs.Ytknincjfcicjfaa
set_option linter.unusedSimpArgs false
open Go.ChangeShapes Go.WideShapes Go.ChangeAt Go.RowKit Go.Deep
set_option linter.unusedVariables false

/-- The list in order. -/
def srt (xs : List Int) : List Int := xs.mergeSort fun x y => decide (x ≤ y)
theorem srt_length (xs : List Int) : (srt xs).length = xs.length := List.length_mergeSort _
theorem srt_perm (xs : List Int) : (srt xs).Perm xs := List.mergeSort_perm _ _
theorem srt_sorted (xs : List Int) : (srt xs).Pairwise (· ≤ ·) := by
  have := List.pairwise_mergeSort (le := fun (x y : Int) => decide (x ≤ y)) (fun a b c h1 h2 => by simp at *; omega) (fun a b => by simp; omega) xs
  exact this.imp (fun h => by simpa using h)

theorem srt_own {W w' : World} {base g c : Nat} {zs : List Int} {n : Nat} {os : Array Obj} (ho : Own W base (some ⟨g, 0, none⟩) c zs) (hw' : w' = Go.Sort.grow (Go.Sort.putRow (Value.int .i64) (Go.Sort.ahead W n) g 0 (srt zs).toArray) os) :
    Own w' base (some ⟨g, 0, none⟩) c (srt zs) ∧ W.grownBy w' (some g) := by
  subst hw'
  rcases ho.row.2 with ⟨h1, _⟩ | ⟨g', cap, cur, h1, h2, h3, h4, h5, h6, h7⟩
  · simp at h1
  · simp only [Value.slice.injEq, Option.some.injEq, Addr.mk.injEq, and_true, true_and] at h1
    obtain ⟨rfl, rfl⟩ := h1
    refine ⟨⟨?_, fun j hj => ?_⟩, grownBy_sortedI _⟩
    · have := ownsRow_sortedI (n := n) (os := os) (srt_length zs) h2 h3 h4 h5 h6
      rw [srt_length]
      exact this
    · have hm : iget (srt zs) j ∈ zs := (srt_perm zs).mem_iff.1 (iget_mem hj)
      obtain ⟨k, hk, he⟩ := List.getElem_of_mem hm
      rw [← he, ← iget_of hk]
      exact ho.rng k hk

set_option maxHeartbeats 1000000 in
theorem collect_any (Bs : Nat) (p : Option Addr) (c : Nat) (zs : List Int) (hz : zs.length ≤ 1000000) (w : World)
    (hBs : Bs < w.heap.size) (hc : w.cell? ⟨Bs, 0, none⟩ = some (.slice p zs.length c)) (hI : Ints w p c zs) :
    Calls Try.prog 60 #[.func (.func 62) #[] #[.pointer (some ⟨Bs, 0, none⟩)]] w fun e w' => ∃ p' c', e = .returned (.slice p' zs.length c') ∧ Own w' w.heap.size p' c' zs ∧ Below w.heap.size w w' :=
  (callsIn_wide (n := 6)).1 (collect_in Fence.wide 6 trivial trivial trivial rfl (by omega) Bs p c zs hz w hBs hc hI)

theorem values_any (a : Option Addr) (len cap : Nat) (w : World) :
    Calls Try.prog 54 #[.slice a len cap] w fun e w' => e = .returned (.func (.func 62) #[] #[.pointer (some ⟨w.heap.size, 0, none⟩)]) ∧ w' = w.alloc (.cells #[.slice a len cap] 23) :=
  (callsIn_wide (n := 6)).1 (values_in Fence.wide 6 trivial rfl a len cap w)

theorem sorted_any (Bs : Nat) (p : Option Addr) (c : Nat) (zs : List Int) (hz : zs.length ≤ 1000000) (w : World)
    (hBs : Bs < w.heap.size) (hc : w.cell? ⟨Bs, 0, none⟩ = some (.slice p zs.length c)) (hI : Ints w p c zs) :
    Calls Try.prog 53 #[.func (.func 62) #[] #[.pointer (some ⟨Bs, 0, none⟩)]] w fun e w' => ∃ p' c', e = .returned (.slice p' (srt zs).length c') ∧ Own w' w.heap.size p' c' (srt zs) ∧ Below w.heap.size w w' := by
  go_enter Try.func53, Try.ntmps53
  go_wp2_with fail
  refine (collect_any Bs p c zs hz w hBs hc hI).mono ?_
  rintro e W ⟨p', c', rfl, ho, hb⟩
  rcases ho.shape with ⟨rfl, rfl, h0⟩ | ⟨g, rfl, h1, h2, h3, h4⟩
  · have hn : zs.length = 0 := by rw [h0]; rfl
    rw [hn]
    go_wp2_with fail
    refine (Try.slices_Sort_int_none none 0 W).mono ?_
    rintro e w' ⟨rfl, rfl⟩
    go_wp2_with fail
    go_ret
    refine ⟨none, 0, by rw [srt_length, hn]; rfl, ?_, hb⟩
    rw [h0, show srt [] = [] from by simp [srt]]; exact Own.ofNil _ _
  · go_wp2_with fail
    refine (Try.slices_Sort_int g 0 c' zs W ?_ h2 (by omega)).mono ?_
    · intro j hj
      have hj' : j < zs.length := by simpa using hj
      refine ⟨?_, ho.free _⟩
      rw [Nat.zero_add, ho.at hj', iget_of hj']; simp [hj']
    rintro e w' ⟨rfl, n, os, hw⟩
    obtain ⟨ho', hg⟩ := srt_own ho hw
    clear hw
    go_wp2_with fail
    go_ret
    exact ⟨_, c', by rw [srt_length]; rfl, ho', hb.grown hg hb.size (fun k e => by cases e; exact h1)⟩

end Go.Proofs.Ytknincjfcicjfaa
