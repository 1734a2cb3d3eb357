/- The walk of the reference's SameInts; equal lists compared: true; no condition. -/
import Derived.Test.YtknincjfcicjfaaPure13
namespace Go.Proofs.Ytknincjfcicjfaa
set_option linter.unusedVariables false
set_option linter.unusedSimpArgs false
open Go.ChangeShapes Go.WideShapes Go.ChangeAt Go.RowKit Go.Deep

theorem drew_below25 {w w' : World} (h : ∃ n, w' = w.drewN n) : Below w.heap.size w w' := by obtain ⟨n, rfl⟩ := h; exact below_drewN _ _ _
def sameB (xs ys : List Int) : Bool := decide (xs = ys)
theorem sameB_true {xs ys : List Int} (h : xs = ys) : sameB xs ys = true := by simp [sameB, h]
theorem take_ext {xs ys : List Int} (h : ∀ j, j < xs.length → iget xs j = iget ys j) (hl : xs.length = ys.length) : xs = ys := by
  apply List.ext_getElem hl
  intro i h1 h2
  have := h i h1
  rwa [iget_of h1, iget_of h2] at this

theorem snoc_all {P : Nat → Prop} {k : Nat} (h : ∀ j, j < k → P j) (hk : P k) : ∀ j, j < k + 1 → P j := fun j hj => by
  by_cases e : j = k
  · exact e ▸ hk
  · exact h j (by omega)

set_option maxHeartbeats 400000 in
theorem same25_any (p q : Option Addr) (c d : Nat) (xs ys : List Int) (w : World) (hx : Ints w p c xs) (hy : Ints w q d ys) :
    Calls Try.prog 16 #[.slice p xs.length c, .slice q ys.length d] w fun e w' => e = .returned (.bool (sameB xs ys)) ∧ ∃ n, w' = w.drewN n := by
  by_cases hl : xs.length = ys.length
  · have hb : ((xs.length : Int) != ys.length) = false := by simp [hl]
    have Hl := Lib.hid hl
    clear hl
    go_enter Try.func16, Try.ntmps16
    go_wp2
    go_loopw [5] (fun i wr => ∃ k : Nat, k ≤ xs.length ∧ i = .int .i64 k ∧ (Hid (∀ j, j < k → iget xs j = iget ys j)) ∧ ∃ n, wr = w.drewN n) (fun i _ => xs.length - (intOf i).toNat)
    case atStart => exact ⟨0, Nat.zero_le _, rfl, fun j hj => by omega, 0, rfl⟩
    case round =>
      obtain ⟨k, hk, rfl, ht, n, rfl⟩ := hrel
      by_cases hlt : k < xs.length
      · obtain ⟨b, o, rfl, _, hc⟩ := hx.get hlt
        have hlt' : k < ys.length := by rw [← Hl.out]; exact hlt
        obtain ⟨b', o', rfl, _, hc'⟩ := hy.get hlt'
        have hk1 : (k : Int) < xs.length := by omega
        have hk2 : (k : Int) < ys.length := by omega
        have hl1 := hx.length_le
        go_wp2
        go_quiet (fail)
        go_wp2
        · have hne : (iget xs k != iget ys k) = true := by assumption
          go_ret
          refine ⟨ret_bool ?_, drew_drewN _ ⟨_, rfl⟩⟩
          simp only [sameB]
          symm
          rw [decide_eq_false_iff_not]
          rintro rfl
          simp at hne
        · have he : (iget xs k != iget ys k) = false := by assumption
          go_roundw
          case rel => exact ⟨k + 1, by omega, by go_num, snoc_all ht.out (by simpa using he), _, rfl⟩
          case measure => simp [intOf]; omega
      · have hk1 : ¬ (k : Int) < xs.length := by omega
        go_wp2
        go_ret
        refine ⟨ret_bool ?_, _, rfl⟩
        rw [sameB_true]
        exact take_ext (fun j hj => ht.out j (by omega)) Hl.out
  · have hb : ((xs.length : Int) != ys.length) = true := by simp; omega
    have Hl := Lib.hid hl
    clear hl
    go_enter Try.func16, Try.ntmps16
    go_wp2
    go_ret
    refine ⟨ret_bool ?_, 0, rfl⟩
    simp only [sameB]
    symm
    rw [decide_eq_false_iff_not]
    rintro rfl
    exact Hl.out rfl

/-- Equal lists, laid twice. -/
theorem eq25_true {p q : Option Addr} {c d : Nat} {xs : List Int} {w : World} (hx : Ints w p c xs) (hy : Ints w q d xs) :
    Calls Try.prog 16 #[.slice p xs.length c, .slice q xs.length d] w fun e w' => e = .returned (.bool true) ∧ ∃ n, w' = w.drewN n := by
  refine (same25_any p q c d xs xs w hx hy).mono ?_
  rintro e w' ⟨he, hw⟩
  exact ⟨by rw [he, sameB_true rfl], hw⟩
end Go.Proofs.Ytknincjfcicjfaa
