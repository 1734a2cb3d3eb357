/- The walks of the reference's Circle, and of its comparing of marks, at equal rows. -/
import Derived.Test.YtiohehofnlmenaaCircB
import Derived.Test.YtiohehofnlmenaaChoresD
namespace Go.Proofs.Ytiohehofnlmenaa
set_option linter.unusedVariables false
set_option linter.unusedSimpArgs false
open Go.ChangeShapes Go.WideShapes Go.ChangeAt Go.RowKit Go.Deep

set_option maxHeartbeats 4000000 in
set_option maxRecDepth 100000 in
theorem ref24Circle_any (p : Option Addr) (c : Nat) (v : List (List Int)) (q : Option Addr) (d : Nat) (a : List Int) (w : World) (hx : Mat w p c v) (hi : Ints w q d a) :
    Calls Try.prog 20 #[.agg #[.slice p v.length c], .slice q a.length d] w (Gives2 w (circL v a) (chkA v a)) := by
  obtain ⟨W0, hW0⟩ : ∃ W0, w.alloc (.cells #[.slice p v.length c] 24) = W0 := ⟨_, rfl⟩
  have hB : Below w.heap.size w W0 := below_alloc hW0
  have bX : BoxV W0 w.heap.size [.slice p v.length c] := BoxV.new rfl hW0
  have hx := hx.below hB (Nat.le_refl _)
  have hi := hi.below hB (Nat.le_refl _)
  have x0 := bX.cell 0 _ rfl
  have HW0 := Lib.hid hW0
  clear hW0
  have hl1 := hx.length_le
  have hl2 := hi.length_le
  go_enter Try.func20, Try.ntmps20
  go_wp2_with fail
  rw [HW0.out]
  refine (ref16Valid_any p c v q d a _ hx hi).mono ?_
  rintro e w1 ⟨rfl, hb1⟩
  replace hx := hx.below hb1 (Nat.le_refl _)
  replace hi := hi.below hb1 (Nat.le_refl _)
  replace bX := bX.below hb1
  replace x0 := bX.cell 0 _ rfl
  replace hB := hB.trans (hb1.mono hB.size)
  clear hb1
  by_cases hF : chkA v a = 0
  · have HL := Lib.hid (circL_ok hF)
    have HF := Lib.hid hF
    have hz : (chkA v a != 0) = false := by rw [hF]; rfl
    obtain ⟨hg, ha⟩ := chkA_zero.1 hF
    have HC := Lib.hid (ref24top_any p c v q d a _ hx hi hg ha)
    clear hg ha hF
    go_wp2_with fail
    refine HC.out.mono ?_
    rintro e w2 ⟨p2, c2, rfl, hO, hb2⟩
    go_wp2_with fail
    go_ret2
    rw [HL.out, HF.out]
    exact ⟨p2, c2, rfl, hO.lower hB.size, hB.trans (hb2.mono hB.size)⟩
  · have hz : (chkA v a != 0) = true := by rw [bne_iff_ne]; exact hF
    have HL := Lib.hid (circL_err hF)
    have HC := Lib.hid (ref16Valid_any p c v q d a _ hx hi)
    clear hF
    go_wp2_with fail
    refine HC.out.mono ?_
    rintro e w2 ⟨rfl, hb2⟩
    go_wp2_with fail
    go_ret2
    rw [HL.out]
    exact ⟨none, 0, rfl, Own.ofNil _ _, hB.trans (hb2.mono hB.size)⟩

set_option maxHeartbeats 800000 in
theorem sameMarks_any (p q : Option Addr) (c d b0 b1 : Nat) (xs : List Trip) (w : World) (hx : OwnT 75 w b0 p c xs) (hy : OwnT 75 w b1 q d xs) :
    Calls Try.prog 21 #[.slice p xs.length c, .slice q xs.length d] w fun e w' => e = .returned (.bool true) ∧ ∃ n, w' = w.drewN n := by
  have hl := hx.cap
  have he : ((xs.length : Int) != (xs.length : Int)) = false := by simp
  go_enter Try.func21, Try.ntmps21
  go_wp2_with fail
  go_loopw [5] (fun i wr => ∃ k : Nat, k ≤ xs.length ∧ i = .int .i64 k ∧ ∃ n, wr = w.drewN n) (fun i _ => xs.length - (intOf i).toNat)
  case atStart => exact ⟨0, by omega, rfl, drew_refl w⟩
  case round =>
    obtain ⟨k, hk, rfl, hw⟩ := hrel
    have hx := hx.drew hw
    have hy := hy.drew hw
    have Hw := Lib.hid hw
    clear hw
    by_cases hlt : k < xs.length
    · obtain ⟨g, rfl, _, _, c1, c2, c3⟩ := hx.get hlt
      obtain ⟨g', rfl, _, _, c4, c5, c6⟩ := hy.get hlt
      have hk1 : (k : Int) < xs.length := by omega
      generalize (tget xs k).1 = y0 at *
      generalize (tget xs k).2.1 = y1 at *
      generalize (tget xs k).2.2 = y2 at *
      go_wp2_with fail
      go_quiet (fail)
      go_wp2_with fail
      go_roundw
      case rel => exact ⟨k + 1, by omega, by go_num, drew_drewN _ Hw.out⟩
      case measure => simp [intOf]; omega
    · have hk1 : ¬ (k : Int) < xs.length := by omega
      go_wp2_with fail
      go_ret
      exact ⟨rfl, Hw.out⟩
end Go.Proofs.Ytiohehofnlmenaa
