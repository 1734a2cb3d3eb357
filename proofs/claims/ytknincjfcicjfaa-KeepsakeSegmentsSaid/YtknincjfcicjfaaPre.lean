/- 's[:m]' of a row of ints, whatever lies behind it; no condition but the size. -/
import Derived.Test.YtknincjfcicjfaaOwnMat
namespace Go.Proofs.Ytknincjfcicjfaa
open Go.ChangeShapes Go.WideShapes Go.ChangeAt Go.RowKit Go.Deep
theorem run_pre (a : Option Addr) (len cap m : Nat) (hm : m ≤ cap) (W : World) :
    (Instr.slice 23 (.slice a len cap) none (some (.int .i64 (m : Int))) none).run Try.prog W = .ok (.slice a m cap) W := by
  have h0 := run_slice_h (P := Try.prog) W 23 a len cap (by kernel_rfl) .i64 (m : Int) (by omega) (by omega)
  rw [h0]
  have hs : ∀ W, (sizeOf (Try.prog.elem 23)).run Try.prog W = .ok 1 W := fun W => by
    have := Try.sizeOf3
    simp [go_sem, this]
  rw [hs]
  simp only [Result.andThen, sliced, Int.toNat_natCast, Nat.sub_zero]
  split
  · rfl
  · cases a with
    | none => rfl
    | some a => simp [Addr.add]
end Go.Proofs.Ytknincjfcicjfaa
