/- The arguments of a law that are goods, as they are read; no condition. -/
import Derived.Test.YtiohehofnlmenaaOpen
namespace Go.Proofs.Ytiohehofnlmenaa
set_option linter.unusedVariables false
set_option maxRecDepth 100000
set_option linter.unusedSimpArgs false
open Go.ChangeShapes Go.WideShapes Go.ChangeAt Go.RowKit Go.Deep
variable {H : Type} {enc : TypeId × Value → H} {w : World}
theorem open_goodsV {v : Value} {d : DataW H} {ps : List MemPlace} {base : Nat} (hv : Value.okWide Try.prog w .any base 24 v)
    (h : DataW.Trod enc Try.prog w 0 (fun _ => true) true 24 v d ps) : ∃ (p : Option Addr) (c : Nat) (m : List (List Int)), v = .agg #[.slice p m.length c] ∧ Mat w p c m := by
  obtain ⟨cs, rfl, hsz⟩ := okWide_struct Try.underlying24 hv
  have hC : Try.prog.cellsOf 24 = 1 := by kernel_rfl
  obtain ⟨v0, rfl⟩ : ∃ v0, cs = #[v0] := by
    obtain ⟨l⟩ := cs
    match l, (hsz.trans hC : l.length = 1) with
    | [v0], _ => exact ⟨v0, rfl⟩
  have hC2 : Try.prog.cellsOf 22 = 1 := by kernel_rfl
  obtain ⟨fuel, hf⟩ := h
  obtain ⟨y0, n, hx, _, h0⟩ := trod_struct1 Try.underlying24 hf
  obtain ⟨p, c, m, rfl, hm⟩ := open_matC (v := v0) (y := y0) (n := n) (by simpa [Value.cells, hC2] using h0)
  exact ⟨p, c, m, rfl, hm⟩
end Go.Proofs.Ytiohehofnlmenaa
