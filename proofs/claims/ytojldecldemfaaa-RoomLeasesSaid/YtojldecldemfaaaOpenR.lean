/- The arguments of a law that are flats and leases, as they are read; no condition. -/
import Derived.Test.YtojldecldemfaaaOpen
namespace Go.Proofs.Ytojldecldemfaaa
set_option linter.unusedVariables false
set_option maxRecDepth 100000
set_option linter.unusedSimpArgs false
open Go.ChangeShapes Go.WideShapes Go.ChangeAt Go.RowKit Go.Deep
variable {H : Type} {enc : TypeId × Value → H} {w : World}
theorem open_roomsV {v : Value} {d : DataW H} {ps : List MemPlace} {base : Nat} (hv : Value.okWide Try.prog w .any base 24 v)
    (h : DataW.Trod enc Try.prog w 0 (fun _ => true) true 24 v d ps) : ∃ (p : Option Addr) (c : Nat) (m : List (List Int)) (r : Int), v = .agg #[.slice p m.length c, .int .i64 r] ∧ Mat w p c m ∧ in64 r := by
  obtain ⟨v0, v1, y0, y1, n, rfl, _, _, h0, h1⟩ := Go.Joins.open_agg2 Try.underlying24 (by kernel_rfl) (by kernel_rfl) hv h
  obtain ⟨p, c, m, rfl, hm⟩ := open_matC h0
  obtain ⟨x, rfl, hx⟩ := open_intC h1
  exact ⟨p, c, m, x, rfl, hm, hx⟩
theorem open_leaseV {v : Value} {d : DataW H} {ps : List MemPlace} {base : Nat} (hv : Value.okWide Try.prog w .any base 28 v)
    (h : DataW.Trod enc Try.prog w 0 (fun _ => true) true 28 v d ps) :
    ∃ (p : Option Addr) (c : Nat) (xs : List Int) (q : Option Addr) (e : Nat) (ys : List Int) (z : Int), v = .agg #[.slice p xs.length c, .slice q ys.length e, .int .i64 z] ∧ Ints w p c xs ∧ Ints w q e ys ∧ in64 z := by
  obtain ⟨v0, v1, v2, y0, y1, y2, n, rfl, _, _, h0, h1, h2⟩ := Go.Joins.open_agg3 Try.underlying28 (by kernel_rfl) (by kernel_rfl) hv h
  obtain ⟨p, c, xs, rfl, hx⟩ := open_intsC h0
  obtain ⟨q, e, ys, rfl, hy⟩ := open_intsC h1
  obtain ⟨z, rfl, hz⟩ := open_intC h2
  exact ⟨p, c, xs, q, e, ys, z, rfl, hx, hy, hz⟩
end Go.Proofs.Ytojldecldemfaaa
