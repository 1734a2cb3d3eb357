/-
  No cell of these rows narrows 'for every input' (looked for: loops, veiled, ifaces, maps, wideKeys, modest, calm, conditions, laid).
  DERIVED. THE GIVEN ROWS OF THIS SEAT. 5 by the template 'for every input the law returns true; each argument reads behind the call as it read before'; 0 by the template 'total and deterministic' (their statements: YtllcbcanohdepaaTotals.lean).
  GIVEN WITH THE SEED: the statements are not yours to turn. If you find one false, say at which input.
  Laid BY PROGRAM, IN A SANDBOX (cutbox-rows.mjs): the forced cells as the released guide's own fill.sh prints them over the translation 9e3ba6962c4f2406… (all of the seat's roots in one cut). By AI agents, Wed Nov 11 2026. No macro, syntax, notation, axiom, sorry.
-/
import Derived.Test.YtllcbcanohdepaaChecked
import GoSem.Claim
import GoSem.ClaimJoined
import GoSem.ClaimMapViews
import Derived.JoinedTies
import Derived.KernelRfl
namespace Go.Proofs.Ytllcbcanohdepaa
/- THE CELL 'sum', in the pinned program and in every row, IS THE sha256 OF THE DUMP (.gsa) THAT YtllcbcanohdepaaProg.lean LOADS. Nothing in Lean hashes anything: it is a label: what it is worth is what the hold of that sum in a sandbox is worth. -/
noncomputable def Try.pinned : Pinned := { name := "ytllcbcanohdepaa", sum := "9e3ba6962c4f2406c67ff3a7e80b90ddc0730efe9947b902c2e3550660ae4a59", checked := Try.checked }
namespace Rows
def none {H : Type} : Left H := { results := [], args := [] }

/-- 'parcenerlaw15.RentNames': WHATEVER THE INPUT: true; the input reads as it did. -/
def rentNamesSpec : ChangeSpec := { name := "rentNames", fn := fun _ => fun
  | [] => { results := [.lit (.bool true)], args := [] }
  | _ => none }
def rentNamesRow : OpenClaim := { program := "ytllcbcanohdepaa", sum := "9e3ba6962c4f2406c67ff3a7e80b90ddc0730efe9947b902c2e3550660ae4a59", func := "parcener/parcenerlaw15.RentNames", spec := "rentNames", inPlace := ["math/bits.Add64", "math/bits.Sub64"], unfollowed := true, recurses := true, named := ["math/bits.divideError", "math/bits.overflowError"], apart := false }
def RentNamesSaid : Prop := rentNamesRow.holds Try.pinned (OpenSpec.ofChange rentNamesSpec)

/-- ITS FALSE NEIGHBOUR: 'it returns false'. Refute it at one input. -/
def rentNamesWrong : ChangeSpec := { name := "rentNames", fn := fun _ => fun
  | [] => { results := [.lit (.bool false)], args := [] }
  | _ => none }
def RentNamesWrongFalsely : Prop := rentNamesRow.holds Try.pinned (OpenSpec.ofChange rentNamesWrong)

/-- 'parcenerlaw15.RentBest': WHATEVER THE INPUT: true; the input reads as it did. -/
def rentBestSpec : ChangeSpec := { name := "rentBest", fn := fun _ => fun
  | [d1, d2] => { results := [.lit (.bool true)], args := [d1, d2] }
  | _ => none }
def rentBestRow : OpenClaim := { program := "ytllcbcanohdepaa", sum := "9e3ba6962c4f2406c67ff3a7e80b90ddc0730efe9947b902c2e3550660ae4a59", func := "parcener/parcenerlaw15.RentBest", spec := "rentBest", inPlace := ["math/bits.Add64", "math/bits.Sub64"], unfollowed := true, recurses := true, named := ["math/bits.divideError", "math/bits.overflowError"], apart := false }
def RentBestSaid : Prop := rentBestRow.holds Try.pinned (OpenSpec.ofChange rentBestSpec)

/-- ITS FALSE NEIGHBOUR: 'it returns false'. Refute it at one input. -/
def rentBestWrong : ChangeSpec := { name := "rentBest", fn := fun _ => fun
  | [d1, d2] => { results := [.lit (.bool false)], args := [d1, d2] }
  | _ => none }
def RentBestWrongFalsely : Prop := rentBestRow.holds Try.pinned (OpenSpec.ofChange rentBestWrong)

/-- 'parcenerlaw15.RentCalm': WHATEVER THE INPUT: true; the input reads as it did. -/
def rentCalmSpec : ChangeSpec := { name := "rentCalm", fn := fun _ => fun
  | [d1, d2] => { results := [.lit (.bool true)], args := [d1, d2] }
  | _ => none }
def rentCalmRow : OpenClaim := { program := "ytllcbcanohdepaa", sum := "9e3ba6962c4f2406c67ff3a7e80b90ddc0730efe9947b902c2e3550660ae4a59", func := "parcener/parcenerlaw15.RentCalm", spec := "rentCalm", inPlace := ["math/bits.Add64", "math/bits.Sub64"], unfollowed := true, recurses := true, named := ["math/bits.divideError", "math/bits.overflowError"], apart := false }
def RentCalmSaid : Prop := rentCalmRow.holds Try.pinned (OpenSpec.ofChange rentCalmSpec)

/-- ITS FALSE NEIGHBOUR: 'it returns false'. Refute it at one input. -/
def rentCalmWrong : ChangeSpec := { name := "rentCalm", fn := fun _ => fun
  | [d1, d2] => { results := [.lit (.bool false)], args := [d1, d2] }
  | _ => none }
def RentCalmWrongFalsely : Prop := rentCalmRow.holds Try.pinned (OpenSpec.ofChange rentCalmWrong)

/-- 'parcenerlaw15.RentHeld': WHATEVER THE INPUT: true; the input reads as it did. -/
def rentHeldSpec : ChangeSpec := { name := "rentHeld", fn := fun _ => fun
  | [d1, d2] => { results := [.lit (.bool true)], args := [d1, d2] }
  | _ => none }
def rentHeldRow : OpenClaim := { program := "ytllcbcanohdepaa", sum := "9e3ba6962c4f2406c67ff3a7e80b90ddc0730efe9947b902c2e3550660ae4a59", func := "parcener/parcenerlaw15.RentHeld", spec := "rentHeld", inPlace := ["math/bits.Add64", "math/bits.Sub64"], unfollowed := true, recurses := true, named := ["math/bits.divideError", "math/bits.overflowError"], apart := false }
def RentHeldSaid : Prop := rentHeldRow.holds Try.pinned (OpenSpec.ofChange rentHeldSpec)

/-- ITS FALSE NEIGHBOUR: 'it returns false'. Refute it at one input. -/
def rentHeldWrong : ChangeSpec := { name := "rentHeld", fn := fun _ => fun
  | [d1, d2] => { results := [.lit (.bool false)], args := [d1, d2] }
  | _ => none }
def RentHeldWrongFalsely : Prop := rentHeldRow.holds Try.pinned (OpenSpec.ofChange rentHeldWrong)

/-- 'parcenerlaw15.RentRents': WHATEVER THE INPUT: true; the input reads as it did. -/
def rentRentsSpec : ChangeSpec := { name := "rentRents", fn := fun _ => fun
  | [d1, d2] => { results := [.lit (.bool true)], args := [d1, d2] }
  | _ => none }
def rentRentsRow : OpenClaim := { program := "ytllcbcanohdepaa", sum := "9e3ba6962c4f2406c67ff3a7e80b90ddc0730efe9947b902c2e3550660ae4a59", func := "parcener/parcenerlaw15.RentRents", spec := "rentRents", inPlace := ["math/bits.Add64", "math/bits.Sub64"], unfollowed := true, recurses := true, named := ["math/bits.divideError", "math/bits.overflowError"], apart := false }
def RentRentsSaid : Prop := rentRentsRow.holds Try.pinned (OpenSpec.ofChange rentRentsSpec)

/-- ITS FALSE NEIGHBOUR: 'it returns false'. Refute it at one input. -/
def rentRentsWrong : ChangeSpec := { name := "rentRents", fn := fun _ => fun
  | [d1, d2] => { results := [.lit (.bool false)], args := [d1, d2] }
  | _ => none }
def RentRentsWrongFalsely : Prop := rentRentsRow.holds Try.pinned (OpenSpec.ofChange rentRentsWrong)

/- THE SECOND FORM. 'bulk': how many values and letters a reading holds, each counted each time it is reached (what is shared counts as often as it is met; a slice's spare places count too). A statement '..UptoSaid' is the law's where the arguments, and the package variables that the reading takes, are together of bulk at most 1048576: NARROWER than '..Said'. Prove '..Said' where nothing that the law and all that it calls make is longer than what came in: it says more and counts as full. Else prove '..UptoSaid'. A law counts once. -/
mutual
def uptoBulk {H : Type} : DataW H → Nat
  | .lit (.string bytes) => bytes.length + 1
  | .lit _ => 1
  | .nil => 1
  | .ptr d => uptoBulk d + 1
  | .slice elems spare => uptoBulkAll elems + uptoBulkAll spare + 1
  | .agg parts => uptoBulkAll parts + 1
  | .iface _ d => uptoBulk d + 1
  | .map entries => uptoBulkEntries entries + 1
  | .held _ => 1
def uptoBulkAll {H : Type} : List (DataW H) → Nat
  | [] => 0
  | d :: r => uptoBulk d + uptoBulkAll r
def uptoBulkEntries {H : Type} : List (Lit × DataW H) → Nat
  | [] => 0
  | x :: r => uptoBulkEntry x + uptoBulkEntries r
def uptoBulkEntry {H : Type} : Lit × DataW H → Nat
  | (.string bytes, d) => bytes.length + uptoBulk d + 1
  | (_, d) => uptoBulk d + 1
 end
def uptoSmall : (H : Type) → List (DataW H) → Bool := fun _ ds => decide (uptoBulkAll ds ≤ 1048576)
def OpenSpec.upto (s : _root_.Go.ChangeSpec) : _root_.Go.OpenSpec := { _root_.Go.OpenSpec.ofChange s with cond := some uptoSmall }

/-- 'parcenerlaw15.RentNames', WHERE WHAT IT READS IS OF BULK AT MOST 1048576: true; the input reads as it did. -/
def rentNamesUptoRow : OpenClaim := { program := "ytllcbcanohdepaa", sum := "9e3ba6962c4f2406c67ff3a7e80b90ddc0730efe9947b902c2e3550660ae4a59", func := "parcener/parcenerlaw15.RentNames", spec := "rentNames", inPlace := ["math/bits.Add64", "math/bits.Sub64"], unfollowed := true, recurses := true, named := ["math/bits.divideError", "math/bits.overflowError"], apart := false, narrowed := true }
def RentNamesUptoSaid : Prop := rentNamesUptoRow.holds Try.pinned (OpenSpec.upto rentNamesSpec)

/-- 'parcenerlaw15.RentBest', WHERE WHAT IT READS IS OF BULK AT MOST 1048576: true; the input reads as it did. -/
def rentBestUptoRow : OpenClaim := { program := "ytllcbcanohdepaa", sum := "9e3ba6962c4f2406c67ff3a7e80b90ddc0730efe9947b902c2e3550660ae4a59", func := "parcener/parcenerlaw15.RentBest", spec := "rentBest", inPlace := ["math/bits.Add64", "math/bits.Sub64"], unfollowed := true, recurses := true, named := ["math/bits.divideError", "math/bits.overflowError"], apart := false, narrowed := true }
def RentBestUptoSaid : Prop := rentBestUptoRow.holds Try.pinned (OpenSpec.upto rentBestSpec)

/-- 'parcenerlaw15.RentCalm', WHERE WHAT IT READS IS OF BULK AT MOST 1048576: true; the input reads as it did. -/
def rentCalmUptoRow : OpenClaim := { program := "ytllcbcanohdepaa", sum := "9e3ba6962c4f2406c67ff3a7e80b90ddc0730efe9947b902c2e3550660ae4a59", func := "parcener/parcenerlaw15.RentCalm", spec := "rentCalm", inPlace := ["math/bits.Add64", "math/bits.Sub64"], unfollowed := true, recurses := true, named := ["math/bits.divideError", "math/bits.overflowError"], apart := false, narrowed := true }
def RentCalmUptoSaid : Prop := rentCalmUptoRow.holds Try.pinned (OpenSpec.upto rentCalmSpec)

/-- 'parcenerlaw15.RentHeld', WHERE WHAT IT READS IS OF BULK AT MOST 1048576: true; the input reads as it did. -/
def rentHeldUptoRow : OpenClaim := { program := "ytllcbcanohdepaa", sum := "9e3ba6962c4f2406c67ff3a7e80b90ddc0730efe9947b902c2e3550660ae4a59", func := "parcener/parcenerlaw15.RentHeld", spec := "rentHeld", inPlace := ["math/bits.Add64", "math/bits.Sub64"], unfollowed := true, recurses := true, named := ["math/bits.divideError", "math/bits.overflowError"], apart := false, narrowed := true }
def RentHeldUptoSaid : Prop := rentHeldUptoRow.holds Try.pinned (OpenSpec.upto rentHeldSpec)

/-- 'parcenerlaw15.RentRents', WHERE WHAT IT READS IS OF BULK AT MOST 1048576: true; the input reads as it did. -/
def rentRentsUptoRow : OpenClaim := { program := "ytllcbcanohdepaa", sum := "9e3ba6962c4f2406c67ff3a7e80b90ddc0730efe9947b902c2e3550660ae4a59", func := "parcener/parcenerlaw15.RentRents", spec := "rentRents", inPlace := ["math/bits.Add64", "math/bits.Sub64"], unfollowed := true, recurses := true, named := ["math/bits.divideError", "math/bits.overflowError"], apart := false, narrowed := true }
def RentRentsUptoSaid : Prop := rentRentsUptoRow.holds Try.pinned (OpenSpec.upto rentRentsSpec)

end Rows
end Go.Proofs.Ytllcbcanohdepaa
