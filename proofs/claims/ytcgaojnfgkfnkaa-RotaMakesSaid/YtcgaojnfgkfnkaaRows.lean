/-
  No cell of these rows narrows 'for every input' (looked for: loops, veiled, ifaces, maps, wideKeys, modest, calm, conditions, laid).
  DERIVED. THE GIVEN ROWS OF THIS SEAT. 7 by the template 'for every input the law returns true; each argument reads behind the call as it read before'; 0 by the template 'total and deterministic' (their statements: YtcgaojnfgkfnkaaTotals.lean).
  GIVEN WITH THE SEED: the statements are not yours to turn. If you find one false, say at which input.
  Laid BY PROGRAM, IN A SANDBOX (cutbox-rows.mjs): the forced cells as the released guide's own fill.sh prints them over the translation 2dc24cecab37fbda… (all of the seat's roots in one cut). By AI agents, Wed Nov 11 2026. No macro, syntax, notation, axiom, sorry.
-/
import Derived.Test.YtcgaojnfgkfnkaaChecked
import GoSem.Claim
import GoSem.ClaimJoined
import GoSem.ClaimMapViews
import Derived.JoinedTies
import Derived.KernelRfl
namespace Go.Proofs.Ytcgaojnfgkfnkaa
/- THE CELL 'sum', in the pinned program and in every row, IS THE sha256 OF THE DUMP (.gsa) THAT YtcgaojnfgkfnkaaProg.lean LOADS. Nothing in Lean hashes anything: it is a label: what it is worth is what the hold of that sum in a sandbox is worth. -/
noncomputable def Try.pinned : Pinned := { name := "ytcgaojnfgkfnkaa", sum := "2dc24cecab37fbda8c273314b90a4fc04e6527b639fad4cbb8903928abf595f1", checked := Try.checked }
namespace Rows
def none {H : Type} : Left H := { results := [], args := [] }

/-- 'parcenerlaw32.RotaCheapest': WHATEVER THE INPUT: true; the input reads as it did. -/
def rotaCheapestSpec : ChangeSpec := { name := "rotaCheapest", fn := fun _ => fun
  | [d1, d2] => { results := [.lit (.bool true)], args := [d1, d2] }
  | _ => none }
def rotaCheapestRow : OpenClaim := { program := "ytcgaojnfgkfnkaa", sum := "2dc24cecab37fbda8c273314b90a4fc04e6527b639fad4cbb8903928abf595f1", func := "parcener/parcenerlaw32.RotaCheapest", spec := "rotaCheapest", unfollowed := true, recurses := true, apart := false }
def RotaCheapestSaid : Prop := rotaCheapestRow.holds Try.pinned (OpenSpec.ofChange rotaCheapestSpec)

/-- ITS FALSE NEIGHBOUR: 'it returns false'. Refute it at one input. -/
def rotaCheapestWrong : ChangeSpec := { name := "rotaCheapest", fn := fun _ => fun
  | [d1, d2] => { results := [.lit (.bool false)], args := [d1, d2] }
  | _ => none }
def RotaCheapestWrongFalsely : Prop := rotaCheapestRow.holds Try.pinned (OpenSpec.ofChange rotaCheapestWrong)

/-- 'parcenerlaw32.RotaMakes': WHATEVER THE INPUT: true; the input reads as it did. -/
def rotaMakesSpec : ChangeSpec := { name := "rotaMakes", fn := fun _ => fun
  | [d1, d2, d3, d4] => { results := [.lit (.bool true)], args := [d1, d2, d3, d4] }
  | _ => none }
def rotaMakesRow : OpenClaim := { program := "ytcgaojnfgkfnkaa", sum := "2dc24cecab37fbda8c273314b90a4fc04e6527b639fad4cbb8903928abf595f1", func := "parcener/parcenerlaw32.RotaMakes", spec := "rotaMakes", unfollowed := true, recurses := true, apart := false }
def RotaMakesSaid : Prop := rotaMakesRow.holds Try.pinned (OpenSpec.ofChange rotaMakesSpec)

/-- ITS FALSE NEIGHBOUR: 'it returns false'. Refute it at one input. -/
def rotaMakesWrong : ChangeSpec := { name := "rotaMakes", fn := fun _ => fun
  | [d1, d2, d3, d4] => { results := [.lit (.bool false)], args := [d1, d2, d3, d4] }
  | _ => none }
def RotaMakesWrongFalsely : Prop := rotaMakesRow.holds Try.pinned (OpenSpec.ofChange rotaMakesWrong)

/-- 'parcenerlaw32.RotaAdds': WHATEVER THE INPUT: true; the input reads as it did. -/
def rotaAddsSpec : ChangeSpec := { name := "rotaAdds", fn := fun _ => fun
  | [d1, d2, d3, d4, d5] => { results := [.lit (.bool true)], args := [d1, d2, d3, d4, d5] }
  | _ => none }
def rotaAddsRow : OpenClaim := { program := "ytcgaojnfgkfnkaa", sum := "2dc24cecab37fbda8c273314b90a4fc04e6527b639fad4cbb8903928abf595f1", func := "parcener/parcenerlaw32.RotaAdds", spec := "rotaAdds", unfollowed := true, recurses := true, apart := false }
def RotaAddsSaid : Prop := rotaAddsRow.holds Try.pinned (OpenSpec.ofChange rotaAddsSpec)

/-- ITS FALSE NEIGHBOUR: 'it returns false'. Refute it at one input. -/
def rotaAddsWrong : ChangeSpec := { name := "rotaAdds", fn := fun _ => fun
  | [d1, d2, d3, d4, d5] => { results := [.lit (.bool false)], args := [d1, d2, d3, d4, d5] }
  | _ => none }
def RotaAddsWrongFalsely : Prop := rotaAddsRow.holds Try.pinned (OpenSpec.ofChange rotaAddsWrong)

/-- 'parcenerlaw32.RotaFollows': WHATEVER THE INPUT: true; the input reads as it did. -/
def rotaFollowsSpec : ChangeSpec := { name := "rotaFollows", fn := fun _ => fun
  | [d1, d2, d3] => { results := [.lit (.bool true)], args := [d1, d2, d3] }
  | _ => none }
def rotaFollowsRow : OpenClaim := { program := "ytcgaojnfgkfnkaa", sum := "2dc24cecab37fbda8c273314b90a4fc04e6527b639fad4cbb8903928abf595f1", func := "parcener/parcenerlaw32.RotaFollows", spec := "rotaFollows", unfollowed := true, recurses := true, apart := false }
def RotaFollowsSaid : Prop := rotaFollowsRow.holds Try.pinned (OpenSpec.ofChange rotaFollowsSpec)

/-- ITS FALSE NEIGHBOUR: 'it returns false'. Refute it at one input. -/
def rotaFollowsWrong : ChangeSpec := { name := "rotaFollows", fn := fun _ => fun
  | [d1, d2, d3] => { results := [.lit (.bool false)], args := [d1, d2, d3] }
  | _ => none }
def RotaFollowsWrongFalsely : Prop := rotaFollowsRow.holds Try.pinned (OpenSpec.ofChange rotaFollowsWrong)

/-- 'parcenerlaw32.RotaFair': WHATEVER THE INPUT: true; the input reads as it did. -/
def rotaFairSpec : ChangeSpec := { name := "rotaFair", fn := fun _ => fun
  | [d1, d2, d3] => { results := [.lit (.bool true)], args := [d1, d2, d3] }
  | _ => none }
def rotaFairRow : OpenClaim := { program := "ytcgaojnfgkfnkaa", sum := "2dc24cecab37fbda8c273314b90a4fc04e6527b639fad4cbb8903928abf595f1", func := "parcener/parcenerlaw32.RotaFair", spec := "rotaFair", unfollowed := true, recurses := true, apart := false }
def RotaFairSaid : Prop := rotaFairRow.holds Try.pinned (OpenSpec.ofChange rotaFairSpec)

/-- ITS FALSE NEIGHBOUR: 'it returns false'. Refute it at one input. -/
def rotaFairWrong : ChangeSpec := { name := "rotaFair", fn := fun _ => fun
  | [d1, d2, d3] => { results := [.lit (.bool false)], args := [d1, d2, d3] }
  | _ => none }
def RotaFairWrongFalsely : Prop := rotaFairRow.holds Try.pinned (OpenSpec.ofChange rotaFairWrong)

/-- 'parcenerlaw32.RotaTurns': WHATEVER THE INPUT: true; the input reads as it did. -/
def rotaTurnsSpec : ChangeSpec := { name := "rotaTurns", fn := fun _ => fun
  | [d1, d2, d3, d4] => { results := [.lit (.bool true)], args := [d1, d2, d3, d4] }
  | _ => none }
def rotaTurnsRow : OpenClaim := { program := "ytcgaojnfgkfnkaa", sum := "2dc24cecab37fbda8c273314b90a4fc04e6527b639fad4cbb8903928abf595f1", func := "parcener/parcenerlaw32.RotaTurns", spec := "rotaTurns", unfollowed := true, recurses := true, apart := false }
def RotaTurnsSaid : Prop := rotaTurnsRow.holds Try.pinned (OpenSpec.ofChange rotaTurnsSpec)

/-- ITS FALSE NEIGHBOUR: 'it returns false'. Refute it at one input. -/
def rotaTurnsWrong : ChangeSpec := { name := "rotaTurns", fn := fun _ => fun
  | [d1, d2, d3, d4] => { results := [.lit (.bool false)], args := [d1, d2, d3, d4] }
  | _ => none }
def RotaTurnsWrongFalsely : Prop := rotaTurnsRow.holds Try.pinned (OpenSpec.ofChange rotaTurnsWrong)

/-- 'parcenerlaw32.RotaNames': WHATEVER THE INPUT: true; the input reads as it did. -/
def rotaNamesSpec : ChangeSpec := { name := "rotaNames", fn := fun _ => fun
  | [] => { results := [.lit (.bool true)], args := [] }
  | _ => none }
def rotaNamesRow : OpenClaim := { program := "ytcgaojnfgkfnkaa", sum := "2dc24cecab37fbda8c273314b90a4fc04e6527b639fad4cbb8903928abf595f1", func := "parcener/parcenerlaw32.RotaNames", spec := "rotaNames", unfollowed := true, recurses := true, apart := false }
def RotaNamesSaid : Prop := rotaNamesRow.holds Try.pinned (OpenSpec.ofChange rotaNamesSpec)

/-- ITS FALSE NEIGHBOUR: 'it returns false'. Refute it at one input. -/
def rotaNamesWrong : ChangeSpec := { name := "rotaNames", fn := fun _ => fun
  | [] => { results := [.lit (.bool false)], args := [] }
  | _ => none }
def RotaNamesWrongFalsely : Prop := rotaNamesRow.holds Try.pinned (OpenSpec.ofChange rotaNamesWrong)

/- THE SECOND FORM. 'bulk': how many values and letters a reading holds, each counted each time it is reached (what is shared counts as often as it is met; a slice's spare places count too). A statement '..UptoSaid' is the law's where the arguments, and the package variables that the reading takes, are together of bulk at most 1048576: NARROWER than '..Said'. Prove '..Said' where nothing that the law and all that it calls make is longer than what came in: it says more and counts as full. Else prove '..UptoSaid'. A law counts once. -/
mutual
def uptoBulk {H : Type} : DataW H → Nat
  | .lit (.string bytes) => bytes.length + 1
  | .lit _ => 1
  | .nil => 1
  | .ptr d => uptoBulk d + 1
  | .slice elems spare => uptoBulkAll elems + uptoBulkAll spare + 1
  | .agg parts => uptoBulkAll parts + 1
  | .iface _ d => uptoBulk d + 1
  | .map entries => uptoBulkEntries entries + 1
  | .held _ => 1
def uptoBulkAll {H : Type} : List (DataW H) → Nat
  | [] => 0
  | d :: r => uptoBulk d + uptoBulkAll r
def uptoBulkEntries {H : Type} : List (Lit × DataW H) → Nat
  | [] => 0
  | x :: r => uptoBulkEntry x + uptoBulkEntries r
def uptoBulkEntry {H : Type} : Lit × DataW H → Nat
  | (.string bytes, d) => bytes.length + uptoBulk d + 1
  | (_, d) => uptoBulk d + 1
 end
def uptoSmall : (H : Type) → List (DataW H) → Bool := fun _ ds => decide (uptoBulkAll ds ≤ 1048576)
def OpenSpec.upto (s : _root_.Go.ChangeSpec) : _root_.Go.OpenSpec := { _root_.Go.OpenSpec.ofChange s with cond := some uptoSmall }

/-- 'parcenerlaw32.RotaCheapest', WHERE WHAT IT READS IS OF BULK AT MOST 1048576: true; the input reads as it did. -/
def rotaCheapestUptoRow : OpenClaim := { program := "ytcgaojnfgkfnkaa", sum := "2dc24cecab37fbda8c273314b90a4fc04e6527b639fad4cbb8903928abf595f1", func := "parcener/parcenerlaw32.RotaCheapest", spec := "rotaCheapest", unfollowed := true, recurses := true, apart := false, narrowed := true }
def RotaCheapestUptoSaid : Prop := rotaCheapestUptoRow.holds Try.pinned (OpenSpec.upto rotaCheapestSpec)

/-- 'parcenerlaw32.RotaMakes', WHERE WHAT IT READS IS OF BULK AT MOST 1048576: true; the input reads as it did. -/
def rotaMakesUptoRow : OpenClaim := { program := "ytcgaojnfgkfnkaa", sum := "2dc24cecab37fbda8c273314b90a4fc04e6527b639fad4cbb8903928abf595f1", func := "parcener/parcenerlaw32.RotaMakes", spec := "rotaMakes", unfollowed := true, recurses := true, apart := false, narrowed := true }
def RotaMakesUptoSaid : Prop := rotaMakesUptoRow.holds Try.pinned (OpenSpec.upto rotaMakesSpec)

/-- 'parcenerlaw32.RotaAdds', WHERE WHAT IT READS IS OF BULK AT MOST 1048576: true; the input reads as it did. -/
def rotaAddsUptoRow : OpenClaim := { program := "ytcgaojnfgkfnkaa", sum := "2dc24cecab37fbda8c273314b90a4fc04e6527b639fad4cbb8903928abf595f1", func := "parcener/parcenerlaw32.RotaAdds", spec := "rotaAdds", unfollowed := true, recurses := true, apart := false, narrowed := true }
def RotaAddsUptoSaid : Prop := rotaAddsUptoRow.holds Try.pinned (OpenSpec.upto rotaAddsSpec)

/-- 'parcenerlaw32.RotaFollows', WHERE WHAT IT READS IS OF BULK AT MOST 1048576: true; the input reads as it did. -/
def rotaFollowsUptoRow : OpenClaim := { program := "ytcgaojnfgkfnkaa", sum := "2dc24cecab37fbda8c273314b90a4fc04e6527b639fad4cbb8903928abf595f1", func := "parcener/parcenerlaw32.RotaFollows", spec := "rotaFollows", unfollowed := true, recurses := true, apart := false, narrowed := true }
def RotaFollowsUptoSaid : Prop := rotaFollowsUptoRow.holds Try.pinned (OpenSpec.upto rotaFollowsSpec)

/-- 'parcenerlaw32.RotaFair', WHERE WHAT IT READS IS OF BULK AT MOST 1048576: true; the input reads as it did. -/
def rotaFairUptoRow : OpenClaim := { program := "ytcgaojnfgkfnkaa", sum := "2dc24cecab37fbda8c273314b90a4fc04e6527b639fad4cbb8903928abf595f1", func := "parcener/parcenerlaw32.RotaFair", spec := "rotaFair", unfollowed := true, recurses := true, apart := false, narrowed := true }
def RotaFairUptoSaid : Prop := rotaFairUptoRow.holds Try.pinned (OpenSpec.upto rotaFairSpec)

/-- 'parcenerlaw32.RotaTurns', WHERE WHAT IT READS IS OF BULK AT MOST 1048576: true; the input reads as it did. -/
def rotaTurnsUptoRow : OpenClaim := { program := "ytcgaojnfgkfnkaa", sum := "2dc24cecab37fbda8c273314b90a4fc04e6527b639fad4cbb8903928abf595f1", func := "parcener/parcenerlaw32.RotaTurns", spec := "rotaTurns", unfollowed := true, recurses := true, apart := false, narrowed := true }
def RotaTurnsUptoSaid : Prop := rotaTurnsUptoRow.holds Try.pinned (OpenSpec.upto rotaTurnsSpec)

/-- 'parcenerlaw32.RotaNames', WHERE WHAT IT READS IS OF BULK AT MOST 1048576: true; the input reads as it did. -/
def rotaNamesUptoRow : OpenClaim := { program := "ytcgaojnfgkfnkaa", sum := "2dc24cecab37fbda8c273314b90a4fc04e6527b639fad4cbb8903928abf595f1", func := "parcener/parcenerlaw32.RotaNames", spec := "rotaNames", unfollowed := true, recurses := true, apart := false, narrowed := true }
def RotaNamesUptoSaid : Prop := rotaNamesUptoRow.holds Try.pinned (OpenSpec.upto rotaNamesSpec)

end Rows
end Go.Proofs.Ytcgaojnfgkfnkaa
