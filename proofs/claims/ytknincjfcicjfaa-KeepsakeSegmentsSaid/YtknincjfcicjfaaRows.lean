/-
  No cell of these rows narrows 'for every input' (looked for: loops, veiled, ifaces, maps, wideKeys, modest, calm, conditions, laid).
  DERIVED. THE GIVEN ROWS OF THIS SEAT. 7 by the template 'for every input the law returns true; each argument reads behind the call as it read before'; 0 by the template 'total and deterministic' (their statements: YtknincjfcicjfaaTotals.lean).
  GIVEN WITH THE SEED: the statements are not yours to turn. If you find one false, say at which input.
  Laid BY PROGRAM, IN A SANDBOX (cutbox-rows.mjs): the forced cells as the released guide's own fill.sh prints them over the translation 75f0c95e46a13f69… (all of the seat's roots in one cut). By AI agents, Wed Nov 11 2026. No macro, syntax, notation, axiom, sorry.
-/
import Derived.Test.YtknincjfcicjfaaChecked
import GoSem.Claim
import GoSem.ClaimJoined
import GoSem.ClaimMapViews
import Derived.JoinedTies
import Derived.KernelRfl
namespace Go.Proofs.Ytknincjfcicjfaa
/- THE CELL 'sum', in the pinned program and in every row, IS THE sha256 OF THE DUMP (.gsa) THAT YtknincjfcicjfaaProg.lean LOADS. Nothing in Lean hashes anything: it is a label: what it is worth is what the hold of that sum in a sandbox is worth. -/
noncomputable def Try.pinned : Pinned := { name := "ytknincjfcicjfaa", sum := "75f0c95e46a13f6939b4f95d4206de3956a5460207d53b3b63a6598ef758909c", checked := Try.checked }
namespace Rows
def none {H : Type} : Left H := { results := [], args := [] }

/-- 'parcenerlaw29.KeepsakeMarks': WHATEVER THE INPUT: true; the input reads as it did. -/
def keepsakeMarksSpec : ChangeSpec := { name := "keepsakeMarks", fn := fun _ => fun
  | [d1, d2] => { results := [.lit (.bool true)], args := [d1, d2] }
  | _ => none }
def keepsakeMarksRow : OpenClaim := { program := "ytknincjfcicjfaa", sum := "75f0c95e46a13f6939b4f95d4206de3956a5460207d53b3b63a6598ef758909c", func := "parcener/parcenerlaw29.KeepsakeMarks", spec := "keepsakeMarks", unfollowed := true, recurses := true, apart := false }
def KeepsakeMarksSaid : Prop := keepsakeMarksRow.holds Try.pinned (OpenSpec.ofChange keepsakeMarksSpec)

/-- ITS FALSE NEIGHBOUR: 'it returns false'. Refute it at one input. -/
def keepsakeMarksWrong : ChangeSpec := { name := "keepsakeMarks", fn := fun _ => fun
  | [d1, d2] => { results := [.lit (.bool false)], args := [d1, d2] }
  | _ => none }
def KeepsakeMarksWrongFalsely : Prop := keepsakeMarksRow.holds Try.pinned (OpenSpec.ofChange keepsakeMarksWrong)

/-- 'parcenerlaw29.KeepsakeTurns': WHATEVER THE INPUT: true; the input reads as it did. -/
def keepsakeTurnsSpec : ChangeSpec := { name := "keepsakeTurns", fn := fun _ => fun
  | [d1, d2, d3] => { results := [.lit (.bool true)], args := [d1, d2, d3] }
  | _ => none }
def keepsakeTurnsRow : OpenClaim := { program := "ytknincjfcicjfaa", sum := "75f0c95e46a13f6939b4f95d4206de3956a5460207d53b3b63a6598ef758909c", func := "parcener/parcenerlaw29.KeepsakeTurns", spec := "keepsakeTurns", unfollowed := true, recurses := true, apart := false }
def KeepsakeTurnsSaid : Prop := keepsakeTurnsRow.holds Try.pinned (OpenSpec.ofChange keepsakeTurnsSpec)

/-- ITS FALSE NEIGHBOUR: 'it returns false'. Refute it at one input. -/
def keepsakeTurnsWrong : ChangeSpec := { name := "keepsakeTurns", fn := fun _ => fun
  | [d1, d2, d3] => { results := [.lit (.bool false)], args := [d1, d2, d3] }
  | _ => none }
def KeepsakeTurnsWrongFalsely : Prop := keepsakeTurnsRow.holds Try.pinned (OpenSpec.ofChange keepsakeTurnsWrong)

/-- 'parcenerlaw29.KeepsakeEven': WHATEVER THE INPUT: true; the input reads as it did. -/
def keepsakeEvenSpec : ChangeSpec := { name := "keepsakeEven", fn := fun _ => fun
  | [d1, d2, d3] => { results := [.lit (.bool true)], args := [d1, d2, d3] }
  | _ => none }
def keepsakeEvenRow : OpenClaim := { program := "ytknincjfcicjfaa", sum := "75f0c95e46a13f6939b4f95d4206de3956a5460207d53b3b63a6598ef758909c", func := "parcener/parcenerlaw29.KeepsakeEven", spec := "keepsakeEven", unfollowed := true, recurses := true, apart := false }
def KeepsakeEvenSaid : Prop := keepsakeEvenRow.holds Try.pinned (OpenSpec.ofChange keepsakeEvenSpec)

/-- ITS FALSE NEIGHBOUR: 'it returns false'. Refute it at one input. -/
def keepsakeEvenWrong : ChangeSpec := { name := "keepsakeEven", fn := fun _ => fun
  | [d1, d2, d3] => { results := [.lit (.bool false)], args := [d1, d2, d3] }
  | _ => none }
def KeepsakeEvenWrongFalsely : Prop := keepsakeEvenRow.holds Try.pinned (OpenSpec.ofChange keepsakeEvenWrong)

/-- 'parcenerlaw29.KeepsakeSegments': WHATEVER THE INPUT: true; the input reads as it did. -/
def keepsakeSegmentsSpec : ChangeSpec := { name := "keepsakeSegments", fn := fun _ => fun
  | [d1, d2] => { results := [.lit (.bool true)], args := [d1, d2] }
  | _ => none }
def keepsakeSegmentsRow : OpenClaim := { program := "ytknincjfcicjfaa", sum := "75f0c95e46a13f6939b4f95d4206de3956a5460207d53b3b63a6598ef758909c", func := "parcener/parcenerlaw29.KeepsakeSegments", spec := "keepsakeSegments", unfollowed := true, recurses := true, apart := false }
def KeepsakeSegmentsSaid : Prop := keepsakeSegmentsRow.holds Try.pinned (OpenSpec.ofChange keepsakeSegmentsSpec)

/-- ITS FALSE NEIGHBOUR: 'it returns false'. Refute it at one input. -/
def keepsakeSegmentsWrong : ChangeSpec := { name := "keepsakeSegments", fn := fun _ => fun
  | [d1, d2] => { results := [.lit (.bool false)], args := [d1, d2] }
  | _ => none }
def KeepsakeSegmentsWrongFalsely : Prop := keepsakeSegmentsRow.holds Try.pinned (OpenSpec.ofChange keepsakeSegmentsWrong)

/-- 'parcenerlaw29.KeepsakeSettles': WHATEVER THE INPUT: true; the input reads as it did. -/
def keepsakeSettlesSpec : ChangeSpec := { name := "keepsakeSettles", fn := fun _ => fun
  | [d1, d2] => { results := [.lit (.bool true)], args := [d1, d2] }
  | _ => none }
def keepsakeSettlesRow : OpenClaim := { program := "ytknincjfcicjfaa", sum := "75f0c95e46a13f6939b4f95d4206de3956a5460207d53b3b63a6598ef758909c", func := "parcener/parcenerlaw29.KeepsakeSettles", spec := "keepsakeSettles", unfollowed := true, recurses := true, apart := false }
def KeepsakeSettlesSaid : Prop := keepsakeSettlesRow.holds Try.pinned (OpenSpec.ofChange keepsakeSettlesSpec)

/-- ITS FALSE NEIGHBOUR: 'it returns false'. Refute it at one input. -/
def keepsakeSettlesWrong : ChangeSpec := { name := "keepsakeSettles", fn := fun _ => fun
  | [d1, d2] => { results := [.lit (.bool false)], args := [d1, d2] }
  | _ => none }
def KeepsakeSettlesWrongFalsely : Prop := keepsakeSettlesRow.holds Try.pinned (OpenSpec.ofChange keepsakeSettlesWrong)

/-- 'parcenerlaw29.KeepsakeTrades': WHATEVER THE INPUT: true; the input reads as it did. -/
def keepsakeTradesSpec : ChangeSpec := { name := "keepsakeTrades", fn := fun _ => fun
  | [d1, d2, d3, d4] => { results := [.lit (.bool true)], args := [d1, d2, d3, d4] }
  | _ => none }
def keepsakeTradesRow : OpenClaim := { program := "ytknincjfcicjfaa", sum := "75f0c95e46a13f6939b4f95d4206de3956a5460207d53b3b63a6598ef758909c", func := "parcener/parcenerlaw29.KeepsakeTrades", spec := "keepsakeTrades", unfollowed := true, recurses := true, apart := false }
def KeepsakeTradesSaid : Prop := keepsakeTradesRow.holds Try.pinned (OpenSpec.ofChange keepsakeTradesSpec)

/-- ITS FALSE NEIGHBOUR: 'it returns false'. Refute it at one input. -/
def keepsakeTradesWrong : ChangeSpec := { name := "keepsakeTrades", fn := fun _ => fun
  | [d1, d2, d3, d4] => { results := [.lit (.bool false)], args := [d1, d2, d3, d4] }
  | _ => none }
def KeepsakeTradesWrongFalsely : Prop := keepsakeTradesRow.holds Try.pinned (OpenSpec.ofChange keepsakeTradesWrong)

/-- 'parcenerlaw29.KeepsakeNames': WHATEVER THE INPUT: true; the input reads as it did. -/
def keepsakeNamesSpec : ChangeSpec := { name := "keepsakeNames", fn := fun _ => fun
  | [] => { results := [.lit (.bool true)], args := [] }
  | _ => none }
def keepsakeNamesRow : OpenClaim := { program := "ytknincjfcicjfaa", sum := "75f0c95e46a13f6939b4f95d4206de3956a5460207d53b3b63a6598ef758909c", func := "parcener/parcenerlaw29.KeepsakeNames", spec := "keepsakeNames", unfollowed := true, recurses := true, apart := false }
def KeepsakeNamesSaid : Prop := keepsakeNamesRow.holds Try.pinned (OpenSpec.ofChange keepsakeNamesSpec)

/-- ITS FALSE NEIGHBOUR: 'it returns false'. Refute it at one input. -/
def keepsakeNamesWrong : ChangeSpec := { name := "keepsakeNames", fn := fun _ => fun
  | [] => { results := [.lit (.bool false)], args := [] }
  | _ => none }
def KeepsakeNamesWrongFalsely : Prop := keepsakeNamesRow.holds Try.pinned (OpenSpec.ofChange keepsakeNamesWrong)

/- THE SECOND FORM. 'bulk': how many values and letters a reading holds, each counted each time it is reached (what is shared counts as often as it is met; a slice's spare places count too). A statement '..UptoSaid' is the law's where the arguments, and the package variables that the reading takes, are together of bulk at most 1048576: NARROWER than '..Said'. Prove '..Said' where nothing that the law and all that it calls make is longer than what came in: it says more and counts as full. Else prove '..UptoSaid'. A law counts once. -/
mutual
def uptoBulk {H : Type} : DataW H → Nat
  | .lit (.string bytes) => bytes.length + 1
  | .lit _ => 1
  | .nil => 1
  | .ptr d => uptoBulk d + 1
  | .slice elems spare => uptoBulkAll elems + uptoBulkAll spare + 1
  | .agg parts => uptoBulkAll parts + 1
  | .iface _ d => uptoBulk d + 1
  | .map entries => uptoBulkEntries entries + 1
  | .held _ => 1
def uptoBulkAll {H : Type} : List (DataW H) → Nat
  | [] => 0
  | d :: r => uptoBulk d + uptoBulkAll r
def uptoBulkEntries {H : Type} : List (Lit × DataW H) → Nat
  | [] => 0
  | x :: r => uptoBulkEntry x + uptoBulkEntries r
def uptoBulkEntry {H : Type} : Lit × DataW H → Nat
  | (.string bytes, d) => bytes.length + uptoBulk d + 1
  | (_, d) => uptoBulk d + 1
 end
def uptoSmall : (H : Type) → List (DataW H) → Bool := fun _ ds => decide (uptoBulkAll ds ≤ 1048576)
def OpenSpec.upto (s : _root_.Go.ChangeSpec) : _root_.Go.OpenSpec := { _root_.Go.OpenSpec.ofChange s with cond := some uptoSmall }

/-- 'parcenerlaw29.KeepsakeMarks', WHERE WHAT IT READS IS OF BULK AT MOST 1048576: true; the input reads as it did. -/
def keepsakeMarksUptoRow : OpenClaim := { program := "ytknincjfcicjfaa", sum := "75f0c95e46a13f6939b4f95d4206de3956a5460207d53b3b63a6598ef758909c", func := "parcener/parcenerlaw29.KeepsakeMarks", spec := "keepsakeMarks", unfollowed := true, recurses := true, apart := false, narrowed := true }
def KeepsakeMarksUptoSaid : Prop := keepsakeMarksUptoRow.holds Try.pinned (OpenSpec.upto keepsakeMarksSpec)

/-- 'parcenerlaw29.KeepsakeTurns', WHERE WHAT IT READS IS OF BULK AT MOST 1048576: true; the input reads as it did. -/
def keepsakeTurnsUptoRow : OpenClaim := { program := "ytknincjfcicjfaa", sum := "75f0c95e46a13f6939b4f95d4206de3956a5460207d53b3b63a6598ef758909c", func := "parcener/parcenerlaw29.KeepsakeTurns", spec := "keepsakeTurns", unfollowed := true, recurses := true, apart := false, narrowed := true }
def KeepsakeTurnsUptoSaid : Prop := keepsakeTurnsUptoRow.holds Try.pinned (OpenSpec.upto keepsakeTurnsSpec)

/-- 'parcenerlaw29.KeepsakeEven', WHERE WHAT IT READS IS OF BULK AT MOST 1048576: true; the input reads as it did. -/
def keepsakeEvenUptoRow : OpenClaim := { program := "ytknincjfcicjfaa", sum := "75f0c95e46a13f6939b4f95d4206de3956a5460207d53b3b63a6598ef758909c", func := "parcener/parcenerlaw29.KeepsakeEven", spec := "keepsakeEven", unfollowed := true, recurses := true, apart := false, narrowed := true }
def KeepsakeEvenUptoSaid : Prop := keepsakeEvenUptoRow.holds Try.pinned (OpenSpec.upto keepsakeEvenSpec)

/-- 'parcenerlaw29.KeepsakeSegments', WHERE WHAT IT READS IS OF BULK AT MOST 1048576: true; the input reads as it did. -/
def keepsakeSegmentsUptoRow : OpenClaim := { program := "ytknincjfcicjfaa", sum := "75f0c95e46a13f6939b4f95d4206de3956a5460207d53b3b63a6598ef758909c", func := "parcener/parcenerlaw29.KeepsakeSegments", spec := "keepsakeSegments", unfollowed := true, recurses := true, apart := false, narrowed := true }
def KeepsakeSegmentsUptoSaid : Prop := keepsakeSegmentsUptoRow.holds Try.pinned (OpenSpec.upto keepsakeSegmentsSpec)

/-- 'parcenerlaw29.KeepsakeSettles', WHERE WHAT IT READS IS OF BULK AT MOST 1048576: true; the input reads as it did. -/
def keepsakeSettlesUptoRow : OpenClaim := { program := "ytknincjfcicjfaa", sum := "75f0c95e46a13f6939b4f95d4206de3956a5460207d53b3b63a6598ef758909c", func := "parcener/parcenerlaw29.KeepsakeSettles", spec := "keepsakeSettles", unfollowed := true, recurses := true, apart := false, narrowed := true }
def KeepsakeSettlesUptoSaid : Prop := keepsakeSettlesUptoRow.holds Try.pinned (OpenSpec.upto keepsakeSettlesSpec)

/-- 'parcenerlaw29.KeepsakeTrades', WHERE WHAT IT READS IS OF BULK AT MOST 1048576: true; the input reads as it did. -/
def keepsakeTradesUptoRow : OpenClaim := { program := "ytknincjfcicjfaa", sum := "75f0c95e46a13f6939b4f95d4206de3956a5460207d53b3b63a6598ef758909c", func := "parcener/parcenerlaw29.KeepsakeTrades", spec := "keepsakeTrades", unfollowed := true, recurses := true, apart := false, narrowed := true }
def KeepsakeTradesUptoSaid : Prop := keepsakeTradesUptoRow.holds Try.pinned (OpenSpec.upto keepsakeTradesSpec)

/-- 'parcenerlaw29.KeepsakeNames', WHERE WHAT IT READS IS OF BULK AT MOST 1048576: true; the input reads as it did. -/
def keepsakeNamesUptoRow : OpenClaim := { program := "ytknincjfcicjfaa", sum := "75f0c95e46a13f6939b4f95d4206de3956a5460207d53b3b63a6598ef758909c", func := "parcener/parcenerlaw29.KeepsakeNames", spec := "keepsakeNames", unfollowed := true, recurses := true, apart := false, narrowed := true }
def KeepsakeNamesUptoSaid : Prop := keepsakeNamesUptoRow.holds Try.pinned (OpenSpec.upto keepsakeNamesSpec)

end Rows
end Go.Proofs.Ytknincjfcicjfaa
