/-
  No cell of these rows narrows 'for every input' (looked for: loops, veiled, ifaces, maps, wideKeys, modest, calm, conditions, laid).
  DERIVED. THE GIVEN ROWS OF THIS SEAT. 6 by the template 'for every input the law returns true; each argument reads behind the call as it read before'; 0 by the template 'total and deterministic' (their statements: YtiohehofnlmenaaTotals.lean).
  GIVEN WITH THE SEED: the statements are not yours to turn. If you find one false, say at which input.
  Laid BY PROGRAM, IN A SANDBOX (cutbox-rows.mjs): the forced cells as the released guide's own fill.sh prints them over the translation 43413967473393b0… (all of the seat's roots in one cut). By AI agents, Wed Nov 11 2026. No macro, syntax, notation, axiom, sorry.
-/
import Derived.Test.YtiohehofnlmenaaChecked
import GoSem.Claim
import GoSem.ClaimJoined
import GoSem.ClaimMapViews
import Derived.JoinedTies
import Derived.KernelRfl
namespace Go.Proofs.Ytiohehofnlmenaa
/- THE CELL 'sum', in the pinned program and in every row, IS THE sha256 OF THE DUMP (.gsa) THAT YtiohehofnlmenaaProg.lean LOADS. Nothing in Lean hashes anything: it is a label: what it is worth is what the hold of that sum in a sandbox is worth. -/
noncomputable def Try.pinned : Pinned := { name := "ytiohehofnlmenaa", sum := "43413967473393b018bde9cfb3fc54065cbfe697b5407e6c3bc986470995ca4f", checked := Try.checked }
namespace Rows
def none {H : Type} : Left H := { results := [], args := [] }

/-- 'parcenerlaw24.ChoresTells': WHATEVER THE INPUT: true; the input reads as it did. -/
def choresTellsSpec : ChangeSpec := { name := "choresTells", fn := fun _ => fun
  | [d1, d2] => { results := [.lit (.bool true)], args := [d1, d2] }
  | _ => none }
def choresTellsRow : OpenClaim := { program := "ytiohehofnlmenaa", sum := "43413967473393b018bde9cfb3fc54065cbfe697b5407e6c3bc986470995ca4f", func := "parcener/parcenerlaw24.ChoresTells", spec := "choresTells", unfollowed := true, recurses := true, apart := false }
def ChoresTellsSaid : Prop := choresTellsRow.holds Try.pinned (OpenSpec.ofChange choresTellsSpec)

/-- ITS FALSE NEIGHBOUR: 'it returns false'. Refute it at one input. -/
def choresTellsWrong : ChangeSpec := { name := "choresTells", fn := fun _ => fun
  | [d1, d2] => { results := [.lit (.bool false)], args := [d1, d2] }
  | _ => none }
def ChoresTellsWrongFalsely : Prop := choresTellsRow.holds Try.pinned (OpenSpec.ofChange choresTellsWrong)

/-- 'parcenerlaw24.ChoresRuns': WHATEVER THE INPUT: true; the input reads as it did. -/
def choresRunsSpec : ChangeSpec := { name := "choresRuns", fn := fun _ => fun
  | [d1, d2, d3] => { results := [.lit (.bool true)], args := [d1, d2, d3] }
  | _ => none }
def choresRunsRow : OpenClaim := { program := "ytiohehofnlmenaa", sum := "43413967473393b018bde9cfb3fc54065cbfe697b5407e6c3bc986470995ca4f", func := "parcener/parcenerlaw24.ChoresRuns", spec := "choresRuns", unfollowed := true, recurses := true, apart := false }
def ChoresRunsSaid : Prop := choresRunsRow.holds Try.pinned (OpenSpec.ofChange choresRunsSpec)

/-- ITS FALSE NEIGHBOUR: 'it returns false'. Refute it at one input. -/
def choresRunsWrong : ChangeSpec := { name := "choresRuns", fn := fun _ => fun
  | [d1, d2, d3] => { results := [.lit (.bool false)], args := [d1, d2, d3] }
  | _ => none }
def ChoresRunsWrongFalsely : Prop := choresRunsRow.holds Try.pinned (OpenSpec.ofChange choresRunsWrong)

/-- 'parcenerlaw24.ChoresTop': WHATEVER THE INPUT: true; the input reads as it did. -/
def choresTopSpec : ChangeSpec := { name := "choresTop", fn := fun _ => fun
  | [d1, d2] => { results := [.lit (.bool true)], args := [d1, d2] }
  | _ => none }
def choresTopRow : OpenClaim := { program := "ytiohehofnlmenaa", sum := "43413967473393b018bde9cfb3fc54065cbfe697b5407e6c3bc986470995ca4f", func := "parcener/parcenerlaw24.ChoresTop", spec := "choresTop", unfollowed := true, recurses := true, apart := false }
def ChoresTopSaid : Prop := choresTopRow.holds Try.pinned (OpenSpec.ofChange choresTopSpec)

/-- ITS FALSE NEIGHBOUR: 'it returns false'. Refute it at one input. -/
def choresTopWrong : ChangeSpec := { name := "choresTop", fn := fun _ => fun
  | [d1, d2] => { results := [.lit (.bool false)], args := [d1, d2] }
  | _ => none }
def ChoresTopWrongFalsely : Prop := choresTopRow.holds Try.pinned (OpenSpec.ofChange choresTopWrong)

/-- 'parcenerlaw24.ChoresNames': WHATEVER THE INPUT: true; the input reads as it did. -/
def choresNamesSpec : ChangeSpec := { name := "choresNames", fn := fun _ => fun
  | [] => { results := [.lit (.bool true)], args := [] }
  | _ => none }
def choresNamesRow : OpenClaim := { program := "ytiohehofnlmenaa", sum := "43413967473393b018bde9cfb3fc54065cbfe697b5407e6c3bc986470995ca4f", func := "parcener/parcenerlaw24.ChoresNames", spec := "choresNames", unfollowed := true, recurses := true, apart := false }
def ChoresNamesSaid : Prop := choresNamesRow.holds Try.pinned (OpenSpec.ofChange choresNamesSpec)

/-- ITS FALSE NEIGHBOUR: 'it returns false'. Refute it at one input. -/
def choresNamesWrong : ChangeSpec := { name := "choresNames", fn := fun _ => fun
  | [] => { results := [.lit (.bool false)], args := [] }
  | _ => none }
def ChoresNamesWrongFalsely : Prop := choresNamesRow.holds Try.pinned (OpenSpec.ofChange choresNamesWrong)

/-- 'parcenerlaw24.ChoresOne': WHATEVER THE INPUT: true; the input reads as it did. -/
def choresOneSpec : ChangeSpec := { name := "choresOne", fn := fun _ => fun
  | [d1, d2] => { results := [.lit (.bool true)], args := [d1, d2] }
  | _ => none }
def choresOneRow : OpenClaim := { program := "ytiohehofnlmenaa", sum := "43413967473393b018bde9cfb3fc54065cbfe697b5407e6c3bc986470995ca4f", func := "parcener/parcenerlaw24.ChoresOne", spec := "choresOne", unfollowed := true, recurses := true, apart := false }
def ChoresOneSaid : Prop := choresOneRow.holds Try.pinned (OpenSpec.ofChange choresOneSpec)

/-- ITS FALSE NEIGHBOUR: 'it returns false'. Refute it at one input. -/
def choresOneWrong : ChangeSpec := { name := "choresOne", fn := fun _ => fun
  | [d1, d2] => { results := [.lit (.bool false)], args := [d1, d2] }
  | _ => none }
def ChoresOneWrongFalsely : Prop := choresOneRow.holds Try.pinned (OpenSpec.ofChange choresOneWrong)

/-- 'parcenerlaw24.ChoresTurns': WHATEVER THE INPUT: true; the input reads as it did. -/
def choresTurnsSpec : ChangeSpec := { name := "choresTurns", fn := fun _ => fun
  | [d1, d2, d3] => { results := [.lit (.bool true)], args := [d1, d2, d3] }
  | _ => none }
def choresTurnsRow : OpenClaim := { program := "ytiohehofnlmenaa", sum := "43413967473393b018bde9cfb3fc54065cbfe697b5407e6c3bc986470995ca4f", func := "parcener/parcenerlaw24.ChoresTurns", spec := "choresTurns", unfollowed := true, recurses := true, apart := false }
def ChoresTurnsSaid : Prop := choresTurnsRow.holds Try.pinned (OpenSpec.ofChange choresTurnsSpec)

/-- ITS FALSE NEIGHBOUR: 'it returns false'. Refute it at one input. -/
def choresTurnsWrong : ChangeSpec := { name := "choresTurns", fn := fun _ => fun
  | [d1, d2, d3] => { results := [.lit (.bool false)], args := [d1, d2, d3] }
  | _ => none }
def ChoresTurnsWrongFalsely : Prop := choresTurnsRow.holds Try.pinned (OpenSpec.ofChange choresTurnsWrong)

/- THE SECOND FORM. 'bulk': how many values and letters a reading holds, each counted each time it is reached (what is shared counts as often as it is met; a slice's spare places count too). A statement '..UptoSaid' is the law's where the arguments, and the package variables that the reading takes, are together of bulk at most 1048576: NARROWER than '..Said'. Prove '..Said' where nothing that the law and all that it calls make is longer than what came in: it says more and counts as full. Else prove '..UptoSaid'. A law counts once. -/
mutual
def uptoBulk {H : Type} : DataW H → Nat
  | .lit (.string bytes) => bytes.length + 1
  | .lit _ => 1
  | .nil => 1
  | .ptr d => uptoBulk d + 1
  | .slice elems spare => uptoBulkAll elems + uptoBulkAll spare + 1
  | .agg parts => uptoBulkAll parts + 1
  | .iface _ d => uptoBulk d + 1
  | .map entries => uptoBulkEntries entries + 1
  | .held _ => 1
def uptoBulkAll {H : Type} : List (DataW H) → Nat
  | [] => 0
  | d :: r => uptoBulk d + uptoBulkAll r
def uptoBulkEntries {H : Type} : List (Lit × DataW H) → Nat
  | [] => 0
  | x :: r => uptoBulkEntry x + uptoBulkEntries r
def uptoBulkEntry {H : Type} : Lit × DataW H → Nat
  | (.string bytes, d) => bytes.length + uptoBulk d + 1
  | (_, d) => uptoBulk d + 1
 end
def uptoSmall : (H : Type) → List (DataW H) → Bool := fun _ ds => decide (uptoBulkAll ds ≤ 1048576)
def OpenSpec.upto (s : _root_.Go.ChangeSpec) : _root_.Go.OpenSpec := { _root_.Go.OpenSpec.ofChange s with cond := some uptoSmall }

/-- 'parcenerlaw24.ChoresTells', WHERE WHAT IT READS IS OF BULK AT MOST 1048576: true; the input reads as it did. -/
def choresTellsUptoRow : OpenClaim := { program := "ytiohehofnlmenaa", sum := "43413967473393b018bde9cfb3fc54065cbfe697b5407e6c3bc986470995ca4f", func := "parcener/parcenerlaw24.ChoresTells", spec := "choresTells", unfollowed := true, recurses := true, apart := false, narrowed := true }
def ChoresTellsUptoSaid : Prop := choresTellsUptoRow.holds Try.pinned (OpenSpec.upto choresTellsSpec)

/-- 'parcenerlaw24.ChoresRuns', WHERE WHAT IT READS IS OF BULK AT MOST 1048576: true; the input reads as it did. -/
def choresRunsUptoRow : OpenClaim := { program := "ytiohehofnlmenaa", sum := "43413967473393b018bde9cfb3fc54065cbfe697b5407e6c3bc986470995ca4f", func := "parcener/parcenerlaw24.ChoresRuns", spec := "choresRuns", unfollowed := true, recurses := true, apart := false, narrowed := true }
def ChoresRunsUptoSaid : Prop := choresRunsUptoRow.holds Try.pinned (OpenSpec.upto choresRunsSpec)

/-- 'parcenerlaw24.ChoresTop', WHERE WHAT IT READS IS OF BULK AT MOST 1048576: true; the input reads as it did. -/
def choresTopUptoRow : OpenClaim := { program := "ytiohehofnlmenaa", sum := "43413967473393b018bde9cfb3fc54065cbfe697b5407e6c3bc986470995ca4f", func := "parcener/parcenerlaw24.ChoresTop", spec := "choresTop", unfollowed := true, recurses := true, apart := false, narrowed := true }
def ChoresTopUptoSaid : Prop := choresTopUptoRow.holds Try.pinned (OpenSpec.upto choresTopSpec)

/-- 'parcenerlaw24.ChoresNames', WHERE WHAT IT READS IS OF BULK AT MOST 1048576: true; the input reads as it did. -/
def choresNamesUptoRow : OpenClaim := { program := "ytiohehofnlmenaa", sum := "43413967473393b018bde9cfb3fc54065cbfe697b5407e6c3bc986470995ca4f", func := "parcener/parcenerlaw24.ChoresNames", spec := "choresNames", unfollowed := true, recurses := true, apart := false, narrowed := true }
def ChoresNamesUptoSaid : Prop := choresNamesUptoRow.holds Try.pinned (OpenSpec.upto choresNamesSpec)

/-- 'parcenerlaw24.ChoresOne', WHERE WHAT IT READS IS OF BULK AT MOST 1048576: true; the input reads as it did. -/
def choresOneUptoRow : OpenClaim := { program := "ytiohehofnlmenaa", sum := "43413967473393b018bde9cfb3fc54065cbfe697b5407e6c3bc986470995ca4f", func := "parcener/parcenerlaw24.ChoresOne", spec := "choresOne", unfollowed := true, recurses := true, apart := false, narrowed := true }
def ChoresOneUptoSaid : Prop := choresOneUptoRow.holds Try.pinned (OpenSpec.upto choresOneSpec)

/-- 'parcenerlaw24.ChoresTurns', WHERE WHAT IT READS IS OF BULK AT MOST 1048576: true; the input reads as it did. -/
def choresTurnsUptoRow : OpenClaim := { program := "ytiohehofnlmenaa", sum := "43413967473393b018bde9cfb3fc54065cbfe697b5407e6c3bc986470995ca4f", func := "parcener/parcenerlaw24.ChoresTurns", spec := "choresTurns", unfollowed := true, recurses := true, apart := false, narrowed := true }
def ChoresTurnsUptoSaid : Prop := choresTurnsUptoRow.holds Try.pinned (OpenSpec.upto choresTurnsSpec)

end Rows
end Go.Proofs.Ytiohehofnlmenaa
