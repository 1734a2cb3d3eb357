/-
  No cell of these rows narrows 'for every input' (looked for: loops, veiled, ifaces, maps, wideKeys, modest, calm, conditions, laid).
  DERIVED. THE GIVEN ROWS OF THIS SEAT. 6 by the template 'for every input the law returns true; each argument reads behind the call as it read before'; 0 by the template 'total and deterministic' (their statements: YtfagapcihacgkaaTotals.lean).
  GIVEN WITH THE SEED: the statements are not yours to turn. If you find one false, say at which input.
  Laid BY PROGRAM, IN A SANDBOX (cutbox-rows.mjs): the forced cells as the released guide's own fill.sh prints them over the translation 51f0563c9b607ca0… (all of the seat's roots in one cut). By AI agents, Wed Nov 11 2026. No macro, syntax, notation, axiom, sorry.
-/
import Derived.Test.YtfagapcihacgkaaChecked
import GoSem.Claim
import GoSem.ClaimJoined
import GoSem.ClaimMapViews
import Derived.JoinedTies
import Derived.KernelRfl
namespace Go.Proofs.Ytfagapcihacgkaa
/- THE CELL 'sum', in the pinned program and in every row, IS THE sha256 OF THE DUMP (.gsa) THAT YtfagapcihacgkaaProg.lean LOADS. Nothing in Lean hashes anything: it is a label: what it is worth is what the hold of that sum in a sandbox is worth. -/
noncomputable def Try.pinned : Pinned := { name := "ytfagapcihacgkaa", sum := "51f0563c9b607ca0f6fecd0bc65123ccf9a2ff0b39c93db11b34095037b1f337", checked := Try.checked }
namespace Rows
def none {H : Type} : Left H := { results := [], args := [] }

/-- 'parcenerlaw18.RobinPicks': WHATEVER THE INPUT: true; the input reads as it did. -/
def robinPicksSpec : ChangeSpec := { name := "robinPicks", fn := fun _ => fun
  | [d1, d2, d3] => { results := [.lit (.bool true)], args := [d1, d2, d3] }
  | _ => none }
def robinPicksRow : OpenClaim := { program := "ytfagapcihacgkaa", sum := "51f0563c9b607ca0f6fecd0bc65123ccf9a2ff0b39c93db11b34095037b1f337", func := "parcener/parcenerlaw18.RobinPicks", spec := "robinPicks", unfollowed := true, recurses := true, apart := false }
def RobinPicksSaid : Prop := robinPicksRow.holds Try.pinned (OpenSpec.ofChange robinPicksSpec)

/-- ITS FALSE NEIGHBOUR: 'it returns false'. Refute it at one input. -/
def robinPicksWrong : ChangeSpec := { name := "robinPicks", fn := fun _ => fun
  | [d1, d2, d3] => { results := [.lit (.bool false)], args := [d1, d2, d3] }
  | _ => none }
def RobinPicksWrongFalsely : Prop := robinPicksRow.holds Try.pinned (OpenSpec.ofChange robinPicksWrong)

/-- 'parcenerlaw18.RobinOrders': WHATEVER THE INPUT: true; the input reads as it did. -/
def robinOrdersSpec : ChangeSpec := { name := "robinOrders", fn := fun _ => fun
  | [d1, d2] => { results := [.lit (.bool true)], args := [d1, d2] }
  | _ => none }
def robinOrdersRow : OpenClaim := { program := "ytfagapcihacgkaa", sum := "51f0563c9b607ca0f6fecd0bc65123ccf9a2ff0b39c93db11b34095037b1f337", func := "parcener/parcenerlaw18.RobinOrders", spec := "robinOrders", unfollowed := true, recurses := true, apart := false }
def RobinOrdersSaid : Prop := robinOrdersRow.holds Try.pinned (OpenSpec.ofChange robinOrdersSpec)

/-- ITS FALSE NEIGHBOUR: 'it returns false'. Refute it at one input. -/
def robinOrdersWrong : ChangeSpec := { name := "robinOrders", fn := fun _ => fun
  | [d1, d2] => { results := [.lit (.bool false)], args := [d1, d2] }
  | _ => none }
def RobinOrdersWrongFalsely : Prop := robinOrdersRow.holds Try.pinned (OpenSpec.ofChange robinOrdersWrong)

/-- 'parcenerlaw18.RobinBest': WHATEVER THE INPUT: true; the input reads as it did. -/
def robinBestSpec : ChangeSpec := { name := "robinBest", fn := fun _ => fun
  | [d1, d2] => { results := [.lit (.bool true)], args := [d1, d2] }
  | _ => none }
def robinBestRow : OpenClaim := { program := "ytfagapcihacgkaa", sum := "51f0563c9b607ca0f6fecd0bc65123ccf9a2ff0b39c93db11b34095037b1f337", func := "parcener/parcenerlaw18.RobinBest", spec := "robinBest", unfollowed := true, recurses := true, apart := false }
def RobinBestSaid : Prop := robinBestRow.holds Try.pinned (OpenSpec.ofChange robinBestSpec)

/-- ITS FALSE NEIGHBOUR: 'it returns false'. Refute it at one input. -/
def robinBestWrong : ChangeSpec := { name := "robinBest", fn := fun _ => fun
  | [d1, d2] => { results := [.lit (.bool false)], args := [d1, d2] }
  | _ => none }
def RobinBestWrongFalsely : Prop := robinBestRow.holds Try.pinned (OpenSpec.ofChange robinBestWrong)

/-- 'parcenerlaw18.RobinNames': WHATEVER THE INPUT: true; the input reads as it did. -/
def robinNamesSpec : ChangeSpec := { name := "robinNames", fn := fun _ => fun
  | [] => { results := [.lit (.bool true)], args := [] }
  | _ => none }
def robinNamesRow : OpenClaim := { program := "ytfagapcihacgkaa", sum := "51f0563c9b607ca0f6fecd0bc65123ccf9a2ff0b39c93db11b34095037b1f337", func := "parcener/parcenerlaw18.RobinNames", spec := "robinNames", unfollowed := true, recurses := true, apart := false }
def RobinNamesSaid : Prop := robinNamesRow.holds Try.pinned (OpenSpec.ofChange robinNamesSpec)

/-- ITS FALSE NEIGHBOUR: 'it returns false'. Refute it at one input. -/
def robinNamesWrong : ChangeSpec := { name := "robinNames", fn := fun _ => fun
  | [] => { results := [.lit (.bool false)], args := [] }
  | _ => none }
def RobinNamesWrongFalsely : Prop := robinNamesRow.holds Try.pinned (OpenSpec.ofChange robinNamesWrong)

/-- 'parcenerlaw18.RobinMore': WHATEVER THE INPUT: true; the input reads as it did. -/
def robinMoreSpec : ChangeSpec := { name := "robinMore", fn := fun _ => fun
  | [d1, d2, d3, d4] => { results := [.lit (.bool true)], args := [d1, d2, d3, d4] }
  | _ => none }
def robinMoreRow : OpenClaim := { program := "ytfagapcihacgkaa", sum := "51f0563c9b607ca0f6fecd0bc65123ccf9a2ff0b39c93db11b34095037b1f337", func := "parcener/parcenerlaw18.RobinMore", spec := "robinMore", unfollowed := true, recurses := true, apart := false }
def RobinMoreSaid : Prop := robinMoreRow.holds Try.pinned (OpenSpec.ofChange robinMoreSpec)

/-- ITS FALSE NEIGHBOUR: 'it returns false'. Refute it at one input. -/
def robinMoreWrong : ChangeSpec := { name := "robinMore", fn := fun _ => fun
  | [d1, d2, d3, d4] => { results := [.lit (.bool false)], args := [d1, d2, d3, d4] }
  | _ => none }
def RobinMoreWrongFalsely : Prop := robinMoreRow.holds Try.pinned (OpenSpec.ofChange robinMoreWrong)

/-- 'parcenerlaw18.RobinOne': WHATEVER THE INPUT: true; the input reads as it did. -/
def robinOneSpec : ChangeSpec := { name := "robinOne", fn := fun _ => fun
  | [d1, d2] => { results := [.lit (.bool true)], args := [d1, d2] }
  | _ => none }
def robinOneRow : OpenClaim := { program := "ytfagapcihacgkaa", sum := "51f0563c9b607ca0f6fecd0bc65123ccf9a2ff0b39c93db11b34095037b1f337", func := "parcener/parcenerlaw18.RobinOne", spec := "robinOne", unfollowed := true, recurses := true, apart := false }
def RobinOneSaid : Prop := robinOneRow.holds Try.pinned (OpenSpec.ofChange robinOneSpec)

/-- ITS FALSE NEIGHBOUR: 'it returns false'. Refute it at one input. -/
def robinOneWrong : ChangeSpec := { name := "robinOne", fn := fun _ => fun
  | [d1, d2] => { results := [.lit (.bool false)], args := [d1, d2] }
  | _ => none }
def RobinOneWrongFalsely : Prop := robinOneRow.holds Try.pinned (OpenSpec.ofChange robinOneWrong)

/- THE SECOND FORM. 'bulk': how many values and letters a reading holds, each counted each time it is reached (what is shared counts as often as it is met; a slice's spare places count too). A statement '..UptoSaid' is the law's where the arguments, and the package variables that the reading takes, are together of bulk at most 1048576: NARROWER than '..Said'. Prove '..Said' where nothing that the law and all that it calls make is longer than what came in: it says more and counts as full. Else prove '..UptoSaid'. A law counts once. -/
mutual
def uptoBulk {H : Type} : DataW H → Nat
  | .lit (.string bytes) => bytes.length + 1
  | .lit _ => 1
  | .nil => 1
  | .ptr d => uptoBulk d + 1
  | .slice elems spare => uptoBulkAll elems + uptoBulkAll spare + 1
  | .agg parts => uptoBulkAll parts + 1
  | .iface _ d => uptoBulk d + 1
  | .map entries => uptoBulkEntries entries + 1
  | .held _ => 1
def uptoBulkAll {H : Type} : List (DataW H) → Nat
  | [] => 0
  | d :: r => uptoBulk d + uptoBulkAll r
def uptoBulkEntries {H : Type} : List (Lit × DataW H) → Nat
  | [] => 0
  | x :: r => uptoBulkEntry x + uptoBulkEntries r
def uptoBulkEntry {H : Type} : Lit × DataW H → Nat
  | (.string bytes, d) => bytes.length + uptoBulk d + 1
  | (_, d) => uptoBulk d + 1
 end
def uptoSmall : (H : Type) → List (DataW H) → Bool := fun _ ds => decide (uptoBulkAll ds ≤ 1048576)
def OpenSpec.upto (s : _root_.Go.ChangeSpec) : _root_.Go.OpenSpec := { _root_.Go.OpenSpec.ofChange s with cond := some uptoSmall }

/-- 'parcenerlaw18.RobinPicks', WHERE WHAT IT READS IS OF BULK AT MOST 1048576: true; the input reads as it did. -/
def robinPicksUptoRow : OpenClaim := { program := "ytfagapcihacgkaa", sum := "51f0563c9b607ca0f6fecd0bc65123ccf9a2ff0b39c93db11b34095037b1f337", func := "parcener/parcenerlaw18.RobinPicks", spec := "robinPicks", unfollowed := true, recurses := true, apart := false, narrowed := true }
def RobinPicksUptoSaid : Prop := robinPicksUptoRow.holds Try.pinned (OpenSpec.upto robinPicksSpec)

/-- 'parcenerlaw18.RobinOrders', WHERE WHAT IT READS IS OF BULK AT MOST 1048576: true; the input reads as it did. -/
def robinOrdersUptoRow : OpenClaim := { program := "ytfagapcihacgkaa", sum := "51f0563c9b607ca0f6fecd0bc65123ccf9a2ff0b39c93db11b34095037b1f337", func := "parcener/parcenerlaw18.RobinOrders", spec := "robinOrders", unfollowed := true, recurses := true, apart := false, narrowed := true }
def RobinOrdersUptoSaid : Prop := robinOrdersUptoRow.holds Try.pinned (OpenSpec.upto robinOrdersSpec)

/-- 'parcenerlaw18.RobinBest', WHERE WHAT IT READS IS OF BULK AT MOST 1048576: true; the input reads as it did. -/
def robinBestUptoRow : OpenClaim := { program := "ytfagapcihacgkaa", sum := "51f0563c9b607ca0f6fecd0bc65123ccf9a2ff0b39c93db11b34095037b1f337", func := "parcener/parcenerlaw18.RobinBest", spec := "robinBest", unfollowed := true, recurses := true, apart := false, narrowed := true }
def RobinBestUptoSaid : Prop := robinBestUptoRow.holds Try.pinned (OpenSpec.upto robinBestSpec)

/-- 'parcenerlaw18.RobinNames', WHERE WHAT IT READS IS OF BULK AT MOST 1048576: true; the input reads as it did. -/
def robinNamesUptoRow : OpenClaim := { program := "ytfagapcihacgkaa", sum := "51f0563c9b607ca0f6fecd0bc65123ccf9a2ff0b39c93db11b34095037b1f337", func := "parcener/parcenerlaw18.RobinNames", spec := "robinNames", unfollowed := true, recurses := true, apart := false, narrowed := true }
def RobinNamesUptoSaid : Prop := robinNamesUptoRow.holds Try.pinned (OpenSpec.upto robinNamesSpec)

/-- 'parcenerlaw18.RobinMore', WHERE WHAT IT READS IS OF BULK AT MOST 1048576: true; the input reads as it did. -/
def robinMoreUptoRow : OpenClaim := { program := "ytfagapcihacgkaa", sum := "51f0563c9b607ca0f6fecd0bc65123ccf9a2ff0b39c93db11b34095037b1f337", func := "parcener/parcenerlaw18.RobinMore", spec := "robinMore", unfollowed := true, recurses := true, apart := false, narrowed := true }
def RobinMoreUptoSaid : Prop := robinMoreUptoRow.holds Try.pinned (OpenSpec.upto robinMoreSpec)

/-- 'parcenerlaw18.RobinOne', WHERE WHAT IT READS IS OF BULK AT MOST 1048576: true; the input reads as it did. -/
def robinOneUptoRow : OpenClaim := { program := "ytfagapcihacgkaa", sum := "51f0563c9b607ca0f6fecd0bc65123ccf9a2ff0b39c93db11b34095037b1f337", func := "parcener/parcenerlaw18.RobinOne", spec := "robinOne", unfollowed := true, recurses := true, apart := false, narrowed := true }
def RobinOneUptoSaid : Prop := robinOneUptoRow.holds Try.pinned (OpenSpec.upto robinOneSpec)

end Rows
end Go.Proofs.Ytfagapcihacgkaa
