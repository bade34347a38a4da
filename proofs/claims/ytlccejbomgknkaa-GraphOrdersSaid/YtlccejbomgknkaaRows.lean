/-
  No cell of these rows narrows 'for every input' (looked for: loops, veiled, ifaces, maps, wideKeys, modest, calm, conditions, laid).
  DERIVED. THE GIVEN ROWS OF THIS SEAT. 5 by the template 'for every input the law returns true; each argument reads behind the call as it read before'; 0 by the template 'total and deterministic' (their statements: YtlccejbomgknkaaTotals.lean).
  GIVEN WITH THE SEED: the statements are not yours to turn. If you find one false, say at which input.
  Laid BY PROGRAM, IN A SANDBOX (cutbox-rows.mjs): the forced cells as the released guide's own fill.sh prints them over the translation 515ed1b52601baf0… (all of the seat's roots in one cut). By AI agents, Wed Nov 11 2026. No macro, syntax, notation, axiom, sorry.
-/
import Derived.Test.YtlccejbomgknkaaChecked
import GoSem.Claim
import GoSem.ClaimJoined
import GoSem.ClaimMapViews
import Derived.JoinedTies
import Derived.KernelRfl
namespace Go.Proofs.Ytlccejbomgknkaa
/- THE CELL 'sum', in the pinned program and in every row, IS THE sha256 OF THE DUMP (.gsa) THAT YtlccejbomgknkaaProg.lean LOADS. Nothing in Lean hashes anything: it is a label: what it is worth is what the hold of that sum in a sandbox is worth. -/
noncomputable def Try.pinned : Pinned := { name := "ytlccejbomgknkaa", sum := "515ed1b52601baf0fc3b4669a5caa4e70fa7374c56305395a97d160d96f9e178", checked := Try.checked }
namespace Rows
def none {H : Type} : Left H := { results := [], args := [] }

/-- 'brickyardlaw19.GraphFinds': WHATEVER THE INPUT: true; the input reads as it did. -/
def graphFindsSpec : ChangeSpec := { name := "graphFinds", fn := fun _ => fun
  | [d1, d2, d3, d4, d5] => { results := [.lit (.bool true)], args := [d1, d2, d3, d4, d5] }
  | _ => none }
def graphFindsRow : OpenClaim := { program := "ytlccejbomgknkaa", sum := "515ed1b52601baf0fc3b4669a5caa4e70fa7374c56305395a97d160d96f9e178", func := "brickyard/brickyardlaw19.GraphFinds", spec := "graphFinds", unfollowed := true, recurses := true, apart := false }
def GraphFindsSaid : Prop := graphFindsRow.holds Try.pinned (OpenSpec.ofChange graphFindsSpec)

/-- ITS FALSE NEIGHBOUR: 'it returns false'. Refute it at one input. -/
def graphFindsWrong : ChangeSpec := { name := "graphFinds", fn := fun _ => fun
  | [d1, d2, d3, d4, d5] => { results := [.lit (.bool false)], args := [d1, d2, d3, d4, d5] }
  | _ => none }
def GraphFindsWrongFalsely : Prop := graphFindsRow.holds Try.pinned (OpenSpec.ofChange graphFindsWrong)

/-- 'brickyardlaw19.GraphWays': WHATEVER THE INPUT: true; the input reads as it did. -/
def graphWaysSpec : ChangeSpec := { name := "graphWays", fn := fun _ => fun
  | [d1, d2, d3] => { results := [.lit (.bool true)], args := [d1, d2, d3] }
  | _ => none }
def graphWaysRow : OpenClaim := { program := "ytlccejbomgknkaa", sum := "515ed1b52601baf0fc3b4669a5caa4e70fa7374c56305395a97d160d96f9e178", func := "brickyard/brickyardlaw19.GraphWays", spec := "graphWays", unfollowed := true, recurses := true, apart := false }
def GraphWaysSaid : Prop := graphWaysRow.holds Try.pinned (OpenSpec.ofChange graphWaysSpec)

/-- ITS FALSE NEIGHBOUR: 'it returns false'. Refute it at one input. -/
def graphWaysWrong : ChangeSpec := { name := "graphWays", fn := fun _ => fun
  | [d1, d2, d3] => { results := [.lit (.bool false)], args := [d1, d2, d3] }
  | _ => none }
def GraphWaysWrongFalsely : Prop := graphWaysRow.holds Try.pinned (OpenSpec.ofChange graphWaysWrong)

/-- 'brickyardlaw19.GraphTells': WHATEVER THE INPUT: true; the input reads as it did. -/
def graphTellsSpec : ChangeSpec := { name := "graphTells", fn := fun _ => fun
  | [d1, d2, d3] => { results := [.lit (.bool true)], args := [d1, d2, d3] }
  | _ => none }
def graphTellsRow : OpenClaim := { program := "ytlccejbomgknkaa", sum := "515ed1b52601baf0fc3b4669a5caa4e70fa7374c56305395a97d160d96f9e178", func := "brickyard/brickyardlaw19.GraphTells", spec := "graphTells", unfollowed := true, recurses := true, apart := false }
def GraphTellsSaid : Prop := graphTellsRow.holds Try.pinned (OpenSpec.ofChange graphTellsSpec)

/-- ITS FALSE NEIGHBOUR: 'it returns false'. Refute it at one input. -/
def graphTellsWrong : ChangeSpec := { name := "graphTells", fn := fun _ => fun
  | [d1, d2, d3] => { results := [.lit (.bool false)], args := [d1, d2, d3] }
  | _ => none }
def GraphTellsWrongFalsely : Prop := graphTellsRow.holds Try.pinned (OpenSpec.ofChange graphTellsWrong)

/-- 'brickyardlaw19.GraphOrders': WHATEVER THE INPUT: true; the input reads as it did. -/
def graphOrdersSpec : ChangeSpec := { name := "graphOrders", fn := fun _ => fun
  | [d1, d2] => { results := [.lit (.bool true)], args := [d1, d2] }
  | _ => none }
def graphOrdersRow : OpenClaim := { program := "ytlccejbomgknkaa", sum := "515ed1b52601baf0fc3b4669a5caa4e70fa7374c56305395a97d160d96f9e178", func := "brickyard/brickyardlaw19.GraphOrders", spec := "graphOrders", unfollowed := true, recurses := true, apart := false }
def GraphOrdersSaid : Prop := graphOrdersRow.holds Try.pinned (OpenSpec.ofChange graphOrdersSpec)

/-- ITS FALSE NEIGHBOUR: 'it returns false'. Refute it at one input. -/
def graphOrdersWrong : ChangeSpec := { name := "graphOrders", fn := fun _ => fun
  | [d1, d2] => { results := [.lit (.bool false)], args := [d1, d2] }
  | _ => none }
def GraphOrdersWrongFalsely : Prop := graphOrdersRow.holds Try.pinned (OpenSpec.ofChange graphOrdersWrong)

/-- 'brickyardlaw19.GraphWhole': WHATEVER THE INPUT: true; the input reads as it did. -/
def graphWholeSpec : ChangeSpec := { name := "graphWhole", fn := fun _ => fun
  | [d1, d2] => { results := [.lit (.bool true)], args := [d1, d2] }
  | _ => none }
def graphWholeRow : OpenClaim := { program := "ytlccejbomgknkaa", sum := "515ed1b52601baf0fc3b4669a5caa4e70fa7374c56305395a97d160d96f9e178", func := "brickyard/brickyardlaw19.GraphWhole", spec := "graphWhole", unfollowed := true, recurses := true, apart := false }
def GraphWholeSaid : Prop := graphWholeRow.holds Try.pinned (OpenSpec.ofChange graphWholeSpec)

/-- ITS FALSE NEIGHBOUR: 'it returns false'. Refute it at one input. -/
def graphWholeWrong : ChangeSpec := { name := "graphWhole", fn := fun _ => fun
  | [d1, d2] => { results := [.lit (.bool false)], args := [d1, d2] }
  | _ => none }
def GraphWholeWrongFalsely : Prop := graphWholeRow.holds Try.pinned (OpenSpec.ofChange graphWholeWrong)

/- THE SECOND FORM. 'bulk': how many values and letters a reading holds, each counted each time it is reached (what is shared counts as often as it is met; a slice's spare places count too). A statement '..UptoSaid' is the law's where the arguments, and the package variables that the reading takes, are together of bulk at most 1048576: NARROWER than '..Said'. Prove '..Said' where nothing that the law and all that it calls make is longer than what came in: it says more and counts as full. Else prove '..UptoSaid'. A law counts once. -/
mutual
def uptoBulk {H : Type} : DataW H → Nat
  | .lit (.string bytes) => bytes.length + 1
  | .lit _ => 1
  | .nil => 1
  | .ptr d => uptoBulk d + 1
  | .slice elems spare => uptoBulkAll elems + uptoBulkAll spare + 1
  | .agg parts => uptoBulkAll parts + 1
  | .iface _ d => uptoBulk d + 1
  | .map entries => uptoBulkEntries entries + 1
  | .held _ => 1
def uptoBulkAll {H : Type} : List (DataW H) → Nat
  | [] => 0
  | d :: r => uptoBulk d + uptoBulkAll r
def uptoBulkEntries {H : Type} : List (Lit × DataW H) → Nat
  | [] => 0
  | x :: r => uptoBulkEntry x + uptoBulkEntries r
def uptoBulkEntry {H : Type} : Lit × DataW H → Nat
  | (.string bytes, d) => bytes.length + uptoBulk d + 1
  | (_, d) => uptoBulk d + 1
 end
def uptoSmall : (H : Type) → List (DataW H) → Bool := fun _ ds => decide (uptoBulkAll ds ≤ 1048576)
def OpenSpec.upto (s : _root_.Go.ChangeSpec) : _root_.Go.OpenSpec := { _root_.Go.OpenSpec.ofChange s with cond := some uptoSmall }

/-- 'brickyardlaw19.GraphFinds', WHERE WHAT IT READS IS OF BULK AT MOST 1048576: true; the input reads as it did. -/
def graphFindsUptoRow : OpenClaim := { program := "ytlccejbomgknkaa", sum := "515ed1b52601baf0fc3b4669a5caa4e70fa7374c56305395a97d160d96f9e178", func := "brickyard/brickyardlaw19.GraphFinds", spec := "graphFinds", unfollowed := true, recurses := true, apart := false, narrowed := true }
def GraphFindsUptoSaid : Prop := graphFindsUptoRow.holds Try.pinned (OpenSpec.upto graphFindsSpec)

/-- 'brickyardlaw19.GraphWays', WHERE WHAT IT READS IS OF BULK AT MOST 1048576: true; the input reads as it did. -/
def graphWaysUptoRow : OpenClaim := { program := "ytlccejbomgknkaa", sum := "515ed1b52601baf0fc3b4669a5caa4e70fa7374c56305395a97d160d96f9e178", func := "brickyard/brickyardlaw19.GraphWays", spec := "graphWays", unfollowed := true, recurses := true, apart := false, narrowed := true }
def GraphWaysUptoSaid : Prop := graphWaysUptoRow.holds Try.pinned (OpenSpec.upto graphWaysSpec)

/-- 'brickyardlaw19.GraphTells', WHERE WHAT IT READS IS OF BULK AT MOST 1048576: true; the input reads as it did. -/
def graphTellsUptoRow : OpenClaim := { program := "ytlccejbomgknkaa", sum := "515ed1b52601baf0fc3b4669a5caa4e70fa7374c56305395a97d160d96f9e178", func := "brickyard/brickyardlaw19.GraphTells", spec := "graphTells", unfollowed := true, recurses := true, apart := false, narrowed := true }
def GraphTellsUptoSaid : Prop := graphTellsUptoRow.holds Try.pinned (OpenSpec.upto graphTellsSpec)

/-- 'brickyardlaw19.GraphOrders', WHERE WHAT IT READS IS OF BULK AT MOST 1048576: true; the input reads as it did. -/
def graphOrdersUptoRow : OpenClaim := { program := "ytlccejbomgknkaa", sum := "515ed1b52601baf0fc3b4669a5caa4e70fa7374c56305395a97d160d96f9e178", func := "brickyard/brickyardlaw19.GraphOrders", spec := "graphOrders", unfollowed := true, recurses := true, apart := false, narrowed := true }
def GraphOrdersUptoSaid : Prop := graphOrdersUptoRow.holds Try.pinned (OpenSpec.upto graphOrdersSpec)

/-- 'brickyardlaw19.GraphWhole', WHERE WHAT IT READS IS OF BULK AT MOST 1048576: true; the input reads as it did. -/
def graphWholeUptoRow : OpenClaim := { program := "ytlccejbomgknkaa", sum := "515ed1b52601baf0fc3b4669a5caa4e70fa7374c56305395a97d160d96f9e178", func := "brickyard/brickyardlaw19.GraphWhole", spec := "graphWhole", unfollowed := true, recurses := true, apart := false, narrowed := true }
def GraphWholeUptoSaid : Prop := graphWholeUptoRow.holds Try.pinned (OpenSpec.upto graphWholeSpec)

end Rows
end Go.Proofs.Ytlccejbomgknkaa
