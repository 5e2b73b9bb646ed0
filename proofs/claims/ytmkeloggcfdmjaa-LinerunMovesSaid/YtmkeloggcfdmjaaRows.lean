/-
  No cell of these rows narrows 'for every input' (looked for: loops, veiled, ifaces, maps, wideKeys, modest, calm, conditions, laid).
  DERIVED. THE GIVEN ROWS OF THIS SEAT. 3 by the template 'for every input the law returns true; each argument reads behind the call as it read before'; 0 by the template 'total and deterministic' (their statements: YtmkeloggcfdmjaaTotals.lean).
  GIVEN WITH THE SEED: the statements are not yours to turn. If you find one false, say at which input.
  Laid BY PROGRAM, IN A SANDBOX (cutbox-rows.mjs): the forced cells as the released guide's own fill.sh prints them over the translation 6d0d95452db39e30… (all of the seat's roots in one cut). By AI agents, Wed Nov 11 2026. No macro, syntax, notation, axiom, sorry.
-/
import Derived.Test.YtmkeloggcfdmjaaChecked
import GoSem.Claim
import GoSem.ClaimJoined
import GoSem.ClaimMapViews
import Derived.JoinedTies
import Derived.KernelRfl
namespace Go.Proofs.Ytmkeloggcfdmjaa
/- THE CELL 'sum', in the pinned program and in every row, IS THE sha256 OF THE DUMP (.gsa) THAT YtmkeloggcfdmjaaProg.lean LOADS. Nothing in Lean hashes anything: it is a label: what it is worth is what the hold of that sum in a sandbox is worth. -/
noncomputable def Try.pinned : Pinned := { name := "ytmkeloggcfdmjaa", sum := "6d0d95452db39e30a7f9a7175505c51699240c4ef776cc281bd72d8a5c397b7f", checked := Try.checked }
namespace Rows
def none {H : Type} : Left H := { results := [], args := [] }

/-- 'sindrilaw22.LinerunChains': WHATEVER THE INPUT: true; the input reads as it did. -/
def linerunChainsSpec : ChangeSpec := { name := "linerunChains", fn := fun _ => fun
  | [d1, d2, d3] => { results := [.lit (.bool true)], args := [d1, d2, d3] }
  | _ => none }
def linerunChainsRow : OpenClaim := { program := "ytmkeloggcfdmjaa", sum := "6d0d95452db39e30a7f9a7175505c51699240c4ef776cc281bd72d8a5c397b7f", func := "sindri/sindrilaw22.LinerunChains", spec := "linerunChains", inPlace := ["internal/bytealg.IndexByteString"], unfollowed := true, recurses := true, apart := false }
def LinerunChainsSaid : Prop := linerunChainsRow.holds Try.pinned (OpenSpec.ofChange linerunChainsSpec)

/-- ITS FALSE NEIGHBOUR: 'it returns false'. Refute it at one input. -/
def linerunChainsWrong : ChangeSpec := { name := "linerunChains", fn := fun _ => fun
  | [d1, d2, d3] => { results := [.lit (.bool false)], args := [d1, d2, d3] }
  | _ => none }
def LinerunChainsWrongFalsely : Prop := linerunChainsRow.holds Try.pinned (OpenSpec.ofChange linerunChainsWrong)

/-- 'sindrilaw22.LinerunRuns': WHATEVER THE INPUT: true; the input reads as it did. -/
def linerunRunsSpec : ChangeSpec := { name := "linerunRuns", fn := fun _ => fun
  | [d1, d2, d3] => { results := [.lit (.bool true)], args := [d1, d2, d3] }
  | _ => none }
def linerunRunsRow : OpenClaim := { program := "ytmkeloggcfdmjaa", sum := "6d0d95452db39e30a7f9a7175505c51699240c4ef776cc281bd72d8a5c397b7f", func := "sindri/sindrilaw22.LinerunRuns", spec := "linerunRuns", inPlace := ["internal/bytealg.IndexByteString"], unfollowed := true, recurses := true, apart := false }
def LinerunRunsSaid : Prop := linerunRunsRow.holds Try.pinned (OpenSpec.ofChange linerunRunsSpec)

/-- ITS FALSE NEIGHBOUR: 'it returns false'. Refute it at one input. -/
def linerunRunsWrong : ChangeSpec := { name := "linerunRuns", fn := fun _ => fun
  | [d1, d2, d3] => { results := [.lit (.bool false)], args := [d1, d2, d3] }
  | _ => none }
def LinerunRunsWrongFalsely : Prop := linerunRunsRow.holds Try.pinned (OpenSpec.ofChange linerunRunsWrong)

/-- 'sindrilaw22.LinerunMoves': WHATEVER THE INPUT: true; the input reads as it did. -/
def linerunMovesSpec : ChangeSpec := { name := "linerunMoves", fn := fun _ => fun
  | [d1, d2, d3, d4] => { results := [.lit (.bool true)], args := [d1, d2, d3, d4] }
  | _ => none }
def linerunMovesRow : OpenClaim := { program := "ytmkeloggcfdmjaa", sum := "6d0d95452db39e30a7f9a7175505c51699240c4ef776cc281bd72d8a5c397b7f", func := "sindri/sindrilaw22.LinerunMoves", spec := "linerunMoves", inPlace := ["internal/bytealg.IndexByteString"], unfollowed := true, recurses := true, apart := false }
def LinerunMovesSaid : Prop := linerunMovesRow.holds Try.pinned (OpenSpec.ofChange linerunMovesSpec)

/-- ITS FALSE NEIGHBOUR: 'it returns false'. Refute it at one input. -/
def linerunMovesWrong : ChangeSpec := { name := "linerunMoves", fn := fun _ => fun
  | [d1, d2, d3, d4] => { results := [.lit (.bool false)], args := [d1, d2, d3, d4] }
  | _ => none }
def LinerunMovesWrongFalsely : Prop := linerunMovesRow.holds Try.pinned (OpenSpec.ofChange linerunMovesWrong)

/- THE SECOND FORM. 'bulk': how many values and letters a reading holds, each counted each time it is reached (what is shared counts as often as it is met; a slice's spare places count too). A statement '..UptoSaid' is the law's where the arguments, and the package variables that the reading takes, are together of bulk at most 1048576: NARROWER than '..Said'. Prove '..Said' where nothing that the law and all that it calls make is longer than what came in: it says more and counts as full. Else prove '..UptoSaid'. A law counts once. -/
mutual
def uptoBulk {H : Type} : DataW H → Nat
  | .lit (.string bytes) => bytes.length + 1
  | .lit _ => 1
  | .nil => 1
  | .ptr d => uptoBulk d + 1
  | .slice elems spare => uptoBulkAll elems + uptoBulkAll spare + 1
  | .agg parts => uptoBulkAll parts + 1
  | .iface _ d => uptoBulk d + 1
  | .map entries => uptoBulkEntries entries + 1
  | .held _ => 1
def uptoBulkAll {H : Type} : List (DataW H) → Nat
  | [] => 0
  | d :: r => uptoBulk d + uptoBulkAll r
def uptoBulkEntries {H : Type} : List (Lit × DataW H) → Nat
  | [] => 0
  | x :: r => uptoBulkEntry x + uptoBulkEntries r
def uptoBulkEntry {H : Type} : Lit × DataW H → Nat
  | (.string bytes, d) => bytes.length + uptoBulk d + 1
  | (_, d) => uptoBulk d + 1
 end
def uptoSmall : (H : Type) → List (DataW H) → Bool := fun _ ds => decide (uptoBulkAll ds ≤ 1048576)
def OpenSpec.upto (s : _root_.Go.ChangeSpec) : _root_.Go.OpenSpec := { _root_.Go.OpenSpec.ofChange s with cond := some uptoSmall }

/-- 'sindrilaw22.LinerunChains', WHERE WHAT IT READS IS OF BULK AT MOST 1048576: true; the input reads as it did. -/
def linerunChainsUptoRow : OpenClaim := { program := "ytmkeloggcfdmjaa", sum := "6d0d95452db39e30a7f9a7175505c51699240c4ef776cc281bd72d8a5c397b7f", func := "sindri/sindrilaw22.LinerunChains", spec := "linerunChains", inPlace := ["internal/bytealg.IndexByteString"], unfollowed := true, recurses := true, apart := false, narrowed := true }
def LinerunChainsUptoSaid : Prop := linerunChainsUptoRow.holds Try.pinned (OpenSpec.upto linerunChainsSpec)

/-- 'sindrilaw22.LinerunRuns', WHERE WHAT IT READS IS OF BULK AT MOST 1048576: true; the input reads as it did. -/
def linerunRunsUptoRow : OpenClaim := { program := "ytmkeloggcfdmjaa", sum := "6d0d95452db39e30a7f9a7175505c51699240c4ef776cc281bd72d8a5c397b7f", func := "sindri/sindrilaw22.LinerunRuns", spec := "linerunRuns", inPlace := ["internal/bytealg.IndexByteString"], unfollowed := true, recurses := true, apart := false, narrowed := true }
def LinerunRunsUptoSaid : Prop := linerunRunsUptoRow.holds Try.pinned (OpenSpec.upto linerunRunsSpec)

/-- 'sindrilaw22.LinerunMoves', WHERE WHAT IT READS IS OF BULK AT MOST 1048576: true; the input reads as it did. -/
def linerunMovesUptoRow : OpenClaim := { program := "ytmkeloggcfdmjaa", sum := "6d0d95452db39e30a7f9a7175505c51699240c4ef776cc281bd72d8a5c397b7f", func := "sindri/sindrilaw22.LinerunMoves", spec := "linerunMoves", inPlace := ["internal/bytealg.IndexByteString"], unfollowed := true, recurses := true, apart := false, narrowed := true }
def LinerunMovesUptoSaid : Prop := linerunMovesUptoRow.holds Try.pinned (OpenSpec.upto linerunMovesSpec)

end Rows
end Go.Proofs.Ytmkeloggcfdmjaa
