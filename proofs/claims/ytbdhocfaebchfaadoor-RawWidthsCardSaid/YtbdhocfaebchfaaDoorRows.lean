/-
  NARROWER THAN 'FOR EVERY INPUT', by the rows' own cells (each row's printed sentence says how): RawTakes: laid · RawPuts: laid · RawBack: laid · RawWidths: laid.
  DERIVED. THE GIVEN ROWS OF THIS SEAT. 4 by the template 'for every input the law returns true; each argument reads behind the call as it read before'; 0 by the template 'total and deterministic' (their statements: YtbdhocfaebchfaaDoorTotals.lean).
  GIVEN WITH THE SEED: the statements are not yours to turn. If you find one false, say at which input.
  Laid BY PROGRAM, IN A SANDBOX (cutbox-rows.mjs): the forced cells as the released guide's own fill.sh prints them over the translation 7d94c08431edcc63… (all of the seat's roots in one cut). By AI agents, Wed Nov 11 2026. No macro, syntax, notation, axiom, sorry.
-/
import Derived.Test.YtbdhocfaebchfaaDoorChecked
import GoSem.Claim
import GoSem.ClaimJoined
import GoSem.ClaimMapViews
import Derived.JoinedTies
import Derived.KernelRfl
namespace Go.Proofs.YtbdhocfaebchfaaDoor
/- THE CELL 'sum', in the pinned program and in every row, IS THE sha256 OF THE DUMP (.gsa) THAT YtbdhocfaebchfaaDoorProg.lean LOADS. Nothing in Lean hashes anything: it is a label: what it is worth is what the hold of that sum in a sandbox is worth. -/
noncomputable def Tryd.pinned : Pinned := { name := "ytbdhocfaebchfaadoor", sum := "7d94c08431edcc63f673de79406b80ad864df4ae4c22352bc4b5bf3912722199", checked := Tryd.checked }
namespace Rows
def none {H : Type} : Left H := { results := [], args := [] }

/- WHAT THE LISTED PACKAGE-LEVEL VARIABLES READ AS WHEN THE CALL BEGINS. Each datum BY PROGRAM (the guide's laid-datum.mjs) off the statement by which the dump's own 'gosem.cut.vars' lays the variable. In a bare row this is a premise. The card (YtbdhocfaebchfaaDoorCards.lean) ties it to the program's text. -/
def laid_sindri_length_sizes {H : Type} : DataW H := .agg [.lit (.int .i64 4), .lit (.int .i64 8)]
def laid_sindri_raw_forms {H : Type} : DataW H := .agg [.agg [.lit (.int .i64 0), .lit (.int .i64 0)], .agg [.lit (.int .i64 1), .lit (.int .i64 8)], .agg [.lit (.int .i64 0), .lit (.int .i64 0)], .agg [.lit (.int .i64 9), .lit (.int .i64 2)], .agg [.lit (.int .i64 9), .lit (.int .i64 4)], .agg [.lit (.int .i64 2), .lit (.int .i64 2)], .agg [.lit (.int .i64 2), .lit (.int .i64 4)], .agg [.lit (.int .i64 2), .lit (.int .i64 8)], .agg [.lit (.int .i64 5), .lit (.int .i64 (-3))], .agg [.lit (.int .i64 9), .lit (.int .i64 (-1))], .agg [.lit (.int .i64 9), .lit (.int .i64 1)], .agg [.lit (.int .i64 2), .lit (.int .i64 1)], .agg [.lit (.int .i64 4), .lit (.int .i64 1)], .agg [.lit (.int .i64 3), .lit (.int .i64 (-3))], .agg [.lit (.int .i64 6), .lit (.int .i64 (-2))], .agg [.lit (.int .i64 2), .lit (.int .i64 (-1))], .agg [.lit (.int .i64 12), .lit (.int .i64 (-2))], .agg [.lit (.int .i64 11), .lit (.int .i64 1)], .agg [.lit (.int .i64 11), .lit (.int .i64 2)], .agg [.lit (.int .i64 11), .lit (.int .i64 4)], .agg [.lit (.int .i64 11), .lit (.int .i64 8)], .agg [.lit (.int .i64 11), .lit (.int .i64 (-1))], .agg [.lit (.int .i64 0), .lit (.int .i64 0)], .agg [.lit (.int .i64 14), .lit (.int .i64 (-2))], .agg [.lit (.int .i64 10), .lit (.int .i64 (-1))], .agg [.lit (.int .i64 4), .lit (.int .i64 0)], .agg [.lit (.int .i64 8), .lit (.int .i64 (-1))], .agg [.lit (.int .i64 15), .lit (.int .i64 (-1))], .agg [.lit (.int .i64 0), .lit (.int .i64 0)], .agg [.lit (.int .i64 0), .lit (.int .i64 0)], .agg [.lit (.int .i64 9), .lit (.int .i64 0)], .agg [.lit (.int .i64 7), .lit (.int .i64 (-2))], .agg [.lit (.int .i64 13), .lit (.int .i64 8)], .agg [.lit (.int .i64 3), .lit (.int .i64 (-3))], .agg [.lit (.int .i64 16), .lit (.int .i64 (-1))], .agg [.lit (.int .i64 17), .lit (.int .i64 (-1))], .agg [.lit (.int .i64 0), .lit (.int .i64 0)], .agg [.lit (.int .i64 8), .lit (.int .i64 1)], .agg [.lit (.int .i64 8), .lit (.int .i64 2)], .agg [.lit (.int .i64 8), .lit (.int .i64 3)], .agg [.lit (.int .i64 8), .lit (.int .i64 4)], .agg [.lit (.int .i64 15), .lit (.int .i64 1)], .agg [.lit (.int .i64 15), .lit (.int .i64 2)], .agg [.lit (.int .i64 15), .lit (.int .i64 3)], .agg [.lit (.int .i64 15), .lit (.int .i64 4)]]

/-- 'sindrilaw14.RawTakes': WHATEVER THE INPUT: true; the input reads as it did. -/
def rawTakesSpec : ChangeSpec := { name := "rawTakes", fn := fun _ => fun
  | [d1, d2, d3] => { results := [.lit (.bool true)], args := [d1, d2, d3] }
  | _ => none }
def rawTakesRow : OpenClaim := { program := "ytbdhocfaebchfaadoor", sum := "7d94c08431edcc63f673de79406b80ad864df4ae4c22352bc4b5bf3912722199", func := "sindri/sindrilaw14.RawTakes", spec := "rawTakes", inPlace := ["internal/bytealg.IndexByteString"], unfollowed := true, recurses := true, named := ["sindri/raw.forms", "sindri/length.sizes"], apart := false, laid := [("sindri/length.sizes", laid_sindri_length_sizes), ("sindri/raw.forms", laid_sindri_raw_forms)] }
def RawTakesSaid : Prop := rawTakesRow.holds Tryd.pinned (OpenSpec.ofChange rawTakesSpec)

/-- ITS FALSE NEIGHBOUR: 'it returns false'. Refute it at one input. -/
def rawTakesWrong : ChangeSpec := { name := "rawTakes", fn := fun _ => fun
  | [d1, d2, d3] => { results := [.lit (.bool false)], args := [d1, d2, d3] }
  | _ => none }
def RawTakesWrongFalsely : Prop := rawTakesRow.holds Tryd.pinned (OpenSpec.ofChange rawTakesWrong)

/-- 'sindrilaw14.RawPuts': WHATEVER THE INPUT: true; the input reads as it did. -/
def rawPutsSpec : ChangeSpec := { name := "rawPuts", fn := fun _ => fun
  | [d1, d2, d3, d4] => { results := [.lit (.bool true)], args := [d1, d2, d3, d4] }
  | _ => none }
def rawPutsRow : OpenClaim := { program := "ytbdhocfaebchfaadoor", sum := "7d94c08431edcc63f673de79406b80ad864df4ae4c22352bc4b5bf3912722199", func := "sindri/sindrilaw14.RawPuts", spec := "rawPuts", inPlace := ["internal/bytealg.IndexByteString"], unfollowed := true, recurses := true, named := ["sindri/raw.forms", "sindri/length.sizes"], apart := false, laid := [("sindri/length.sizes", laid_sindri_length_sizes), ("sindri/raw.forms", laid_sindri_raw_forms)] }
def RawPutsSaid : Prop := rawPutsRow.holds Tryd.pinned (OpenSpec.ofChange rawPutsSpec)

/-- ITS FALSE NEIGHBOUR: 'it returns false'. Refute it at one input. -/
def rawPutsWrong : ChangeSpec := { name := "rawPuts", fn := fun _ => fun
  | [d1, d2, d3, d4] => { results := [.lit (.bool false)], args := [d1, d2, d3, d4] }
  | _ => none }
def RawPutsWrongFalsely : Prop := rawPutsRow.holds Tryd.pinned (OpenSpec.ofChange rawPutsWrong)

/-- 'sindrilaw14.RawBack': WHATEVER THE INPUT: true; the input reads as it did. -/
def rawBackSpec : ChangeSpec := { name := "rawBack", fn := fun _ => fun
  | [d1, d2, d3] => { results := [.lit (.bool true)], args := [d1, d2, d3] }
  | _ => none }
def rawBackRow : OpenClaim := { program := "ytbdhocfaebchfaadoor", sum := "7d94c08431edcc63f673de79406b80ad864df4ae4c22352bc4b5bf3912722199", func := "sindri/sindrilaw14.RawBack", spec := "rawBack", inPlace := ["internal/bytealg.IndexByteString"], unfollowed := true, recurses := true, named := ["sindri/raw.forms", "sindri/length.sizes"], apart := false, laid := [("sindri/length.sizes", laid_sindri_length_sizes), ("sindri/raw.forms", laid_sindri_raw_forms)] }
def RawBackSaid : Prop := rawBackRow.holds Tryd.pinned (OpenSpec.ofChange rawBackSpec)

/-- ITS FALSE NEIGHBOUR: 'it returns false'. Refute it at one input. -/
def rawBackWrong : ChangeSpec := { name := "rawBack", fn := fun _ => fun
  | [d1, d2, d3] => { results := [.lit (.bool false)], args := [d1, d2, d3] }
  | _ => none }
def RawBackWrongFalsely : Prop := rawBackRow.holds Tryd.pinned (OpenSpec.ofChange rawBackWrong)

/-- 'sindrilaw14.RawWidths': WHATEVER THE INPUT: true; the input reads as it did. -/
def rawWidthsSpec : ChangeSpec := { name := "rawWidths", fn := fun _ => fun
  | [d] => { results := [.lit (.bool true)], args := [d] }
  | _ => none }
def rawWidthsRow : OpenClaim := { program := "ytbdhocfaebchfaadoor", sum := "7d94c08431edcc63f673de79406b80ad864df4ae4c22352bc4b5bf3912722199", func := "sindri/sindrilaw14.RawWidths", spec := "rawWidths", inPlace := ["internal/bytealg.IndexByteString"], unfollowed := true, recurses := true, named := ["sindri/raw.forms", "sindri/length.sizes"], apart := false, laid := [("sindri/length.sizes", laid_sindri_length_sizes), ("sindri/raw.forms", laid_sindri_raw_forms)] }
def RawWidthsSaid : Prop := rawWidthsRow.holds Tryd.pinned (OpenSpec.ofChange rawWidthsSpec)

/-- ITS FALSE NEIGHBOUR: 'it returns false'. Refute it at one input. -/
def rawWidthsWrong : ChangeSpec := { name := "rawWidths", fn := fun _ => fun
  | [d] => { results := [.lit (.bool false)], args := [d] }
  | _ => none }
def RawWidthsWrongFalsely : Prop := rawWidthsRow.holds Tryd.pinned (OpenSpec.ofChange rawWidthsWrong)

/- THE SECOND FORM. 'bulk': how many values and letters a reading holds, each counted each time it is reached (what is shared counts as often as it is met; a slice's spare places count too). A statement '..UptoSaid' is the law's where the arguments, and the package variables that the reading takes, are together of bulk at most 1048576: NARROWER than '..Said'. Prove '..Said' where nothing that the law and all that it calls make is longer than what came in: it says more and counts as full. Else prove '..UptoSaid'. A law counts once. -/
mutual
def uptoBulk {H : Type} : DataW H → Nat
  | .lit (.string bytes) => bytes.length + 1
  | .lit _ => 1
  | .nil => 1
  | .ptr d => uptoBulk d + 1
  | .slice elems spare => uptoBulkAll elems + uptoBulkAll spare + 1
  | .agg parts => uptoBulkAll parts + 1
  | .iface _ d => uptoBulk d + 1
  | .map entries => uptoBulkEntries entries + 1
  | .held _ => 1
def uptoBulkAll {H : Type} : List (DataW H) → Nat
  | [] => 0
  | d :: r => uptoBulk d + uptoBulkAll r
def uptoBulkEntries {H : Type} : List (Lit × DataW H) → Nat
  | [] => 0
  | x :: r => uptoBulkEntry x + uptoBulkEntries r
def uptoBulkEntry {H : Type} : Lit × DataW H → Nat
  | (.string bytes, d) => bytes.length + uptoBulk d + 1
  | (_, d) => uptoBulk d + 1
 end
def uptoSmall : (H : Type) → List (DataW H) → Bool := fun _ ds => decide (uptoBulkAll ds ≤ 1048576)
def OpenSpec.upto (s : _root_.Go.ChangeSpec) : _root_.Go.OpenSpec := { _root_.Go.OpenSpec.ofChange s with cond := some uptoSmall }

/-- 'sindrilaw14.RawTakes', WHERE WHAT IT READS IS OF BULK AT MOST 1048576: true; the input reads as it did. -/
def rawTakesUptoRow : OpenClaim := { program := "ytbdhocfaebchfaadoor", sum := "7d94c08431edcc63f673de79406b80ad864df4ae4c22352bc4b5bf3912722199", func := "sindri/sindrilaw14.RawTakes", spec := "rawTakes", inPlace := ["internal/bytealg.IndexByteString"], unfollowed := true, recurses := true, named := ["sindri/raw.forms", "sindri/length.sizes"], apart := false, laid := [("sindri/length.sizes", laid_sindri_length_sizes), ("sindri/raw.forms", laid_sindri_raw_forms)], narrowed := true }
def RawTakesUptoSaid : Prop := rawTakesUptoRow.holds Tryd.pinned (OpenSpec.upto rawTakesSpec)

/-- 'sindrilaw14.RawPuts', WHERE WHAT IT READS IS OF BULK AT MOST 1048576: true; the input reads as it did. -/
def rawPutsUptoRow : OpenClaim := { program := "ytbdhocfaebchfaadoor", sum := "7d94c08431edcc63f673de79406b80ad864df4ae4c22352bc4b5bf3912722199", func := "sindri/sindrilaw14.RawPuts", spec := "rawPuts", inPlace := ["internal/bytealg.IndexByteString"], unfollowed := true, recurses := true, named := ["sindri/raw.forms", "sindri/length.sizes"], apart := false, laid := [("sindri/length.sizes", laid_sindri_length_sizes), ("sindri/raw.forms", laid_sindri_raw_forms)], narrowed := true }
def RawPutsUptoSaid : Prop := rawPutsUptoRow.holds Tryd.pinned (OpenSpec.upto rawPutsSpec)

/-- 'sindrilaw14.RawBack', WHERE WHAT IT READS IS OF BULK AT MOST 1048576: true; the input reads as it did. -/
def rawBackUptoRow : OpenClaim := { program := "ytbdhocfaebchfaadoor", sum := "7d94c08431edcc63f673de79406b80ad864df4ae4c22352bc4b5bf3912722199", func := "sindri/sindrilaw14.RawBack", spec := "rawBack", inPlace := ["internal/bytealg.IndexByteString"], unfollowed := true, recurses := true, named := ["sindri/raw.forms", "sindri/length.sizes"], apart := false, laid := [("sindri/length.sizes", laid_sindri_length_sizes), ("sindri/raw.forms", laid_sindri_raw_forms)], narrowed := true }
def RawBackUptoSaid : Prop := rawBackUptoRow.holds Tryd.pinned (OpenSpec.upto rawBackSpec)

/-- 'sindrilaw14.RawWidths', WHERE WHAT IT READS IS OF BULK AT MOST 1048576: true; the input reads as it did. -/
def rawWidthsUptoRow : OpenClaim := { program := "ytbdhocfaebchfaadoor", sum := "7d94c08431edcc63f673de79406b80ad864df4ae4c22352bc4b5bf3912722199", func := "sindri/sindrilaw14.RawWidths", spec := "rawWidths", inPlace := ["internal/bytealg.IndexByteString"], unfollowed := true, recurses := true, named := ["sindri/raw.forms", "sindri/length.sizes"], apart := false, laid := [("sindri/length.sizes", laid_sindri_length_sizes), ("sindri/raw.forms", laid_sindri_raw_forms)], narrowed := true }
def RawWidthsUptoSaid : Prop := rawWidthsUptoRow.holds Tryd.pinned (OpenSpec.upto rawWidthsSpec)

end Rows
end Go.Proofs.YtbdhocfaebchfaaDoor
