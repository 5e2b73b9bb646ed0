/-
  No cell of these rows narrows 'for every input' (looked for: loops, veiled, ifaces, maps, wideKeys, modest, calm, conditions, laid).
  DERIVED. THE GIVEN ROWS OF THIS SEAT. 7 by the template 'for every input the law returns true; each argument reads behind the call as it read before'; 0 by the template 'total and deterministic' (their statements: YtbdhocfaebchfaaTotals.lean).
  GIVEN WITH THE SEED: the statements are not yours to turn. If you find one false, say at which input.
  Laid BY PROGRAM, IN A SANDBOX (cutbox-rows.mjs): the forced cells as the released guide's own fill.sh prints them over the translation 78352e0e01efa89b… (all of the seat's roots in one cut). By AI agents, Wed Nov 11 2026. No macro, syntax, notation, axiom, sorry.
-/
import Derived.Test.YtbdhocfaebchfaaChecked
import GoSem.Claim
import GoSem.ClaimJoined
import GoSem.ClaimMapViews
import Derived.JoinedTies
import Derived.KernelRfl
namespace Go.Proofs.Ytbdhocfaebchfaa
/- THE CELL 'sum', in the pinned program and in every row, IS THE sha256 OF THE DUMP (.gsa) THAT YtbdhocfaebchfaaProg.lean LOADS. Nothing in Lean hashes anything: it is a label: what it is worth is what the hold of that sum in a sandbox is worth. -/
noncomputable def Try.pinned : Pinned := { name := "ytbdhocfaebchfaa", sum := "78352e0e01efa89b9e243422fd6ab9777d2b448155d55ba0b153fa40049ec6e5", checked := Try.checked }
namespace Rows
def none {H : Type} : Left H := { results := [], args := [] }

/-- 'sindrilaw36.DjbCases': WHATEVER THE INPUT: true; the input reads as it did. -/
def djbCasesSpec : ChangeSpec := { name := "djbCases", fn := fun _ => fun
  | [d1, d2, d3] => { results := [.lit (.bool true)], args := [d1, d2, d3] }
  | _ => none }
def djbCasesRow : OpenClaim := { program := "ytbdhocfaebchfaa", sum := "78352e0e01efa89b9e243422fd6ab9777d2b448155d55ba0b153fa40049ec6e5", func := "sindri/sindrilaw36.DjbCases", spec := "djbCases", inPlace := ["internal/bytealg.IndexByteString"], unfollowed := true, recurses := true, apart := false }
def DjbCasesSaid : Prop := djbCasesRow.holds Try.pinned (OpenSpec.ofChange djbCasesSpec)

/-- ITS FALSE NEIGHBOUR: 'it returns false'. Refute it at one input. -/
def djbCasesWrong : ChangeSpec := { name := "djbCases", fn := fun _ => fun
  | [d1, d2, d3] => { results := [.lit (.bool false)], args := [d1, d2, d3] }
  | _ => none }
def DjbCasesWrongFalsely : Prop := djbCasesRow.holds Try.pinned (OpenSpec.ofChange djbCasesWrong)

/-- 'sindrilaw18.OpsParts': WHATEVER THE INPUT: true; the input reads as it did. -/
def opsPartsSpec : ChangeSpec := { name := "opsParts", fn := fun _ => fun
  | [d1, d2] => { results := [.lit (.bool true)], args := [d1, d2] }
  | _ => none }
def opsPartsRow : OpenClaim := { program := "ytbdhocfaebchfaa", sum := "78352e0e01efa89b9e243422fd6ab9777d2b448155d55ba0b153fa40049ec6e5", func := "sindri/sindrilaw18.OpsParts", spec := "opsParts", unfollowed := true, recurses := true, apart := false }
def OpsPartsSaid : Prop := opsPartsRow.holds Try.pinned (OpenSpec.ofChange opsPartsSpec)

/-- ITS FALSE NEIGHBOUR: 'it returns false'. Refute it at one input. -/
def opsPartsWrong : ChangeSpec := { name := "opsParts", fn := fun _ => fun
  | [d1, d2] => { results := [.lit (.bool false)], args := [d1, d2] }
  | _ => none }
def OpsPartsWrongFalsely : Prop := opsPartsRow.holds Try.pinned (OpenSpec.ofChange opsPartsWrong)

/-- 'sindrilaw18.OpsPuts': WHATEVER THE INPUT: true; the input reads as it did. -/
def opsPutsSpec : ChangeSpec := { name := "opsPuts", fn := fun _ => fun
  | [d1, d2, d3] => { results := [.lit (.bool true)], args := [d1, d2, d3] }
  | _ => none }
def opsPutsRow : OpenClaim := { program := "ytbdhocfaebchfaa", sum := "78352e0e01efa89b9e243422fd6ab9777d2b448155d55ba0b153fa40049ec6e5", func := "sindri/sindrilaw18.OpsPuts", spec := "opsPuts", unfollowed := true, recurses := true, apart := false }
def OpsPutsSaid : Prop := opsPutsRow.holds Try.pinned (OpenSpec.ofChange opsPutsSpec)

/-- ITS FALSE NEIGHBOUR: 'it returns false'. Refute it at one input. -/
def opsPutsWrong : ChangeSpec := { name := "opsPuts", fn := fun _ => fun
  | [d1, d2, d3] => { results := [.lit (.bool false)], args := [d1, d2, d3] }
  | _ => none }
def OpsPutsWrongFalsely : Prop := opsPutsRow.holds Try.pinned (OpenSpec.ofChange opsPutsWrong)

/-- 'sindrilaw18.OpsBack': WHATEVER THE INPUT: true; the input reads as it did. -/
def opsBackSpec : ChangeSpec := { name := "opsBack", fn := fun _ => fun
  | [d1, d2] => { results := [.lit (.bool true)], args := [d1, d2] }
  | _ => none }
def opsBackRow : OpenClaim := { program := "ytbdhocfaebchfaa", sum := "78352e0e01efa89b9e243422fd6ab9777d2b448155d55ba0b153fa40049ec6e5", func := "sindri/sindrilaw18.OpsBack", spec := "opsBack", unfollowed := true, recurses := true, apart := false }
def OpsBackSaid : Prop := opsBackRow.holds Try.pinned (OpenSpec.ofChange opsBackSpec)

/-- ITS FALSE NEIGHBOUR: 'it returns false'. Refute it at one input. -/
def opsBackWrong : ChangeSpec := { name := "opsBack", fn := fun _ => fun
  | [d1, d2] => { results := [.lit (.bool false)], args := [d1, d2] }
  | _ => none }
def OpsBackWrongFalsely : Prop := opsBackRow.holds Try.pinned (OpenSpec.ofChange opsBackWrong)

/-- 'sindrilaw26.GraphValues': WHATEVER THE INPUT: true; the input reads as it did. -/
def graphValuesSpec : ChangeSpec := { name := "graphValues", fn := fun _ => fun
  | [d1, d2, d3, d4] => { results := [.lit (.bool true)], args := [d1, d2, d3, d4] }
  | _ => none }
def graphValuesRow : OpenClaim := { program := "ytbdhocfaebchfaa", sum := "78352e0e01efa89b9e243422fd6ab9777d2b448155d55ba0b153fa40049ec6e5", func := "sindri/sindrilaw26.GraphValues", spec := "graphValues", inPlace := ["internal/bytealg.IndexByteString"], unfollowed := true, recurses := true, apart := false }
def GraphValuesSaid : Prop := graphValuesRow.holds Try.pinned (OpenSpec.ofChange graphValuesSpec)

/-- ITS FALSE NEIGHBOUR: 'it returns false'. Refute it at one input. -/
def graphValuesWrong : ChangeSpec := { name := "graphValues", fn := fun _ => fun
  | [d1, d2, d3, d4] => { results := [.lit (.bool false)], args := [d1, d2, d3, d4] }
  | _ => none }
def GraphValuesWrongFalsely : Prop := graphValuesRow.holds Try.pinned (OpenSpec.ofChange graphValuesWrong)

/-- 'sindrilaw26.GraphTrees': WHATEVER THE INPUT: true; the input reads as it did. -/
def graphTreesSpec : ChangeSpec := { name := "graphTrees", fn := fun _ => fun
  | [d] => { results := [.lit (.bool true)], args := [d] }
  | _ => none }
def graphTreesRow : OpenClaim := { program := "ytbdhocfaebchfaa", sum := "78352e0e01efa89b9e243422fd6ab9777d2b448155d55ba0b153fa40049ec6e5", func := "sindri/sindrilaw26.GraphTrees", spec := "graphTrees", inPlace := ["internal/bytealg.IndexByteString"], unfollowed := true, recurses := true, apart := false }
def GraphTreesSaid : Prop := graphTreesRow.holds Try.pinned (OpenSpec.ofChange graphTreesSpec)

/-- ITS FALSE NEIGHBOUR: 'it returns false'. Refute it at one input. -/
def graphTreesWrong : ChangeSpec := { name := "graphTrees", fn := fun _ => fun
  | [d] => { results := [.lit (.bool false)], args := [d] }
  | _ => none }
def GraphTreesWrongFalsely : Prop := graphTreesRow.holds Try.pinned (OpenSpec.ofChange graphTreesWrong)

/-- 'sindrilaw18.OpsJumps': WHATEVER THE INPUT: true; the input reads as it did. -/
def opsJumpsSpec : ChangeSpec := { name := "opsJumps", fn := fun _ => fun
  | [d1, d2] => { results := [.lit (.bool true)], args := [d1, d2] }
  | _ => none }
def opsJumpsRow : OpenClaim := { program := "ytbdhocfaebchfaa", sum := "78352e0e01efa89b9e243422fd6ab9777d2b448155d55ba0b153fa40049ec6e5", func := "sindri/sindrilaw18.OpsJumps", spec := "opsJumps", unfollowed := true, recurses := true, apart := false }
def OpsJumpsSaid : Prop := opsJumpsRow.holds Try.pinned (OpenSpec.ofChange opsJumpsSpec)

/-- ITS FALSE NEIGHBOUR: 'it returns false'. Refute it at one input. -/
def opsJumpsWrong : ChangeSpec := { name := "opsJumps", fn := fun _ => fun
  | [d1, d2] => { results := [.lit (.bool false)], args := [d1, d2] }
  | _ => none }
def OpsJumpsWrongFalsely : Prop := opsJumpsRow.holds Try.pinned (OpenSpec.ofChange opsJumpsWrong)

/- THE SECOND FORM. 'bulk': how many values and letters a reading holds, each counted each time it is reached (what is shared counts as often as it is met; a slice's spare places count too). A statement '..UptoSaid' is the law's where the arguments, and the package variables that the reading takes, are together of bulk at most 1048576: NARROWER than '..Said'. Prove '..Said' where nothing that the law and all that it calls make is longer than what came in: it says more and counts as full. Else prove '..UptoSaid'. A law counts once. -/
mutual
def uptoBulk {H : Type} : DataW H → Nat
  | .lit (.string bytes) => bytes.length + 1
  | .lit _ => 1
  | .nil => 1
  | .ptr d => uptoBulk d + 1
  | .slice elems spare => uptoBulkAll elems + uptoBulkAll spare + 1
  | .agg parts => uptoBulkAll parts + 1
  | .iface _ d => uptoBulk d + 1
  | .map entries => uptoBulkEntries entries + 1
  | .held _ => 1
def uptoBulkAll {H : Type} : List (DataW H) → Nat
  | [] => 0
  | d :: r => uptoBulk d + uptoBulkAll r
def uptoBulkEntries {H : Type} : List (Lit × DataW H) → Nat
  | [] => 0
  | x :: r => uptoBulkEntry x + uptoBulkEntries r
def uptoBulkEntry {H : Type} : Lit × DataW H → Nat
  | (.string bytes, d) => bytes.length + uptoBulk d + 1
  | (_, d) => uptoBulk d + 1
 end
def uptoSmall : (H : Type) → List (DataW H) → Bool := fun _ ds => decide (uptoBulkAll ds ≤ 1048576)
def OpenSpec.upto (s : _root_.Go.ChangeSpec) : _root_.Go.OpenSpec := { _root_.Go.OpenSpec.ofChange s with cond := some uptoSmall }

/-- 'sindrilaw36.DjbCases', WHERE WHAT IT READS IS OF BULK AT MOST 1048576: true; the input reads as it did. -/
def djbCasesUptoRow : OpenClaim := { program := "ytbdhocfaebchfaa", sum := "78352e0e01efa89b9e243422fd6ab9777d2b448155d55ba0b153fa40049ec6e5", func := "sindri/sindrilaw36.DjbCases", spec := "djbCases", inPlace := ["internal/bytealg.IndexByteString"], unfollowed := true, recurses := true, apart := false, narrowed := true }
def DjbCasesUptoSaid : Prop := djbCasesUptoRow.holds Try.pinned (OpenSpec.upto djbCasesSpec)

/-- 'sindrilaw18.OpsParts', WHERE WHAT IT READS IS OF BULK AT MOST 1048576: true; the input reads as it did. -/
def opsPartsUptoRow : OpenClaim := { program := "ytbdhocfaebchfaa", sum := "78352e0e01efa89b9e243422fd6ab9777d2b448155d55ba0b153fa40049ec6e5", func := "sindri/sindrilaw18.OpsParts", spec := "opsParts", unfollowed := true, recurses := true, apart := false, narrowed := true }
def OpsPartsUptoSaid : Prop := opsPartsUptoRow.holds Try.pinned (OpenSpec.upto opsPartsSpec)

/-- 'sindrilaw18.OpsPuts', WHERE WHAT IT READS IS OF BULK AT MOST 1048576: true; the input reads as it did. -/
def opsPutsUptoRow : OpenClaim := { program := "ytbdhocfaebchfaa", sum := "78352e0e01efa89b9e243422fd6ab9777d2b448155d55ba0b153fa40049ec6e5", func := "sindri/sindrilaw18.OpsPuts", spec := "opsPuts", unfollowed := true, recurses := true, apart := false, narrowed := true }
def OpsPutsUptoSaid : Prop := opsPutsUptoRow.holds Try.pinned (OpenSpec.upto opsPutsSpec)

/-- 'sindrilaw18.OpsBack', WHERE WHAT IT READS IS OF BULK AT MOST 1048576: true; the input reads as it did. -/
def opsBackUptoRow : OpenClaim := { program := "ytbdhocfaebchfaa", sum := "78352e0e01efa89b9e243422fd6ab9777d2b448155d55ba0b153fa40049ec6e5", func := "sindri/sindrilaw18.OpsBack", spec := "opsBack", unfollowed := true, recurses := true, apart := false, narrowed := true }
def OpsBackUptoSaid : Prop := opsBackUptoRow.holds Try.pinned (OpenSpec.upto opsBackSpec)

/-- 'sindrilaw26.GraphValues', WHERE WHAT IT READS IS OF BULK AT MOST 1048576: true; the input reads as it did. -/
def graphValuesUptoRow : OpenClaim := { program := "ytbdhocfaebchfaa", sum := "78352e0e01efa89b9e243422fd6ab9777d2b448155d55ba0b153fa40049ec6e5", func := "sindri/sindrilaw26.GraphValues", spec := "graphValues", inPlace := ["internal/bytealg.IndexByteString"], unfollowed := true, recurses := true, apart := false, narrowed := true }
def GraphValuesUptoSaid : Prop := graphValuesUptoRow.holds Try.pinned (OpenSpec.upto graphValuesSpec)

/-- 'sindrilaw26.GraphTrees', WHERE WHAT IT READS IS OF BULK AT MOST 1048576: true; the input reads as it did. -/
def graphTreesUptoRow : OpenClaim := { program := "ytbdhocfaebchfaa", sum := "78352e0e01efa89b9e243422fd6ab9777d2b448155d55ba0b153fa40049ec6e5", func := "sindri/sindrilaw26.GraphTrees", spec := "graphTrees", inPlace := ["internal/bytealg.IndexByteString"], unfollowed := true, recurses := true, apart := false, narrowed := true }
def GraphTreesUptoSaid : Prop := graphTreesUptoRow.holds Try.pinned (OpenSpec.upto graphTreesSpec)

/-- 'sindrilaw18.OpsJumps', WHERE WHAT IT READS IS OF BULK AT MOST 1048576: true; the input reads as it did. -/
def opsJumpsUptoRow : OpenClaim := { program := "ytbdhocfaebchfaa", sum := "78352e0e01efa89b9e243422fd6ab9777d2b448155d55ba0b153fa40049ec6e5", func := "sindri/sindrilaw18.OpsJumps", spec := "opsJumps", unfollowed := true, recurses := true, apart := false, narrowed := true }
def OpsJumpsUptoSaid : Prop := opsJumpsUptoRow.holds Try.pinned (OpenSpec.upto opsJumpsSpec)

end Rows
end Go.Proofs.Ytbdhocfaebchfaa
