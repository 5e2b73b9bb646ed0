/- RawWidths: for every input the law returns true, and its arguments read as they did (the given card: the listed tables are tied to the program's text; no other condition). -/
import Derived.Test.YtbdhocfaebchfaaDoorCards
import Derived.Test.YtbdhocfaebchfaaDoorTie
import Derived.Test.YtbdhocfaebchfaaDoorRtPartD
import Derived.WalkKit
import Derived.ProofKit
import Derived.OpenShut
import Derived.Deep.DeepHandedRow
set_option linter.all false
set_option linter.unusedSimpArgs false
set_option linter.unusedVariables false
set_option linter.unnecessarySimpa false
namespace Go.Proofs.YtbdhocfaebchfaaDoor.rawWidths
open Go.ChangeShapes Go.WideShapes Go.ChangeAt Go.RowKit Go.Ab
set_option linter.unusedVariables false

theorem own : ownKnob Tryd.prog.godebug = none := by kernel_rfl
theorem laid : laidOutB Tryd.prog = true := by kernel_rfl
theorem types : ∀ t ∈ Tryd.f6.params.toList, okT Tryd.prog 6 true t = true ∧ Tryd.prog.readableRec t = true ∧ t < Tryd.prog.types.size := by
  intro t ht
  have h : t = 33 := by simpa using ht
  rcases h with rfl
  exact ⟨by kernel_rfl, by kernel_rfl, of_decide_eq_true (by kernel_rfl)⟩

theorem answers (xs : List A) (hl : xs.length = Tryd.f6.params.size) (hf : ∀ (j : Nat) t a, Tryd.f6.params[j]? = some t → xs[j]? = some a → FitsV Tryd.prog 6 t a) :
    AC Tryd.prog 6 xs [] (fun r _ => r = .bool true) := by
  match xs, hl with
  | [a0], _ =>
    obtain ⟨x, rfl, x1, x2, _, x3⟩ := rd_raw (n := 2) (hf 0 33 a0 rfl rfl)
    exact RawWidths_spec x1 x2 x3 rfl

theorem laid_met (os : Os) (args : Array Value) : laidMet Tryd.prog Rows.rawWidthsRow.laid ((laidWorld os).forCall (fun _ _ => 0) ⟨#[], args, []⟩).memory :=
  laidMet_of_run' 8 (by kernel_rfl) (by kernel_rfl)
def arg : Array Value := #[.agg #[.int .i64 0, .int .u64 0, .int .i64 0, .slice none 0 0, .string ⟨#[]⟩]]
theorem reads (os : Os) {H : Type} (enc : TypeId × Value → H) : ∃ places, DataW.whole enc Tryd.prog ((laidWorld os).forCall (fun _ _ => 0) ⟨#[], arg, []⟩).memory Tryd.f6.params.toList Rows.rawWidthsSpec.vars false arg.toList 8 = some ([.agg [.lit (.int .i64 0), .lit (.int .u64 0), .lit (.int .i64 0), .nil, .lit (.string [])]], [], places) :=
  ⟨[], by kernel_rfl⟩

set_option maxRecDepth 100000 in
theorem lifted (os : Os) (started : os.Started) (H : Type) (enc : TypeId × Value → H) (F : Stop.Interp) :
    ReturnsInHanded {} Tryd.checked os 6 .any ((OpenSpec.ofChange Rows.rawWidthsSpec).preRow enc Tryd.prog Tryd.f6 Rows.rawWidthsRow.domain false Rows.rawWidthsRow.laid) (((OpenSpec.ofChange Rows.rawWidthsSpec).at F).post enc Tryd.prog Tryd.f6 false true false false) := by
  obtain ⟨places, hx⟩ := reads os enc
  refine returnsInHanded_of_row (C := Tryd.checked) (s := OpenSpec.ofChange Rows.rawWidthsSpec) own started (by kernel_rfl) Tryd.func6
    (witness_row_at (enc := enc) (C := Tryd.checked) false (laidWorld os) arg rfl (by kernel_rfl) (by kernel_rfl) (by kernel_rfl)
      (OpenSpec.preRow_of_cond 8 hx (by kernel_rfl) (fun k hk => by cases hk) (by kernel_rfl) (laid_met os arg))) ?_
  intro W base args ds gs before hval hW _ _ _ hL _ _
  exact law_post (n := 6) rfl laid types rfl (by kernel_rfl) Tryd.func6 rfl rfl
    (fun ds hd => match ds, hd with | [_], _ => rfl) answers hval hW (tabs_laid hL)

theorem said : Rows.RawWidthsSaid :=
  OpenClaim.holds_of_cond 6 Tryd.f6 rfl rfl rfl rfl rfl rfl rfl ⟨rfl, rfl, rfl, rfl, rfl⟩ rfl rfl rfl rfl rfl (by kernel_rfl) Tryd.func6 (by kernel_rfl)
    (of_decide_eq_true (by kernel_rfl)) (by unfold Func.isWrapper; first | (rw [if_pos (by decide +kernel)]; kernel_rfl) | (rw [if_neg (by decide +kernel)]; exact ⟨rfl, rfl⟩))
    (fun os started H enc _ F => by rw [OpenClaim.pre_eq_preRow]; exact lifted os started H enc F)

theorem plain (f : FuncId) (fn : Func) (hf : Tryd.pinned.checked.prog.funcNamed "sindri/sindrilaw14.RawWidths" = some f) (hfn : Tryd.pinned.checked.prog.funcs[f]? = some fn) :
    false = Tryd.pinned.checked.prog.looks [] ∧ ∀ (j : Nat) t, fn.params[j]? = some t → Tryd.pinned.checked.prog.wantsStandIn t = false := by
  obtain rfl : f = 6 := Option.some.inj ((show Tryd.prog.funcNamed "sindri/sindrilaw14.RawWidths" = some 6 by kernel_rfl).symm.trans hf) |>.symm
  obtain rfl : fn = Tryd.f6 := (Option.some.inj (Tryd.func6.symm.trans hfn)).symm
  refine ⟨by kernel_rfl, fun j t ht => ?_⟩
  have hm : t ∈ [33] := by simpa using Array.mem_of_getElem? ht
  have hall : ([33].all fun u => !Tryd.prog.wantsStandIn u) = true := by kernel_rfl
  exact (show Tryd.prog.wantsStandIn t = false by simpa using List.all_eq_true.1 hall t hm)

theorem proved : Rows.RawWidthsCardSaid :=
  Claim7.holds_tied_plain_at .later [] _ _ _ _ said (fun _ h => by cases h) (by kernel_rfl) (fun _ h => by cases h) rawWidths_row_tie rfl ⟨rfl, rfl⟩ (by kernel_rfl) rfl plain (by kernel_rfl)
#print axioms proved
end Go.Proofs.YtbdhocfaebchfaaDoor.rawWidths
