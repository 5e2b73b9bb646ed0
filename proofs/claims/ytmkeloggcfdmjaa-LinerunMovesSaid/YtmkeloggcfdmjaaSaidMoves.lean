/- LinerunMoves: for every input the law returns true, and its arguments read as they did (the given statement, without any condition). -/
import Derived.Test.YtmkeloggcfdmjaaRows
import Derived.Test.YtmkeloggcfdmjaaMvPartF
import Derived.WalkKit
import Derived.ProofKit
import Derived.OpenShut
set_option linter.all false
set_option linter.unusedSimpArgs false
set_option linter.unusedVariables false
set_option linter.unnecessarySimpa false
namespace Go.Proofs.Ytmkeloggcfdmjaa.linerunMoves
open Go.ChangeShapes Go.WideShapes Go.ChangeAt Go.RowKit Go.Ab
set_option linter.unusedVariables false

theorem own : ownKnob Try.prog.godebug = none := by kernel_rfl
theorem laid : laidOutB Try.prog = true := by kernel_rfl
theorem types : ∀ t ∈ Try.f5.params.toList, okT Try.prog 6 true t = true ∧ Try.prog.readableRec t = true ∧ t < Try.prog.types.size := by
  intro t ht
  have h : t = 27 ∨ t = 45 ∨ t = 25 ∨ t = 25 := by simpa using ht
  rcases h with rfl | rfl | rfl | rfl
  · exact ⟨by kernel_rfl, by kernel_rfl, of_decide_eq_true (by kernel_rfl)⟩
  · exact ⟨by kernel_rfl, by kernel_rfl, of_decide_eq_true (by kernel_rfl)⟩
  · exact ⟨by kernel_rfl, by kernel_rfl, of_decide_eq_true (by kernel_rfl)⟩
  · exact ⟨by kernel_rfl, by kernel_rfl, of_decide_eq_true (by kernel_rfl)⟩

theorem answers (xs : List A) (hl : xs.length = Try.f5.params.size) (hf : ∀ (j : Nat) t a, Try.f5.params[j]? = some t → xs[j]? = some a → FitsV Try.prog 6 t a) :
    AC Try.prog 5 xs [] (fun r _ => r = .bool true) := by
  match xs, hl with
  | [a0, a1, a2, a3], _ =>
    obtain ⟨hd, rfl⟩ := rd_head (n := 1) (hf 0 27 a0 rfl rfl)
    obtain ⟨l, rfl, h1, h2⟩ := rd_u64s (n := 4) (hf 1 45 a1 rfl rfl)
    obtain ⟨a, rfl, ha⟩ := rd_u64 (n := 5) (hf 2 25 a2 rfl rfl)
    obtain ⟨b, rfl, hb⟩ := rd_u64 (n := 5) (hf 3 25 a3 rfl rfl)
    exact LinerunMoves_spec h1 h2 ha hb rfl

set_option maxRecDepth 100000 in
theorem lifted (os : Os) (started : os.Started) (H : Type) (enc : TypeId × Value → H) :
    ReturnsInHanded {} Try.checked os 5 .any (Rows.linerunMovesSpec.pre6 enc Try.prog Try.f5 Rows.linerunMovesRow.domain false) (Rows.linerunMovesSpec.post enc Try.prog Try.f5 false true false false) := by
  refine returnsInHanded_of_change (C := Try.checked) own started (by kernel_rfl) Try.func5
    (ChangeSpec.witness6 (enc := enc) (C := Try.checked) false ⟨#[], #[.agg #[.bool false, .bool false, .int .i64 0, .int .i64 0, .int .i64 0, .int .i64 0, .slice none 0 0, .slice none 0 0, .slice none 0 0, .int .u64 0, .int .u64 0], .slice none 0 0, .int .u64 0, .int .u64 0], []⟩ 8 (by kernel_rfl) (by kernel_rfl) (by kernel_rfl) (by kernel_rfl)) ?_
  intro W base args ds gs before hval hW _ _
  exact law_post (n := 6) rfl laid types rfl (by kernel_rfl) Try.func5 rfl rfl
    (fun ds hd => match ds, hd with | [_, _, _, _], _ => rfl) answers hval hW

theorem over : Rows.linerunMovesRow.holds Try.pinned (OpenSpec.ofChange Rows.linerunMovesSpec) :=
  OpenClaim.holds_of_wide 5 Try.f5 rfl rfl rfl rfl rfl rfl rfl ⟨rfl, rfl, rfl, rfl, rfl⟩ rfl rfl rfl rfl rfl (by kernel_rfl) Try.func5 (by kernel_rfl)
    (of_decide_eq_true (by kernel_rfl)) (by unfold Func.isWrapper; first | (rw [if_pos (by decide +kernel)]; kernel_rfl) | (rw [if_neg (by decide +kernel)]; exact ⟨rfl, rfl⟩))
    (fun os started H enc _ => lifted os started H enc)

theorem proved : Rows.LinerunMovesSaid := over
#print axioms proved
end Go.Proofs.Ytmkeloggcfdmjaa.linerunMoves
