/- OpsJumps: for every input the law returns true, and its arguments read as they did (the given statement, without any condition). -/
import Derived.Test.YtbdhocfaebchfaaRows
import Derived.Test.YtbdhocfaebchfaaOpPartF
import Derived.WalkKit
import Derived.ProofKit
import Derived.OpenShut
set_option linter.all false
set_option linter.unusedSimpArgs false
set_option linter.unusedVariables false
set_option linter.unnecessarySimpa false
namespace Go.Proofs.Ytbdhocfaebchfaa.opsJumps
open Go.ChangeShapes Go.WideShapes Go.ChangeAt Go.RowKit Go.Ab
set_option linter.unusedVariables false

theorem own : ownKnob Try.prog.godebug = none := by kernel_rfl
theorem laid : laidOutB Try.prog = true := by kernel_rfl
theorem types : ∀ t ∈ Try.f9.params.toList, okT Try.prog 6 true t = true ∧ Try.prog.readableRec t = true ∧ t < Try.prog.types.size := by
  intro t ht
  have h : t ∈ [29, 69] := ht
  simp only [List.mem_cons, List.not_mem_nil, or_false] at h
  rcases h with rfl | rfl
  · exact ⟨by kernel_rfl, by kernel_rfl, of_decide_eq_true (by kernel_rfl)⟩
  · exact ⟨by kernel_rfl, by kernel_rfl, of_decide_eq_true (by kernel_rfl)⟩

set_option maxRecDepth 20000 in
theorem answers (xs : List A) (hl : xs.length = Try.f9.params.size) (hf : ∀ (j : Nat) t a, Try.f9.params[j]? = some t → xs[j]? = some a → FitsV Try.prog 6 t a) :
    AC Try.prog 9 xs [] (fun r _ => r = .bool true) := by
  match xs, hl with
  | [a0, a1], _ =>
    obtain ⟨l, rfl, hl⟩ := rd_ops (n := 1) (hf 0 29 a0 rfl rfl)
    obtain ⟨I, rfl, hI1, hI2⟩ := rd_u64s (n := 4) (hf 1 69 a1 rfl rfl)
    exact OpsJumps_spec hl hI2 (Nat.lt_of_le_of_lt hI1 (by decide)) rfl

set_option maxRecDepth 100000 in
theorem lifted (os : Os) (started : os.Started) (H : Type) (enc : TypeId × Value → H) :
    ReturnsInHanded {} Try.checked os 9 .any (Rows.opsJumpsSpec.pre6 enc Try.prog Try.f9 Rows.opsJumpsRow.domain false) (Rows.opsJumpsSpec.post enc Try.prog Try.f9 false true false false) := by
  refine returnsInHanded_of_change (C := Try.checked) own started (by kernel_rfl) Try.func9
    (ChangeSpec.witness6 (enc := enc) (C := Try.checked) false ⟨#[], #[.slice none 0 0, .slice none 0 0], []⟩ 8 (by kernel_rfl) (by kernel_rfl) (by kernel_rfl) (by kernel_rfl)) ?_
  intro W base args ds gs before hval hW _ _
  exact law_post (n := 6) rfl laid types rfl (by kernel_rfl) Try.func9 rfl rfl
    (fun ds hd => match ds, hd with | [_, _], _ => rfl) answers hval hW tabs_none

theorem over : Rows.opsJumpsRow.holds Try.pinned (OpenSpec.ofChange Rows.opsJumpsSpec) :=
  OpenClaim.holds_of_wide 9 Try.f9 rfl rfl rfl rfl rfl rfl rfl ⟨rfl, rfl, rfl, rfl, rfl⟩ rfl rfl rfl rfl rfl (by kernel_rfl) Try.func9 (by kernel_rfl)
    (of_decide_eq_true (by kernel_rfl)) (by unfold Func.isWrapper; first | (rw [if_pos (by decide +kernel)]; kernel_rfl) | (rw [if_neg (by decide +kernel)]; exact ⟨rfl, rfl⟩))
    (fun os started H enc _ => lifted os started H enc)

theorem proved : Rows.OpsJumpsSaid := over
#print axioms proved
end Go.Proofs.Ytbdhocfaebchfaa.opsJumps
