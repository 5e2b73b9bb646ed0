/- Abstract values and rules for them, proved sound over the model. -/
import Derived.Test.YtbdhocfaebchfaaOpLAbLaw2
set_option linter.all false
set_option linter.unusedSimpArgs false
set_option linter.unusedVariables false
set_option linter.unnecessarySimpa false
section
/- What values of a type are: leaves, slices, structs. -/
namespace Go.Ab
open V
variable [Glob]
set_option linter.unusedVariables false

section
variable {P : Program} {n : Nat} {t : TypeId} {as : List A}

theorem fits_bool (h : P.underlying t = some .bool) (hf : FitsC P (n + 1) t as) : ∃ b, as = [.bool b] := by
  simp only [FitsC, h] at hf; exact hf
theorem fits_int {k : IntKind} (h : P.underlying t = some (.int k)) (hf : FitsC P (n + 1) t as) : ∃ i, as = [.int k i] ∧ k.min ≤ i ∧ i ≤ k.max := by
  simp only [FitsC, h] at hf
  obtain ⟨i, h1, h2⟩ := hf
  refine ⟨i, h1, ?_⟩
  simp only [Lit.wf, Bool.and_eq_true, decide_eq_true_eq] at h2
  exact h2
theorem fits_str (h : P.underlying t = some .string) (hf : FitsC P (n + 1) t as) : ∃ s, as = [.str s] ∧ s.size ≤ maxLen := by
  simp only [FitsC, h] at hf; exact hf
theorem fits_slice {e : TypeId} (h : P.underlying t = some (.slice e)) (hf : FitsC P (n + 1) t as) : ∃ xs, as = [.sl xs none ()] ∧ xs.length ≤ maxLen ∧ ∀ x ∈ xs, FitsV P n e x := by
  simp only [FitsC, h] at hf; exact hf
def fieldTypes (P : Program) (t : TypeId) : Option (List TypeId) := match P.underlying t with | some (.struct fs) => some (fs.toList.map (·.type)) | _ => none
theorem fits_struct {tys : List TypeId} (h : fieldTypes P t = some tys) (hf : FitsC P (n + 1) t as) : ∃ ps : List (List A), as = ps.flatten ∧ ps.length = tys.length ∧ ∀ (i : Nat) u p, tys[i]? = some u → ps[i]? = some p → FitsC P n u p := by
  unfold fieldTypes at h
  split at h
  · rename_i fs hu
    simp only [Option.some.injEq] at h
    simp only [FitsC, hu] at hf
    obtain ⟨ps, h1, h2, h3⟩ := hf
    subst h
    refine ⟨ps, h1, by simp [h2], ?_⟩
    intro i u p hi hp
    rw [List.getElem?_map] at hi
    cases hfi : fs.toList[i]? with
    | none => rw [hfi] at hi; cases hi
    | some f =>
      rw [hfi] at hi
      simp only [Option.map_some, Option.some.injEq] at hi
      subst hi
      exact h3 i f p (by simpa using hfi) hp
  · cases h
theorem fits_agg {x : A} (h : aggT P t = true) (hf : FitsV P n t x) : ∃ cs, x = .agg cs ∧ FitsC P n t cs := by
  unfold FitsV at hf; rw [if_pos h] at hf; exact hf
theorem fits_one {x : A} (h : aggT P t = false) (hf : FitsV P n t x) : FitsC P n t [x] := by
  unfold FitsV at hf; rw [if_neg (by simp [h])] at hf; exact hf

theorem map_of {α β : Type} {f : β → α} : ∀ {l : List α}, (∀ x ∈ l, ∃ y, x = f y) → ∃ m : List β, l = m.map f := by
  intro l
  induction l with
  | nil => intro _; exact ⟨[], rfl⟩
  | cons x l ih =>
    intro h
    obtain ⟨y, hy⟩ := h x (by simp)
    obtain ⟨m, hm⟩ := ih fun z hz => h z (by simp [hz])
    exact ⟨y :: m, by rw [hy, hm]; rfl⟩

theorem one_inj {x y : A} (h : [x] = [y]) : x = y := by simpa using h
end
end Go.Ab
end
