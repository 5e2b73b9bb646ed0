/- Abstract values and rules for them, proved sound over the model. -/
import Derived.Test.YtbdhocfaebchfaaOpLAbLaw2
import Derived.OpenShut
set_option linter.all false
set_option linter.unusedSimpArgs false
set_option linter.unusedVariables false
set_option linter.unnecessarySimpa false
section
/- Package-level tables that are listed: what their cells are. -/
namespace Go.Ab
open V Go.ChangeShapes Go.WideShapes
variable [Glob]
set_option linter.unusedSimpArgs false
set_option linter.unusedVariables false
set_option linter.unusedSectionVars false

mutual
/-- The cells of plain data. -/
def flatD {H : Type} : DataW H → List Value
  | .lit (.int k n) => [.int k n]
  | .agg ds => flatDs ds
  | _ => []
def flatDs {H : Type} : List (DataW H) → List Value
  | [] => []
  | d :: r => flatD d ++ flatDs r
end
theorem flatDs_eq {H : Type} (l : List (DataW H)) : flatDs l = l.flatMap flatD := by
  induction l with
  | nil => rfl
  | cons d l ih => simp only [flatDs, List.flatMap_cons, ih]

def plainT (P : Program) : Nat → TypeId → Bool
  | 0, _ => false
  | n + 1, t =>
    match P.underlying t with
    | some (.int _) => true
    | some (.struct fs) => tiles P 0 fs.toList (P.cellsOf t) && fs.toList.all fun f => plainT P n f.type
    | some (.array m e) => (P.cellsOf t == m * P.cellsOf e) && plainT P n e
    | _ => false

theorem chunks {α β : Type} {s : Nat} {F : β → List α} : ∀ (xs : List β) (cs : List α), cs.length = xs.length * s → (∀ i x, xs[i]? = some x → (cs.drop (i * s)).take s = F x) → cs = xs.flatMap F := by
  intro xs
  induction xs with
  | nil => intro cs h _; simp at h; subst h; rfl
  | cons x xs ih =>
    intro cs h hp
    have h0 := hp 0 x rfl
    rw [Nat.zero_mul, List.drop_zero] at h0
    rw [List.flatMap_cons, ← h0, ← ih (cs.drop s) ?_ ?_, List.take_append_drop]
    · rw [List.length_drop, h, List.length_cons, Nat.succ_mul]; omega
    · intro i y hy
      have := hp (i + 1) y (by simpa using hy)
      rw [List.drop_drop, show s + i * s = (i + 1) * s by rw [Nat.succ_mul]; omega]
      exact this
theorem tile_flat {P : Program} {α β : Type} {F : β → List α} {cs : List α} : ∀ (l : List Field) (o : Nat) (xs : List β), tiles P o l cs.length = true → xs.length = l.length →
    (∀ (i : Nat) f x, l[i]? = some f → xs[i]? = some x → (cs.drop f.offset).take (P.cellsOf f.type) = F x) → cs.drop o = xs.flatMap F := by
  intro l
  induction l with
  | nil =>
    intro o xs h hx _
    simp only [tiles, beq_iff_eq] at h
    have : xs = [] := List.eq_nil_of_length_eq_zero (by simpa using hx)
    subst this
    rw [List.drop_of_length_le (by omega)]; rfl
  | cons f l ih =>
    intro o xs h hx hp
    simp only [tiles, Bool.and_eq_true, beq_iff_eq] at h
    cases xs with
    | nil => simp at hx
    | cons x xs =>
      have h0 := hp 0 f x rfl rfl
      rw [h.1] at h0
      have h1 := ih _ xs h.2 (by simpa using hx) fun i f' x' hf hx' => hp (i + 1) f' x' (by simpa using hf) (by simpa using hx')
      rw [List.flatMap_cons, ← h0, ← h1, ← List.drop_drop, List.take_append_drop]

section
variable {H : Type} {enc : TypeId × Value → H} {P : Program} {W : World} {base : Nat} {spare : Nat → Bool} {held : Bool}
theorem trod_flat : ∀ (n : Nat) (t : TypeId) (fuel : Nat) (cs : List Value) (x : DataW H × List MemPlace), plainT P n t = true → DataW.trod enc P W base spare held fuel t cs = some x → cs = flatD x.1 := by
  intro n
  induction n with
  | zero => intro t fuel cs x h; simp [plainT] at h
  | succ n ih =>
    intro t fuel cs x hok h
    simp only [plainT] at hok
    split at hok
    · rename_i k ht
      obtain ⟨i, rfl, hx, _⟩ := DataW.trod_int ht h
      subst hx; rfl
    · rename_i fs ht
      simp only [Bool.and_eq_true, List.all_eq_true] at hok
      obtain ⟨xs, m, _, hx, hcl, hxl, hf⟩ := DataW.trod_struct ht h
      subst hx
      have := tile_flat (P := P) (F := fun y : DataW H × List MemPlace => flatD y.1) (cs := cs) fs.toList 0 xs (by rw [hcl]; exact hok.1) (by simpa using hxl) (by
        intro i f y hfi hy
        have hfi' : fs[i]? = some f := by simpa using hfi
        have h1 := hf i f hfi'
        rw [hy] at h1
        exact ih f.type m _ _ (hok.2 f (List.mem_of_getElem? hfi)) h1)
      simp only [flatD, flatDs_eq, List.flatMap_map]
      simpa using this
    · rename_i m e ht
      simp only [Bool.and_eq_true, beq_iff_eq] at hok
      obtain ⟨xs, k, _, hx, hcl, hxl, hf⟩ := DataW.trod_array ht h
      subst hx
      have := chunks (F := fun y : DataW H × List MemPlace => flatD y.1) xs cs (s := P.cellsOf e) (by rw [hcl, hok.1, hxl]) (by
        intro i y hy
        have hi : i < m := by rw [← hxl]; exact (List.getElem?_eq_some_iff.1 hy).1
        have h1 := hf i hi
        rw [hy] at h1
        exact ih e k _ _ hok.2 h1)
      simp only [flatD, flatDs_eq, List.flatMap_map]
      exact this
    · cases hok
end

theorem tab_at {P : Program} {W : World} {name : String} {b : Nat} {cs : List A} {arr : Array Value} (hg : P.globalNamed name = some b) (hv : W.var? P name = some arr) (he : arr.toList = cs.map leafV) :
    cs.length ≤ gF W b ∧ ∀ j c, cs[j]? = some c → W.cell? ⟨b, j, none⟩ = some (leafV c) := by
  constructor
  · have h2 := hv
    simp only [World.var?, hg, Option.bind_some] at h2
    unfold gF
    split at h2
    · rename_i c t z hh
      simp only [Option.some.injEq] at h2
      subst h2
      rw [hh]
      simp only
      rw [← Array.length_toList, he, List.length_map]; omega
    · cases h2
  · intro j c hj
    rw [World.var?_cell hg hv j, ← Array.getElem?_toList, he, List.getElem?_map, hj]; rfl
end Go.Ab
end
