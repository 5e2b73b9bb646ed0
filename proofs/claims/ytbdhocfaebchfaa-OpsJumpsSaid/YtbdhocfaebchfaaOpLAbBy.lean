/- Abstract values and rules for them, proved sound over the model. -/
import Derived.Test.YtbdhocfaebchfaaOpLAbOp8
import Derived.Laws.IdiomStrings
set_option linter.all false
set_option linter.unusedSimpArgs false
set_option linter.unusedVariables false
set_option linter.unnecessarySimpa false
section
/- '[]byte(s)': proved sound. -/
namespace Go.Ab
open V
variable [Glob]
set_option linter.unusedSimpArgs false
set_option linter.unusedVariables false
set_option linter.unusedSectionVars false

section
variable {E : Env} {g : Ghost} {w : World} {fr : Fr} {vs pre : List (V D)} {Hs : List (Ob D)} {st : St} {a : Act} (hE : E.Ok)
include hE

theorem toBytes_sound (hR : Rel fr g vs Hs w) (hA : At fr E.n g.φ st vs Hs a) {s d : TypeId} {x : Operand} {r : A}
    (h : toBytesA E.T s d (ev st x) = some r) : OpOk E fr [] a w r st (convert s d (a.eval x)) := by
  unfold toBytesA at h
  split at h
  · rename_i e b hd hx
    split at h
    · rename_i hs he
      simp only [Option.some.injEq] at h
      subst h
      rw [hA.ev_eq] at hx
      have hsx := er_str hx
      obtain ⟨b1, b2, b3⟩ := byte_facts b
      let xs : List (V D) := b.data.toList.map fun x => (.int .u8 x.toNat : V D)
      have hlb : xs.length = b.size := by simp [xs]
      have hR1 := hR.drew (w.drawn + 1)
      let w1 : World := { w with drawn := w.drawn + 1 }
      let cap := grownCap w b.size 0 e
      have hcap : b.size ≤ cap := by simp only [cap, grownCap, Question.cut]; omega
      have hR2 : Rel fr g (xs ++ vs) Hs w1 := by
        refine hR1.weaken ?_ ?_ ?_
        · intro v hv
          rcases List.mem_append.1 hv with hv | hv
          · exact (b1 v hv).2.2.1 _ _
          · exact hR1.mem v hv
        · intro v hv
          rcases List.mem_append.1 hv with hv | hv
          · exact (b1 v hv).2.2.2 _
          · exact hR1.low v hv
        · intro c
          have : flL xs = [] := by
            rw [flL_flatMap, List.flatMap_eq_nil_iff]; exact fun v hv => (b1 v hv).1
          rw [flL_append, this, List.nil_append]; exact Nat.le_refl _
      let row := bytesRow b cap
      have hrow : row = ((flat xs).map (V.conc g.φ)).toArray ++ Array.replicate (cap - b.size) (.int .u8 0) := by
        show bytesRow b cap = _
        simp only [bytesRow, xs, b2]
        congr 1
        apply Array.ext'
        simp [V.conc, Function.comp_def]
      have hflat : ∀ c ∈ flat xs, solid c = true := by
        rw [show flat xs = xs from b2]
        intro c hc; obtain ⟨x, _, rfl⟩ := List.mem_map.1 hc; rfl
      obtain ⟨F, hF⟩ := hR2.newSlice (own := if b.size = 0 then none else some 0) (es := 1) (cap := cap) (rest := Array.replicate (cap - b.size) (.int .u8 0)) (ty := e) b3 (by omega) hflat (by omega) (by simp [hlb]; omega)
        (by
          by_cases h0 : b.size = 0
          · rw [if_pos h0]
            simp only
            have : xs = [] := List.eq_nil_of_length_eq_zero (by omega)
            rw [this]; rfl
          · rw [if_neg h0]
            simp only
            exact ⟨Nat.zero_le _, fun hx => by rw [hx] at hlb; simp at hlb; omega⟩)
        (row.size, row.size + 1) (.inr (by rw [← hrow]; exact Nat.le_refl _))
      refine ⟨⟨g.φ, F⟩, _, vs, Hs, _, hF, hA, by simp [V.er, erL_map, byteA, xs, Function.comp_def], ?_⟩
      rw [hA.conc_eq, hsx]
      simp only [V.conc]
      rw [run_bytes_of_string (P := E.P) w s d e b (und_str hE hs) (und_sl hE hd) (und_int hE he)]
      rw [← hrow]
      simp only [slA, hlb]
      rfl
    · cases h
  · cases h
end
end Go.Ab
end
