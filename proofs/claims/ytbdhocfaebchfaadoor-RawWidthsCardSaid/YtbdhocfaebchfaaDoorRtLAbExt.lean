/- Abstract values and rules for them, proved sound over the model. -/
import Derived.Test.YtbdhocfaebchfaaDoorRtLAbFun
import Derived.Laws.Externs
import Derived.Laws.StandIn
set_option linter.all false
set_option linter.unusedSimpArgs false
set_option linter.unusedVariables false
set_option linter.unnecessarySimpa false
section
/- Functions without a body: what they answer. -/
namespace Go.Ab
open V
variable [Glob]

theorem AC.indexByteString {P : Program} {f : FuncId} {fn : Func} {s : ByteArray} {c : Int} {H : Heap} {Q : A → Heap → Prop} (hf : P.funcs[f]? = some fn) (hname : (fn.name == "runtime.NumGoroutine") = false)
    (hb : fn.body.isNone = true) (hn : Extern.findNext fn = none) (he : Extern.find fn = some Extern.BytealgIndexByte.indexByte) (h : Q (.int .i64 (firstIdx s c.toNat.toUInt8)) H) : AC P f [.str s, .int .u8 c] H Q := by
  intro fr g as Hs w hR h1 h2
  obtain ⟨x, y, rfl⟩ : ∃ x y, as = [x, y] := by
    have hl : as.length = 2 := by rw [← List.length_map (f := V.er), h1]; rfl
    match as, hl with
    | [x, y], _ => exact ⟨x, y, rfl⟩
  · simp only [List.map_cons, List.map_nil, List.cons.injEq, and_true] at h1
    obtain ⟨hx, hy⟩ := h1
    have ex : x = .str s := er_str hx
    have ey : y = .int .u8 c := er_int hy
    subst ex; subst ey
    have hcall := run_callFunc_indexByte hf hname hb hn he (List.map (V.conc g.φ) [.str s, .int .u8 c]).toArray w
    have hrun : (Extern.BytealgIndexByte.indexByte (List.map (V.conc g.φ) [(.str s : V D), .int .u8 c]).toArray).run P w = .ok (.int .i64 (firstIdx s c.toNat.toUInt8)) w := run_indexByte_string s c w
    rw [hcall, hrun]
    refine ⟨g, .int .i64 (firstIdx s c.toNat.toUInt8), Hs, rfl, ?_, by rw [h2]; exact h⟩
    refine hR.weaken ?_ ?_ ?_
    · intro v hv; simp only [List.mem_singleton] at hv; subst hv; simp [Mem]
    · intro v hv; simp only [List.mem_singleton] at hv; subst hv; rfl
    · intro b; simp [flL, fl]

theorem firstIdx_neg (s : ByteArray) (c : UInt8) : firstIdx s c < 0 ↔ ∀ x ∈ s.data.toList, x ≠ c := by
  unfold firstIdx
  have hget : ∀ i, i < s.size → s[i]! = s.data[i]! := by
    intro i hi
    rw [getElem!_pos s i hi, getElem!_pos s.data i hi]; rfl
  cases h : (List.range s.size).find? fun i => s[i]! == c with
  | some i =>
    simp only
    constructor
    · intro hi; omega
    · intro hx
      have h1 := List.find?_some h
      have h2 := List.mem_of_find?_eq_some h
      rw [List.mem_range] at h2
      exfalso
      refine hx (s.data.toList[i]'(by simpa using h2)) (List.getElem_mem _) ?_
      simp only [beq_iff_eq] at h1
      rw [← h1, hget i h2, getElem!_pos s.data i h2]; simp
  | none =>
    simp only
    refine ⟨fun _ x hx => ?_, fun _ => by omega⟩
    rw [List.find?_eq_none] at h
    obtain ⟨i, hi, rfl⟩ := List.mem_iff_getElem.1 hx
    have hi' : i < s.size := by simpa using hi
    have := h i (List.mem_range.2 hi')
    intro e
    apply this
    rw [hget i hi', getElem!_pos s.data i hi', beq_iff_eq, ← e]; simp
end Go.Ab
end
