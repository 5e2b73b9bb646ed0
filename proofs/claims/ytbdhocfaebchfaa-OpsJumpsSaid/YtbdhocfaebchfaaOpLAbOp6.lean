/- Abstract values and rules for them, proved sound over the model. -/
import Derived.Test.YtbdhocfaebchfaaOpLAbOp5
set_option linter.all false
set_option linter.unusedSimpArgs false
set_option linter.unusedVariables false
set_option linter.unnecessarySimpa false
section
/- Slices of their own: built, made, appended to. -/
namespace Go.Ab
open V
variable [Glob]
set_option linter.unusedSimpArgs false
set_option linter.unusedVariables false
set_option linter.unusedSectionVars false

namespace Rel
variable {fr : Fr} {g : Ghost} {vs us : List (V D)} {H : List (Ob D)} {w w' : World}

/-- A new array, and the slice over it. -/
theorem newSlice {xs : List (V D)} {own : Option Nat} {es cap : Nat} {rest : Array Value} {ty : TypeId} (h : Rel fr g (xs ++ vs) H w) (hU : Uni es xs = true) (hes : 0 < es)
    (h1 : ∀ c ∈ flat xs, solid c = true) (hcap : xs.length ≤ cap) (hsz : xs.length * es + rest.size = cap * es)
    (hown : match own with | none => flaglessL xs = true | some k => k ≤ xs.length ∧ (xs = [] → cap = 0)) (fz : Nat × Nat := (0, 0)) (hfz : FzOk (((flat xs).map (V.conc g.φ)).toArray ++ rest) fz := by exact .inl (Nat.le_refl _)) :
    ∃ F, Rel fr ⟨g.φ, F⟩ (.sl xs own { a := some (w.heap.size, 0), cap := cap, es := es } :: vs) H (pushW w (.cells (((flat xs).map (V.conc g.φ)).toArray ++ rest) ty fz)) := by
  have k := h.push (.cells (((flat xs).map (V.conc g.φ)).toArray ++ rest) ty fz)
  let B := w.heap.size
  let m := match own with | none => xs.length | some k => k
  let F : Nat → Nat := fun b => if b = B then m * es else g.F b
  have hFB : F B = m * es := by simp [F]
  have hFn : ∀ b, b ≠ B → F b = g.F b := fun b hb => by simp [F, hb]
  have hgB : g.F B = 0 := h.new _ (Nat.le_refl _)
  have hle : ∀ b, g.F b ≤ F b := fun b => by
    by_cases hb : b = B
    · subst hb; rw [hgB]; exact Nat.zero_le _
    · rw [hFn b hb]; exact Nat.le_refl _
  have hnot : ∀ b, b ∈ flL (xs ++ vs) ∨ b ∈ flH H → b ≠ B := fun b hb e => by have := h.blk_lt hb; omega
  have hXB : ¬ fr.X B := fun hX => by have := (h.frX _ hX).2.2; have := h.frS.1; omega
  have hM : ∀ (v : V D), (∀ b ∈ v.fl, b ∈ flL (xs ++ vs) ∨ b ∈ flH H) → Mem g (pushW w (.cells (((flat xs).map (V.conc g.φ)).toArray ++ rest) ty fz)) v → Mem ⟨g.φ, F⟩ (pushW w (.cells (((flat xs).map (V.conc g.φ)).toArray ++ rest) ty fz)) v :=
    fun v hb hm => Mem_F hle v (fun b hbv => hFn b (hnot b (hb b hbv))) hm
  have hmk : m ≤ xs.length := by
    cases own with
    | none => exact Nat.le_refl _
    | some k => exact hown.1
  have hcells : CellsAt g.φ (pushW w (.cells (((flat xs).map (V.conc g.φ)).toArray ++ rest) ty fz)) B 0 (flat xs) := by
    intro j c hj
    refine ⟨h1 c (List.mem_of_getElem? hj), ?_⟩
    rw [Nat.zero_add, heap_cells (push_new _ _)]
    have hjl := (List.getElem?_eq_some_iff.1 hj).1
    rw [Array.getElem?_append_left (by simpa using hjl)]
    simp [hj]
  refine ⟨F, { k with mem := ?_, low := ?_, hmem := ?_, uniq := ?_, own := ?_, frX := ?_, frF := fun b => Nat.le_trans (k.frF b) (hle b), new := ?_ }⟩
  · intro v hv
    rcases List.mem_cons.1 hv with rfl | hv
    · simp only [Mem, MemL_all]
      refine ⟨fun x hx => hM x (fun b hb => .inl (flL_mem.2 ⟨x, by simp [hx], hb⟩)) (k.mem x (by simp [hx])), hU, hes, hcap, ?_⟩
      simp only
      refine ⟨hcells, ?_⟩
      cases own with
      | none => exact ⟨hown, .inr (by simp only [Nat.zero_add]; rw [hFB]; exact Nat.le_refl _)⟩
      | some k =>
        refine ⟨hown.1, trivial, by simp only [Nat.zero_add]; exact hFB, hown.2, _, ty, fz, push_new _ _, hfz, ?_⟩
        simp only [Array.size_append, List.size_toArray, List.length_map, flat_length hU, Nat.zero_add]; omega
    · exact hM v (fun b hb => .inl (flL_mem.2 ⟨v, by simp [hv], hb⟩)) (k.mem v (by simp [hv]))
  · intro v hv
    rcases List.mem_cons.1 hv with rfl | hv
    · simp only [V.low, lowL_all, List.all_eq_true]; exact fun x hx => k.low x (by simp [hx])
    · exact k.low v (by simp [hv])
  · intro i o hio
    obtain ⟨h1, h2, h3, h4⟩ := k.hmem i o hio
    have hi := (List.getElem?_eq_some_iff.1 hio).1
    have := h.φ_lt hi
    refine ⟨fun c hc => ⟨hM c (fun b hb => .inr (flL_mem.2 ⟨c, List.mem_flatMap.2 ⟨o, List.mem_of_getElem? hio, hc⟩, hb⟩)) (h1 c hc).1, (h1 c hc).2⟩, h2, ?_, h4⟩
    show F (g.φ i) = 0
    rw [hFn _ (by omega)]; exact h3
  · intro b
    have := k.uniq b
    simp only [flL_append, flL, fl, List.count_append] at this ⊢
    by_cases hb : b = B
    · have e1 : (flL xs).count b = 0 := List.count_eq_zero.2 fun hx => hnot b (.inl (by rw [flL_append]; simp [hx])) hb
      have e2 : (flL vs).count b = 0 := List.count_eq_zero.2 fun hx => hnot b (.inl (by rw [flL_append]; simp [hx])) hb
      have e3 : (flH H).count b = 0 := List.count_eq_zero.2 fun hx => hnot b (.inr hx) hb
      have e4 : ((if own.isSome = true then ((some (w.heap.size, 0)).map (·.1) : Option Nat).toList else [] : List Nat)).count b ≤ 1 := by
        split <;> simp [List.count_cons]; split <;> omega
      omega
    · have e4 : ((if own.isSome = true then ((some (w.heap.size, 0)).map (·.1) : Option Nat).toList else [] : List Nat)).count b = 0 := by
        refine List.count_eq_zero.2 fun hx => hb ?_
        split at hx <;> simp at hx; exact hx
      omega
  · intro b hb
    by_cases hbB : b = B
    · subst hbB
      exact ⟨hXB, fun i hi => by have := h.φ_lt hi; show g.φ i ≠ w.heap.size; omega⟩
    · refine k.own b (hb.imp (fun hb => ?_) id)
      simp only [flL, fl, List.mem_append, flL_append] at hb ⊢
      rcases hb with (hb | hb) | hb
      · exfalso; apply hbB; split at hb <;> simp at hb; exact hb
      · exact .inl hb
      · exact .inr hb
  · intro b hb
    obtain ⟨h1, h2, h3⟩ := k.frX b hb
    refine ⟨h1, ?_, h3⟩
    show F b = _
    rw [hFn b (fun e => hXB (e ▸ hb))]; exact h2
  · intro b hb
    have : B < b := by rw [push_size] at hb; show w.heap.size < b; omega
    show F b = 0
    rw [hFn b (by omega)]; exact h.new b (by have : w.heap.size < b := this; omega)

/-- An array of one's own is written behind its elements. -/
theorem growSlice {xs ys : List (V D)} {k : Nat} {d : D} {b o : Nat} (h : Rel fr g (.sl xs (some k) d :: (ys ++ vs)) H w) (ha : d.a = some (b, o)) (hU : Uni d.es ys = true)
    (h1 : ∀ c ∈ flat ys, solid c = true) (hcap : xs.length + ys.length ≤ d.cap) :
    ∃ c ty fz, w.heap[b]? = some (.cells c ty fz) ∧ FzOk c fz ∧ o + xs.length * d.es + (flat ys).length ≤ c.size ∧
      Rel fr g (.sl (xs ++ ys) (some k) d :: vs) H (setW w b (.cells (setRange c (o + xs.length * d.es) ((flat ys).map (V.conc g.φ))) ty fz)) := by
  have hm := h.mem (.sl xs (some k) d) (by simp)
  simp only [Mem, MemL_all] at hm
  obtain ⟨hm1, hUx, hes, hc, hs⟩ := hm
  rw [ha] at hs
  simp only at hs
  obtain ⟨hca, hk, ho0, hFb, hemp, c, ty, fz, hheap, hfz, hsize⟩ := hs
  have hfy : (flat ys).length = ys.length * d.es := flat_length hU
  have hfx : (flat xs).length = xs.length * d.es := flat_length hUx
  have hmul : (xs.length + ys.length) * d.es ≤ d.cap * d.es := Nat.mul_le_mul_right _ hcap
  rw [Nat.add_mul] at hmul
  have hfit : o + xs.length * d.es + (flat ys).length ≤ c.size := by omega
  refine ⟨c, ty, fz, hheap, hfz, hfit, ?_⟩
  have hblt := (Array.getElem?_eq_some_iff.1 hheap).1
  let w' := setW w b (.cells (setRange c (o + xs.length * d.es) ((flat ys).map (V.conc g.φ))) ty fz)
  have hw' : w'.heap[b]? = some (.cells (setRange c (o + xs.length * d.es) ((flat ys).map (V.conc g.φ))) ty fz) := setW_same hblt
  have hw : ∀ x, x ≠ b → w'.heap[x]? = w.heap[x]? := fun x hx => setW_other hx
  have hbm : b ∈ flL (.sl xs (some k) d :: (ys ++ vs)) := by simp [flL, fl, ha]
  have hbo := h.own b (.inl hbm)
  have hkes : k * d.es ≤ xs.length * d.es := Nat.mul_le_mul_right _ hk
  have hcell : ∀ x i, i < g.F x → w'.cell? ⟨x, i, none⟩ = w.cell? ⟨x, i, none⟩ := by
    intro x i hi
    by_cases hx : x = b
    · subst hx
      rw [heap_cells hw', heap_cells hheap, setRange_get _ _ _ (by simpa using hfit), if_neg (by rw [hFb] at hi; omega)]
    · exact cell_of_heap (hw x hx) i
  have hcnt := h.uniq b
  simp only [flL, fl, ha, Option.isSome_some, if_true, Option.map_some, Option.toList_some, List.count_append, List.count_cons, List.count_nil, beq_self_eq_true, flL_append] at hcnt
  have hMo : ∀ (v : V D) n, (∀ x ∈ v.fl, x ≠ b) → v.low n = true → Mem g w v → Mem g w' v := fun v n hx hl hm =>
    Mem_step (g := g) (g' := g) (fun _ => Nat.le_refl _) hcell (n := n) (fun _ _ => rfl) v (fun x hxv => ⟨hw x (hx x hxv), rfl⟩) hl hm
  have hnx : ∀ v ∈ xs ++ ys ++ vs, ∀ x ∈ v.fl, x ≠ b := by
    intro v hv x hx e
    subst e
    have : 0 < (flL xs).count x + (flL ys).count x + (flL vs).count x := by
      simp only [List.mem_append] at hv
      rcases hv with (hv | hv) | hv
      · have := List.count_pos_iff.2 (flL_mem.2 ⟨v, hv, hx⟩); omega
      · have := List.count_pos_iff.2 (flL_mem.2 ⟨v, hv, hx⟩); omega
      · have := List.count_pos_iff.2 (flL_mem.2 ⟨v, hv, hx⟩); omega
    omega
  have hlow : ∀ v ∈ xs ++ ys ++ vs, v.low H.length = true := by
    intro v hv
    simp only [List.mem_append] at hv
    have hl0 := h.low (.sl xs (some k) d) (by simp)
    simp only [V.low, lowL_all, List.all_eq_true] at hl0
    rcases hv with (hv | hv) | hv
    · exact hl0 v hv
    · exact h.low v (by simp [hv])
    · exact h.low v (by simp [hv])
  have hmem : ∀ v ∈ xs ++ ys ++ vs, Mem g w' v := by
    intro v hv
    refine hMo v _ (hnx v hv) (hlow v hv) ?_
    simp only [List.mem_append] at hv
    rcases hv with (hv | hv) | hv
    · exact hm1 v hv
    · exact h.mem v (by simp [hv])
    · exact h.mem v (by simp [hv])
  refine { h with mem := ?_, low := ?_, hmem := ?_, uniq := ?_, own := ?_, frX := ?_, frC := ?_, frS := ?_, new := ?_ }
  · intro v hv
    rcases List.mem_cons.1 hv with rfl | hv
    · simp only [Mem, MemL_all]
      refine ⟨fun x hx => hmem x (by simp only [List.mem_append] at hx ⊢; exact .inl hx), by rw [Uni_append, hUx, hU]; rfl, hes, by simpa using hcap, ?_⟩
      rw [ha]
      simp only
      refine ⟨?_, by simp; omega, ho0, hFb, ?_, _, ty, fz, hw', by unfold FzOk at hfz ⊢; rw [setRange_size]; exact hfz, by rw [setRange_size]; exact hsize⟩
      · intro j c' hj
        rw [flat_append] at hj
        rw [heap_cells hw', setRange_get _ _ _ (by simpa using hfit)]
        simp only [List.length_map]
        by_cases hjx : j < (flat xs).length
        · rw [List.getElem?_append_left hjx] at hj
          obtain ⟨a1, a2⟩ := hca j c' hj
          rw [heap_cells hheap] at a2
          rw [if_neg (by omega)]
          exact ⟨a1, a2⟩
        · rw [List.getElem?_append_right (by omega)] at hj
          have hjl := (List.getElem?_eq_some_iff.1 hj).1
          rw [if_pos (by omega), show o + j - (o + xs.length * d.es) = j - (flat xs).length by omega, List.getElem?_map, hj]
          exact ⟨h1 c' (List.mem_of_getElem? hj), rfl⟩
      · intro he
        have hx0 : xs = [] := (List.append_eq_nil_iff.1 he).1
        exact hemp hx0
    · exact hmem v (by simp [hv])
  · intro v hv
    rcases List.mem_cons.1 hv with rfl | hv
    · simp only [V.low, lowL_all, List.all_eq_true]; exact fun x hx => hlow x (by simp only [List.mem_append] at hx ⊢; exact .inl hx)
    · exact h.low v (by simp [hv])
  · intro i ob hio
    obtain ⟨h1, h2, h3, h4⟩ := h.hmem i ob hio
    have hi := (List.getElem?_eq_some_iff.1 hio).1
    have hne : g.φ i ≠ b := hbo.2 i hi
    refine ⟨fun c hc => ⟨hMo c i (fun x hx e => ?_) (h1 c hc).2 (h1 c hc).1, (h1 c hc).2⟩, ?_, h3, h4⟩
    · subst e
      have := List.count_pos_iff.2 (show x ∈ flH H from flL_mem.2 ⟨c, List.mem_flatMap.2 ⟨ob, List.mem_of_getElem? hio, hc⟩, hx⟩)
      omega
    · cases ob with
      | cells cs => obtain ⟨a1, ty', rr, ff, a2⟩ := h2; exact ⟨a1, ty', rr, ff, by rw [hw _ hne]; exact a2⟩
      | map es => obtain ⟨en, ck, a2, a3⟩ := h2; exact ⟨en, ck, by rw [hw _ hne]; exact a2, a3⟩
      | loop l r cs => obtain ⟨a1, a2, a3⟩ := h2; exact ⟨a1, by rw [hw _ hne]; exact a2, a3⟩
  · intro x
    have := h.uniq x
    simp only [flL, fl, flL_append, List.count_append] at this ⊢; omega
  · intro x hx
    refine h.own x (hx.imp (fun hx => ?_) id)
    simp only [flL, fl, flL_append, List.mem_append] at hx ⊢
    rcases hx with (hx | hx | hx) | hx
    · exact .inl (.inl hx)
    · exact .inl (.inr hx)
    · exact .inr (.inl hx)
    · exact .inr (.inr hx)
  · intro x hx
    obtain ⟨h1, h2, h3⟩ := h.frX x hx
    exact ⟨by rw [hw x fun e => hbo.1 (e ▸ hx)]; exact h1, h2, h3⟩
  · intro x i hi
    rw [hcell x i (Nat.lt_of_lt_of_le hi (h.frF x))]; exact h.frC x i hi
  · obtain ⟨h1, h2, h3, h4⟩ := h.frS
    exact ⟨by show _ ≤ (setW w _ _).heap.size; rw [setW_size]; exact h1, h2, h3, h4⟩
  · intro x hx
    exact h.new x (by have : (setW w b _).heap.size ≤ x := hx; rw [setW_size] at this; exact this)
end Rel
end Go.Ab
end
