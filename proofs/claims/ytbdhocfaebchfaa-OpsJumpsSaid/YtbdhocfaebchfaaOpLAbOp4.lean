/- Abstract values and rules for them, proved sound over the model. -/
import Derived.Test.YtbdhocfaebchfaaOpLAbOp3
set_option linter.all false
set_option linter.unusedSimpArgs false
set_option linter.unusedVariables false
set_option linter.unnecessarySimpa false
section
/- Stores; values that are built. -/
namespace Go.Ab
open V
variable [Glob]
set_option linter.unusedSimpArgs false
set_option linter.unusedVariables false
set_option linter.unusedSectionVars false

/-- A value of one cell. -/
def oneC : Value → Bool
  | .agg _ | .tuple _ => false
  | _ => true

/-- The heap with other cells in one block. -/
def setW (w : World) (b : Nat) (o : Obj) : World := { w with heap := w.heap.setIfInBounds b o }
theorem setW_same {w : World} {b : Nat} {o : Obj} (h : b < w.heap.size) : (setW w b o).heap[b]? = some o := by
  show (w.heap.setIfInBounds b o)[b]? = _
  rw [Array.getElem?_setIfInBounds, if_pos rfl, if_pos h]
theorem setW_other {w : World} {b c : Nat} {o : Obj} (h : c ≠ b) : (setW w b o).heap[c]? = w.heap[c]? := by
  show (w.heap.setIfInBounds b o)[c]? = _
  rw [Array.getElem?_setIfInBounds, if_neg (fun e => h e.symm)]
theorem setW_size {w : World} {b : Nat} {o : Obj} : (setW w b o).heap.size = w.heap.size := by
  show (w.heap.setIfInBounds b o).size = _
  simp

theorem setCell_eq {w : World} {b o : Nat} {v : Value} {c : Array Value} {ty : TypeId} {fz : Nat × Nat} (h : w.heap[b]? = some (.cells c ty fz)) :
    w.setCell ⟨b, o, none⟩ v = setW w b (.cells (c.setIfInBounds o v) ty fz) := by
  have hlt := (Array.getElem?_eq_some_iff.1 h).1
  simp only [World.setCell, setW]
  congr 1
  apply Array.ext_getElem?
  intro i
  rw [Array.getElem?_modify, Array.getElem?_setIfInBounds]
  split
  · rename_i hi; subst hi; rw [h]; simp [hlt]
  · rfl

theorem setW_setW {w : World} {b : Nat} {o o' : Obj} : setW (setW w b o) b o' = setW w b o' := by
  simp only [setW]
  congr 1
  apply Array.ext_getElem?
  intro i
  simp only [Array.getElem?_setIfInBounds, Array.size_setIfInBounds]
  split <;> rfl

def setRange (c : Array Value) (o : Nat) : List Value → Array Value
  | [] => c
  | v :: vs => setRange (c.setIfInBounds o v) (o + 1) vs
theorem setRange_size (vs : List Value) : ∀ (c : Array Value) (o : Nat), (setRange c o vs).size = c.size := by
  induction vs with
  | nil => intro c o; rfl
  | cons v vs ih => intro c o; simp [setRange, ih]
theorem setRange_get (vs : List Value) : ∀ (c : Array Value) (o : Nat), o + vs.length ≤ c.size → ∀ i, (setRange c o vs)[i]? = if o ≤ i ∧ i < o + vs.length then vs[i - o]? else c[i]? := by
  induction vs with
  | nil => intro c o h i; simp only [setRange, List.length_nil]; rw [if_neg (by omega)]
  | cons v vs ih =>
    intro c o h i
    simp only [List.length_cons] at h
    simp only [setRange, List.length_cons]
    rw [ih _ _ (by simp; omega), Array.getElem?_setIfInBounds]
    by_cases h1 : o + 1 ≤ i ∧ i < o + 1 + vs.length
    · rw [if_pos h1, if_pos (by omega)]
      rw [show i - o = (i - (o + 1)) + 1 by omega]; rfl
    · rw [if_neg h1]
      by_cases h2 : o = i
      · subst h2; rw [if_pos rfl, if_pos (by omega), if_pos (by omega)]; simp
      · rw [if_neg h2, if_neg (by omega)]
theorem setRange_putRange {α : Type} (f : α → Value) (cs vs : List α) (o : Nat) (h : o + vs.length ≤ cs.length) : setRange (cs.map f).toArray o (vs.map f) = ((putRange cs o vs).map f).toArray := by
  apply Array.ext_getElem?
  intro i
  rw [setRange_get _ _ _ (by simpa using h)]
  simp only [List.length_map, List.getElem?_toArray, List.getElem?_map, putRange]
  by_cases h1 : o ≤ i ∧ i < o + vs.length
  · rw [if_pos h1, List.append_assoc, List.getElem?_append_right (by simp; omega), List.getElem?_append_left (by simp; omega)]
    simp [Nat.min_eq_left (show o ≤ cs.length by omega)]
  · rw [if_neg h1]
    by_cases h2 : i < o
    · rw [List.append_assoc, List.getElem?_append_left (by simp; omega), List.getElem?_take, if_pos h2]
    · rw [List.getElem?_append_right (by simp; omega), List.getElem?_drop]
      congr 2
      simp; omega

theorem setRange_app (c r : Array Value) (o : Nat) (vs : List Value) (h : o + vs.length ≤ c.size) : setRange (c ++ r) o vs = setRange c o vs ++ r := by
  apply Array.ext_getElem?
  intro i
  rw [setRange_get _ _ _ (by simp; omega), Array.getElem?_append (xs := c), Array.getElem?_append (xs := setRange c o vs), setRange_size, setRange_get _ _ _ h]
  by_cases h1 : o ≤ i ∧ i < o + vs.length
  · rw [if_pos h1, if_pos (by omega), if_pos h1]
  · rw [if_neg h1, if_neg h1]

theorem storeCells_run {P : Program} (vs : List Value) : ∀ (w : World) (b o i : Nat) (c : Array Value) (ty : TypeId) (fz : Nat × Nat), w.heap[b]? = some (.cells c ty fz) → FzOk c fz → o + i + vs.length ≤ c.size →
    (∀ v ∈ vs, oneC v = true) → (storeCells ⟨b, o, none⟩ vs i).run P w = .ok () (setW w b (.cells (setRange c (o + i) vs) ty fz)) := by
  induction vs with
  | nil =>
    intro w b o i c ty fz h _ _ _
    have : setW w b (.cells c ty fz) = w := by
      have hlt := (Array.getElem?_eq_some_iff.1 h).1
      simp only [setW]
      have : w.heap.setIfInBounds b (.cells c ty fz) = w.heap := by
        apply Array.ext_getElem?
        intro j
        rw [Array.getElem?_setIfInBounds]
        split
        · rename_i hj; subst hj; first | rw [if_pos hlt, h] | rw [h]
        · rfl
      rw [this]
    simp only [storeCells, setRange, this]; rfl
  | cons v vs ih =>
    intro w b o i c ty fz h hz hl h1
    simp only [List.length_cons] at hl
    have hlt := (Array.getElem?_eq_some_iff.1 h).1
    have hc : w.cell? ⟨b, o + i, none⟩ = some c[o + i] := by
      rw [heap_cells h]; exact Array.getElem?_eq_getElem (by omega)
    have hf : w.frozen? ⟨b, o + i, none⟩ = false := by
      unfold FzOk at hz
      simp [World.frozen?, h]; intro _; omega
    simp only [storeCells, add_none]
    have hst : (store ⟨b, o + i, none⟩ v).run P w = .ok () (setW w b (.cells (c.setIfInBounds (o + i) v) ty fz)) := by
      rw [← setCell_eq h]
      have hv := h1 v (by simp)
      cases v <;> first | (simp [oneC] at hv; done) | (simp only [store, Sem.run, hc, hf, Bool.false_eq_true, if_false])
    rw [run_bind hst]
    rw [ih _ b o (i + 1) (c.setIfInBounds (o + i) v) ty fz (setW_same hlt) (by unfold FzOk at hz ⊢; simpa using hz) (by simp; omega) (fun x hx => h1 x (by simp [hx]))]
    rw [setW_setW]
    simp only [setRange, Nat.add_assoc]

theorem solid_oneCell {f : Nat → Nat} {v : V D} (h : solid v = true) : oneC (V.conc f v) = true := by
  cases v <;> simp_all [solid, V.conc, oneC]

theorem zero_run {E : Env} (hE : E.Ok) {t : TypeId} {u : Ty} (hT : E.T t = some u) (w : World) : ∃ z, Still (lift u.zero) z ∧ (zeroValue t).run E.P w = .ok z w := by
  obtain ⟨i, hi, hsz, hby, hz⟩ := (hE t u hT).info
  obtain ⟨z, hz1, hz2⟩ := Option.bind_eq_some_iff.1 hz
  exact ⟨z, ofConst_lift hz2, by simp [zeroValue, typeInfo, program, hi, hz1, Sem.run, Bind.bind, Sem.bind, Pure.pure]⟩

section
variable {E : Env} {g : Ghost} {w : World} {fr : Fr} {vs pre : List (V D)} {Hs : List (Ob D)} {st : St} {a : Act} (hE : E.Ok)
include hE

theorem box_sound (hR : Rel fr g vs Hs w) (hA : At fr E.n g.φ st vs Hs a) {t : TypeId} {x : Operand} {r : A} {st1 : St}
    (h : boxA E t x st = some (r, st1)) : OpOk E fr [] a w r st1 (Go.Instr.box t (a.eval x)) := by
  unfold boxA at h
  split at h
  · rename_i u a' st' hT huse
    obtain ⟨sv, vs1, k1, k2, k3, k4⟩ := use_sound (pre := []) hR hA x
    rw [huse] at k2 k3
    simp only [List.nil_append] at k1 k2 k3
    subst k3
    split at h
    · rename_i hs
      simp only [Option.some.injEq, Prod.mk.injEq] at h
      obtain ⟨rfl, rfl⟩ := h
      have hsc := solid_cells (g := g) hE hs.2
      obtain ⟨φ, h1, h2, h3⟩ := k1.spread.newObj (ty := t) hsc.1
      have hl1 : ∀ v ∈ vs1, v.low Hs.length = true := fun v hv => k1.low v (by simp [hv])
      refine ⟨⟨φ, g.F⟩, _, vs1, _, _, h3, ⟨k2.len, (k2.rephi h1 hl1).tm, k2.σ, ?_, k2.df⟩, ?_, ?_⟩
      · simp only [List.map_append, k2.H, List.map_cons, List.map_nil, Ob.er, er_cells]
      · rw [← k2.H]; simp [V.er]
      · rw [← k4]
        simp only [Go.Instr.box, newVar, newRow, newObj, hsc.2.1, V.conc, Option.map_some, h2]
        rfl
    · simp at h
  · simp at h

omit hE in
theorem writeObj {fr : Fr} {g : Ghost} {vs1 part ds : List (V D)} {Hs : List (Ob D)} {w : World} {i0 o0 : Nat} (ks : Rel fr g (part ++ vs1) Hs w) (hHs : Hs[i0]? = some (.cells ds)) (hlow0 : ∀ c ∈ part, c.low i0 = true)
    (hsol : ∀ c ∈ part, solid c = true) (hle : o0 + part.length ≤ ds.length) : ∃ ty rest fz, w.heap[g.φ i0]? = some (.cells ((ds.map (V.conc g.φ)).toArray ++ rest) ty fz) ∧ FzOk ((ds.map (V.conc g.φ)).toArray ++ rest) fz ∧
      Rel fr g vs1 (Hs.set i0 (.cells (putRange ds o0 part))) (setW w (g.φ i0) (.cells (((putRange ds o0 part).map (V.conc g.φ)).toArray ++ rest) ty fz)) := by
  obtain ⟨hm, ⟨hone, ty, rest, fz, hheap, hfz⟩, hF0, hX⟩ := ks.hmem _ _ hHs
  simp only [Ob.vals] at hm
  have hilt := (List.getElem?_eq_some_iff.1 hHs).1
  have hblt := ks.φ_lt hilt
  refine ⟨ty, rest, fz, hheap, hfz, ?_⟩
  let w' := setW w (g.φ i0) (.cells (((putRange ds o0 part).map (V.conc g.φ)).toArray ++ rest) ty fz)
  have hw : ∀ b, b ≠ g.φ i0 → w'.heap[b]? = w.heap[b]? := fun b hb => setW_other hb
  have hfl : ∀ b, b ∈ flL (part ++ vs1) ∨ b ∈ flH Hs → w'.heap[b]? = w.heap[b]? := fun b hb => hw b fun e => (ks.own b hb).2 i0 hilt e.symm
  have hcell : ∀ b i, i < g.F b → w'.cell? ⟨b, i, none⟩ = w.cell? ⟨b, i, none⟩ := fun b i hi => cell_of_heap (hw b fun e => by rw [e, hF0] at hi; omega) i
  have hM : ∀ (v : V D) n, (∀ b ∈ v.fl, b ∈ flL (part ++ vs1) ∨ b ∈ flH Hs) → v.low n = true → Mem g w v → Mem g w' v := fun v n hb hl hm =>
    Mem_step (g := g) (g' := g) (fun _ => Nat.le_refl _) hcell (n := n) (fun _ _ => rfl) v (fun b hbv => ⟨hfl b (hb b hbv), rfl⟩) hl hm
  have hcnt : ∀ b, (flL (putRange ds o0 part)).count b ≤ (flL ds).count b + (flL part).count b := by
    intro b
    have e : ds = ds.take o0 ++ ((ds.drop o0).take part.length ++ ds.drop (o0 + part.length)) := range_split ds o0 _ (by omega)
    have e2 : (flL ds).count b = (flL (ds.take o0)).count b + ((flL ((ds.drop o0).take part.length)).count b + (flL (ds.drop (o0 + part.length))).count b) := by
      conv => lhs; rw [e]
      simp only [flL_append, List.count_append]
    simp only [putRange, flL_append, List.count_append]; omega
  refine { ks with mem := ?_, low := ?_, hmem := ?_, inj := by simpa using ks.inj, uniq := ?_, own := ?_, frX := ?_, frC := ?_, frS := ?_, frφ := by simpa using ks.frφ, new := ?_ }
  · intro v hv
    exact hM v _ (fun b hb => .inl (flL_mem.2 ⟨v, by simp [hv], hb⟩)) (ks.low v (by simp [hv])) (ks.mem v (by simp [hv]))
  · intro v hv; rw [List.length_set]; exact ks.low v (by simp [hv])
  · intro i o ho
    by_cases hi : i = i0
    · rw [hi] at ho ⊢
      rw [List.getElem?_set, if_pos rfl, if_pos hilt] at ho
      simp only [Option.some.injEq] at ho; subst ho
      refine ⟨fun c hc => ?_, ⟨fun c hc => ?_, ty, rest, fz, setW_same hblt, ?_⟩, hF0, hX⟩
      · simp only [Ob.vals, putRange, List.mem_append] at hc
        have hold : ∀ c ∈ ds, Mem g w' c ∧ c.low i0 = true := fun c hc => ⟨hM c i0 (fun b hb => .inr (flL_mem.2 ⟨c, List.mem_flatMap.2 ⟨_, List.mem_of_getElem? hHs, hc⟩, hb⟩)) (hm c hc).2 (hm c hc).1, (hm c hc).2⟩
        rcases hc with (hc | hc) | hc
        · exact hold c (List.mem_of_mem_take hc)
        · have hlow : c.low i0 = true := hlow0 c hc
          exact ⟨hM c i0 (fun b hb => .inl (flL_mem.2 ⟨c, by simp [hc], hb⟩)) hlow (ks.mem c (by simp [hc])), hlow⟩
        · exact hold c (List.mem_of_mem_drop hc)
      · simp only [putRange, List.mem_append] at hc
        rcases hc with (hc | hc) | hc
        · exact hone c (List.mem_of_mem_take hc)
        · exact solid_one (hsol c hc)
        · exact hone c (List.mem_of_mem_drop hc)
      · unfold FzOk at hfz ⊢
        have hpl : (putRange ds o0 part).length = ds.length := by simp only [putRange, List.length_append, List.length_take, List.length_drop]; omega
        simpa [hpl] using hfz
    · rw [List.getElem?_set, if_neg (fun h => hi h.symm)] at ho
      obtain ⟨h1, h2, h3, h4⟩ := ks.hmem i o ho
      have hne : g.φ i ≠ g.φ i0 := fun e => hi (ks.inj i i0 (List.getElem?_eq_some_iff.1 ho).1 hilt e)
      refine ⟨fun c hc => ⟨hM c i (fun b hb => .inr (flL_mem.2 ⟨c, List.mem_flatMap.2 ⟨_, List.mem_of_getElem? ho, hc⟩, hb⟩)) (h1 c hc).2 (h1 c hc).1, (h1 c hc).2⟩, ?_, h3, h4⟩
      cases o with
      | cells cs => obtain ⟨a1, ty', rr, ff, a2⟩ := h2; exact ⟨a1, ty', rr, ff, by rw [hw _ hne]; exact a2⟩
      | map es => obtain ⟨en, ck, a2, a3⟩ := h2; exact ⟨en, ck, by rw [hw _ hne]; exact a2, a3⟩
      | loop l r cs => obtain ⟨a1, a2, a3⟩ := h2; exact ⟨a1, by rw [hw _ hne]; exact a2, a3⟩
  · intro b
    have e1 := ks.uniq b
    have e2 := count_setH b (.cells ds) (.cells (putRange ds o0 part)) Hs i0 hHs
    have e3 := hcnt b
    simp only [flL_append, List.count_append, vals_cells] at e1 e2; omega
  · intro b hb
    have : b ∈ flL (part ++ vs1) ∨ b ∈ flH Hs := by
      have e2 := count_setH b (.cells ds) (.cells (putRange ds o0 part)) Hs i0 hHs
      have e3 := hcnt b
      simp only [vals_cells] at e2
      have e4 : 0 < (flL vs1).count b + (flH (Hs.set i0 (.cells (putRange ds o0 part)))).count b := by
        rcases hb with hb | hb <;> have := List.count_pos_iff.2 hb <;> omega
      by_cases e5 : b ∈ flL (part ++ vs1)
      · exact .inl e5
      · have e6 := List.count_eq_zero.2 e5
        simp only [flL_append, List.count_append] at e6
        exact .inr (List.count_pos_iff.1 (by omega))
    have := ks.own b this
    exact ⟨this.1, by rw [List.length_set]; exact this.2⟩
  · intro b hb
    obtain ⟨h1, h2, h3⟩ := ks.frX b hb
    exact ⟨by rw [hw b fun e => hX (e ▸ hb)]; exact h1, h2, h3⟩
  · intro b i hi
    rw [hcell b i (Nat.lt_of_lt_of_le hi (ks.frF b))]; exact ks.frC b i hi
  · obtain ⟨h1, h2, h3, h4⟩ := ks.frS
    exact ⟨by show _ ≤ (setW w _ _).heap.size; rw [setW_size]; exact h1, h2, h3, h4⟩
  · intro b hb
    exact ks.new b (by have : (setW w (g.φ i0) _).heap.size ≤ b := hb; rw [setW_size] at this; exact this)

theorem store_sound (hR : Rel fr g vs Hs w) (hA : At fr E.n g.φ st vs Hs a) {t : TypeId} {x y : Operand} {st1 : St}
    (h : storeA E t x y st = some st1) : ∃ g vs1 Hs1 w', Rel fr g vs1 Hs1 w' ∧ At fr E.n g.φ st1 vs1 Hs1 a ∧ (Go.Instr.storeAt t (a.eval x) (a.eval y)).run E.P w = .ok () w' := by
  unfold storeA at h
  split at h
  · simp at h
  · rename_i u hT
    split at h
    · rename_i p a' st' hx huse
      rw [hA.ev_eq] at hx
      have hcx : a.eval x = .pointer (some ⟨g.φ p.1, p.2, none⟩) := by rw [hA.conc_eq, er_ptr hx]; rfl
      obtain ⟨sv, vs1, k1, k2, k3, k4⟩ := use_sound (pre := []) hR hA y
      rw [huse] at k2 k3
      simp only [List.nil_append] at k1 k2 k3
      subst k3
      split at h
      · rename_i cs hH
        obtain ⟨ds, hHs, rfl⟩ := getH hE k2 hH
        split at h
        · rename_i hcond
          obtain ⟨c1, c2, c3, c4⟩ := hcond
          simp only [Option.some.injEq] at h
          subst h
          simp only [List.length_map] at c2
          have hsc := solid_cells (g := g) hE c4
          have hlen : sv.cells.length = u.size := by rw [← c1, er_cells, List.length_map]
          obtain ⟨hm, ⟨hone, ty, rest, fz, hheap, hfz⟩, hF0, hX⟩ := k1.hmem _ _ hHs
          simp only [Ob.vals] at hm
          have hilt := (List.getElem?_eq_some_iff.1 hHs).1
          have hblt := k1.φ_lt hilt
          let w' := setW w (g.φ p.1) (.cells (((putRange ds p.2 sv.cells).map (V.conc g.φ)).toArray ++ rest) ty fz)
          have hrun : (Go.Instr.storeAt t (a.eval x) (a.eval y)).run E.P w = .ok () w' := by
            rw [hcx, ← k4]
            simp only [Go.Instr.storeAt]
            rw [run_bind (show (Go.Instr.sureAddr (.pointer (some ⟨g.φ p.1, p.2, none⟩))).run E.P w = .ok ⟨g.φ p.1, p.2, none⟩ w from rfl)]
            simp only [storeVar]
            rw [run_bind (run_sizeOf hE hT w), hsc.2.1]
            simp only [List.size_toArray, List.length_map, hlen, ne_eq, not_true_eq_false, if_false]
            have := storeCells_run (P := E.P) (sv.cells.map (V.conc g.φ)) w (g.φ p.1) p.2 0 _ ty fz hheap hfz (by simp; omega) (fun v hv => by
              obtain ⟨c, hc, rfl⟩ := List.mem_map.1 hv
              exact solid_oneCell (hsc.2.2 c hc))
            rw [this]
            simp only [Nat.add_zero]
            rw [setRange_app _ _ _ _ (by simp; omega), setRange_putRange _ _ _ _ (by omega)]
          -- the other values, in the new world
          obtain ⟨ty', rest', fz', hheap', _, hks⟩ := writeObj (o0 := p.2) k1.spread hHs (fun c hc => low_cells (by rw [← er_low]; exact c3) hc) hsc.2.2 (by omega)
          have he := hheap.symm.trans hheap'
          simp only [Option.some.injEq, Obj.cells.injEq] at he
          obtain ⟨he1, rfl, rfl⟩ := he
          have he2 := Array.append_right_inj _ |>.1 he1
          subst he2
          refine ⟨g, vs1, Hs.set p.1 (.cells (putRange ds p.2 sv.cells)), w', hks, ⟨k2.len, k2.tm, k2.σ, ?_, k2.df⟩, hrun⟩
          rw [List.map_set, k2.H]
          simp only [Ob.er, putRange, List.map_append, List.map_take, List.map_drop, er_cells, List.length_map]
        · simp at h
      · simp at h
    · simp at h
end
end Go.Ab
end
